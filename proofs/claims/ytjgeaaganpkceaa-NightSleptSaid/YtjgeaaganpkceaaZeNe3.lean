/- The walks that this claim needs, printed by a program of mine; part 3. -/
import Derived.Test.YtjgeaaganpkceaaZeNe2
namespace Go.Proofs.Ytjgeaaganpkceaa
open Go.SH Go.PL
set_option maxHeartbeats 1000000 in
theorem oyezlaw05_awake_w {F : FS} {r : Bool} (hr : oyezlaw05_awake = some r) :
    SpecV Try.prog 18 #[] F (.bool r) := by
 refine spec_of_shW (args := []) Try.func18 rfl Try.ntmps18 (Nat.le_of_ble_eq_true rfl) ?_
 intro K _ _; rw [oyezlaw05_awake] at hr
 refine wsr (oa rfl rfl (nsr ?_))
 obtain ⟨l, l2, h1, r2⟩ := b2_ok hr; clear hr
 refine o_call0 rfl Try.call69 rfl rfl rfl (oyezlaw05_Four_w h1) ?_; rintro _ F3 _ hF4 hn5 ⟨a7, n11, c8, Lb9, a13, n17, c14, Lb15, rfl, rfl, hz10, hz16⟩
 replace hz10 := hz10.new fun p hp => hn5 p (by simp [hp])
 replace hz16 := hz16.new fun p hp => hn5 p (by simp [hp])
 refine shO_L (lp (lp (ln rfl))) ?_
 obtain ⟨n, n2, h19, r20⟩ := b2_ok r2; clear r2
 refine o_callT (Lt := Lb9 ++ (Lb15 ++ [])) (Lr := []) rfl Try.call20 rfl rfl rfl (pT pR (lp (lp (ln rfl)))) (fun F2 h2 h3 => by rw [(SlR.caps hz10).1]; rw [(SlR.caps hz16).1]; exact night_Cries_w (hz10.row (slE_ok (iE_ok _)) h2 (fun p hp => h3 p (List.mem_append_left _ hp))) (hz16.row (slE_ok (iE_ok _)) h2 (fun p hp => h3 p (List.mem_append_right _ (List.mem_append_left _ hp)))) h19) ?_
 refine om rfl rfl (ox rfl rfl rfl (ox rfl rfl rfl (oa rfl rfl (oa rfl rfl (nsr ?_)))))
 obtain ⟨l3, l4, h21, r22⟩ := b2_ok r20; clear r20
 refine o_call0 rfl Try.call69 rfl rfl rfl (oyezlaw05_Four_w h21) ?_; rintro _ F23 _ hF24 hn25 ⟨a27, n31, c28, Lb29, a33, n37, c34, Lb35, rfl, rfl, hz30, hz36⟩
 replace hz30 := hz30.new fun p hp => hn25 p (by simp [hp])
 replace hz36 := hz36.new fun p hp => hn25 p (by simp [hp])
 refine shO_L (lp (lp (ln rfl))) ?_
 obtain ⟨l5, n3, n4, h39, r40⟩ := b3_ok r22; clear r22
 refine o_callTO (Lb := []) (Lt := Lb29 ++ (Lb35 ++ [])) (Lr := Lb9 ++ (Lb15 ++ [])) rfl Try.call14 rfl rfl rfl (pT pR (ln (lp (lp (ln rfl))))) (fun F2 h2 h3 => by rw [(SlR.caps hz30).1]; rw [(SlR.caps hz36).1]; exact night_Fewest_w (hz30.row (slE_ok (iE_ok _)) h2 (fun p hp => h3 p (List.mem_append_left _ hp))) (hz36.row (slE_ok (iE_ok _)) h2 (fun p hp => h3 p (List.mem_append_right _ (List.mem_append_left _ hp)))) h39) (fun _ _ _ _ hq => by obtain ⟨a45, n49, c46, Lb47, rfl, rfl, hz48⟩ := hq; exact ⟨_, _, _, _, rfl, rfl, hz48.flat (fun _ _ h => h)⟩) ?_; rintro _ F41 _ hF42 hd44 hn43 ⟨a45, n49, c46, Lb47, rfl, rfl, hz48⟩
 have hn51 := newp (Lb' := []) (by rfl) hd44 hn43
 replace hz48 := hz48.new fun p hp => hn51 p (by simp [hp])
 refine shO_L (lp (ln (lp (lp (ln rfl))))) ?_
 refine om rfl rfl (ox rfl rfl rfl (ox rfl rfl rfl (ox rfl rfl rfl (oa rfl rfl (oa rfl rfl (oa rfl rfl (nsr ?_)))))))
 obtain ⟨l6, l7, h52, r53⟩ := b2_ok r40; clear r40
 refine o_call0 rfl Try.call69 rfl rfl rfl (oyezlaw05_Four_w h52) ?_; rintro _ F54 _ hF55 hn56 ⟨a58, n62, c59, Lb60, a64, n68, c65, Lb66, rfl, rfl, hz61, hz67⟩
 replace hz48 := hz48.mono (iE_ok _) hF55
 replace hz61 := hz61.new fun p hp => hn56 p (by simp [hp])
 replace hz67 := hz67.new fun p hp => hn56 p (by simp [hp])
 refine shO_L (lp (lp (ln rfl))) ?_
 obtain ⟨n5, n6, h70, r71⟩ := b2_ok r53; clear r53
 refine o_callT (Lt := Lb60 ++ (Lb66 ++ [])) (Lr := Lb47 ++ (Lb29 ++ (Lb35 ++ (Lb9 ++ (Lb15 ++ []))))) rfl Try.call25 rfl rfl rfl (pT pR (lp (lp (ln rfl)))) (fun F2 h2 h3 => by rw [(SlR.caps hz61).1]; rw [(SlR.caps hz67).1]; exact night_Count_w (hz61.row (slE_ok (iE_ok _)) h2 (fun p hp => h3 p (List.mem_append_left _ hp))) (hz67.row (slE_ok (iE_ok _)) h2 (fun p hp => h3 p (List.mem_append_right _ (List.mem_append_left _ hp)))) h70) ?_
 refine om rfl rfl (ox rfl rfl rfl (ox rfl rfl rfl (oa rfl rfl (oa rfl rfl (nsr ?_)))))
 obtain ⟨l8, l9, h72, r73⟩ := b2_ok r71; clear r71
 refine o_call0 rfl Try.call69 rfl rfl rfl (oyezlaw05_Four_w h72) ?_; rintro _ F74 _ hF75 hn76 ⟨a78, n82, c79, Lb80, a84, n88, c85, Lb86, rfl, rfl, hz81, hz87⟩
 replace hz48 := hz48.mono (iE_ok _) hF75
 replace hz81 := hz81.new fun p hp => hn76 p (by simp [hp])
 replace hz87 := hz87.new fun p hp => hn76 p (by simp [hp])
 refine shO_L (lp (lp (ln rfl))) ?_
 obtain ⟨n7, n8, h90, r91⟩ := b2_ok r73; clear r73
 refine o_callT (Lt := Lb80 ++ (Lb86 ++ [])) (Lr := Lb60 ++ (Lb66 ++ (Lb47 ++ (Lb29 ++ (Lb35 ++ (Lb9 ++ (Lb15 ++ []))))))) rfl Try.call26 rfl rfl rfl (pT pR (lp (lp (ln rfl)))) (fun F2 h2 h3 => by rw [(SlR.caps hz81).1]; rw [(SlR.caps hz87).1]; exact night_Ways_w (hz81.row (slE_ok (iE_ok _)) h2 (fun p hp => h3 p (List.mem_append_left _ hp))) (hz87.row (slE_ok (iE_ok _)) h2 (fun p hp => h3 p (List.mem_append_right _ (List.mem_append_left _ hp)))) h90) ?_
 refine om rfl rfl (ox rfl rfl rfl (ox rfl rfl rfl (oa rfl rfl (oa rfl rfl (shO_nil (shW_seq ?_))))))
 obtain ⟨k, h92, r93⟩ := b1_ok r91; clear r91
 refine shW_join (fun e1 F1 L1 => FExt F74 F1 ∧ L1 = [] ∧ e1.sub [(71, .bool k)]) ?_ ?_
 · clear r93
   refine shW_region (om rfl rfl ?_)
   refine ov (v_neq rfl rfl) rfl ?_
   refine om rfl rfl ?_
   by_cases c94 : n2 ≠ 0
   · have r95 := ite_t h92 c94; clear h92
     refine shO_off (b' := true) 38 rfl (Env.isT rfl c94) rfl rfl (shO_off (b' := true) 38 rfl (Env.isT rfl c94) rfl rfl ?_)
     refine ov (v_pick_t (evD_true rfl c94) rfl) rfl ?_
     refine om rfl rfl (shO_off (b' := true) 42 rfl rfl rfl rfl (shO_off (b' := true) 42 rfl rfl rfl rfl ?_))
     refine ov (v_pick_t rfl rfl) rfl ?_
     refine om rfl rfl (shO_off (b' := true) 46 rfl rfl rfl rfl (shO_off (b' := true) 46 rfl rfl rfl rfl ?_))
     refine ov (v_pick_t rfl rfl) rfl ?_
     refine om rfl rfl (shO_off (b' := true) 50 rfl rfl rfl rfl (shO_off (b' := true) 50 rfl rfl rfl rfl ?_))
     refine ov (v_pick_t rfl rfl) rfl ?_
     refine om rfl rfl (shO_off (b' := true) 54 rfl rfl rfl rfl (shO_off (b' := true) 54 rfl rfl rfl rfl ?_))
     refine ov (v_pick_t rfl rfl) rfl ?_
     refine om rfl rfl (shO_off (b' := true) 58 rfl rfl rfl rfl (shO_off (b' := true) 58 rfl rfl rfl rfl (shO_off (b' := true) 58 rfl rfl rfl rfl (shO_off (b' := true) 58 rfl rfl rfl rfl ?_))))
     refine ov (v_pick_t rfl rfl) rfl ?_
     refine om rfl rfl (shO_off (b' := true) 64 rfl rfl rfl rfl (shO_off (b' := true) 64 rfl rfl rfl rfl ?_))
     refine ov (v_pick_t rfl rfl) rfl ?_
     refine om rfl rfl (shO_off (b' := true) 68 rfl rfl rfl rfl (shO_off (b' := true) 68 rfl rfl rfl rfl ?_))
     refine ov (v_pick_t rfl rfl) rfl ?_
     refine shO_nil ?_
     obtain rfl := inj1 r95
     exact mi kn ⟨FExt.refl _, rfl, (sc rfl (sn _))⟩
   have r96 := ite_f h92 c94; clear h92
   refine shO_on (b := false) 38 rfl (Env.isF rfl c94) (om rfl rfl (shO_on (b := false) 38 rfl (Env.isF rfl c94) ?_))
   refine ov (v_neq rfl rfl) rfl ?_
   refine ov (v_pick_f (evD_false rfl c94) rfl) rfl ?_
   refine om rfl rfl ?_
   by_cases c97 : n4 ≠ 0
   · have r98 := ite_t r96 c97; clear r96
     refine shO_off (b' := true) 42 rfl (Env.isT rfl c97) rfl rfl (shO_off (b' := true) 42 rfl (Env.isT rfl c97) rfl rfl ?_)
     refine ov (v_pick_t (evD_true rfl c97) rfl) rfl ?_
     refine om rfl rfl (shO_off (b' := true) 46 rfl rfl rfl rfl (shO_off (b' := true) 46 rfl rfl rfl rfl ?_))
     refine ov (v_pick_t rfl rfl) rfl ?_
     refine om rfl rfl (shO_off (b' := true) 50 rfl rfl rfl rfl (shO_off (b' := true) 50 rfl rfl rfl rfl ?_))
     refine ov (v_pick_t rfl rfl) rfl ?_
     refine om rfl rfl (shO_off (b' := true) 54 rfl rfl rfl rfl (shO_off (b' := true) 54 rfl rfl rfl rfl ?_))
     refine ov (v_pick_t rfl rfl) rfl ?_
     refine om rfl rfl (shO_off (b' := true) 58 rfl rfl rfl rfl (shO_off (b' := true) 58 rfl rfl rfl rfl (shO_off (b' := true) 58 rfl rfl rfl rfl (shO_off (b' := true) 58 rfl rfl rfl rfl ?_))))
     refine ov (v_pick_t rfl rfl) rfl ?_
     refine om rfl rfl (shO_off (b' := true) 64 rfl rfl rfl rfl (shO_off (b' := true) 64 rfl rfl rfl rfl ?_))
     refine ov (v_pick_t rfl rfl) rfl ?_
     refine om rfl rfl (shO_off (b' := true) 68 rfl rfl rfl rfl (shO_off (b' := true) 68 rfl rfl rfl rfl ?_))
     refine ov (v_pick_t rfl rfl) rfl ?_
     refine shO_nil ?_
     obtain rfl := inj1 r98
     exact mi kn ⟨FExt.refl _, rfl, (sc rfl (sn _))⟩
   have r99 := ite_f r96 c97; clear r96
   refine shO_on (b := false) 42 rfl (Env.isF rfl c97) (om rfl rfl (shO_on (b := false) 42 rfl (Env.isF rfl c97) ?_))
   refine ov (v_neq rfl rfl) rfl ?_
   refine ov (v_pick_f (evD_false rfl c97) rfl) rfl ?_
   refine om rfl rfl ?_
   by_cases c100 : n6 ≠ 0
   · have r101 := ite_t r99 c100; clear r99
     refine shO_off (b' := true) 46 rfl (Env.isT rfl c100) rfl rfl (shO_off (b' := true) 46 rfl (Env.isT rfl c100) rfl rfl ?_)
     refine ov (v_pick_t (evD_true rfl c100) rfl) rfl ?_
     refine om rfl rfl (shO_off (b' := true) 50 rfl rfl rfl rfl (shO_off (b' := true) 50 rfl rfl rfl rfl ?_))
     refine ov (v_pick_t rfl rfl) rfl ?_
     refine om rfl rfl (shO_off (b' := true) 54 rfl rfl rfl rfl (shO_off (b' := true) 54 rfl rfl rfl rfl ?_))
     refine ov (v_pick_t rfl rfl) rfl ?_
     refine om rfl rfl (shO_off (b' := true) 58 rfl rfl rfl rfl (shO_off (b' := true) 58 rfl rfl rfl rfl (shO_off (b' := true) 58 rfl rfl rfl rfl (shO_off (b' := true) 58 rfl rfl rfl rfl ?_))))
     refine ov (v_pick_t rfl rfl) rfl ?_
     refine om rfl rfl (shO_off (b' := true) 64 rfl rfl rfl rfl (shO_off (b' := true) 64 rfl rfl rfl rfl ?_))
     refine ov (v_pick_t rfl rfl) rfl ?_
     refine om rfl rfl (shO_off (b' := true) 68 rfl rfl rfl rfl (shO_off (b' := true) 68 rfl rfl rfl rfl ?_))
     refine ov (v_pick_t rfl rfl) rfl ?_
     refine shO_nil ?_
     obtain rfl := inj1 r101
     exact mi kn ⟨FExt.refl _, rfl, (sc rfl (sn _))⟩
   have r102 := ite_f r99 c100; clear r99
   refine shO_on (b := false) 46 rfl (Env.isF rfl c100) (om rfl rfl (shO_on (b := false) 46 rfl (Env.isF rfl c100) ?_))
   refine ov (v_neq rfl rfl) rfl ?_
   refine ov (v_pick_f (evD_false rfl c100) rfl) rfl ?_
   refine om rfl rfl ?_
   by_cases c103 : n8 ≠ 0
   · have r104 := ite_t r102 c103; clear r102
     refine shO_off (b' := true) 50 rfl (Env.isT rfl c103) rfl rfl (shO_off (b' := true) 50 rfl (Env.isT rfl c103) rfl rfl ?_)
     refine ov (v_pick_t (evD_true rfl c103) rfl) rfl ?_
     refine om rfl rfl (shO_off (b' := true) 54 rfl rfl rfl rfl (shO_off (b' := true) 54 rfl rfl rfl rfl ?_))
     refine ov (v_pick_t rfl rfl) rfl ?_
     refine om rfl rfl (shO_off (b' := true) 58 rfl rfl rfl rfl (shO_off (b' := true) 58 rfl rfl rfl rfl (shO_off (b' := true) 58 rfl rfl rfl rfl (shO_off (b' := true) 58 rfl rfl rfl rfl ?_))))
     refine ov (v_pick_t rfl rfl) rfl ?_
     refine om rfl rfl (shO_off (b' := true) 64 rfl rfl rfl rfl (shO_off (b' := true) 64 rfl rfl rfl rfl ?_))
     refine ov (v_pick_t rfl rfl) rfl ?_
     refine om rfl rfl (shO_off (b' := true) 68 rfl rfl rfl rfl (shO_off (b' := true) 68 rfl rfl rfl rfl ?_))
     refine ov (v_pick_t rfl rfl) rfl ?_
     refine shO_nil ?_
     obtain rfl := inj1 r104
     exact mi kn ⟨FExt.refl _, rfl, (sc rfl (sn _))⟩
   have r105 := ite_f r102 c103; clear r102
   refine shO_on (b := false) 50 rfl (Env.isF rfl c103) (om rfl rfl (shO_on (b := false) 50 rfl (Env.isF rfl c103) ?_))
   refine ov (v_neq rfl rfl) rfl ?_
   refine ov (v_pick_f (evD_false rfl c103) rfl) rfl ?_
   refine om rfl rfl ?_
   by_cases c106 : n ≠ 9
   · have r107 := ite_t r105 c106; clear r105
     refine shO_off (b' := true) 54 rfl (Env.isT rfl c106) rfl rfl (shO_off (b' := true) 54 rfl (Env.isT rfl c106) rfl rfl ?_)
     refine ov (v_pick_t (evD_true rfl c106) rfl) rfl ?_
     refine om rfl rfl (shO_off (b' := true) 58 rfl rfl rfl rfl (shO_off (b' := true) 58 rfl rfl rfl rfl (shO_off (b' := true) 58 rfl rfl rfl rfl (shO_off (b' := true) 58 rfl rfl rfl rfl ?_))))
     refine ov (v_pick_t rfl rfl) rfl ?_
     refine om rfl rfl (shO_off (b' := true) 64 rfl rfl rfl rfl (shO_off (b' := true) 64 rfl rfl rfl rfl ?_))
     refine ov (v_pick_t rfl rfl) rfl ?_
     refine om rfl rfl (shO_off (b' := true) 68 rfl rfl rfl rfl (shO_off (b' := true) 68 rfl rfl rfl rfl ?_))
     refine ov (v_pick_t rfl rfl) rfl ?_
     refine shO_nil ?_
     obtain rfl := inj1 r107
     exact mi kn ⟨FExt.refl _, rfl, (sc rfl (sn _))⟩
   have r108 := ite_f r105 c106; clear r105
   refine shO_on (b := false) 54 rfl (Env.isF rfl c106) (om rfl rfl (shO_on (b := false) 54 rfl (Env.isF rfl c106) ?_))
   refine ov (v_neq rfl rfl) rfl ?_
   refine ov (v_pick_f (evD_false rfl c106) rfl) rfl ?_
   refine om rfl rfl ?_
   by_cases c109 : n3 ≠ 1
   · have r110 := ite_t r108 c109; clear r108
     refine shO_off (b' := true) 58 rfl (Env.isT rfl c109) rfl rfl (shO_off (b' := true) 58 rfl (Env.isT rfl c109) rfl rfl (shO_off (b' := true) 58 rfl (Env.isT rfl c109) rfl rfl (shO_off (b' := true) 58 rfl (Env.isT rfl c109) rfl rfl ?_)))
     refine ov (v_pick_t (evD_true rfl c109) rfl) rfl ?_
     refine om rfl rfl (shO_off (b' := true) 64 rfl rfl rfl rfl (shO_off (b' := true) 64 rfl rfl rfl rfl ?_))
     refine ov (v_pick_t rfl rfl) rfl ?_
     refine om rfl rfl (shO_off (b' := true) 68 rfl rfl rfl rfl (shO_off (b' := true) 68 rfl rfl rfl rfl ?_))
     refine ov (v_pick_t rfl rfl) rfl ?_
     refine shO_nil ?_
     obtain rfl := inj1 r110
     exact mi kn ⟨FExt.refl _, rfl, (sc rfl (sn _))⟩
   have r111 := ite_f r108 c109; clear r108
   refine shO_on (b := false) 58 rfl (Env.isF rfl c109) (om rfl rfl (shO_on (b := false) 58 rfl (Env.isF rfl c109) ?_))
   refine o_buildSlice (cs := #[.int .i64 2, .int .i64 2]) rfl rfl (buildSlice_all slt_27 [.int .i64 2, .int .i64 2] rfl (by decide) (by simp [Value.cells]) (by decide)) ?_; intro b112 hb112
   refine shO_on (b := false) 58 rfl (Env.isF rfl c109) ?_
   refine shO_freeze 0 rfl hb112 ?_; intro F113 hF114 hz115
   refine shO_L (L' := Lb80 ++ (Lb86 ++ (Lb60 ++ (Lb66 ++ (Lb47 ++ (Lb29 ++ (Lb35 ++ (Lb9 ++ (Lb15 ++ []))))))))) rfl ?_
   replace hz48 := hz48.mono (iE_ok _) hF114
   have h116 : RowR 1 (iE .i64) F113 (some ⟨b112, 0, none⟩) 2 [2, 2] := RowR.of_block (iE_ok _) (vss := [[.int .i64 2], [.int .i64 2]]) (xs := [2, 2]) hz115 (.cons rfl (.cons rfl .nil)) rfl (by simp [maxLen])
   obtain ⟨ok, h117, r118⟩ := b1_ok r111; clear r111
   refine o_callT (Lt := Lb47 ++ []) (Lr := Lb80 ++ (Lb86 ++ (Lb60 ++ (Lb66 ++ (Lb29 ++ (Lb35 ++ (Lb9 ++ (Lb15 ++ [])))))))) rfl Try.call28 rfl rfl rfl (pT ((fS (fS (fS (fS fP)))).trans (pA pR)) (lp (ln rfl))) (fun F2 h2 h3 => by rw [(SlR.caps hz48).1]; exact oyezkit_Like_int_w (hz48.row (iE_ok _) h2 (fun p hp => h3 p (List.mem_append_left _ hp))) (h116.mono (iE_ok _) h2) h117) ?_
   refine shO_on (b := false) 58 rfl (Env.isF rfl c109) ?_
   refine ov (v_notB rfl) rfl ?_
   refine ov (v_pick_f (evD_false rfl c109) rfl) rfl ?_
   refine om rfl rfl ?_
   rcases bool_two (!ok) with c119 | c119
   · have r120 := bt r118 c119; clear r118
     refine shO_off (b' := true) 64 rfl (EnvB rfl c119) rfl rfl (shO_off (b' := true) 64 rfl (EnvB rfl c119) rfl rfl ?_)
     refine ov (v_pick_t (evB rfl c119) rfl) rfl ?_
     refine om rfl rfl (shO_off (b' := true) 68 rfl rfl rfl rfl (shO_off (b' := true) 68 rfl rfl rfl rfl ?_))
     refine ov (v_pick_t rfl rfl) rfl ?_
     refine shO_nil ?_
     obtain rfl := inj1 r120
     exact mi kn ⟨hF114, rfl, (sc rfl (sn _))⟩
   have r121 := bf r118 c119; clear r118
   refine shO_on (b := false) 64 rfl (EnvB rfl c119) (om rfl rfl (shO_on (b := false) 64 rfl (EnvB rfl c119) ?_))
   refine ov (v_neq rfl rfl) rfl ?_
   refine ov (v_pick_f (evB rfl c119) rfl) rfl ?_
   refine om rfl rfl ?_
   by_cases c122 : n5 ≠ 42
   · have r123 := ite_t r121 c122; clear r121
     refine shO_off (b' := true) 68 rfl (Env.isT rfl c122) rfl rfl (shO_off (b' := true) 68 rfl (Env.isT rfl c122) rfl rfl ?_)
     refine ov (v_pick_t (evD_true rfl c122) rfl) rfl ?_
     refine shO_nil ?_
     obtain rfl := inj1 r123
     exact mi kn ⟨hF114, rfl, (sc rfl (sn _))⟩
   have r124 := ite_f r121 c122; clear r121
   refine shO_on (b := false) 68 rfl (Env.isF rfl c122) (om rfl rfl (shO_on (b := false) 68 rfl (Env.isF rfl c122) ?_))
   refine ov (v_neq rfl rfl) rfl ?_
   refine ov (v_pick_f (evD_false rfl c122) rfl) rfl ?_
   refine shO_nil ?_
   obtain rfl := inj1 r124
   exact mi kn ⟨hF114, rfl, (sc rfl (sn _))⟩
 rintro e1 F126 _ ⟨hF127, rfl, he125⟩
 refine shW_env _ he125 ?_; clear he125
 refine shW_cond rfl (fun c128 => ?_) (fun c128 => ?_)
 · have r129 := bt r93 c128; clear r93
   refine wsr (oa rfl rfl (shO_nil (shW_ret (andThen_ret ?_))))
   refine q_res1 Try.results18 (res_tmp rfl) (sr) ?_
   obtain rfl := inj1 r129
   exact rfl
 have r130 := bf r93 c128; clear r93
 refine shW_skip (wsr ?_)
 obtain ⟨l10, l11, h131, r132⟩ := b2_ok r130; clear r130
 refine o_call0 rfl Try.call69 rfl rfl rfl (oyezlaw05_Four_w h131) ?_; rintro _ F133 _ hF134 hn135 ⟨a137, n141, c138, Lb139, a143, n147, c144, Lb145, rfl, rfl, hz140, hz146⟩
 replace hz140 := hz140.new fun p hp => hn135 p (by simp [hp])
 replace hz146 := hz146.new fun p hp => hn135 p (by simp [hp])
 refine shO_L (lp (lp (ln rfl))) ?_
 obtain rfl := (SlR.caps hz140).1
 refine shO_freezeR (Nat.le_refl _) (slE_ok (iE_ok _)) fP hz140 ?_; intro F149 hF150 h151
 replace hz146 := hz146.mono (slE_ok (iE_ok _)) hF150
 obtain rfl := (SlR.caps hz146).1
 refine shO_freezeR (Nat.le_refl _) (slE_ok (iE_ok _)) fP hz146 ?_; intro F152 hF153 h154
 replace h151 := h151.mono (slE_ok (iE_ok _)) hF153
 obtain ⟨l12, n9, h155, r156⟩ := b2_ok r132; clear r132
 refine o_call0 rfl Try.call36 rfl rfl rfl (night_Verdicts_w h151 h154 h155) ?_; rintro _ F157 _ hF158 hn159 ⟨a161, n165, c162, Lb163, rfl, rfl, hz164⟩
 replace hz164 := hz164.new fun p hp => hn159 p (by simp [hp])
 refine shO_L (lp (ln rfl)) ?_
 refine om rfl rfl (ox rfl rfl rfl (ox rfl rfl rfl (oa rfl rfl (oa rfl rfl (nsr ?_)))))
 obtain ⟨l13, l14, h167, r168⟩ := b2_ok r156; clear r156
 refine o_call0 rfl Try.call69 rfl rfl rfl (oyezlaw05_Four_w h167) ?_; rintro _ F169 _ hF170 hn171 ⟨a173, n177, c174, Lb175, a179, n183, c180, Lb181, rfl, rfl, hz176, hz182⟩
 replace hz164 := hz164.mono (slE_ok (iE_ok _)) hF170
 replace hz176 := hz176.new fun p hp => hn171 p (by simp [hp])
 replace hz182 := hz182.new fun p hp => hn171 p (by simp [hp])
 refine shO_L (lp (lp (ln rfl))) ?_
 obtain rfl := (SlR.caps hz176).1
 refine shO_freezeR (Nat.le_refl _) (slE_ok (iE_ok _)) fP hz176 ?_; intro F185 hF186 h187
 replace hz164 := hz164.mono (slE_ok (iE_ok _)) hF186
 replace hz182 := hz182.mono (slE_ok (iE_ok _)) hF186
 obtain rfl := (SlR.caps hz182).1
 refine shO_freezeR (Nat.le_refl _) (slE_ok (iE_ok _)) fP hz182 ?_; intro F188 hF189 h190
 replace h187 := h187.mono (slE_ok (iE_ok _)) hF189
 replace hz164 := hz164.mono (slE_ok (iE_ok _)) hF189
 obtain ⟨l15, n10, h191, r192⟩ := b2_ok r168; clear r168
 refine o_call0 rfl Try.call17 rfl rfl rfl (night_Men_w h187 h190 h191) ?_; rintro _ F193 _ hF194 hn195 ⟨a197, c198, rfl, rfl, h199⟩
 replace hz164 := hz164.mono (slE_ok (iE_ok _)) hF194
 refine shO_L (ln rfl) ?_
 refine om rfl rfl (ox rfl rfl rfl (ox rfl rfl rfl (oa rfl rfl (oa rfl rfl (nsr ?_)))))
 obtain ⟨l16, l17, h200, r201⟩ := b2_ok r192; clear r192
 refine o_call0 rfl Try.call69 rfl rfl rfl (oyezlaw05_Four_w h200) ?_; rintro _ F202 _ hF203 hn204 ⟨a206, n210, c207, Lb208, a212, n216, c213, Lb214, rfl, rfl, hz209, hz215⟩
 replace h199 := h199.mono (iE_ok _) hF203
 replace hz164 := hz164.mono (slE_ok (iE_ok _)) hF203
 replace hz209 := hz209.new fun p hp => hn204 p (by simp [hp])
 replace hz215 := hz215.new fun p hp => hn204 p (by simp [hp])
 refine shO_L (lp (lp (ln rfl))) ?_
 refine ov (v_build (v := .agg #[.int .i64 0, .int .i64 1]) rfl (by intro w; kernel_rfl)) rfl ?_
 obtain ⟨n11, n12, n13, h218, r219⟩ := b3_ok r201; clear r201
 refine o_callT (Lt := Lb208 ++ (Lb214 ++ [])) (Lr := Lb163 ++ []) rfl Try.call30 rfl rfl rfl (pT pR (lp (lp (ln rfl)))) (fun F2 h2 h3 => by rw [(SlR.caps hz209).1]; rw [(SlR.caps hz215).1]; exact night_Split_w (hz209.row (slE_ok (iE_ok _)) h2 (fun p hp => h3 p (List.mem_append_left _ hp))) (hz215.row (slE_ok (iE_ok _)) h2 (fun p hp => h3 p (List.mem_append_right _ (List.mem_append_left _ hp)))) h218) ?_
 refine om rfl rfl (ox rfl rfl rfl (ox rfl rfl rfl (ox rfl rfl rfl (oa rfl rfl (oa rfl rfl (oa rfl rfl (nsr ?_)))))))
 obtain ⟨l18, l19, h220, r221⟩ := b2_ok r219; clear r219
 refine o_call0 rfl Try.call69 rfl rfl rfl (oyezlaw05_Four_w h220) ?_; rintro _ F222 _ hF223 hn224 ⟨a226, n230, c227, Lb228, a232, n236, c233, Lb234, rfl, rfl, hz229, hz235⟩
 replace h199 := h199.mono (iE_ok _) hF223
 replace hz164 := hz164.mono (slE_ok (iE_ok _)) hF223
 replace hz229 := hz229.new fun p hp => hn224 p (by simp [hp])
 replace hz235 := hz235.new fun p hp => hn224 p (by simp [hp])
 refine shO_L (lp (lp (ln rfl))) ?_
 obtain ⟨n14, n15, n16, h238, r239⟩ := b3_ok r221; clear r221
 refine o_callT (Lt := Lb228 ++ (Lb234 ++ [])) (Lr := Lb208 ++ (Lb214 ++ (Lb163 ++ []))) rfl Try.call15 rfl rfl rfl (pT pR (lp (lp (ln rfl)))) (fun F2 h2 h3 => by rw [(SlR.caps hz229).1]; rw [(SlR.caps hz235).1]; exact night_Most_w (hz229.row (slE_ok (iE_ok _)) h2 (fun p hp => h3 p (List.mem_append_left _ hp))) (hz235.row (slE_ok (iE_ok _)) h2 (fun p hp => h3 p (List.mem_append_right _ (List.mem_append_left _ hp)))) h238) ?_
 refine om rfl rfl (ox rfl rfl rfl (ox rfl rfl rfl ?_))
 refine o_alloc rfl Try.zeroValue36 ?_; intro b240 hb240
 refine o_storeA (i := 0) Try.sizeOf36 rfl rfl rfl (by simp [Value.oneCell']) rfl (Nat.le_of_ble_eq_true rfl) ?_
 refine shO_L (L' := (b240, .cells #[.int .i64 n14, .int .i64 n15] 36 (0, 0)) :: (Lb228 ++ (Lb234 ++ (Lb208 ++ (Lb214 ++ (Lb163 ++ [])))))) rfl ?_
 refine oa rfl rfl (nsr (om rfl rfl ?_))
 refine ov (v_eql rfl rfl) rfl ?_
 refine om rfl rfl ?_
 by_cases c241 : n9 = 0
 · have r242 := ite_t r239 c241; clear r239
   refine shO_on (b := true) 96 rfl (Env.isT rfl c241) (om rfl rfl (shO_on (b := true) 96 rfl (Env.isT rfl c241) ?_))
   refine ov (v_eql rfl rfl) rfl ?_
   refine ov (v_pick_t (evD_true rfl c241) rfl) rfl ?_
   refine om rfl rfl ?_
   by_cases c243 : n10 = 0
   · have r244 := ite_t r242 c243; clear r242
     refine shO_on (b := true) 100 rfl (Env.isT rfl c243) (om rfl rfl (shO_on (b := true) 100 rfl (Env.isT rfl c243) ?_))
     refine ov (v_eql rfl rfl) rfl ?_
     refine ov (v_pick_t (evD_true rfl c243) rfl) rfl ?_
     refine om rfl rfl ?_
     by_cases c245 : n13 = 0
     · have r246 := ite_t r244 c245; clear r244
       refine shO_on (b := true) 104 rfl (Env.isT rfl c245) (om rfl rfl (shO_on (b := true) 104 rfl (Env.isT rfl c245) ?_))
       refine ov (v_eql rfl rfl) rfl ?_
       refine ov (v_pick_t (evD_true rfl c245) rfl) rfl ?_
       refine om rfl rfl ?_
       by_cases c247 : n16 = 0
       · have r248 := ite_t r246 c247; clear r246
         refine shO_on (b := true) 108 rfl (Env.isT rfl c247) (om rfl rfl (shO_on (b := true) 108 rfl (Env.isT rfl c247) ?_))
         refine ov ((v_lenS Try.underlying71 rfl).i (SlR.lenI hz164)) rfl ?_
         refine shO_on (b := true) 108 rfl (Env.isT rfl c247) ?_
         refine ov (v_eql rfl rfl) rfl ?_
         refine ov (v_pick_t (evD_true rfl c247) rfl) rfl ?_
         refine om rfl rfl ?_
         by_cases c249 : (l12.length : Int) = 2
         · have r250 := ite_t r248 c249; clear r248
           refine shO_on (b := true) 113 rfl (Env.isT rfl c249) (om rfl rfl (shO_on (b := true) 113 rfl (Env.isT rfl c249) ?_))
           obtain ⟨x, g251, hx252, r253⟩ := ix_ok r250; clear r250
           obtain ⟨b254, o255, c256, vs257, ha258, hs259, hle260, ⟨a263, c264, rfl, h265⟩, hl261, hc262⟩ := SlR.at (slE_ok (iE_ok _)) hz164 (L := (b240, .cells #[.int .i64 n14, .int .i64 n15] 36 (0, 0)) :: (Lb228 ++ (Lb234 ++ (Lb208 ++ (Lb214 ++ (Lb163 ++ [])))))) (fC (fS (fS (fS (fS fP))))) g251.1 hx252
           refine ov (v_indexO Try.underlying71 Try.sizeOf80 rfl ha258 rfl (SlR.idx hz164 g251)) rfl ?_
           refine shO_on (b := true) 113 rfl (Env.isT rfl c249) ?_
           refine ov (v_load Try.isAgg80 rfl hs259 (hc262 0 (by decide))) rfl ?_
           refine shO_on (b := true) 113 rfl (Env.isT rfl c249) ?_
           refine o_buildSlice (cs := #[.int .i64 2, .int .i64 0, .int .i64 0, .int .i64 2]) rfl rfl (buildSlice_all slt_80 [.int .i64 2, .int .i64 0, .int .i64 0, .int .i64 2] rfl (by decide) (by simp [Value.cells]) (by decide)) ?_; intro b266 hb266
           refine shO_on (b := true) 113 rfl (Env.isT rfl c249) ?_
           refine shO_freeze 0 rfl hb266 ?_; intro F267 hF268 hz269
           refine shO_L (L' := (b240, .cells #[.int .i64 n14, .int .i64 n15] 36 (0, 0)) :: (Lb228 ++ (Lb234 ++ (Lb208 ++ (Lb214 ++ (Lb163 ++ [])))))) rfl ?_
           replace h199 := h199.mono (iE_ok _) hF268
           replace h265 := h265.mono (iE_ok _) hF268
           have h270 : RowR 1 (iE .i64) F267 (some ⟨b266, 0, none⟩) 4 [2, 0, 0, 2] := RowR.of_block (iE_ok _) (vss := [[.int .i64 2], [.int .i64 0], [.int .i64 0], [.int .i64 2]]) (xs := [2, 0, 0, 2]) hz269 (.cons rfl (.cons rfl (.cons rfl (.cons rfl .nil)))) rfl (by simp [maxLen])
           obtain ⟨ok2, h271, r272⟩ := b1_ok r253; clear r253
           refine o_callV rfl Try.call70 rfl rfl rfl (oyezkit_Like_Verdict_w h265 h270 h271) ?_
           refine ov (v_pick_t (evD_true rfl c249) rfl) rfl ?_
           refine om rfl rfl ?_
           rcases bool_two ok2 with c273 | c273
           · have r274 := bt r272 c273; clear r272
             refine shO_on (b := true) 120 rfl (EnvB rfl c273) (om rfl rfl (shO_on (b := true) 120 rfl (EnvB rfl c273) ?_))
             refine o_buildSlice (cs := #[.int .i64 1]) rfl rfl (buildSlice_all slt_27 [.int .i64 1] rfl (by decide) (by simp [Value.cells]) (by decide)) ?_; intro b275 hb275
             refine shO_on (b := true) 120 rfl (EnvB rfl c273) ?_
             refine shO_freeze 0 rfl hb275 ?_; intro F276 hF277 hz278
             refine shO_L (L' := (b240, .cells #[.int .i64 n14, .int .i64 n15] 36 (0, 0)) :: (Lb228 ++ (Lb234 ++ (Lb208 ++ (Lb214 ++ (Lb163 ++ [])))))) rfl ?_
             replace h199 := h199.mono (iE_ok _) hF277
             have h279 : RowR 1 (iE .i64) F276 (some ⟨b275, 0, none⟩) 1 [1] := RowR.of_block (iE_ok _) (vss := [[.int .i64 1]]) (xs := [1]) hz278 (.cons rfl .nil) rfl (by simp [maxLen])
             obtain ⟨ok3, h280, r281⟩ := b1_ok r274; clear r274
             refine o_callV rfl Try.call28 rfl rfl rfl (oyezkit_Like_int_w h199 h279 h280) ?_
             refine ov (v_pick_t (evB rfl c273) rfl) rfl ?_
             refine om rfl rfl ?_
             rcases bool_two ok3 with c282 | c282
             · have r283 := bt r281 c282; clear r281
               refine shO_on (b := true) 125 rfl (EnvB rfl c282) (om rfl rfl (shO_on (b := true) 125 rfl (EnvB rfl c282) ?_))
               refine ov (v_eql rfl rfl) rfl ?_
               refine ov (v_pick_t (evB rfl c282) rfl) rfl ?_
               refine om rfl rfl ?_
               by_cases c284 : n11 = 14
               · have r285 := ite_t r283 c284; clear r283
                 refine shO_on (b := true) 129 rfl (Env.isT rfl c284) (om rfl rfl (shO_on (b := true) 129 rfl (Env.isT rfl c284) ?_))
                 refine ov (v_eql rfl rfl) rfl ?_
                 refine ov (v_pick_t (evD_true rfl c284) rfl) rfl ?_
                 refine om rfl rfl ?_
                 by_cases c286 : n12 = 28
                 · have r287 := ite_t r285 c286; clear r285
                   refine shO_on (b := true) 133 rfl (Env.isT rfl c286) ?_
                   refine ov (v_loadA (cs := #[.int .i64 n14, .int .i64 n15]) Try.isAgg36 Try.sizeOf36 rfl (Has.own 0 rfl) (Nat.le_of_ble_eq_true rfl) rfl) rfl ?_
                   refine shO_on (b := true) 133 rfl (Env.isT rfl c286) ?_
                   refine ov (v_build (v := .agg #[.int .i64 0, .int .i64 1]) rfl (by intro w; kernel_rfl)) rfl ?_
                   refine shO_on (b := true) 133 rfl (Env.isT rfl c286) ?_
                   refine ov (v_eqA (eqg_36 _ _ _ _) (eq_36 _ _ _ _) rfl rfl) rfl ?_
                   refine ov (v_pick_t (evD_true rfl c286) rfl) rfl ?_
                   refine oa rfl rfl (shO_nil ?_)
                   refine kW kn ?_
                   refine shW_ret ?_
                   refine q_res1 Try.results18 (res_tmp rfl) (sr) ?_
                   obtain rfl := inj1 r287
                   exact rfl
                 have r288 := ite_f r285 c286; clear r285
                 refine shO_off (b' := false) 133 rfl (Env.isF rfl c286) rfl rfl (shO_off (b' := false) 133 rfl (Env.isF rfl c286) rfl rfl (shO_off (b' := false) 133 rfl (Env.isF rfl c286) rfl rfl ?_))
                 refine ov (v_pick_f (evD_false rfl c286) rfl) rfl ?_
                 refine oa rfl rfl (shO_nil ?_)
                 refine kW kn ?_
                 refine shW_ret ?_
                 refine q_res1 Try.results18 (res_tmp rfl) (sr) ?_
                 obtain rfl := inj1 r288
                 exact rfl
               have r289 := ite_f r283 c284; clear r283
               refine shO_off (b' := false) 129 rfl (Env.isF rfl c284) rfl rfl (shO_off (b' := false) 129 rfl (Env.isF rfl c284) rfl rfl ?_)
               refine ov (v_pick_f (evD_false rfl c284) rfl) rfl ?_
               refine om rfl rfl (shO_off (b' := false) 133 rfl rfl rfl rfl (shO_off (b' := false) 133 rfl rfl rfl rfl (shO_off (b' := false) 133 rfl rfl rfl rfl ?_)))
               refine ov (v_pick_f rfl rfl) rfl ?_
               refine oa rfl rfl (shO_nil ?_)
               refine kW kn ?_
               refine shW_ret ?_
               refine q_res1 Try.results18 (res_tmp rfl) (sr) ?_
               obtain rfl := inj1 r289
               exact rfl
             have r290 := bf r281 c282; clear r281
             refine shO_off (b' := false) 125 rfl (EnvB rfl c282) rfl rfl (shO_off (b' := false) 125 rfl (EnvB rfl c282) rfl rfl ?_)
             refine ov (v_pick_f (evB rfl c282) rfl) rfl ?_
             refine om rfl rfl (shO_off (b' := false) 129 rfl rfl rfl rfl (shO_off (b' := false) 129 rfl rfl rfl rfl ?_))
             refine ov (v_pick_f rfl rfl) rfl ?_
             refine om rfl rfl (shO_off (b' := false) 133 rfl rfl rfl rfl (shO_off (b' := false) 133 rfl rfl rfl rfl (shO_off (b' := false) 133 rfl rfl rfl rfl ?_)))
             refine ov (v_pick_f rfl rfl) rfl ?_
             refine oa rfl rfl (shO_nil ?_)
             refine kW kn ?_
             refine shW_ret ?_
             refine q_res1 Try.results18 (res_tmp rfl) (sr) ?_
             obtain rfl := inj1 r290
             exact rfl
           have r291 := bf r272 c273; clear r272
           refine shO_off (b' := false) 120 rfl (EnvB rfl c273) rfl rfl (shO_off (b' := false) 120 rfl (EnvB rfl c273) rfl rfl (shO_off (b' := false) 120 rfl (EnvB rfl c273) rfl rfl ?_))
           refine ov (v_pick_f (evB rfl c273) rfl) rfl ?_
           refine om rfl rfl (shO_off (b' := false) 125 rfl rfl rfl rfl (shO_off (b' := false) 125 rfl rfl rfl rfl ?_))
           refine ov (v_pick_f rfl rfl) rfl ?_
           refine om rfl rfl (shO_off (b' := false) 129 rfl rfl rfl rfl (shO_off (b' := false) 129 rfl rfl rfl rfl ?_))
           refine ov (v_pick_f rfl rfl) rfl ?_
           refine om rfl rfl (shO_off (b' := false) 133 rfl rfl rfl rfl (shO_off (b' := false) 133 rfl rfl rfl rfl (shO_off (b' := false) 133 rfl rfl rfl rfl ?_)))
           refine ov (v_pick_f rfl rfl) rfl ?_
           refine oa rfl rfl (shO_nil ?_)
           refine kW kn ?_
           refine shW_ret ?_
           refine q_res1 Try.results18 (res_tmp rfl) (sr) ?_
           obtain rfl := inj1 r291
           exact rfl
         have r292 := ite_f r248 c249; clear r248
         refine shO_off (b' := false) 113 rfl (Env.isF rfl c249) rfl rfl (shO_off (b' := false) 113 rfl (Env.isF rfl c249) rfl rfl (shO_off (b' := false) 113 rfl (Env.isF rfl c249) rfl rfl (shO_off (b' := false) 113 rfl (Env.isF rfl c249) rfl rfl (shO_off (b' := false) 113 rfl (Env.isF rfl c249) rfl rfl ?_))))
         refine ov (v_pick_f (evD_false rfl c249) rfl) rfl ?_
         refine om rfl rfl (shO_off (b' := false) 120 rfl rfl rfl rfl (shO_off (b' := false) 120 rfl rfl rfl rfl (shO_off (b' := false) 120 rfl rfl rfl rfl ?_)))
         refine ov (v_pick_f rfl rfl) rfl ?_
         refine om rfl rfl (shO_off (b' := false) 125 rfl rfl rfl rfl (shO_off (b' := false) 125 rfl rfl rfl rfl ?_))
         refine ov (v_pick_f rfl rfl) rfl ?_
         refine om rfl rfl (shO_off (b' := false) 129 rfl rfl rfl rfl (shO_off (b' := false) 129 rfl rfl rfl rfl ?_))
         refine ov (v_pick_f rfl rfl) rfl ?_
         refine om rfl rfl (shO_off (b' := false) 133 rfl rfl rfl rfl (shO_off (b' := false) 133 rfl rfl rfl rfl (shO_off (b' := false) 133 rfl rfl rfl rfl ?_)))
         refine ov (v_pick_f rfl rfl) rfl ?_
         refine oa rfl rfl (shO_nil ?_)
         refine kW kn ?_
         refine shW_ret ?_
         refine q_res1 Try.results18 (res_tmp rfl) (sr) ?_
         obtain rfl := inj1 r292
         exact rfl
       have r293 := ite_f r246 c247; clear r246
       refine shO_off (b' := false) 108 rfl (Env.isF rfl c247) rfl rfl (shO_off (b' := false) 108 rfl (Env.isF rfl c247) rfl rfl (shO_off (b' := false) 108 rfl (Env.isF rfl c247) rfl rfl ?_))
       refine ov (v_pick_f (evD_false rfl c247) rfl) rfl ?_
       refine om rfl rfl (shO_off (b' := false) 113 rfl rfl rfl rfl (shO_off (b' := false) 113 rfl rfl rfl rfl (shO_off (b' := false) 113 rfl rfl rfl rfl (shO_off (b' := false) 113 rfl rfl rfl rfl (shO_off (b' := false) 113 rfl rfl rfl rfl ?_)))))
       refine ov (v_pick_f rfl rfl) rfl ?_
       refine om rfl rfl (shO_off (b' := false) 120 rfl rfl rfl rfl (shO_off (b' := false) 120 rfl rfl rfl rfl (shO_off (b' := false) 120 rfl rfl rfl rfl ?_)))
       refine ov (v_pick_f rfl rfl) rfl ?_
       refine om rfl rfl (shO_off (b' := false) 125 rfl rfl rfl rfl (shO_off (b' := false) 125 rfl rfl rfl rfl ?_))
       refine ov (v_pick_f rfl rfl) rfl ?_
       refine om rfl rfl (shO_off (b' := false) 129 rfl rfl rfl rfl (shO_off (b' := false) 129 rfl rfl rfl rfl ?_))
       refine ov (v_pick_f rfl rfl) rfl ?_
       refine om rfl rfl (shO_off (b' := false) 133 rfl rfl rfl rfl (shO_off (b' := false) 133 rfl rfl rfl rfl (shO_off (b' := false) 133 rfl rfl rfl rfl ?_)))
       refine ov (v_pick_f rfl rfl) rfl ?_
       refine oa rfl rfl (shO_nil ?_)
       refine kW kn ?_
       refine shW_ret ?_
       refine q_res1 Try.results18 (res_tmp rfl) (sr) ?_
       obtain rfl := inj1 r293
       exact rfl
     have r294 := ite_f r244 c245; clear r244
     refine shO_off (b' := false) 104 rfl (Env.isF rfl c245) rfl rfl (shO_off (b' := false) 104 rfl (Env.isF rfl c245) rfl rfl ?_)
     refine ov (v_pick_f (evD_false rfl c245) rfl) rfl ?_
     refine om rfl rfl (shO_off (b' := false) 108 rfl rfl rfl rfl (shO_off (b' := false) 108 rfl rfl rfl rfl (shO_off (b' := false) 108 rfl rfl rfl rfl ?_)))
     refine ov (v_pick_f rfl rfl) rfl ?_
     refine om rfl rfl (shO_off (b' := false) 113 rfl rfl rfl rfl (shO_off (b' := false) 113 rfl rfl rfl rfl (shO_off (b' := false) 113 rfl rfl rfl rfl (shO_off (b' := false) 113 rfl rfl rfl rfl (shO_off (b' := false) 113 rfl rfl rfl rfl ?_)))))
     refine ov (v_pick_f rfl rfl) rfl ?_
     refine om rfl rfl (shO_off (b' := false) 120 rfl rfl rfl rfl (shO_off (b' := false) 120 rfl rfl rfl rfl (shO_off (b' := false) 120 rfl rfl rfl rfl ?_)))
     refine ov (v_pick_f rfl rfl) rfl ?_
     refine om rfl rfl (shO_off (b' := false) 125 rfl rfl rfl rfl (shO_off (b' := false) 125 rfl rfl rfl rfl ?_))
     refine ov (v_pick_f rfl rfl) rfl ?_
     refine om rfl rfl (shO_off (b' := false) 129 rfl rfl rfl rfl (shO_off (b' := false) 129 rfl rfl rfl rfl ?_))
     refine ov (v_pick_f rfl rfl) rfl ?_
     refine om rfl rfl (shO_off (b' := false) 133 rfl rfl rfl rfl (shO_off (b' := false) 133 rfl rfl rfl rfl (shO_off (b' := false) 133 rfl rfl rfl rfl ?_)))
     refine ov (v_pick_f rfl rfl) rfl ?_
     refine oa rfl rfl (shO_nil ?_)
     refine kW kn ?_
     refine shW_ret ?_
     refine q_res1 Try.results18 (res_tmp rfl) (sr) ?_
     obtain rfl := inj1 r294
     exact rfl
   have r295 := ite_f r242 c243; clear r242
   refine shO_off (b' := false) 100 rfl (Env.isF rfl c243) rfl rfl (shO_off (b' := false) 100 rfl (Env.isF rfl c243) rfl rfl ?_)
   refine ov (v_pick_f (evD_false rfl c243) rfl) rfl ?_
   refine om rfl rfl (shO_off (b' := false) 104 rfl rfl rfl rfl (shO_off (b' := false) 104 rfl rfl rfl rfl ?_))
   refine ov (v_pick_f rfl rfl) rfl ?_
   refine om rfl rfl (shO_off (b' := false) 108 rfl rfl rfl rfl (shO_off (b' := false) 108 rfl rfl rfl rfl (shO_off (b' := false) 108 rfl rfl rfl rfl ?_)))
   refine ov (v_pick_f rfl rfl) rfl ?_
   refine om rfl rfl (shO_off (b' := false) 113 rfl rfl rfl rfl (shO_off (b' := false) 113 rfl rfl rfl rfl (shO_off (b' := false) 113 rfl rfl rfl rfl (shO_off (b' := false) 113 rfl rfl rfl rfl (shO_off (b' := false) 113 rfl rfl rfl rfl ?_)))))
   refine ov (v_pick_f rfl rfl) rfl ?_
   refine om rfl rfl (shO_off (b' := false) 120 rfl rfl rfl rfl (shO_off (b' := false) 120 rfl rfl rfl rfl (shO_off (b' := false) 120 rfl rfl rfl rfl ?_)))
   refine ov (v_pick_f rfl rfl) rfl ?_
   refine om rfl rfl (shO_off (b' := false) 125 rfl rfl rfl rfl (shO_off (b' := false) 125 rfl rfl rfl rfl ?_))
   refine ov (v_pick_f rfl rfl) rfl ?_
   refine om rfl rfl (shO_off (b' := false) 129 rfl rfl rfl rfl (shO_off (b' := false) 129 rfl rfl rfl rfl ?_))
   refine ov (v_pick_f rfl rfl) rfl ?_
   refine om rfl rfl (shO_off (b' := false) 133 rfl rfl rfl rfl (shO_off (b' := false) 133 rfl rfl rfl rfl (shO_off (b' := false) 133 rfl rfl rfl rfl ?_)))
   refine ov (v_pick_f rfl rfl) rfl ?_
   refine oa rfl rfl (shO_nil ?_)
   refine kW kn ?_
   refine shW_ret ?_
   refine q_res1 Try.results18 (res_tmp rfl) (sr) ?_
   obtain rfl := inj1 r295
   exact rfl
 have r296 := ite_f r239 c241; clear r239
 refine shO_off (b' := false) 96 rfl (Env.isF rfl c241) rfl rfl (shO_off (b' := false) 96 rfl (Env.isF rfl c241) rfl rfl ?_)
 refine ov (v_pick_f (evD_false rfl c241) rfl) rfl ?_
 refine om rfl rfl (shO_off (b' := false) 100 rfl rfl rfl rfl (shO_off (b' := false) 100 rfl rfl rfl rfl ?_))
 refine ov (v_pick_f rfl rfl) rfl ?_
 refine om rfl rfl (shO_off (b' := false) 104 rfl rfl rfl rfl (shO_off (b' := false) 104 rfl rfl rfl rfl ?_))
 refine ov (v_pick_f rfl rfl) rfl ?_
 refine om rfl rfl (shO_off (b' := false) 108 rfl rfl rfl rfl (shO_off (b' := false) 108 rfl rfl rfl rfl (shO_off (b' := false) 108 rfl rfl rfl rfl ?_)))
 refine ov (v_pick_f rfl rfl) rfl ?_
 refine om rfl rfl (shO_off (b' := false) 113 rfl rfl rfl rfl (shO_off (b' := false) 113 rfl rfl rfl rfl (shO_off (b' := false) 113 rfl rfl rfl rfl (shO_off (b' := false) 113 rfl rfl rfl rfl (shO_off (b' := false) 113 rfl rfl rfl rfl ?_)))))
 refine ov (v_pick_f rfl rfl) rfl ?_
 refine om rfl rfl (shO_off (b' := false) 120 rfl rfl rfl rfl (shO_off (b' := false) 120 rfl rfl rfl rfl (shO_off (b' := false) 120 rfl rfl rfl rfl ?_)))
 refine ov (v_pick_f rfl rfl) rfl ?_
 refine om rfl rfl (shO_off (b' := false) 125 rfl rfl rfl rfl (shO_off (b' := false) 125 rfl rfl rfl rfl ?_))
 refine ov (v_pick_f rfl rfl) rfl ?_
 refine om rfl rfl (shO_off (b' := false) 129 rfl rfl rfl rfl (shO_off (b' := false) 129 rfl rfl rfl rfl ?_))
 refine ov (v_pick_f rfl rfl) rfl ?_
 refine om rfl rfl (shO_off (b' := false) 133 rfl rfl rfl rfl (shO_off (b' := false) 133 rfl rfl rfl rfl (shO_off (b' := false) 133 rfl rfl rfl rfl ?_)))
 refine ov (v_pick_f rfl rfl) rfl ?_
 refine oa rfl rfl (shO_nil ?_)
 refine kW kn ?_
 refine shW_ret ?_
 refine q_res1 Try.results18 (res_tmp rfl) (sr) ?_
 obtain rfl := inj1 r296
 exact rfl
set_option maxHeartbeats 1000000 in
theorem oyezlaw05_fits_w {listens_a : Option Addr} {listens_c : Nat} {listens : List (List Int)} {hours_a : Option Addr} {hours_c : Nat} {hours : List (List Int)} {marks_a : Option Addr} {marks_c : Nat} {marks : List Int} {asleep : Int} {F : FS} (h_listens : RowR 1 (slE 1 (iE .i64)) F listens_a listens_c listens) (_h_hours : RowR 1 (slE 1 (iE .i64)) F hours_a hours_c hours) (h_marks : RowR 1 (iE .i64) F marks_a marks_c marks) {r : Bool} (hr : oyezlaw05_fits listens hours marks asleep = some r) :
    SpecV Try.prog 23 #[.agg #[.slice listens_a listens.length listens_c, .slice hours_a hours.length hours_c], .slice marks_a marks.length marks_c, .int .i64 asleep] F (.bool r) := by
 refine spec_of_shW (args := [.agg #[.slice listens_a listens.length listens_c, .slice hours_a hours.length hours_c], .slice marks_a marks.length marks_c, .int .i64 asleep]) Try.func23 rfl Try.ntmps23 (Nat.le_of_ble_eq_true rfl) ?_
 intro K _ _; rw [oyezlaw05_fits] at hr
 refine wsr ?_
 refine o_box rfl rfl ?_; intro b1 hb1
 refine oa rfl rfl (nsr ?_)
 refine ov (v_fieldAddr fa_26_0 rfl) rfl ?_
 refine ov (v_load Try.isAgg23 rfl (Has.own 0 rfl) rfl) rfl ?_
 refine om rfl rfl ?_
 obtain ⟨n, h2, r3⟩ := b1_ok hr; clear hr
 refine o_callV rfl Try.call21 rfl rfl rfl (oyezlaw05_cry_w h_listens h2) ?_
 refine oa rfl rfl (shO_nil ?_)
 refine shW_join (fun e1 F1 L1 => oyezlaw05_fits_j1 = some r ∧ F = F1 ∧ L1 = [] ∧ e1.sub []) ?_ ?_
 · refine wsr (om rfl rfl ?_)
   refine ov (v_lenS Try.underlying40 rfl) rfl ?_
   refine om rfl rfl (shO_nil ?_)
   refine shW_block ?_
   refine kW kn ?_
   refine shW_lp (fun fu2 e1 F1 L1 => ∃ (tl : List Int) (k : Int), tl.length = fu2 ∧ Lst marks k tl ∧ oyezlaw05_fits_l2 n tl k = some r ∧ F = F1 ∧ L1 = [] ∧ e1.sub [(7, .int .i64 n), (14, .slice marks_a marks.length marks_c), (15, .int .i64 (marks.length : Int)), (16, .int .i64 k)]) _ (m0 kr ⟨_, _, rfl, Lst.start _, r3, rfl, rfl, (sc rfl (sc rfl (sc rfl (sc rfl (sn _)))))⟩) ?_
   rintro fu2 e1 _ _ ⟨tl, k, hn5, hk4, r6, rfl, rfl, he7⟩
   refine shW_env _ he7 ?_; clear he7
   refine wsr ?_
   refine ov (v_lssK rfl rfl) rfl ?_
   refine shO_nil (shW_seq ?_)
   refine shW_condP rfl (fun c9 => ?_) (fun c9 => ?_)
   · obtain ⟨x, tl2, rfl, hx11, g12, hk10⟩ := Lst.succ hk4 c9
     rw [oyezlaw05_fits_l2] at r6
     refine shW_skip (shW_seq ?_)
     refine shW_block ?_
     refine wsr (om rfl rfl ?_)
     obtain ⟨b13, o14, c15, vs16, ha17, hs18, hle19, rfl, hl20, hc21⟩ := RowR.at (iE_ok _) h_marks ([]) g12.1 hx11
     refine ov (v_indexO Try.underlying40 Try.sizeOf41 rfl ha17 rfl g12) rfl ?_
     refine ov (v_load Try.isAgg41 rfl hs18 (hc21 0 (by decide))) rfl ?_
     refine oa rfl rfl (oa rfl rfl (shO_nil ?_))
     obtain ⟨k2, h22, r23⟩ := b1_ok r6; clear r6
     refine shW_join (fun e1 F1 L1 => F = F1 ∧ L1 = [] ∧ e1.sub [(7, .int .i64 n), (14, .slice marks_a marks.length marks_c), (15, .int .i64 (marks.length : Int)), (16, .int .i64 k), (40, .bool k2)]) ?_ ?_
     · clear r23
       refine shW_region (om rfl rfl ?_)
       refine ov (v_eql rfl rfl) rfl ?_
       refine om rfl rfl ?_
       by_cases c24 : x = 1
       · have r25 := ite_t h22 c24; clear h22
         refine shO_on (b := true) 23 rfl (Env.isT rfl c24) (om rfl rfl (shO_on (b := true) 23 rfl (Env.isT rfl c24) (om rfl rfl (shO_on (b := true) 23 rfl (Env.isT rfl c24) ?_))))
         obtain ⟨g26, r27⟩ := gd_ok r25; clear r25
         refine ov (v_shr rfl rfl g26) rfl ?_
         refine shO_on (b := true) 23 rfl (Env.isT rfl c24) ?_
         refine ov (v_and rfl rfl) rfl ?_
         refine shO_on (b := true) 23 rfl (Env.isT rfl c24) ?_
         refine ov (v_eql rfl rfl) rfl ?_
         refine ov (v_pick_t (evD_true rfl c24) rfl) rfl ?_
         refine om rfl rfl ?_
         by_cases c28 : (band (shr n k) 1) = 0
         · have r29 := ite_t r27 c28; clear r27
           refine shO_off (b' := true) 30 rfl (Env.isT rfl c28) rfl rfl (shO_off (b' := true) 30 rfl (Env.isT rfl c28) rfl rfl (shO_off (b' := true) 30 rfl (Env.isT rfl c28) rfl rfl (shO_offU 33 rfl rfl rfl (shO_offU 33 rfl rfl rfl (shO_offU 33 rfl rfl rfl (shO_offU 33 rfl rfl rfl (shO_offU 33 rfl rfl rfl (shO_off (b' := true) 30 rfl (Env.isT rfl c28) rfl rfl ?_))))))))
           refine ov (v_pick_t (evD_true rfl c28) rfl) rfl ?_
           refine shO_nil ?_
           obtain rfl := inj1 r29
           exact mi kr ⟨rfl, rfl, (sc rfl (sc rfl (sc rfl (sc rfl (sc rfl (sn _))))))⟩
         have r30 := ite_f r27 c28; clear r27
         refine shO_on (b := false) 30 rfl (Env.isF rfl c28) (om rfl rfl (shO_on (b := false) 30 rfl (Env.isF rfl c28) ?_))
         refine ov (v_eql rfl rfl) rfl ?_
         refine shO_on (b := false) 30 rfl (Env.isF rfl c28) (om rfl rfl ?_)
         by_cases c31 : x = 2
         · have r32 := ite_t r30 c31; clear r30
           refine shO_on (b := true) 33 rfl (Env.isT rfl c31) (om rfl rfl (shO_on (b := true) 33 rfl (Env.isT rfl c31) (om rfl rfl (shO_on (b := true) 33 rfl (Env.isT rfl c31) ?_))))
           obtain ⟨g33, r34⟩ := gd_ok r32; clear r32
           refine ov (v_shr rfl rfl g33) rfl ?_
           refine shO_on (b := true) 33 rfl (Env.isT rfl c31) ?_
           refine ov (v_and rfl rfl) rfl ?_
           refine shO_on (b := true) 33 rfl (Env.isT rfl c31) ?_
           refine ov (v_eql rfl rfl) rfl ?_
           refine shO_on (b := false) 30 rfl (Env.isF rfl c28) ?_
           refine ov (v_pick_t (evD_true rfl c31) rfl) rfl ?_
           refine ov (v_pick_f (evD_false rfl c28) rfl) rfl ?_
           refine shO_nil ?_
           obtain rfl := inj1 r34
           exact mi kr ⟨rfl, rfl, (sc rfl (sc rfl (sc rfl (sc rfl (sc rfl (sn _))))))⟩
         have r35 := ite_f r30 c31; clear r30
         refine shO_off (b' := false) 33 rfl (Env.isF rfl c31) rfl rfl (shO_off (b' := false) 33 rfl (Env.isF rfl c31) rfl rfl (shO_off (b' := false) 33 rfl (Env.isF rfl c31) rfl rfl (shO_off (b' := false) 33 rfl (Env.isF rfl c31) rfl rfl (shO_off (b' := false) 33 rfl (Env.isF rfl c31) rfl rfl (shO_on (b := false) 30 rfl (Env.isF rfl c28) ?_)))))
         refine ov (v_pick_f (evD_false rfl c31) rfl) rfl ?_
         refine ov (v_pick_f (evD_false rfl c28) rfl) rfl ?_
         refine shO_nil ?_
         obtain rfl := inj1 r35
         exact mi kr ⟨rfl, rfl, (sc rfl (sc rfl (sc rfl (sc rfl (sc rfl (sn _))))))⟩
       have r36 := ite_f h22 c24; clear h22
       refine shO_off (b' := false) 23 rfl (Env.isF rfl c24) rfl rfl (shO_off (b' := false) 23 rfl (Env.isF rfl c24) rfl rfl (shO_off (b' := false) 23 rfl (Env.isF rfl c24) rfl rfl (shO_off (b' := false) 23 rfl (Env.isF rfl c24) rfl rfl (shO_off (b' := false) 23 rfl (Env.isF rfl c24) rfl rfl ?_))))
       refine ov (v_pick_f (evD_false rfl c24) rfl) rfl ?_
       refine om rfl rfl (shO_on (b := false) 30 rfl rfl (om rfl rfl (shO_on (b := false) 30 rfl rfl ?_)))
       refine ov (v_eql rfl rfl) rfl ?_
       refine shO_on (b := false) 30 rfl rfl (om rfl rfl ?_)
       by_cases c37 : x = 2
       · have r38 := ite_t r36 c37; clear r36
         refine shO_on (b := true) 33 rfl (Env.isT rfl c37) (om rfl rfl (shO_on (b := true) 33 rfl (Env.isT rfl c37) (om rfl rfl (shO_on (b := true) 33 rfl (Env.isT rfl c37) ?_))))
         obtain ⟨g39, r40⟩ := gd_ok r38; clear r38
         refine ov (v_shr rfl rfl g39) rfl ?_
         refine shO_on (b := true) 33 rfl (Env.isT rfl c37) ?_
         refine ov (v_and rfl rfl) rfl ?_
         refine shO_on (b := true) 33 rfl (Env.isT rfl c37) ?_
         refine ov (v_eql rfl rfl) rfl ?_
         refine shO_on (b := false) 30 rfl rfl ?_
         refine ov (v_pick_t (evD_true rfl c37) rfl) rfl ?_
         refine ov (v_pick_f rfl rfl) rfl ?_
         refine shO_nil ?_
         obtain rfl := inj1 r40
         exact mi kr ⟨rfl, rfl, (sc rfl (sc rfl (sc rfl (sc rfl (sc rfl (sn _))))))⟩
       have r41 := ite_f r36 c37; clear r36
       refine shO_off (b' := false) 33 rfl (Env.isF rfl c37) rfl rfl (shO_off (b' := false) 33 rfl (Env.isF rfl c37) rfl rfl (shO_off (b' := false) 33 rfl (Env.isF rfl c37) rfl rfl (shO_off (b' := false) 33 rfl (Env.isF rfl c37) rfl rfl (shO_off (b' := false) 33 rfl (Env.isF rfl c37) rfl rfl (shO_on (b := false) 30 rfl rfl ?_)))))
       refine ov (v_pick_f (evD_false rfl c37) rfl) rfl ?_
       refine ov (v_pick_f rfl rfl) rfl ?_
       refine shO_nil ?_
       obtain rfl := inj1 r41
       exact mi kr ⟨rfl, rfl, (sc rfl (sc rfl (sc rfl (sc rfl (sc rfl (sn _))))))⟩
     rintro e1 _ _ ⟨rfl, rfl, he42⟩
     refine shW_env _ he42 ?_; clear he42
     refine shW_cond rfl (fun c43 => ?_) (fun c43 => ?_)
     · have r44 := bt r23 c43; clear r23
       refine wsr (oa rfl rfl (shO_nil (shW_ret (inBlock_ret (andThen_ret (andThen_ret (inBlock_ret (andThen_ret ?_))))))))
       refine q_res1 Try.results23 (res_tmp rfl) (sr) ?_
       obtain rfl := inj1 r44
       exact rfl
     have r45 := bf r23 c43; clear r23
     refine shW_skip (inBlock_n (id := 1) (shW_region ?_))
     refine ov (v_add rfl rfl (Lst.r64 hk4 c9 (RowR.lt h_marks))) rfl ?_
     refine om rfl rfl (shO_nil ?_)
     subst hn5; exact le kr ⟨_, _, rfl, hk10, r45, rfl, rfl, (sc rfl (sc rfl (sc rfl (sc rfl (sn _)))))⟩
   obtain rfl := Lst.zero hk4 c9
   rw [oyezlaw05_fits_l2] at r6
   refine shW_exit (andThen_exit (andThen_exit ?_))
   refine inBlock_exit ?_
   exact mi kr ⟨r6, rfl, rfl, (sn _)⟩
 rintro e1 _ _ ⟨r46, rfl, rfl, he47⟩
 refine shW_env _ he47 ?_; clear he47
 rw [oyezlaw05_fits_j1] at r46
 refine wsr (oa rfl rfl (shO_nil (shW_ret ?_)))
 refine q_res1 Try.results23 (res_tmp rfl) (sr) ?_
 obtain rfl := inj1 r46
 exact rfl
set_option maxHeartbeats 1000000 in
theorem night_Sure_1_w {set_ : Int} {b_i : Nat} {i : Int} {mb_i : Nat × Nat} {F : FS} (hb_i : F b_i = some (.cells #[.int .i64 i] 3 mb_i)) {r : Bool} (hr : night_Sure_1 set_ i = some r) :
    SpecV Try.prog 76 #[.int .i64 set_, .pointer (some ⟨b_i, 0, none⟩)] F (.bool r) := by
 refine spec_of_shW (args := [.int .i64 set_, .pointer (some ⟨b_i, 0, none⟩)]) Try.func76 rfl Try.ntmps76 (Nat.le_of_ble_eq_true rfl) ?_
 intro K _ _; rw [night_Sure_1] at hr
 refine wsr (oa rfl rfl (nsr (om rfl rfl ?_)))
 refine ov (v_load Try.isAgg3 rfl (Has.frozen hb_i) rfl) rfl ?_
 obtain ⟨g1, r2⟩ := gd_ok hr; clear hr
 refine ov (v_shr rfl rfl g1) rfl ?_
 refine ov (v_and rfl rfl) rfl ?_
 refine ov (v_eql rfl rfl) rfl ?_
 refine oa rfl rfl (shO_nil (shW_ret ?_))
 refine q_res1 Try.results76 (res_tmp rfl) (sr) ?_
 obtain rfl := inj1 r2
 exact rfl
set_option maxHeartbeats 1000000 in
theorem night_Sure_w {listens_a : Option Addr} {listens_c : Nat} {listens : List (List Int)} {hours_a : Option Addr} {hours_c : Nat} {hours : List (List Int)} {F : FS} (h_listens : RowR 1 (slE 1 (iE .i64)) F listens_a listens_c listens) (h_hours : RowR 1 (slE 1 (iE .i64)) F hours_a hours_c hours) {r : List Int} {r2 : Int} (hr : night_Sure listens hours = some (r, r2)) :
    SH.Spec Try.prog 27 #[.agg #[.slice listens_a listens.length listens_c, .slice hours_a hours.length hours_c]] F [] fun F' L' v => ∃ (ra : Option Addr) (rn : Nat) (rc : Nat) (rL : LH), v = .tuple #[.slice ra rn rc, .int .i64 r2] ∧ L' = rL ++ [] ∧ SlR 0 3 1 (iE .i64) F' ra rn rc r rL := by
 refine spec_of_shW (args := [.agg #[.slice listens_a listens.length listens_c, .slice hours_a hours.length hours_c]]) Try.func27 rfl Try.ntmps27 (Nat.le_of_ble_eq_true rfl) ?_
 intro K _ _; rw [night_Sure] at hr
 refine wsr ?_
 refine o_box rfl rfl ?_; intro b1 hb1
 refine oa rfl rfl (oa rfl rfl (nsr ?_))
 refine ov (v_loadA (cs := #[.slice listens_a listens.length listens_c, .slice hours_a hours.length hours_c]) Try.isAgg26 Try.sizeOf26 rfl (Has.own 0 rfl) (Nat.le_of_ble_eq_true rfl) rfl) rfl ?_
 obtain ⟨d, n, h2, r3⟩ := b2_ok hr; clear hr
 refine o_call0 rfl Try.call55 rfl rfl rfl (night_told_w h_listens h_hours h2) ?_; rintro _ F4 _ hF5 hn6 ⟨v8, Lb10, rfl, rfl, hp9⟩
 refine shO_L (lp (ln rfl)) ?_
 refine kO (kf (fS fO) kr) ?_
 refine om rfl rfl (ox rfl rfl rfl (ox rfl rfl rfl (oa rfl rfl (oa rfl rfl (shO_nil (shW_seq (wsr (om rfl rfl ?_))))))))
 refine ov (v_neq rfl rfl) rfl ?_
 refine shO_nil ?_
 refine shW_condP rfl (fun c11 => ?_) (fun c11 => ?_)
 · have r12 := ite_t r3 c11; clear r3
   refine wsr (om rfl rfl (oa rfl rfl (oa rfl rfl (shO_nil ?_))))
   refine kW kn ?_
   refine shW_ret (andThen_ret ?_)
   refine q_res2 Try.results27 (res_tmp rfl) (res_tmp rfl) (sr) ?_
   obtain ⟨rfl, rfl⟩ := inj2 r12
   exact ⟨_, _, _, [], rfl, rfl, SlR.nil _ _ _ _ _⟩
 have r13 := ite_f r3 c11; clear r3
 refine shW_skip (wsr (oa rfl rfl (shO_nil ?_)))
 obtain ⟨out, h20, r21⟩ := b1_ok r13; clear r13
 refine shW_join (fun e1 F1 L1 => ∃ (a14 : Option Addr) (n18 : Nat) (c15 : Nat) (Lb16 : LH), FExt F4 F1 ∧ L1 = (Lb16 ++ []) ∧ e1.sub [(6, .slice a14 n18 c15)] ∧ SlR K.w0.heap.size 3 1 (iE .i64) F1 a14 n18 c15 out Lb16) ?_ ?_
 · clear r21
   refine wsr ?_
   refine ov (v_fieldAddr fa_26_0 rfl) rfl ?_
   refine ov (v_load Try.isAgg23 rfl (Has.own 0 rfl) rfl) rfl ?_
   refine ov (v_lenS Try.underlying23 rfl) rfl ?_
   refine om rfl rfl (shO_nil ?_)
   refine shW_block ?_
   obtain ⟨listens2, hours2, cried, rows, h22, r23⟩ := b4_ok h20; clear h20
   have h29 := hp9; rw [h22] at h29; obtain ⟨b24, m25, a30, c31, a33, c34, b36, es37, cl38, a40, c41, hv26, hz27, h32, h35, hR39, h42, hL28⟩ := ob_139_of h29; subst hv26; subst hL28
   refine shW_L (L' := [(b1, .cells #[.slice listens_a listens.length listens_c, .slice hours_a hours.length hours_c] 26 (0, 0)), (b36, .map es37 cl38)]) rfl ?_
   refine kW (kd kr) ?_
   obtain ⟨g49, r50⟩ := gd_ok r23; clear r23
   refine shW_lp (fun fu1 e1 F1 L1 => ∃ (k : Int), Ctr 0 (listens.length : Int) k fu1 ∧ ∃ (out2 : List Int) (a43 : Option Addr) (n47 : Nat) (c44 : Nat) (Lb45 : LH), night_Sure_l1 listens2 hours2 rows fu1 k out2 = some out ∧ FExt F4 F1 ∧ L1 = ((b36, .map es37 cl38) :: (Lb45 ++ [])) ∧ e1.sub [(4, .pointer (some ⟨b24, 0, none⟩)), (6, .slice a43 n47 c44), (21, .int .i64 (listens.length : Int)), (22, .int .i64 k)] ∧ SlR K.w0.heap.size 3 1 (iE .i64) F1 a43 n47 c44 out2 Lb45) _ (m0 (kc (ke kr)) ⟨_, Ctr.start _ _, [], none, 0, 0, [], r50, FExt.refl _, rfl, (sc rfl (sc rfl (sc rfl (sc rfl (sn _))))), SlR.nil _ _ _ _ _⟩) ?_
   rintro fu1 e1 F55 _ ⟨k, hk51, out2, a43, n47, c44, Lb45, r53, hF56, rfl, he54, hz46⟩
   refine shW_env _ he54 ?_; clear he54
   replace h32 := h32.mono (slE_ok (iE_ok _)) hF56
   replace h35 := h35.mono (slE_ok (iE_ok _)) hF56
   replace h42 := h42.mono (arE_ok (n := 64) (sz := 1) cB_ok) hF56
   replace hz27 := hF56 _ _ hz27
   refine wsr ?_
   refine ov (v_lssK rfl rfl) rfl ?_
   refine shO_nil (shW_seq ?_)
   refine shW_condP rfl (fun c58 => ?_) (fun c58 => ?_)
   · obtain ⟨fu1, rfl, hk59⟩ := Ctr.succ hk51 c58
     rw [night_Sure_l1] at r53
     refine shW_skip (shW_seq ?_)
     refine shW_block ?_
     refine wsr (om rfl rfl ?_)
     refine o_alloc rfl Try.zeroValue3 ?_; intro b60 hb60
     refine o_store (i := 0) Try.sizeOf3 rfl rfl rfl rfl (Nat.le_of_ble_eq_true rfl) ?_
     refine shO_L (L' := (b60, .cells #[.int .i64 k] 3 (0, 0)) :: ((b36, .map es37 cl38) :: (Lb45 ++ []))) rfl ?_
     refine nsr ?_
     refine ov (v_makeFunc rfl rfl) rfl ?_
     refine ov (v_build (v := .agg (#[.func (.func 76) #[] #[.pointer (some ⟨b60, 0, none⟩)]])) rfl (by intro w; kernel_rfl)) rfl ?_
     refine o_alloc rfl Try.zeroValue111 ?_; intro b61 hb61
     refine o_storeA (i := 0) Try.sizeOf111 rfl rfl rfl (by simp [Value.oneCell']) rfl (Nat.le_of_ble_eq_true rfl) ?_
     refine shO_L (L' := (b61, .cells (#[.func (.func 76) #[] #[.pointer (some ⟨b60, 0, none⟩)]]) 111 (0, 0)) :: ((b60, .cells #[.int .i64 k] 3 (0, 0)) :: ((b36, .map es37 cl38) :: (Lb45 ++ [])))) rfl ?_
     refine nsr (om rfl rfl ?_)
     refine ov (v_loadA (cs := #[.func (.func 76) #[] #[.pointer (some ⟨b60, 0, none⟩)]]) Try.isAgg111 Try.sizeOf111 rfl (Has.own 0 rfl) (Nat.le_of_ble_eq_true rfl) rfl) rfl ?_
     refine shO_freeze 1 rfl hb60 ?_; intro F62 hF63 hz64
     refine shO_L (L' := (b61, .cells (#[.func (.func 76) #[] #[.pointer (some ⟨b60, 0, none⟩)]]) 111 (0, 0)) :: ((b36, .map es37 cl38) :: (Lb45 ++ []))) rfl ?_
     replace h32 := h32.mono (slE_ok (iE_ok _)) hF63
     replace h35 := h35.mono (slE_ok (iE_ok _)) hF63
     replace h42 := h42.mono (arE_ok (n := 64) (sz := 1) cB_ok) hF63
     replace hz46 := hz46.mono (iE_ok _) hF63
     replace hz27 := hF63 _ _ hz27
     have hn65 : FnR Try.prog F62 76 #[] #[.pointer (some ⟨b60, 0, none⟩)] (iE .i64) Value.bool (fun xx_ : Int => night_Sure_1 xx_ k) := ⟨Try.call76, fun F2 h2 vs xx_ r ha hr => by obtain rfl := ha; exact night_Sure_1_w (h2 _ _ hz64) hr⟩
     obtain ⟨l, n2, h66, r67⟩ := b2_ok r53; clear r53
     refine o_call0 rfl Try.call56 rfl rfl rfl (night_desk_first_w hz27 h32 h35 h42 hn65 h66) ?_; rintro _ F68 _ hF69 hn70 ⟨a72, n76, c73, Lb74, rfl, rfl, hz75, hq78⟩
     replace hz46 := hz46.mono (iE_ok _) hF69
     replace hz64 := hF69 _ _ hz64
     refine shO_L (lp (ln rfl)) ?_
     refine kO (kf (fS fO) (kf (fS fO) kr)) ?_
     refine om rfl rfl (ox rfl rfl rfl (ox rfl rfl rfl (oa rfl rfl (oa rfl rfl (nsr (om rfl rfl ?_))))))
     refine ov ((v_eqlNil Try.underlying27 rfl).b (nilq_dec hq78)) rfl ?_
     refine shO_nil ?_
     refine shW_condP rfl (fun c79 => ?_) (fun c79 => ?_)
     · have r80 := ite_t r67 c79; clear r67
       refine shW_region (om rfl rfl ?_)
       refine ov (v_load Try.isAgg3 rfl (Has.frozen hz64) rfl) rfl ?_
       refine o_buildSlice (cs := #[.int .i64 k]) rfl rfl (buildSlice_all slt_27 [.int .i64 k] rfl (by decide) (by simp [Value.cells]) (by decide)) ?_; intro b81 hb81
       obtain ⟨out3, h82, g83, r84⟩ := ap_ok r80; clear r80
       refine o_appZ (xs := out2) (ys := [k]) (zs := out3) rfl slt_27 rfl rfl (Nat.le_refl _) (fun _ => .c (.c (.c (.s .h)))) hz46 (SrcR.box (vss := [[.int .i64 k]]) (ys := [k]) 0 rfl (iE_ok _) (.cons rfl .nil) rfl rfl) h82 g83 (by decide) ?_; intro a85 n89 c86 Lb87 hz88
       refine kO (kd kr) ?_
       refine oa rfl rfl (shO_nil (inBlock_n (id := 1) (shW_region ?_)))
       refine ov (v_add rfl rfl (Ctr.r64 hk51 c58 g49)) rfl ?_
       refine om rfl rfl (shO_nil ?_)
       exact le (kd (kc (kx kr))) ⟨_, hk59, out3, a85, n89, c86, Lb87, r84, ((hF56.trans hF63).trans hF69), rfl, (sc rfl (sc rfl (sc rfl (sc rfl (sn _))))), hz88⟩
     have r91 := ite_f r67 c79; clear r67
     refine shW_skip (inBlock_n (id := 1) (shW_region ?_))
     refine ov (v_add rfl rfl (Ctr.r64 hk51 c58 g49)) rfl ?_
     refine om rfl rfl (shO_nil ?_)
     exact le (kd (kc (kx kr))) ⟨_, hk59, out2, a43, n47, c44, Lb45, r91, ((hF56.trans hF63).trans hF69), rfl, (sc rfl (sc rfl (sc rfl (sc rfl (sn _))))), hz46⟩
   obtain rfl := Ctr.zero hk51 c58
   rw [night_Sure_l1] at r53
   refine shW_exit (andThen_exit (andThen_exit ?_))
   refine inBlock_exit ?_
   obtain rfl := inj1 r53
   exact mi (kd kr) ⟨a43, n47, c44, Lb45, hF56, rfl, (sc rfl (sn _)), hz46⟩
 rintro e1 F93 _ ⟨a14, n18, c15, Lb16, hF94, rfl, he92, hz17⟩
 refine shW_env _ he92 ?_; clear he92
 refine wsr (om rfl rfl (oa rfl rfl (oa rfl rfl (shO_nil (shW_ret ?_)))))
 refine q_res2 Try.results27 (res_tmp rfl) (res_tmp rfl) (sr) ?_
 obtain ⟨rfl, rfl⟩ := inj2 r21
 exact ⟨_, _, _, _, rfl, rfl, hz17.any⟩
set_option maxHeartbeats 1000000 in
theorem cmp_isNaN_int_w {x : Int} {F : FS} {r : Bool} (hr : cmp_isNaN_int x = some r) :
    SpecV Try.prog 113 #[.int .i64 x] F (.bool r) := by
 refine spec_of_shW (args := [.int .i64 x]) Try.func113 rfl Try.ntmps113 (Nat.le_of_ble_eq_true rfl) ?_
 intro K _ _; rw [cmp_isNaN_int] at hr
 refine wsr (oa rfl rfl (nsr (om rfl rfl (om rfl rfl ?_))))
 refine ov (v_neq rfl rfl) rfl ?_
 refine oa rfl rfl (shO_nil (shW_ret ?_))
 refine q_res1 Try.results113 (res_tmp rfl) (sr) ?_
 obtain rfl := inj1 hr
 exact rfl
set_option maxHeartbeats 1000000 in
theorem cmp_Less_int_w {x : Int} {y : Int} {F : FS} {r : Bool} (hr : cmp_Less_int x y = some r) :
    SpecV Try.prog 91 #[.int .i64 x, .int .i64 y] F (.bool r) := by
 refine spec_of_shW (args := [.int .i64 x, .int .i64 y]) Try.func91 rfl Try.ntmps91 (Nat.le_of_ble_eq_true rfl) ?_
 intro K _ _; rw [cmp_Less_int] at hr
 refine wsr (oa rfl rfl (nsr (om rfl rfl ?_)))
 obtain ⟨ok, h1, r2⟩ := b1_ok hr; clear hr
 refine o_callV rfl Try.call113 rfl rfl rfl (cmp_isNaN_int_w h1) ?_
 refine om rfl rfl ?_
 rcases bool_two ok with c3 | c3
 · have r4 := bt r2 c3; clear r2
   refine shO_on (b := true) 7 rfl (EnvB rfl c3) (om rfl rfl (shO_on (b := true) 7 rfl (EnvB rfl c3) ?_))
   obtain ⟨ok2, h5, r6⟩ := b1_ok r4; clear r4
   refine o_callV rfl Try.call113 rfl rfl rfl (cmp_isNaN_int_w h5) ?_
   refine shO_on (b := true) 7 rfl (EnvB rfl c3) ?_
   refine ov (v_notB rfl) rfl ?_
   refine ov (v_pick_t (evB rfl c3) rfl) rfl ?_
   refine om rfl rfl ?_
   rcases bool_two (!ok2) with c7 | c7
   · have r8 := bt r6 c7; clear r6
     refine shO_off (b' := true) 12 rfl (EnvB rfl c7) rfl rfl (shO_off (b' := true) 12 rfl (EnvB rfl c7) rfl rfl (shO_off (b' := true) 12 rfl (EnvB rfl c7) rfl rfl ?_))
     refine ov (v_pick_t (evB rfl c7) rfl) rfl ?_
     refine oa rfl rfl (shO_nil (shW_ret ?_))
     refine q_res1 Try.results91 (res_tmp rfl) (sr) ?_
     obtain rfl := inj1 r8
     exact rfl
   have r9 := bf r6 c7; clear r6
   refine shO_on (b := false) 12 rfl (EnvB rfl c7) (om rfl rfl (shO_on (b := false) 12 rfl (EnvB rfl c7) (om rfl rfl (shO_on (b := false) 12 rfl (EnvB rfl c7) ?_))))
   refine ov (v_lssK rfl rfl) rfl ?_
   refine ov (v_pick_f (evB rfl c7) rfl) rfl ?_
   refine oa rfl rfl (shO_nil (shW_ret ?_))
   refine q_res1 Try.results91 (res_tmp rfl) (sr) ?_
   obtain rfl := inj1 r9
   exact rfl
 have r10 := bf r2 c3; clear r2
 refine shO_off (b' := false) 7 rfl (EnvB rfl c3) rfl rfl (shO_off (b' := false) 7 rfl (EnvB rfl c3) rfl rfl (shO_off (b' := false) 7 rfl (EnvB rfl c3) rfl rfl ?_))
 refine ov (v_pick_f (evB rfl c3) rfl) rfl ?_
 refine om rfl rfl (shO_on (b := false) 12 rfl rfl (om rfl rfl (shO_on (b := false) 12 rfl rfl (om rfl rfl (shO_on (b := false) 12 rfl rfl ?_)))))
 refine ov (v_lssK rfl rfl) rfl ?_
 refine ov (v_pick_f rfl rfl) rfl ?_
 refine oa rfl rfl (shO_nil (shW_ret ?_))
 refine q_res1 Try.results91 (res_tmp rfl) (sr) ?_
 obtain rfl := inj1 r10
 exact rfl
set_option maxHeartbeats 1000000 in
theorem slices_IsSorted_int_int_w {x_a : Option Addr} {x_c : Nat} {x : List Int} {F : FS} (h_x : RowR 1 (iE .i64) F x_a x_c x) {r : Bool} (hr : slices_IsSorted_int_int x = some r) :
    SpecV Try.prog 37 #[.slice x_a x.length x_c] F (.bool r) := by
 refine spec_of_shW (args := [.slice x_a x.length x_c]) Try.func37 rfl Try.ntmps37 (Nat.le_of_ble_eq_true rfl) ?_
 intro K _ _; rw [slices_IsSorted_int_int] at hr
 refine wsr (oa rfl rfl (shO_nil ?_))
 refine shW_join (fun e1 F1 L1 => slices_IsSorted_int_int_j1 = some r ∧ F = F1 ∧ L1 = [] ∧ e1.sub []) ?_ ?_
 · refine wsr (om rfl rfl ?_)
   refine ov (v_lenS Try.underlying27 rfl) rfl ?_
   obtain ⟨g1, r2⟩ := gd_ok hr; clear hr
   refine ov (v_sub rfl rfl g1) rfl ?_
   refine oa rfl rfl (shO_nil ?_)
   refine shW_block ?_
   refine shW_lp (fun fu2 e1 F1 L1 => ∃ (i : Int), slices_IsSorted_int_int_l2 x fu2 i = some r ∧ F = F1 ∧ L1 = [] ∧ e1.sub [(0, .slice x_a x.length x_c), (3, .int .i64 i)]) FU (m0 kr ⟨(x.length : Int) - 1, r2, rfl, rfl, (sc rfl (sc rfl (sn _)))⟩) ?_
   rintro fu2 e1 _ _ ⟨i, r5, rfl, rfl, he6⟩
   refine shW_env _ he6 ?_; clear he6
   rcases fu2 with _ | fu2
   · rw [slices_IsSorted_int_int_l2] at r5; cases r5
   rw [slices_IsSorted_int_int_l2] at r5
   refine shW_seq (wsr (om rfl rfl ?_))
   refine ov (v_gtrK rfl rfl) rfl ?_
   refine shO_nil ?_
   refine shW_condP rfl (fun c7 => ?_) (fun c7 => ?_)
   · have r8 := ite_t r5 c7; clear r5
     refine shW_skip (shW_seq ?_)
     refine shW_block ?_
     refine wsd (by kernel_rfl) (by kernel_rfl) (by kernel_rfl) ?_
     refine qm rfl rfl (qm rfl rfl ?_)
     obtain ⟨x2, g9, hx10, r11⟩ := ix_ok r8; clear r8
     obtain ⟨b12, o13, c14, vs15, ha16, hs17, hle18, rfl, hl19, hc20⟩ := RowR.at (iE_ok _) h_x ([]) g9.1 hx10
     refine qv (v_indexO Try.underlying27 Try.sizeOf3 rfl ha16 rfl g9) rfl ?_
     refine qv (v_load Try.isAgg3 rfl hs17 (hc20 0 (by decide))) rfl ?_
     refine qm rfl rfl (qm rfl rfl ?_)
     obtain ⟨g21, r22⟩ := gd_ok r11; clear r11
     refine qv (v_sub rfl rfl g21) rfl ?_
     obtain ⟨x3, g23, hx24, r25⟩ := ix_ok r22; clear r22
     obtain ⟨b26, o27, c28, vs29, ha30, hs31, hle32, rfl, hl33, hc34⟩ := RowR.at (iE_ok _) h_x ([]) g23.1 hx24
     refine qv (v_indexO Try.underlying27 Try.sizeOf3 rfl ha30 rfl g23) rfl ?_
     refine qv (v_load Try.isAgg3 rfl hs31 (hc34 0 (by decide))) rfl ?_
     obtain ⟨ok, h35, r36⟩ := b1_ok r25; clear r25
     refine shQ_callV rfl Try.call91 rfl rfl rfl (cmp_Less_int_w h35) ?_
     refine shQ_nil ?_
     refine shW_cond rfl (fun c37 => ?_) (fun c37 => ?_)
     · have r38 := bt r36 c37; clear r36
       refine wsr (oa rfl rfl (shO_nil (shW_ret (inBlock_ret (andThen_ret (andThen_ret (inBlock_ret (andThen_ret ?_))))))))
       refine q_res1 Try.results37 (res_tmp rfl) (sr) ?_
       obtain rfl := inj1 r38
       exact rfl
     have r39 := bf r36 c37; clear r36
     refine shW_skip (inBlock_n (id := 1) (shW_region (om rfl rfl ?_)))
     obtain ⟨g40, r41⟩ := gd_ok r39; clear r39
     refine ov (v_sub rfl rfl g40) rfl ?_
     refine oa rfl rfl (shO_nil ?_)
     exact le kr ⟨i - 1, r41, rfl, rfl, (sc rfl (sc rfl (sn _)))⟩
   have r42 := ite_f r5 c7; clear r5
   refine shW_exit (andThen_exit (andThen_exit ?_))
   refine inBlock_exit ?_
   exact mi kr ⟨r42, rfl, rfl, (sn _)⟩
 rintro e1 _ _ ⟨r43, rfl, rfl, he44⟩
 refine shW_env _ he44 ?_; clear he44
 rw [slices_IsSorted_int_int_j1] at r43
 refine wsr (oa rfl rfl (shO_nil (shW_ret ?_)))
 refine q_res1 Try.results37 (res_tmp rfl) (sr) ?_
 obtain rfl := inj1 r43
 exact rfl
set_option maxHeartbeats 1000000 in
theorem oyezlaw05_tried_w {b_b : Nat} {metal_a : Option Addr} {metal_c : Nat} {metal : List Int} {at_ : Int} {turn : Int} {listens_a : Option Addr} {listens_c : Nat} {listens : List (List Int)} {hours_a : Option Addr} {hours_c : Nat} {hours : List (List Int)} {F : FS} (h_metal : RowR 1 (iE .u8) F metal_a metal_c metal) (h_listens : RowR 1 (slE 1 (iE .i64)) F listens_a listens_c listens) (h_hours : RowR 1 (slE 1 (iE .i64)) F hours_a hours_c hours) {r : List Int} {r2 : Bool} {r3 : Int} {r4 : Int} (hr : oyezlaw05_tried metal at_ turn listens hours = some (r, r2, r3, r4)) :
    SH.Spec Try.prog 41 #[.pointer (some ⟨b_b, 0, none⟩), .agg #[.slice listens_a listens.length listens_c, .slice hours_a hours.length hours_c]] F [(b_b, .cells #[.slice metal_a metal.length metal_c, .int .i64 at_, .int .u32 turn] 104 (0, 0))] fun F' L' v => ∃ (ra : Option Addr) (rn : Nat) (rc : Nat) (rL : LH), v = .tuple #[.slice ra rn rc, .bool r2] ∧ L' = (b_b, .cells #[.slice metal_a metal.length metal_c, .int .i64 r3, .int .u32 r4] 104 (0, 0)) :: (rL ++ []) ∧ SlR 0 3 1 (iE .i64) F' ra rn rc r rL := by
 refine spec_of_shW (args := [.pointer (some ⟨b_b, 0, none⟩), .agg #[.slice listens_a listens.length listens_c, .slice hours_a hours.length hours_c]]) Try.func41 rfl Try.ntmps41 (Nat.le_of_ble_eq_true rfl) ?_
 intro K _ _; rw [oyezlaw05_tried] at hr
 refine wsr ?_
 refine o_box rfl rfl ?_; intro b1 hb1
 refine oa rfl rfl (oa rfl rfl (nsr (oa rfl rfl (nsr (oa rfl rfl (shO_nil ?_))))))
 refine shW_join (fun e1 F1 L1 => ∃ (out : List Int) (b_at : Int) (b_turn : Int) (a2 : Option Addr) (n6 : Nat) (c3 : Nat) (Lb4 : LH), oyezlaw05_tried_j1 out b_at b_turn = some (r, r2, r3, r4) ∧ FExt F F1 ∧ L1 = ((b_b, .cells #[.slice metal_a metal.length metal_c, .int .i64 b_at, .int .u32 b_turn] 104 (0, 0)) :: (Lb4 ++ [])) ∧ e1.sub [(6, .slice a2 n6 c3)] ∧ SlR K.w0.heap.size 3 1 (iE .i64) F1 a2 n6 c3 out Lb4) ?_ ?_
 · refine wsr ?_
   refine ov (v_fieldAddr fa_26_1 rfl) rfl ?_
   refine ov (v_load Try.isAgg24 rfl (Has.own 0 rfl) rfl) rfl ?_
   refine ov (v_lenS Try.underlying24 rfl) rfl ?_
   refine om rfl rfl (shO_nil ?_)
   refine shW_block ?_
   refine shW_lp (fun fu2 e1 F1 L1 => ∃ (tl : List (List Int)) (k : Int), tl.length = fu2 ∧ Lst hours k tl ∧ ∃ (b_at2 : Int) (b_turn2 : Int) (out2 : List Int) (before : Int) (a8 : Option Addr) (n12 : Nat) (c9 : Nat) (Lb10 : LH), oyezlaw05_tried_l2 metal listens hours tl b_at2 b_turn2 out2 before = some (r, r2, r3, r4) ∧ FExt F F1 ∧ L1 = ((b1, .cells #[.slice listens_a listens.length listens_c, .slice hours_a hours.length hours_c] 26 (0, 0)) :: ((b_b, .cells #[.slice metal_a metal.length metal_c, .int .i64 b_at2, .int .u32 b_turn2] 104 (0, 0)) :: (Lb10 ++ []))) ∧ e1.sub [(0, .pointer (some ⟨b_b, 0, none⟩)), (3, .pointer (some ⟨b1, 0, none⟩)), (6, .slice a8 n12 c9), (7, .int .i64 before), (12, .slice hours_a hours.length hours_c), (13, .int .i64 (hours.length : Int)), (14, .int .i64 k)] ∧ SlR K.w0.heap.size 3 1 (iE .i64) F1 a8 n12 c9 out2 Lb10) _ (m0 (kc (kc (ke kr))) ⟨_, _, rfl, Lst.start _, at_, turn, [], 0, none, 0, 0, [], hr, FExt.refl _, rfl, (sc rfl (sc rfl (sc rfl (sc rfl (sc rfl (sc rfl (sc rfl (sn _)))))))), SlR.nil _ _ _ _ _⟩) ?_
   rintro fu2 e1 F18 _ ⟨tl, k, hn15, hk14, b_at2, b_turn2, out2, before, a8, n12, c9, Lb10, r16, hF19, rfl, he17, hz11⟩
   refine shW_env _ he17 ?_; clear he17
   replace h_metal := h_metal.mono (iE_ok _) hF19
   replace h_listens := h_listens.mono (slE_ok (iE_ok _)) hF19
   replace h_hours := h_hours.mono (slE_ok (iE_ok _)) hF19
   refine wsr ?_
   refine ov (v_lssK rfl rfl) rfl ?_
   refine shO_nil (shW_seq ?_)
   refine shW_condP rfl (fun c21 => ?_) (fun c21 => ?_)
   · obtain ⟨x, tl2, rfl, hx23, g24, hk22⟩ := Lst.succ hk14 c21
     rw [oyezlaw05_tried_l2] at r16
     refine shW_skip ?_
     refine shW_join (fun e1 F1 L1 => ∃ (b_at3 : Int) (b_turn3 : Int) (out3 : List Int) (before2 : Int) (a25 : Option Addr) (n29 : Nat) (c26 : Nat) (Lb27 : LH), oyezlaw05_tried_j3 (oyezlaw05_tried_l2 metal listens hours tl2) b_at3 b_turn3 out3 before2 = some (r, r2, r3, r4) ∧ FExt F18 F1 ∧ L1 = ((b_b, .cells #[.slice metal_a metal.length metal_c, .int .i64 b_at3, .int .u32 b_turn3] 104 (0, 0)) :: ((b1, .cells #[.slice listens_a listens.length listens_c, .slice hours_a hours.length hours_c] 26 (0, 0)) :: (Lb27 ++ []))) ∧ e1.sub [(0, .pointer (some ⟨b_b, 0, none⟩)), (3, .pointer (some ⟨b1, 0, none⟩)), (6, .slice a25 n29 c26), (7, .int .i64 before2), (12, .slice hours_a hours.length hours_c), (13, .int .i64 (hours.length : Int)), (14, .int .i64 k)] ∧ SlR K.w0.heap.size 3 1 (iE .i64) F1 a25 n29 c26 out3 Lb27) ?_ ?_
     · refine shW_block ?_
       refine wsr ?_
       obtain ⟨b31, o32, c33, vs34, ha35, hs36, hle37, ⟨a40, c41, rfl, h42⟩, hl38, hc39⟩ := RowR.at (slE_ok (iE_ok _)) h_hours ((b1, .cells #[.slice listens_a listens.length listens_c, .slice hours_a hours.length hours_c] 26 (0, 0)) :: ((b_b, .cells #[.slice metal_a metal.length metal_c, .int .i64 b_at2, .int .u32 b_turn2] 104 (0, 0)) :: (Lb10 ++ []))) g24.1 hx23
       refine ov (v_indexO Try.underlying24 Try.sizeOf40 rfl ha35 rfl g24) rfl ?_
       refine ov (v_load Try.isAgg40 rfl hs36 (hc39 0 (by decide))) rfl ?_
       refine oa rfl rfl (nsr (om rfl rfl (oa rfl rfl (shO_nil ?_))))
       obtain ⟨b_at4, b_turn4, set_, h43, r44⟩ := b3_ok r16; clear r16
       refine shW_join (fun e1 F1 L1 => FExt F18 F1 ∧ L1 = ((b_b, .cells #[.slice metal_a metal.length metal_c, .int .i64 b_at4, .int .u32 b_turn4] 104 (0, 0)) :: ((b1, .cells #[.slice listens_a listens.length listens_c, .slice hours_a hours.length hours_c] 26 (0, 0)) :: (Lb10 ++ []))) ∧ e1.sub [(0, .pointer (some ⟨b_b, 0, none⟩)), (3, .pointer (some ⟨b1, 0, none⟩)), (6, .slice a8 n12 c9), (9, .slice a40 x.length c41), (10, .int .i64 set_), (12, .slice hours_a hours.length hours_c), (13, .int .i64 (hours.length : Int)), (14, .int .i64 k)]) ?_ ?_
       · clear r44
         refine wsr (om rfl rfl ?_)
         obtain ⟨ok, at_2, turn2, h45, r46⟩ := b3_ok h43; clear h43
         refine o_callG (Lb := [(b_b, .cells #[.slice metal_a metal.length metal_c, .int .i64 b_at2, .int .u32 b_turn2] 104 (0, 0))]) (Lr := (b1, .cells #[.slice listens_a listens.length listens_c, .slice hours_a hours.length hours_c] 26 (0, 0)) :: (Lb10 ++ [])) rfl Try.call44 rfl rfl rfl (((fC fO).trans (pC pR))) (oyezkit_Bell_Seldom_w h_metal h45) ?_; rintro _ F47 _ hF48 hd50 hn49 ⟨rfl, rfl⟩
         replace h_metal := h_metal.mono (iE_ok _) hF48
         refine shO_L (lb (ln rfl)) ?_
         refine shO_nil ?_
         refine shW_cond rfl (fun c51 => ?_) (fun c51 => ?_)
         · have r52 := bt r46 c51; clear r46
           refine shW_region (om rfl rfl ?_)
           refine ov (v_fieldAddr fa_26_0 rfl) rfl ?_
           refine ov (v_load Try.isAgg23 rfl (Has.own 1 rfl) rfl) rfl ?_
           refine ov (v_lenS Try.underlying23 rfl) rfl ?_
           obtain ⟨g53, r54⟩ := gd_ok r52; clear r52
           refine ov (v_shl rfl rfl g53) rfl ?_
           obtain ⟨g55, r56⟩ := gd_ok r54; clear r54
           refine ov (v_sub rfl rfl g55) rfl ?_
           obtain ⟨n, at_3, turn3, h57, r58⟩ := b3_ok r56; clear r56
           refine o_callG (Lb := [(b_b, .cells #[.slice metal_a metal.length metal_c, .int .i64 at_2, .int .u32 turn2] 104 (0, 0))]) (Lr := (b1, .cells #[.slice listens_a listens.length listens_c, .slice hours_a hours.length hours_c] 26 (0, 0)) :: (Lb10 ++ [])) rfl Try.call19 rfl rfl rfl (pR) (oyezkit_Bell_Stroke_w h_metal h57) ?_; rintro _ F59 _ hF60 hd62 hn61 ⟨rfl, rfl⟩
           refine shO_L (lb (ln rfl)) ?_
           refine oa rfl rfl (shO_nil ?_)
           obtain ⟨rfl, rfl, rfl⟩ := inj3 r58
           exact mi kr ⟨(hF48.trans hF60), rfl, (sc rfl (sc rfl (sc rfl (sc rfl (sc rfl (sc rfl (sc rfl (sc rfl (sn _)))))))))⟩
         have r63 := bf r46 c51; clear r46
         refine shW_skip ?_
         obtain ⟨rfl, rfl, rfl⟩ := inj3 r63
         exact mi kr ⟨hF48, rfl, (sc rfl (sc rfl (sc rfl (sc rfl (sc rfl (sc rfl (sc rfl (sc rfl (sn _)))))))))⟩
       rintro e1 F65 _ ⟨hF66, rfl, he64⟩
       refine shW_env _ he64 ?_; clear he64
       replace h_listens := h_listens.mono (slE_ok (iE_ok _)) hF66
       replace h_hours := h_hours.mono (slE_ok (iE_ok _)) hF66
       replace h42 := h42.mono (iE_ok _) hF66
       replace hz11 := hz11.mono (iE_ok _) hF66
       obtain ⟨set_2, h67, r68⟩ := b1_ok r44; clear r44
       refine shW_join (fun e1 F1 L1 => F65 = F1 ∧ L1 = ((b_b, .cells #[.slice metal_a metal.length metal_c, .int .i64 b_at4, .int .u32 b_turn4] 104 (0, 0)) :: ((b1, .cells #[.slice listens_a listens.length listens_c, .slice hours_a hours.length hours_c] 26 (0, 0)) :: (Lb10 ++ []))) ∧ e1.sub [(0, .pointer (some ⟨b_b, 0, none⟩)), (3, .pointer (some ⟨b1, 0, none⟩)), (6, .slice a8 n12 c9), (9, .slice a40 x.length c41), (10, .int .i64 set_2), (12, .slice hours_a hours.length hours_c), (13, .int .i64 (hours.length : Int)), (14, .int .i64 k)]) ?_ ?_
       · clear r68
         refine wsr ?_
         refine ov (v_fieldAddr fa_26_0 rfl) rfl ?_
         refine ov (v_load Try.isAgg23 rfl (Has.own 1 rfl) rfl) rfl ?_
         refine ov (v_lenS Try.underlying23 rfl) rfl ?_
         obtain ⟨g69, r70⟩ := gd_ok h67; clear h67
         refine ov (v_shl rfl rfl g69) rfl ?_
         refine om rfl rfl (shO_nil ?_)
         refine shW_block ?_
         obtain ⟨g71, r72⟩ := gd_ok r70; clear r70
         refine shW_lp (fun fu4 e1 F1 L1 => ∃ (k2 : Int), Ctr 0 (shl 1 (listens.length : Int)) k2 fu4 ∧ ∃ (set_3 : Int), oyezlaw05_tried_l4 listens hours x fu4 set_3 = some set_2 ∧ F65 = F1 ∧ L1 = ((b_b, .cells #[.slice metal_a metal.length metal_c, .int .i64 b_at4, .int .u32 b_turn4] 104 (0, 0)) :: ((b1, .cells #[.slice listens_a listens.length listens_c, .slice hours_a hours.length hours_c] 26 (0, 0)) :: (Lb10 ++ []))) ∧ e1.sub [(0, .pointer (some ⟨b_b, 0, none⟩)), (3, .pointer (some ⟨b1, 0, none⟩)), (6, .slice a8 n12 c9), (9, .slice a40 x.length c41), (10, .int .i64 set_3), (12, .slice hours_a hours.length hours_c), (13, .int .i64 (hours.length : Int)), (14, .int .i64 k), (31, .int .i64 (shl 1 (listens.length : Int))), (32, .int .i64 k2)]) _ (m0 kr ⟨_, Ctr.start _ _, set_, r72, rfl, rfl, (sc rfl (sc rfl (sc rfl (sc rfl (sc rfl (sc rfl (sc rfl (sc rfl (sc rfl (sc rfl (sn _)))))))))))⟩) ?_
         rintro fu4 e1 _ _ ⟨k2, hk73, set_3, r75, rfl, rfl, he76⟩
         refine shW_env _ he76 ?_; clear he76
         refine wsr ?_
         refine ov (v_lssK rfl rfl) rfl ?_
         refine shO_nil (shW_seq ?_)
         refine shW_condP rfl (fun c78 => ?_) (fun c78 => ?_)
         · obtain ⟨fu4, rfl, hk79⟩ := Ctr.succ hk73 c78
           rw [oyezlaw05_tried_l4] at r75
           refine shW_skip (shW_seq ?_)
           refine shW_block ?_
           refine shW_seq (wsr ?_)
           refine ov (v_loadA (cs := #[.slice listens_a listens.length listens_c, .slice hours_a hours.length hours_c]) Try.isAgg26 Try.sizeOf26 rfl (Has.own 1 rfl) (Nat.le_of_ble_eq_true rfl) rfl) rfl ?_
           refine om rfl rfl (om rfl rfl ?_)
           obtain ⟨ok2, h80, r81⟩ := b1_ok r75; clear r75
           refine o_callV rfl Try.call23 rfl rfl rfl (oyezlaw05_fits_w h_listens h_hours h42 h80) ?_
           refine shO_nil ?_
           refine shW_cond rfl (fun c82 => ?_) (fun c82 => ?_)
           · have r83 := bt r81 c82; clear r81
             refine shW_exit (andThen_exit ?_)
             refine inBlock_other rfl ?_
             refine andThen_exit (andThen_exit ?_)
             refine inBlock_exit ?_
             obtain rfl := inj1 r83
             exact mi kr ⟨rfl, rfl, (sc rfl (sc rfl (sc rfl (sc rfl (sc rfl (sc rfl (sc rfl (sc rfl (sn _)))))))))⟩
           have r84 := bf r81 c82; clear r81
           refine shW_skip (shW_region (om rfl rfl ?_))
           obtain ⟨g85, r86⟩ := gd_ok r84; clear r84
           refine ov (v_add rfl rfl g85) rfl ?_
           refine ov (v_fieldAddr fa_26_0 rfl) rfl ?_
           refine ov (v_load Try.isAgg23 rfl (Has.own 1 rfl) rfl) rfl ?_
           refine ov (v_lenS Try.underlying23 rfl) rfl ?_
           obtain ⟨g87, r88⟩ := gd_ok r86; clear r86
           refine ov (v_shl rfl rfl g87) rfl ?_
           obtain ⟨g89, r90⟩ := gd_ok r88; clear r88
           refine ov (v_remT rfl rfl g89) rfl ?_
           obtain ⟨set_4, h91, r92⟩ := bv_ok r90; clear r90
           refine ov ((v_assign rfl).i h91) rfl ?_
           refine shO_nil (inBlock_n (id := 3) (shW_region ?_))
           refine ov (v_add rfl rfl (Ctr.r64 hk73 c78 g71)) rfl ?_
           refine om rfl rfl (shO_nil ?_)
           exact le kr ⟨_, hk79, set_4, r92, rfl, rfl, (sc rfl (sc rfl (sc rfl (sc rfl (sc rfl (sc rfl (sc rfl (sc rfl (sc rfl (sc rfl (sn _)))))))))))⟩
         obtain rfl := Ctr.zero hk73 c78
         rw [oyezlaw05_tried_l4] at r75
         refine shW_exit (andThen_exit (andThen_exit ?_))
         refine inBlock_exit ?_
         obtain rfl := inj1 r75
         exact mi kr ⟨rfl, rfl, (sc rfl (sc rfl (sc rfl (sc rfl (sc rfl (sc rfl (sc rfl (sc rfl (sn _)))))))))⟩
       rintro e1 _ _ ⟨rfl, rfl, he93⟩
       refine shW_env _ he93 ?_; clear he93
       refine shW_seq (wsr ?_)
       refine ov (v_loadA (cs := #[.slice listens_a listens.length listens_c, .slice hours_a hours.length hours_c]) Try.isAgg26 Try.sizeOf26 rfl (Has.own 1 rfl) (Nat.le_of_ble_eq_true rfl) rfl) rfl ?_
       refine om rfl rfl (om rfl rfl ?_)
       obtain ⟨ok3, h94, r95⟩ := b1_ok r68; clear r68
       refine o_callV rfl Try.call23 rfl rfl rfl (oyezlaw05_fits_w h_listens h_hours h42 h94) ?_
       refine ov (v_notB rfl) rfl ?_
       refine shO_nil ?_
       refine shW_cond rfl (fun c96 => ?_) (fun c96 => ?_)
       · have r97 := bt r95 c96; clear r95
         refine wsr (oa rfl rfl (oa rfl rfl (shO_nil ?_)))
         refine kW (kc kn) ?_
         refine shW_ret (andThen_ret (inBlock_ret (andThen_ret (andThen_ret (inBlock_ret (andThen_ret ?_))))))
         refine q_res2 Try.results41 (res_tmp rfl) (res_tmp rfl) (sr) ?_
         obtain ⟨rfl, rfl, rfl, rfl⟩ := inj4 r97
         exact ⟨_, _, _, [], rfl, rfl, SlR.nil _ _ _ _ _⟩
       have r98 := bf r95 c96; clear r95
       refine shW_skip (shW_region (om rfl rfl (om rfl rfl ?_)))
       refine o_buildSlice (cs := #[.int .i64 set_2]) rfl rfl (buildSlice_all slt_27 [.int .i64 set_2] rfl (by decide) (by simp [Value.cells]) (by decide)) ?_; intro b99 hb99
       obtain ⟨out4, h100, g101, r102⟩ := ap_ok r98; clear r98
       refine o_appZ (xs := out2) (ys := [set_2]) (zs := out4) rfl slt_27 rfl rfl (Nat.le_refl _) (fun _ => .c (.c (.c .h))) hz11 (SrcR.box (vss := [[.int .i64 set_2]]) (ys := [set_2]) 0 rfl (iE_ok _) (.cons rfl .nil) rfl rfl) h100 g101 (by decide) ?_; intro a103 n107 c104 Lb105 hz106
       refine kO (kd kr) ?_
       refine om rfl rfl (oa rfl rfl (oa rfl rfl (shO_nil (inBlock_n (id := 1) ?_))))
       exact mi kr ⟨b_at4, b_turn4, out4, set_2, a103, n107, c104, Lb105, r102, hF66, rfl, (sc rfl (sc rfl (sc rfl (sc rfl (sc rfl (sc rfl (sc rfl (sn _)))))))), hz106⟩
     rintro e1 F111 _ ⟨b_at3, b_turn3, out3, before2, a25, n29, c26, Lb27, r109, hF112, rfl, he110, hz28⟩
     refine shW_env _ he110 ?_; clear he110
     replace h_hours := h_hours.mono (slE_ok (iE_ok _)) hF112
     rw [oyezlaw05_tried_j3] at r109
     refine shW_region ?_
     refine ov (v_add rfl rfl (Lst.r64 hk14 c21 (RowR.lt h_hours))) rfl ?_
     refine om rfl rfl (shO_nil ?_)
     subst hn15; exact le (kf (fC fO) kr) ⟨_, _, rfl, hk22, b_at3, b_turn3, out3, before2, a25, n29, c26, Lb27, r109, (hF19.trans hF112), rfl, (sc rfl (sc rfl (sc rfl (sc rfl (sc rfl (sc rfl (sc rfl (sn _)))))))), hz28⟩
   obtain rfl := Lst.zero hk14 c21
   rw [oyezlaw05_tried_l2] at r16
   refine shW_exit (andThen_exit (andThen_exit ?_))
   refine inBlock_exit ?_
   exact mi (kd kr) ⟨out2, b_at2, b_turn2, a8, n12, c9, Lb10, r16, hF19, rfl, (sc rfl (sn _)), hz11⟩
 rintro e1 F115 _ ⟨out, b_at, b_turn, a2, n6, c3, Lb4, r113, hF116, rfl, he114, hz5⟩
 refine shW_env _ he114 ?_; clear he114
 rw [oyezlaw05_tried_j1] at r113
 refine wsr (om rfl rfl (oa rfl rfl (oa rfl rfl (shO_nil (shW_ret ?_)))))
 refine q_res2 Try.results41 (res_tmp rfl) (res_tmp rfl) (sr) ?_
 obtain ⟨rfl, rfl, rfl, rfl⟩ := inj4 r113
 exact ⟨_, _, _, _, rfl, rfl, hz5.any⟩
set_option maxHeartbeats 1000000 in
theorem cmp_Compare_int_w {x : Int} {y : Int} {F : FS} {r : Int} (hr : cmp_Compare_int x y = some r) :
    SpecV Try.prog 94 #[.int .i64 x, .int .i64 y] F (.int .i64 r) := by
 refine spec_of_shW (args := [.int .i64 x, .int .i64 y]) Try.func94 rfl Try.ntmps94 (Nat.le_of_ble_eq_true rfl) ?_
 intro K _ _; rw [cmp_Compare_int] at hr
 refine wsr (oa rfl rfl (nsr (om rfl rfl ?_)))
 obtain ⟨ok, h1, r2⟩ := b1_ok hr; clear hr
 refine o_callV rfl Try.call113 rfl rfl rfl (cmp_isNaN_int_w h1) ?_
 refine oa rfl rfl (nsr (om rfl rfl ?_))
 obtain ⟨ok2, h3, r4⟩ := b1_ok r2; clear r2
 refine o_callV rfl Try.call113 rfl rfl rfl (cmp_isNaN_int_w h3) ?_
 refine oa rfl rfl (shO_nil (shW_seq (wsr (om rfl rfl (shO_nil ?_)))))
 refine shW_cond rfl (fun c5 => ?_) (fun c5 => ?_)
 · have r6 := bt r4 c5; clear r4
   refine shW_seq (wsr (om rfl rfl (shO_nil ?_)))
   refine shW_cond rfl (fun c7 => ?_) (fun c7 => ?_)
   · have r8 := bt r6 c7; clear r6
     refine wsr (oa rfl rfl (shO_nil (shW_ret (andThen_ret (andThen_ret ?_)))))
     refine q_res1 Try.results94 (res_tmp rfl) (sr) ?_
     obtain rfl := inj1 r8
     exact rfl
   have r9 := bf r6 c7; clear r6
   refine shW_skip (wsr (oa rfl rfl (shO_nil (shW_ret (andThen_ret ?_)))))
   refine q_res1 Try.results94 (res_tmp rfl) (sr) ?_
   obtain rfl := inj1 r9
   exact rfl
 have r10 := bf r4 c5; clear r4
 refine shW_skip (shW_seq (wsr (om rfl rfl (shO_nil ?_))))
 refine shW_cond rfl (fun c11 => ?_) (fun c11 => ?_)
 · have r12 := bt r10 c11; clear r10
   refine wsr (oa rfl rfl (shO_nil (shW_ret (andThen_ret ?_))))
   refine q_res1 Try.results94 (res_tmp rfl) (sr) ?_
   obtain rfl := inj1 r12
   exact rfl
 have r13 := bf r10 c11; clear r10
 refine shW_skip (shW_seq (wsr (om rfl rfl (om rfl rfl ?_))))
 refine ov (v_lssK rfl rfl) rfl ?_
 refine shO_nil ?_
 refine shW_condP rfl (fun c14 => ?_) (fun c14 => ?_)
 · have r15 := ite_t r13 c14; clear r13
   refine wsr (oa rfl rfl (shO_nil (shW_ret (andThen_ret ?_))))
   refine q_res1 Try.results94 (res_tmp rfl) (sr) ?_
   obtain rfl := inj1 r15
   exact rfl
 have r16 := ite_f r13 c14; clear r13
 refine shW_skip (shW_seq (wsr (om rfl rfl (om rfl rfl ?_))))
 refine ov (v_gtrK rfl rfl) rfl ?_
 refine shO_nil ?_
 refine shW_condP rfl (fun c17 => ?_) (fun c17 => ?_)
 · have r18 := ite_t r16 c17; clear r16
   refine wsr (oa rfl rfl (shO_nil (shW_ret (andThen_ret ?_))))
   refine q_res1 Try.results94 (res_tmp rfl) (sr) ?_
   obtain rfl := inj1 r18
   exact rfl
 have r19 := ite_f r16 c17; clear r16
 refine shW_skip (wsr (oa rfl rfl (shO_nil (shW_ret ?_))))
 refine q_res1 Try.results94 (res_tmp rfl) (sr) ?_
 obtain rfl := inj1 r19
 exact rfl
set_option maxHeartbeats 1000000 in
theorem slices_Compare_int_int_w {s1_a : Option Addr} {s1_c : Nat} {s1 : List Int} {s2_a : Option Addr} {s2_c : Nat} {s2 : List Int} {F : FS} (h_s1 : RowR 1 (iE .i64) F s1_a s1_c s1) (h_s2 : RowR 1 (iE .i64) F s2_a s2_c s2) {r : Int} (hr : slices_Compare_int_int s1 s2 = some r) :
    SpecV Try.prog 42 #[.slice s1_a s1.length s1_c, .slice s2_a s2.length s2_c] F (.int .i64 r) := by
 refine spec_of_shW (args := [.slice s1_a s1.length s1_c, .slice s2_a s2.length s2_c]) Try.func42 rfl Try.ntmps42 (Nat.le_of_ble_eq_true rfl) ?_
 intro K _ _; rw [slices_Compare_int_int] at hr
 refine wsr (oa rfl rfl (shO_nil ?_))
 refine shW_join (fun e1 F1 L1 => slices_Compare_int_int_j1 s1 s2 = some r ∧ F = F1 ∧ L1 = [] ∧ e1.sub [(0, .slice s1_a s1.length s1_c), (1, .slice s2_a s2.length s2_c)]) ?_ ?_
 · refine wsr (om rfl rfl ?_)
   refine ov (v_lenS Try.underlying27 rfl) rfl ?_
   refine om rfl rfl (shO_nil ?_)
   refine shW_block ?_
   refine shW_lp (fun fu2 e1 F1 L1 => ∃ (tl : List Int) (k : Int), tl.length = fu2 ∧ Lst s1 k tl ∧ slices_Compare_int_int_l2 s1 s2 tl k = some r ∧ F = F1 ∧ L1 = [] ∧ e1.sub [(0, .slice s1_a s1.length s1_c), (1, .slice s2_a s2.length s2_c), (9, .slice s1_a s1.length s1_c), (10, .int .i64 (s1.length : Int)), (11, .int .i64 k)]) _ (m0 kr ⟨_, _, rfl, Lst.start _, hr, rfl, rfl, (sc rfl (sc rfl (sc rfl (sc rfl (sc rfl (sn _))))))⟩) ?_
   rintro fu2 e1 _ _ ⟨tl, k, hn2, hk1, r3, rfl, rfl, he4⟩
   refine shW_env _ he4 ?_; clear he4
   refine wsr ?_
   refine ov (v_lssK rfl rfl) rfl ?_
   refine shO_nil (shW_seq ?_)
   refine shW_condP rfl (fun c6 => ?_) (fun c6 => ?_)
   · obtain ⟨x, tl2, rfl, hx8, g9, hk7⟩ := Lst.succ hk1 c6
     rw [slices_Compare_int_int_l2] at r3
     refine shW_skip (shW_seq ?_)
     refine shW_block ?_
     refine wsr (om rfl rfl ?_)
     obtain ⟨b10, o11, c12, vs13, ha14, hs15, hle16, rfl, hl17, hc18⟩ := RowR.at (iE_ok _) h_s1 ([]) g9.1 hx8
     refine ov (v_indexO Try.underlying27 Try.sizeOf3 rfl ha14 rfl g9) rfl ?_
     refine ov (v_load Try.isAgg3 rfl hs15 (hc18 0 (by decide))) rfl ?_
     refine oa rfl rfl (oa rfl rfl (shO_nil (shW_seq (wsr (om rfl rfl (om rfl rfl ?_))))))
     refine ov (v_lenS Try.underlying27 rfl) rfl ?_
     refine ov (v_geqK rfl rfl) rfl ?_
     refine shO_nil ?_
     refine shW_condP rfl (fun c19 => ?_) (fun c19 => ?_)
     · have r20 := ite_t r3 c19; clear r3
       refine wsr (oa rfl rfl (shO_nil (shW_ret (andThen_ret (inBlock_ret (andThen_ret (andThen_ret (inBlock_ret (andThen_ret ?_)))))))))
       refine q_res1 Try.results42 (res_tmp rfl) (sr) ?_
       obtain rfl := inj1 r20
       exact rfl
     have r21 := ite_f r3 c19; clear r3
     refine shW_skip (wsr (om rfl rfl (om rfl rfl ?_)))
     obtain ⟨x2, g22, hx23, r24⟩ := ix_ok r21; clear r21
     obtain ⟨b25, o26, c27, vs28, ha29, hs30, hle31, rfl, hl32, hc33⟩ := RowR.at (iE_ok _) h_s2 ([]) g22.1 hx23
     refine ov (v_indexO Try.underlying27 Try.sizeOf3 rfl ha29 rfl g22) rfl ?_
     refine ov (v_load Try.isAgg3 rfl hs30 (hc33 0 (by decide))) rfl ?_
     refine oa rfl rfl (nsr (om rfl rfl (om rfl rfl ?_)))
     obtain ⟨n, h34, r35⟩ := b1_ok r24; clear r24
     refine o_callV rfl Try.call94 rfl rfl rfl (cmp_Compare_int_w h34) ?_
     refine oa rfl rfl (nsr (om rfl rfl ?_))
     refine ov (v_neq rfl rfl) rfl ?_
     refine shO_nil ?_
     refine shW_condP rfl (fun c36 => ?_) (fun c36 => ?_)
     · have r37 := ite_t r35 c36; clear r35
       refine wsr (om rfl rfl (oa rfl rfl (shO_nil (shW_ret (inBlock_ret (andThen_ret (andThen_ret (inBlock_ret (andThen_ret ?_)))))))))
       refine q_res1 Try.results42 (res_tmp rfl) (sr) ?_
       obtain rfl := inj1 r37
       exact rfl
     have r38 := ite_f r35 c36; clear r35
     refine shW_skip (inBlock_n (id := 1) (shW_region ?_))
     refine ov (v_add rfl rfl (Lst.r64 hk1 c6 (RowR.lt h_s1))) rfl ?_
     refine om rfl rfl (shO_nil ?_)
     subst hn2; exact le kr ⟨_, _, rfl, hk7, r38, rfl, rfl, (sc rfl (sc rfl (sc rfl (sc rfl (sc rfl (sn _))))))⟩
   obtain rfl := Lst.zero hk1 c6
   rw [slices_Compare_int_int_l2] at r3
   refine shW_exit (andThen_exit (andThen_exit ?_))
   refine inBlock_exit ?_
   exact mi kr ⟨r3, rfl, rfl, (sc rfl (sc rfl (sn _)))⟩
 rintro e1 _ _ ⟨r39, rfl, rfl, he40⟩
 refine shW_env _ he40 ?_; clear he40
 rw [slices_Compare_int_int_j1] at r39
 refine shW_seq (wsr (om rfl rfl ?_))
 refine ov (v_lenS Try.underlying27 rfl) rfl ?_
 refine om rfl rfl ?_
 refine ov (v_lenS Try.underlying27 rfl) rfl ?_
 refine ov (v_lssK rfl rfl) rfl ?_
 refine shO_nil ?_
 refine shW_condP rfl (fun c41 => ?_) (fun c41 => ?_)
 · have r42 := ite_t r39 c41; clear r39
   refine wsr (oa rfl rfl (shO_nil (shW_ret (andThen_ret ?_))))
   refine q_res1 Try.results42 (res_tmp rfl) (sr) ?_
   obtain rfl := inj1 r42
   exact rfl
 have r43 := ite_f r39 c41; clear r39
 refine shW_skip (wsr (oa rfl rfl (shO_nil (shW_ret ?_))))
 refine q_res1 Try.results42 (res_tmp rfl) (sr) ?_
 obtain rfl := inj1 r43
 exact rfl
set_option maxHeartbeats 1000000 in
theorem oyezlaw05_NightSlept_1_w {m : Int} {b_men : Nat} {men_a : Option Addr} {men_c : Nat} {men : List Int} {mb_men : Nat × Nat} {F : FS} (hb_men : F b_men = some (.cells #[.slice men_a men.length men_c] 27 mb_men)) (h_men : RowR 1 (iE .i64) F men_a men_c men) {r : Bool} (hr : oyezlaw05_NightSlept_1 m men = some r) :
    SpecV Try.prog 39 #[.int .i64 m, .pointer (some ⟨b_men, 0, none⟩)] F (.bool r) := by
 refine spec_of_shW (args := [.int .i64 m, .pointer (some ⟨b_men, 0, none⟩)]) Try.func39 rfl Try.ntmps39 (Nat.le_of_ble_eq_true rfl) ?_
 intro K _ _; rw [oyezlaw05_NightSlept_1] at hr
 refine wsr (oa rfl rfl (nsr ?_))
 refine ov (v_load Try.isAgg27 rfl (Has.frozen hb_men) rfl) rfl ?_
 refine om rfl rfl ?_
 obtain ⟨ok, h1, r2⟩ := b1_ok hr; clear hr
 refine o_callV rfl Try.call40 rfl rfl rfl (slices_Contains_int_int_w h_men h1) ?_
 refine ov (v_notB rfl) rfl ?_
 refine oa rfl rfl (shO_nil (shW_ret ?_))
 refine q_res1 Try.results39 (res_tmp rfl) (sr) ?_
 obtain rfl := inj1 r2
 exact rfl
set_option maxHeartbeats 1000000 in
theorem oyezlaw05_NightSlept_2_w {m : Int} {b_l : Nat} {l_a : Option Addr} {l_c : Nat} {l : List Int} {mb_l : Nat × Nat} {F : FS} (hb_l : F b_l = some (.cells #[.slice l_a l.length l_c] 27 mb_l)) (h_l : RowR 1 (iE .i64) F l_a l_c l) {r : Bool} (hr : oyezlaw05_NightSlept_2 m l = some r) :
    SpecV Try.prog 43 #[.int .i64 m, .pointer (some ⟨b_l, 0, none⟩)] F (.bool r) := by
 refine spec_of_shW (args := [.int .i64 m, .pointer (some ⟨b_l, 0, none⟩)]) Try.func43 rfl Try.ntmps43 (Nat.le_of_ble_eq_true rfl) ?_
 intro K _ _; rw [oyezlaw05_NightSlept_2] at hr
 refine wsr (oa rfl rfl (nsr ?_))
 refine ov (v_load Try.isAgg27 rfl (Has.frozen hb_l) rfl) rfl ?_
 refine om rfl rfl ?_
 obtain ⟨ok, h1, r2⟩ := b1_ok hr; clear hr
 refine o_callV rfl Try.call40 rfl rfl rfl (slices_Contains_int_int_w h_l h1) ?_
 refine ov (v_notB rfl) rfl ?_
 refine oa rfl rfl (shO_nil (shW_ret ?_))
 refine q_res1 Try.results43 (res_tmp rfl) (sr) ?_
 obtain rfl := inj1 r2
 exact rfl
set_option maxHeartbeats 1000000 in
theorem oyezlaw05_NightSlept_w {numbers_a : Option Addr} {numbers_c : Nat} {numbers : List Int} {tries_a : Option Addr} {tries_c : Nat} {tries : List Int} {F : FS} (h_numbers : RowR 1 (iE .u8) F numbers_a numbers_c numbers) (h_tries : RowR 1 (iE .u8) F tries_a tries_c tries) {r : Bool} (hr : oyezlaw05_NightSlept numbers tries = some r) :
    SpecV Try.prog 8 #[.slice numbers_a numbers.length numbers_c, .slice tries_a tries.length tries_c] F (.bool r) := by
 refine spec_of_shW (args := [.slice numbers_a numbers.length numbers_c, .slice tries_a tries.length tries_c]) Try.func8 rfl Try.ntmps8 (Nat.le_of_ble_eq_true rfl) ?_
 intro K _ _; rw [oyezlaw05_NightSlept] at hr
 refine wsr (oa rfl rfl (nsr (om rfl rfl ?_)))
 obtain ⟨metal, at_, turn, h1, r2⟩ := b3_ok hr; clear hr
 refine o_call0 rfl Try.call13 rfl rfl rfl (oyezkit_Hang_w h_numbers h1) ?_; rintro _ F3 _ hF4 hn5 ⟨b7, a8, c9, rfl, rfl, h10⟩
 replace h_tries := h_tries.mono (iE_ok _) hF4
 refine shO_L (lb (ln rfl)) ?_
 obtain ⟨l, l2, l3, at_2, turn2, h11, r12⟩ := b5_ok r2; clear r2
 refine o_callG (Lb := [(b7, .cells #[.slice a8 metal.length c9, .int .i64 at_, .int .u32 turn] 104 (0, 0))]) (Lr := []) rfl Try.call12 rfl rfl rfl (pR) (oyezlaw05_Made_w h10 h11) ?_; rintro _ F13 _ hF14 hd16 hn15 ⟨a17, n21, c18, Lb19, a23, n27, c24, Lb25, a29, n33, c30, Lb31, rfl, rfl, hz20, hz26, hz32⟩
 replace h_tries := h_tries.mono (iE_ok _) hF14
 have hn35 := newp (Lb' := [(b7, .cells #[.slice a8 metal.length c9, .int .i64 at_2, .int .u32 turn2] 104 (0, 0))]) (by rfl) hd16 hn15
 replace hz20 := hz20.new fun p hp => hn35 p (by simp [hp])
 replace hz26 := hz26.new fun p hp => hn35 p (by simp [hp])
 replace hz32 := hz32.new fun p hp => hn35 p (by simp [hp])
 refine shO_L (lb (lp (lp (lp (ln rfl))))) ?_
 refine om rfl rfl (ox rfl rfl rfl (ox rfl rfl rfl ?_))
 refine o_alloc rfl Try.zeroValue26 ?_; intro b36 hb36
 refine o_storeA (i := 0) Try.sizeOf26 rfl rfl rfl (by simp [Value.oneCell']) rfl (Nat.le_of_ble_eq_true rfl) ?_
 refine shO_L (L' := (b36, .cells #[.slice a17 n21 c18, .slice a23 n27 c24] 26 (0, 0)) :: ((b7, .cells #[.slice a8 metal.length c9, .int .i64 at_2, .int .u32 turn2] 104 (0, 0)) :: (Lb19 ++ (Lb25 ++ (Lb31 ++ []))))) rfl ?_
 refine oa rfl rfl (nsr (om rfl rfl ?_))
 obtain ⟨metal2, at_3, turn3, h37, r38⟩ := b3_ok r12; clear r12
 refine o_call0 rfl Try.call13 rfl rfl rfl (oyezkit_Hang_w h_tries h37) ?_; rintro _ F39 _ hF40 hn41 ⟨b43, a44, c45, rfl, rfl, h46⟩
 replace hz20 := hz20.mono (slE_ok (iE_ok _)) hF40
 replace hz26 := hz26.mono (slE_ok (iE_ok _)) hF40
 replace hz32 := hz32.mono (iE_ok _) hF40
 refine shO_L (lb (ln rfl)) ?_
 refine oa rfl rfl (nsr ?_)
 refine ov (v_loadA (cs := #[.slice a17 n21 c18, .slice a23 n27 c24]) Try.isAgg26 Try.sizeOf26 rfl (Has.own 1 rfl) (Nat.le_of_ble_eq_true rfl) rfl) rfl ?_
 obtain rfl := (SlR.caps hz20).1
 refine shO_freezeR (Nat.le_refl _) (slE_ok (iE_ok _)) (fC (fC (fC fP))) hz20 ?_; intro F47 hF48 h49
 replace h46 := h46.mono (iE_ok _) hF48
 replace hz26 := hz26.mono (slE_ok (iE_ok _)) hF48
 replace hz32 := hz32.mono (iE_ok _) hF48
 obtain rfl := (SlR.caps hz26).1
 refine shO_freezeR (Nat.le_refl _) (slE_ok (iE_ok _)) (fC (fC (fC fP))) hz26 ?_; intro F50 hF51 h52
 replace h46 := h46.mono (iE_ok _) hF51
 replace h49 := h49.mono (slE_ok (iE_ok _)) hF51
 replace hz32 := hz32.mono (iE_ok _) hF51
 obtain ⟨l4, n, h53, r54⟩ := b2_ok r38; clear r38
 refine o_call0 rfl Try.call36 rfl rfl rfl (night_Verdicts_w h49 h52 h53) ?_; rintro _ F55 _ hF56 hn57 ⟨a59, n63, c60, Lb61, rfl, rfl, hz62⟩
 replace h46 := h46.mono (iE_ok _) hF56
 replace h49 := h49.mono (slE_ok (iE_ok _)) hF56
 replace h52 := h52.mono (slE_ok (iE_ok _)) hF56
 replace hz32 := hz32.mono (iE_ok _) hF56
 replace hz62 := hz62.new fun p hp => hn57 p (by simp [hp])
 refine shO_L (lp (ln rfl)) ?_
 refine kO (kf (fS fO) (kf (fS fO) (kf (fS fO) kr))) ?_
 refine om rfl rfl (ox rfl rfl rfl (ox rfl rfl rfl (oa rfl rfl (oa rfl rfl (nsr ?_)))))
 refine ov (v_loadA (cs := #[.slice a17 l.length c18, .slice a23 l2.length c24]) Try.isAgg26 Try.sizeOf26 rfl (Has.own 1 rfl) (Nat.le_of_ble_eq_true rfl) rfl) rfl ?_
 obtain ⟨l5, n2, h65, r66⟩ := b2_ok r54; clear r54
 refine o_call0 rfl Try.call27 rfl rfl rfl (night_Sure_w h49 h52 h65) ?_; rintro _ F67 _ hF68 hn69 ⟨a71, n75, c72, Lb73, rfl, rfl, hz74⟩
 replace h46 := h46.mono (iE_ok _) hF68
 replace h49 := h49.mono (slE_ok (iE_ok _)) hF68
 replace h52 := h52.mono (slE_ok (iE_ok _)) hF68
 replace hz32 := hz32.mono (iE_ok _) hF68
 replace hz62 := hz62.mono (slE_ok (iE_ok _)) hF68
 replace hz74 := hz74.new fun p hp => hn69 p (by simp [hp])
 refine shO_L (lp (ln rfl)) ?_
 refine kO (kf (fS fO) (kf (fS fO) (kf (fS fO) kr))) ?_
 refine om rfl rfl (ox rfl rfl rfl (ox rfl rfl rfl (oa rfl rfl (oa rfl rfl (nsr ?_)))))
 refine ov (v_loadA (cs := #[.slice a17 l.length c18, .slice a23 l2.length c24]) Try.isAgg26 Try.sizeOf26 rfl (Has.own 1 rfl) (Nat.le_of_ble_eq_true rfl) rfl) rfl ?_
 obtain ⟨l6, n3, h77, r78⟩ := b2_ok r66; clear r66
 refine o_call0 rfl Try.call17 rfl rfl rfl (night_Men_w h49 h52 h77) ?_; rintro _ F79 _ hF80 hn81 ⟨a83, c84, rfl, rfl, h85⟩
 replace h46 := h46.mono (iE_ok _) hF80
 replace h49 := h49.mono (slE_ok (iE_ok _)) hF80
 replace h52 := h52.mono (slE_ok (iE_ok _)) hF80
 replace hz32 := hz32.mono (iE_ok _) hF80
 replace hz62 := hz62.mono (slE_ok (iE_ok _)) hF80
 replace hz74 := hz74.mono (iE_ok _) hF80
 refine shO_L (ln rfl) ?_
 refine om rfl rfl (ox rfl rfl rfl (ox rfl rfl rfl ?_))
 refine o_alloc rfl Try.zeroValue27 ?_; intro b86 hb86
 refine o_store (i := 0) Try.sizeOf27 rfl rfl rfl rfl (Nat.le_of_ble_eq_true rfl) ?_
 refine shO_L (L' := (b86, .cells #[.slice a83 l6.length c84] 27 (0, 0)) :: ((b43, .cells #[.slice a44 metal2.length c45, .int .i64 at_3, .int .u32 turn3] 104 (0, 0)) :: ((b36, .cells #[.slice a17 l.length c18, .slice a23 l2.length c24] 26 (0, 0)) :: ((b7, .cells #[.slice a8 metal.length c9, .int .i64 at_2, .int .u32 turn2] 104 (0, 0)) :: (Lb73 ++ (Lb61 ++ (Lb31 ++ []))))))) rfl ?_
 refine oa rfl rfl (nsr ?_)
 refine ov (v_loadA (cs := #[.slice a17 l.length c18, .slice a23 l2.length c24]) Try.isAgg26 Try.sizeOf26 rfl (Has.own 2 rfl) (Nat.le_of_ble_eq_true rfl) rfl) rfl ?_
 obtain ⟨l7, n4, n5, h87, r88⟩ := b3_ok r78; clear r78
 refine o_call0 rfl Try.call14 rfl rfl rfl (night_Fewest_w h49 h52 h87) ?_; rintro _ F89 _ hF90 hn91 ⟨a93, n97, c94, Lb95, rfl, rfl, hz96⟩
 replace h46 := h46.mono (iE_ok _) hF90
 replace h49 := h49.mono (slE_ok (iE_ok _)) hF90
 replace h52 := h52.mono (slE_ok (iE_ok _)) hF90
 replace h85 := h85.mono (iE_ok _) hF90
 replace hz32 := hz32.mono (iE_ok _) hF90
 replace hz62 := hz62.mono (slE_ok (iE_ok _)) hF90
 replace hz74 := hz74.mono (iE_ok _) hF90
 refine shO_L (lp (ln rfl)) ?_
 refine kO (kf (fS fO) (kf (fS fO) (kf (fS fO) (kf (fS fO) kr)))) ?_
 refine om rfl rfl (ox rfl rfl rfl (ox rfl rfl rfl (ox rfl rfl rfl (oa rfl rfl (oa rfl rfl (oa rfl rfl (nsr ?_)))))))
 refine ov (v_loadA (cs := #[.slice a17 l.length c18, .slice a23 l2.length c24]) Try.isAgg26 Try.sizeOf26 rfl (Has.own 2 rfl) (Nat.le_of_ble_eq_true rfl) rfl) rfl ?_
 obtain ⟨n6, n7, h99, r100⟩ := b2_ok r88; clear r88
 refine o_callV rfl Try.call26 rfl rfl rfl (night_Ways_w h49 h52 h99) ?_
 refine om rfl rfl (ox rfl rfl rfl (ox rfl rfl rfl (oa rfl rfl (oa rfl rfl (shO_nil (shW_seq ?_))))))
 obtain ⟨k, h129, r130⟩ := b1_ok r100; clear r100
 refine shW_joinF (fun e1 F1 L1 => FExt F89 F1 ∧ L1 = ((b43, .cells #[.slice a44 metal2.length c45, .int .i64 at_3, .int .u32 turn3] 104 (0, 0)) :: ((b36, .cells #[.slice a17 l.length c18, .slice a23 l2.length c24] 26 (0, 0)) :: (Lb31 ++ (Lb61 ++ (Lb73 ++ []))))) ∧ e1.sub [(5, .pointer (some ⟨b36, 0, none⟩)), (6, .slice a29 n33 c30), (7, .pointer (some ⟨b43, 0, none⟩)), (8, .slice a59 n63 c60), (10, .slice a71 n75 c72), (12, .pointer (some ⟨b86, 0, none⟩)), (114, .bool k)] ∧ F1 b86 = some (.cells #[.slice a83 l6.length c84] 27 (0, 0))) ?_ ?_
 · clear r130
   refine shW_region (om rfl rfl ?_)
   refine ov (v_neq rfl rfl) rfl ?_
   refine om rfl rfl ?_
   by_cases c131 : n ≠ 0
   · have r132 := ite_t h129 c131; clear h129
     refine shO_off (b' := true) 71 rfl (Env.isT rfl c131) rfl rfl (shO_off (b' := true) 71 rfl (Env.isT rfl c131) rfl rfl ?_)
     refine ov (v_pick_t (evD_true rfl c131) rfl) rfl ?_
     refine om rfl rfl (shO_off (b' := true) 75 rfl rfl rfl rfl (shO_off (b' := true) 75 rfl rfl rfl rfl ?_))
     refine ov (v_pick_t rfl rfl) rfl ?_
     refine om rfl rfl (shO_off (b' := true) 79 rfl rfl rfl rfl (shO_off (b' := true) 79 rfl rfl rfl rfl ?_))
     refine ov (v_pick_t rfl rfl) rfl ?_
     refine om rfl rfl (shO_off (b' := true) 83 rfl rfl rfl rfl (shO_off (b' := true) 83 rfl rfl rfl rfl ?_))
     refine ov (v_pick_t rfl rfl) rfl ?_
     refine om rfl rfl (shO_off (b' := true) 87 rfl rfl rfl rfl (shO_off (b' := true) 87 rfl rfl rfl rfl (shO_off (b' := true) 87 rfl rfl rfl rfl (shO_off (b' := true) 87 rfl rfl rfl rfl (shO_off (b' := true) 87 rfl rfl rfl rfl (shO_off (b' := true) 87 rfl rfl rfl rfl ?_))))))
     refine ov (v_pick_t rfl rfl) rfl ?_
     refine om rfl rfl (shO_off (b' := true) 95 rfl rfl rfl rfl (shO_off (b' := true) 95 rfl rfl rfl rfl (shO_off (b' := true) 95 rfl rfl rfl rfl (shO_off (b' := true) 95 rfl rfl rfl rfl ?_))))
     refine ov (v_pick_t rfl rfl) rfl ?_
     refine om rfl rfl (shO_off (b' := true) 101 rfl rfl rfl rfl (shO_off (b' := true) 101 rfl rfl rfl rfl ?_))
     refine ov (v_pick_t rfl rfl) rfl ?_
     refine om rfl rfl (shO_off (b' := true) 105 rfl rfl rfl rfl (shO_off (b' := true) 105 rfl rfl rfl rfl (shO_off (b' := true) 105 rfl rfl rfl rfl ?_)))
     refine ov (v_pick_t rfl rfl) rfl ?_
     refine om rfl rfl (shO_off (b' := true) 110 rfl rfl rfl rfl (shO_off (b' := true) 110 rfl rfl rfl rfl (shO_off (b' := true) 110 rfl rfl rfl rfl ?_)))
     refine ov (v_pick_t rfl rfl) rfl ?_
     refine shO_nil ?_
     refine shmz_freeze 0 rfl hb86 ?_; intro F133 hF134 hz135
     refine shmz_L (L' := (b43, .cells #[.slice a44 metal2.length c45, .int .i64 at_3, .int .u32 turn3] 104 (0, 0)) :: ((b36, .cells #[.slice a17 l.length c18, .slice a23 l2.length c24] 26 (0, 0)) :: ((b7, .cells #[.slice a8 metal.length c9, .int .i64 at_2, .int .u32 turn2] 104 (0, 0)) :: (Lb95 ++ (Lb73 ++ (Lb61 ++ (Lb31 ++ []))))))) rfl ?_
     obtain rfl := inj1 r132
     exact mf (kc (kc (kd (kx (kg (fS (fS fP)) (kg (fS fP) kr)))))) ⟨hF134, rfl, (sc rfl (sc rfl (sc rfl (sc rfl (sc rfl (sc rfl (sc rfl (sn _)))))))), hz135⟩
   have r136 := ite_f h129 c131; clear h129
   refine shO_on (b := false) 71 rfl (Env.isF rfl c131) (om rfl rfl (shO_on (b := false) 71 rfl (Env.isF rfl c131) ?_))
   refine ov (v_neq rfl rfl) rfl ?_
   refine ov (v_pick_f (evD_false rfl c131) rfl) rfl ?_
   refine om rfl rfl ?_
   by_cases c137 : n2 ≠ 0
   · have r138 := ite_t r136 c137; clear r136
     refine shO_off (b' := true) 75 rfl (Env.isT rfl c137) rfl rfl (shO_off (b' := true) 75 rfl (Env.isT rfl c137) rfl rfl ?_)
     refine ov (v_pick_t (evD_true rfl c137) rfl) rfl ?_
     refine om rfl rfl (shO_off (b' := true) 79 rfl rfl rfl rfl (shO_off (b' := true) 79 rfl rfl rfl rfl ?_))
     refine ov (v_pick_t rfl rfl) rfl ?_
     refine om rfl rfl (shO_off (b' := true) 83 rfl rfl rfl rfl (shO_off (b' := true) 83 rfl rfl rfl rfl ?_))
     refine ov (v_pick_t rfl rfl) rfl ?_
     refine om rfl rfl (shO_off (b' := true) 87 rfl rfl rfl rfl (shO_off (b' := true) 87 rfl rfl rfl rfl (shO_off (b' := true) 87 rfl rfl rfl rfl (shO_off (b' := true) 87 rfl rfl rfl rfl (shO_off (b' := true) 87 rfl rfl rfl rfl (shO_off (b' := true) 87 rfl rfl rfl rfl ?_))))))
     refine ov (v_pick_t rfl rfl) rfl ?_
     refine om rfl rfl (shO_off (b' := true) 95 rfl rfl rfl rfl (shO_off (b' := true) 95 rfl rfl rfl rfl (shO_off (b' := true) 95 rfl rfl rfl rfl (shO_off (b' := true) 95 rfl rfl rfl rfl ?_))))
     refine ov (v_pick_t rfl rfl) rfl ?_
     refine om rfl rfl (shO_off (b' := true) 101 rfl rfl rfl rfl (shO_off (b' := true) 101 rfl rfl rfl rfl ?_))
     refine ov (v_pick_t rfl rfl) rfl ?_
     refine om rfl rfl (shO_off (b' := true) 105 rfl rfl rfl rfl (shO_off (b' := true) 105 rfl rfl rfl rfl (shO_off (b' := true) 105 rfl rfl rfl rfl ?_)))
     refine ov (v_pick_t rfl rfl) rfl ?_
     refine om rfl rfl (shO_off (b' := true) 110 rfl rfl rfl rfl (shO_off (b' := true) 110 rfl rfl rfl rfl (shO_off (b' := true) 110 rfl rfl rfl rfl ?_)))
     refine ov (v_pick_t rfl rfl) rfl ?_
     refine shO_nil ?_
     refine shmz_freeze 0 rfl hb86 ?_; intro F139 hF140 hz141
     refine shmz_L (L' := (b43, .cells #[.slice a44 metal2.length c45, .int .i64 at_3, .int .u32 turn3] 104 (0, 0)) :: ((b36, .cells #[.slice a17 l.length c18, .slice a23 l2.length c24] 26 (0, 0)) :: ((b7, .cells #[.slice a8 metal.length c9, .int .i64 at_2, .int .u32 turn2] 104 (0, 0)) :: (Lb95 ++ (Lb73 ++ (Lb61 ++ (Lb31 ++ []))))))) rfl ?_
     obtain rfl := inj1 r138
     exact mf (kc (kc (kd (kx (kg (fS (fS fP)) (kg (fS fP) kr)))))) ⟨hF140, rfl, (sc rfl (sc rfl (sc rfl (sc rfl (sc rfl (sc rfl (sc rfl (sn _)))))))), hz141⟩
   have r142 := ite_f r136 c137; clear r136
   refine shO_on (b := false) 75 rfl (Env.isF rfl c137) (om rfl rfl (shO_on (b := false) 75 rfl (Env.isF rfl c137) ?_))
   refine ov (v_neq rfl rfl) rfl ?_
   refine ov (v_pick_f (evD_false rfl c137) rfl) rfl ?_
   refine om rfl rfl ?_
   by_cases c143 : n3 ≠ 0
   · have r144 := ite_t r142 c143; clear r142
     refine shO_off (b' := true) 79 rfl (Env.isT rfl c143) rfl rfl (shO_off (b' := true) 79 rfl (Env.isT rfl c143) rfl rfl ?_)
     refine ov (v_pick_t (evD_true rfl c143) rfl) rfl ?_
     refine om rfl rfl (shO_off (b' := true) 83 rfl rfl rfl rfl (shO_off (b' := true) 83 rfl rfl rfl rfl ?_))
     refine ov (v_pick_t rfl rfl) rfl ?_
     refine om rfl rfl (shO_off (b' := true) 87 rfl rfl rfl rfl (shO_off (b' := true) 87 rfl rfl rfl rfl (shO_off (b' := true) 87 rfl rfl rfl rfl (shO_off (b' := true) 87 rfl rfl rfl rfl (shO_off (b' := true) 87 rfl rfl rfl rfl (shO_off (b' := true) 87 rfl rfl rfl rfl ?_))))))
     refine ov (v_pick_t rfl rfl) rfl ?_
     refine om rfl rfl (shO_off (b' := true) 95 rfl rfl rfl rfl (shO_off (b' := true) 95 rfl rfl rfl rfl (shO_off (b' := true) 95 rfl rfl rfl rfl (shO_off (b' := true) 95 rfl rfl rfl rfl ?_))))
     refine ov (v_pick_t rfl rfl) rfl ?_
     refine om rfl rfl (shO_off (b' := true) 101 rfl rfl rfl rfl (shO_off (b' := true) 101 rfl rfl rfl rfl ?_))
     refine ov (v_pick_t rfl rfl) rfl ?_
     refine om rfl rfl (shO_off (b' := true) 105 rfl rfl rfl rfl (shO_off (b' := true) 105 rfl rfl rfl rfl (shO_off (b' := true) 105 rfl rfl rfl rfl ?_)))
     refine ov (v_pick_t rfl rfl) rfl ?_
     refine om rfl rfl (shO_off (b' := true) 110 rfl rfl rfl rfl (shO_off (b' := true) 110 rfl rfl rfl rfl (shO_off (b' := true) 110 rfl rfl rfl rfl ?_)))
     refine ov (v_pick_t rfl rfl) rfl ?_
     refine shO_nil ?_
     refine shmz_freeze 0 rfl hb86 ?_; intro F145 hF146 hz147
     refine shmz_L (L' := (b43, .cells #[.slice a44 metal2.length c45, .int .i64 at_3, .int .u32 turn3] 104 (0, 0)) :: ((b36, .cells #[.slice a17 l.length c18, .slice a23 l2.length c24] 26 (0, 0)) :: ((b7, .cells #[.slice a8 metal.length c9, .int .i64 at_2, .int .u32 turn2] 104 (0, 0)) :: (Lb95 ++ (Lb73 ++ (Lb61 ++ (Lb31 ++ []))))))) rfl ?_
     obtain rfl := inj1 r144
     exact mf (kc (kc (kd (kx (kg (fS (fS fP)) (kg (fS fP) kr)))))) ⟨hF146, rfl, (sc rfl (sc rfl (sc rfl (sc rfl (sc rfl (sc rfl (sc rfl (sn _)))))))), hz147⟩
   have r148 := ite_f r142 c143; clear r142
   refine shO_on (b := false) 79 rfl (Env.isF rfl c143) (om rfl rfl (shO_on (b := false) 79 rfl (Env.isF rfl c143) ?_))
   refine ov (v_neq rfl rfl) rfl ?_
   refine ov (v_pick_f (evD_false rfl c143) rfl) rfl ?_
   refine om rfl rfl ?_
   by_cases c149 : n5 ≠ 0
   · have r150 := ite_t r148 c149; clear r148
     refine shO_off (b' := true) 83 rfl (Env.isT rfl c149) rfl rfl (shO_off (b' := true) 83 rfl (Env.isT rfl c149) rfl rfl ?_)
     refine ov (v_pick_t (evD_true rfl c149) rfl) rfl ?_
     refine om rfl rfl (shO_off (b' := true) 87 rfl rfl rfl rfl (shO_off (b' := true) 87 rfl rfl rfl rfl (shO_off (b' := true) 87 rfl rfl rfl rfl (shO_off (b' := true) 87 rfl rfl rfl rfl (shO_off (b' := true) 87 rfl rfl rfl rfl (shO_off (b' := true) 87 rfl rfl rfl rfl ?_))))))
     refine ov (v_pick_t rfl rfl) rfl ?_
     refine om rfl rfl (shO_off (b' := true) 95 rfl rfl rfl rfl (shO_off (b' := true) 95 rfl rfl rfl rfl (shO_off (b' := true) 95 rfl rfl rfl rfl (shO_off (b' := true) 95 rfl rfl rfl rfl ?_))))
     refine ov (v_pick_t rfl rfl) rfl ?_
     refine om rfl rfl (shO_off (b' := true) 101 rfl rfl rfl rfl (shO_off (b' := true) 101 rfl rfl rfl rfl ?_))
     refine ov (v_pick_t rfl rfl) rfl ?_
     refine om rfl rfl (shO_off (b' := true) 105 rfl rfl rfl rfl (shO_off (b' := true) 105 rfl rfl rfl rfl (shO_off (b' := true) 105 rfl rfl rfl rfl ?_)))
     refine ov (v_pick_t rfl rfl) rfl ?_
     refine om rfl rfl (shO_off (b' := true) 110 rfl rfl rfl rfl (shO_off (b' := true) 110 rfl rfl rfl rfl (shO_off (b' := true) 110 rfl rfl rfl rfl ?_)))
     refine ov (v_pick_t rfl rfl) rfl ?_
     refine shO_nil ?_
     refine shmz_freeze 0 rfl hb86 ?_; intro F151 hF152 hz153
     refine shmz_L (L' := (b43, .cells #[.slice a44 metal2.length c45, .int .i64 at_3, .int .u32 turn3] 104 (0, 0)) :: ((b36, .cells #[.slice a17 l.length c18, .slice a23 l2.length c24] 26 (0, 0)) :: ((b7, .cells #[.slice a8 metal.length c9, .int .i64 at_2, .int .u32 turn2] 104 (0, 0)) :: (Lb95 ++ (Lb73 ++ (Lb61 ++ (Lb31 ++ []))))))) rfl ?_
     obtain rfl := inj1 r150
     exact mf (kc (kc (kd (kx (kg (fS (fS fP)) (kg (fS fP) kr)))))) ⟨hF152, rfl, (sc rfl (sc rfl (sc rfl (sc rfl (sc rfl (sc rfl (sc rfl (sn _)))))))), hz153⟩
   have r154 := ite_f r148 c149; clear r148
   refine shO_on (b := false) 83 rfl (Env.isF rfl c149) (om rfl rfl (shO_on (b := false) 83 rfl (Env.isF rfl c149) ?_))
   refine ov (v_neq rfl rfl) rfl ?_
   refine ov (v_pick_f (evD_false rfl c149) rfl) rfl ?_
   refine om rfl rfl ?_
   by_cases c155 : n7 ≠ 0
   · have r156 := ite_t r154 c155; clear r154
     refine shO_off (b' := true) 87 rfl (Env.isT rfl c155) rfl rfl (shO_off (b' := true) 87 rfl (Env.isT rfl c155) rfl rfl (shO_off (b' := true) 87 rfl (Env.isT rfl c155) rfl rfl (shO_off (b' := true) 87 rfl (Env.isT rfl c155) rfl rfl (shO_off (b' := true) 87 rfl (Env.isT rfl c155) rfl rfl (shO_off (b' := true) 87 rfl (Env.isT rfl c155) rfl rfl ?_)))))
     refine ov (v_pick_t (evD_true rfl c155) rfl) rfl ?_
     refine om rfl rfl (shO_off (b' := true) 95 rfl rfl rfl rfl (shO_off (b' := true) 95 rfl rfl rfl rfl (shO_off (b' := true) 95 rfl rfl rfl rfl (shO_off (b' := true) 95 rfl rfl rfl rfl ?_))))
     refine ov (v_pick_t rfl rfl) rfl ?_
     refine om rfl rfl (shO_off (b' := true) 101 rfl rfl rfl rfl (shO_off (b' := true) 101 rfl rfl rfl rfl ?_))
     refine ov (v_pick_t rfl rfl) rfl ?_
     refine om rfl rfl (shO_off (b' := true) 105 rfl rfl rfl rfl (shO_off (b' := true) 105 rfl rfl rfl rfl (shO_off (b' := true) 105 rfl rfl rfl rfl ?_)))
     refine ov (v_pick_t rfl rfl) rfl ?_
     refine om rfl rfl (shO_off (b' := true) 110 rfl rfl rfl rfl (shO_off (b' := true) 110 rfl rfl rfl rfl (shO_off (b' := true) 110 rfl rfl rfl rfl ?_)))
     refine ov (v_pick_t rfl rfl) rfl ?_
     refine shO_nil ?_
     refine shmz_freeze 0 rfl hb86 ?_; intro F157 hF158 hz159
     refine shmz_L (L' := (b43, .cells #[.slice a44 metal2.length c45, .int .i64 at_3, .int .u32 turn3] 104 (0, 0)) :: ((b36, .cells #[.slice a17 l.length c18, .slice a23 l2.length c24] 26 (0, 0)) :: ((b7, .cells #[.slice a8 metal.length c9, .int .i64 at_2, .int .u32 turn2] 104 (0, 0)) :: (Lb95 ++ (Lb73 ++ (Lb61 ++ (Lb31 ++ []))))))) rfl ?_
     obtain rfl := inj1 r156
     exact mf (kc (kc (kd (kx (kg (fS (fS fP)) (kg (fS fP) kr)))))) ⟨hF158, rfl, (sc rfl (sc rfl (sc rfl (sc rfl (sc rfl (sc rfl (sc rfl (sn _)))))))), hz159⟩
   have r160 := ite_f r154 c155; clear r154
   refine shO_on (b := false) 87 rfl (Env.isF rfl c155) (om rfl rfl (shO_on (b := false) 87 rfl (Env.isF rfl c155) ?_))
   refine ov ((v_lenS Try.underlying71 rfl).i (SlR.lenI hz62)) rfl ?_
   refine shO_on (b := false) 87 rfl (Env.isF rfl c155) ?_
   refine ov (v_fieldAddr fa_26_1 rfl) rfl ?_
   refine shO_on (b := false) 87 rfl (Env.isF rfl c155) ?_
   refine ov (v_load Try.isAgg24 rfl (Has.own 2 rfl) rfl) rfl ?_
   refine shO_on (b := false) 87 rfl (Env.isF rfl c155) ?_
   refine ov (v_lenS Try.underlying24 rfl) rfl ?_
   refine shO_on (b := false) 87 rfl (Env.isF rfl c155) ?_
   refine ov (v_neq rfl rfl) rfl ?_
   refine ov (v_pick_f (evD_false rfl c155) rfl) rfl ?_
   refine om rfl rfl ?_
   by_cases c161 : (l4.length : Int) ≠ (l2.length : Int)
   · have r162 := ite_t r160 c161; clear r160
     refine shO_off (b' := true) 95 rfl (Env.isT rfl c161) rfl rfl (shO_off (b' := true) 95 rfl (Env.isT rfl c161) rfl rfl (shO_off (b' := true) 95 rfl (Env.isT rfl c161) rfl rfl (shO_off (b' := true) 95 rfl (Env.isT rfl c161) rfl rfl ?_)))
     refine ov (v_pick_t (evD_true rfl c161) rfl) rfl ?_
     refine om rfl rfl (shO_off (b' := true) 101 rfl rfl rfl rfl (shO_off (b' := true) 101 rfl rfl rfl rfl ?_))
     refine ov (v_pick_t rfl rfl) rfl ?_
     refine om rfl rfl (shO_off (b' := true) 105 rfl rfl rfl rfl (shO_off (b' := true) 105 rfl rfl rfl rfl (shO_off (b' := true) 105 rfl rfl rfl rfl ?_)))
     refine ov (v_pick_t rfl rfl) rfl ?_
     refine om rfl rfl (shO_off (b' := true) 110 rfl rfl rfl rfl (shO_off (b' := true) 110 rfl rfl rfl rfl (shO_off (b' := true) 110 rfl rfl rfl rfl ?_)))
     refine ov (v_pick_t rfl rfl) rfl ?_
     refine shO_nil ?_
     refine shmz_freeze 0 rfl hb86 ?_; intro F163 hF164 hz165
     refine shmz_L (L' := (b43, .cells #[.slice a44 metal2.length c45, .int .i64 at_3, .int .u32 turn3] 104 (0, 0)) :: ((b36, .cells #[.slice a17 l.length c18, .slice a23 l2.length c24] 26 (0, 0)) :: ((b7, .cells #[.slice a8 metal.length c9, .int .i64 at_2, .int .u32 turn2] 104 (0, 0)) :: (Lb95 ++ (Lb73 ++ (Lb61 ++ (Lb31 ++ []))))))) rfl ?_
     obtain rfl := inj1 r162
     exact mf (kc (kc (kd (kx (kg (fS (fS fP)) (kg (fS fP) kr)))))) ⟨hF164, rfl, (sc rfl (sc rfl (sc rfl (sc rfl (sc rfl (sc rfl (sc rfl (sn _)))))))), hz165⟩
   have r166 := ite_f r160 c161; clear r160
   refine shO_on (b := false) 95 rfl (Env.isF rfl c161) ?_
   refine ov (v_load Try.isAgg27 rfl (Has.own 0 rfl) rfl) rfl ?_
   refine shO_on (b := false) 95 rfl (Env.isF rfl c161) ?_
   refine ov (v_lenS Try.underlying27 rfl) rfl ?_
   refine shO_on (b := false) 95 rfl (Env.isF rfl c161) (om rfl rfl (shO_on (b := false) 95 rfl (Env.isF rfl c161) ?_))
   refine ov (v_gtrK rfl rfl) rfl ?_
   refine ov (v_pick_f (evD_false rfl c161) rfl) rfl ?_
   refine om rfl rfl ?_
   by_cases c167 : n4 < (l6.length : Int)
   · have r168 := ite_t r166 c167; clear r166
     refine shO_off (b' := true) 101 rfl (Env.isT rfl c167) rfl rfl (shO_off (b' := true) 101 rfl (Env.isT rfl c167) rfl rfl ?_)
     refine ov (v_pick_t (evD_true rfl c167) rfl) rfl ?_
     refine om rfl rfl (shO_off (b' := true) 105 rfl rfl rfl rfl (shO_off (b' := true) 105 rfl rfl rfl rfl (shO_off (b' := true) 105 rfl rfl rfl rfl ?_)))
     refine ov (v_pick_t rfl rfl) rfl ?_
     refine om rfl rfl (shO_off (b' := true) 110 rfl rfl rfl rfl (shO_off (b' := true) 110 rfl rfl rfl rfl (shO_off (b' := true) 110 rfl rfl rfl rfl ?_)))
     refine ov (v_pick_t rfl rfl) rfl ?_
     refine shO_nil ?_
     refine shmz_freeze 0 rfl hb86 ?_; intro F169 hF170 hz171
     refine shmz_L (L' := (b43, .cells #[.slice a44 metal2.length c45, .int .i64 at_3, .int .u32 turn3] 104 (0, 0)) :: ((b36, .cells #[.slice a17 l.length c18, .slice a23 l2.length c24] 26 (0, 0)) :: ((b7, .cells #[.slice a8 metal.length c9, .int .i64 at_2, .int .u32 turn2] 104 (0, 0)) :: (Lb95 ++ (Lb73 ++ (Lb61 ++ (Lb31 ++ []))))))) rfl ?_
     obtain rfl := inj1 r168
     exact mf (kc (kc (kd (kx (kg (fS (fS fP)) (kg (fS fP) kr)))))) ⟨hF170, rfl, (sc rfl (sc rfl (sc rfl (sc rfl (sc rfl (sc rfl (sc rfl (sn _)))))))), hz171⟩
   have r172 := ite_f r166 c167; clear r166
   refine shO_on (b := false) 101 rfl (Env.isF rfl c167) (om rfl rfl (shO_on (b := false) 101 rfl (Env.isF rfl c167) ?_))
   refine ov (v_lssK rfl rfl) rfl ?_
   refine ov (v_pick_f (evD_false rfl c167) rfl) rfl ?_
   refine om rfl rfl ?_
   by_cases c173 : n6 < 1
   · have r174 := ite_t r172 c173; clear r172
     refine shO_off (b' := true) 105 rfl (Env.isT rfl c173) rfl rfl (shO_off (b' := true) 105 rfl (Env.isT rfl c173) rfl rfl (shO_off (b' := true) 105 rfl (Env.isT rfl c173) rfl rfl ?_))
     refine ov (v_pick_t (evD_true rfl c173) rfl) rfl ?_
     refine om rfl rfl (shO_off (b' := true) 110 rfl rfl rfl rfl (shO_off (b' := true) 110 rfl rfl rfl rfl (shO_off (b' := true) 110 rfl rfl rfl rfl ?_)))
     refine ov (v_pick_t rfl rfl) rfl ?_
     refine shO_nil ?_
     refine shmz_freeze 0 rfl hb86 ?_; intro F175 hF176 hz177
     refine shmz_L (L' := (b43, .cells #[.slice a44 metal2.length c45, .int .i64 at_3, .int .u32 turn3] 104 (0, 0)) :: ((b36, .cells #[.slice a17 l.length c18, .slice a23 l2.length c24] 26 (0, 0)) :: ((b7, .cells #[.slice a8 metal.length c9, .int .i64 at_2, .int .u32 turn2] 104 (0, 0)) :: (Lb95 ++ (Lb73 ++ (Lb61 ++ (Lb31 ++ []))))))) rfl ?_
     obtain rfl := inj1 r174
     exact mf (kc (kc (kd (kx (kg (fS (fS fP)) (kg (fS fP) kr)))))) ⟨hF176, rfl, (sc rfl (sc rfl (sc rfl (sc rfl (sc rfl (sc rfl (sc rfl (sn _)))))))), hz177⟩
   have r178 := ite_f r172 c173; clear r172
   refine shO_on (b := false) 105 rfl (Env.isF rfl c173) ?_
   refine ov (v_load Try.isAgg27 rfl (Has.own 0 rfl) rfl) rfl ?_
   refine shO_on (b := false) 105 rfl (Env.isF rfl c173) ?_
   obtain ⟨ok, h179, r180⟩ := b1_ok r178; clear r178
   refine o_callV rfl Try.call37 rfl rfl rfl (slices_IsSorted_int_int_w h85 h179) ?_
   refine shO_on (b := false) 105 rfl (Env.isF rfl c173) ?_
   refine ov (v_notB rfl) rfl ?_
   refine ov (v_pick_f (evD_false rfl c173) rfl) rfl ?_
   refine om rfl rfl ?_
   rcases bool_two (!ok) with c181 | c181
   · have r182 := bt r180 c181; clear r180
     refine shO_off (b' := true) 110 rfl (EnvB rfl c181) rfl rfl (shO_off (b' := true) 110 rfl (EnvB rfl c181) rfl rfl (shO_off (b' := true) 110 rfl (EnvB rfl c181) rfl rfl ?_))
     refine ov (v_pick_t (evB rfl c181) rfl) rfl ?_
     refine shO_nil ?_
     refine shmz_freeze 0 rfl hb86 ?_; intro F183 hF184 hz185
     refine shmz_L (L' := (b43, .cells #[.slice a44 metal2.length c45, .int .i64 at_3, .int .u32 turn3] 104 (0, 0)) :: ((b36, .cells #[.slice a17 l.length c18, .slice a23 l2.length c24] 26 (0, 0)) :: ((b7, .cells #[.slice a8 metal.length c9, .int .i64 at_2, .int .u32 turn2] 104 (0, 0)) :: (Lb95 ++ (Lb73 ++ (Lb61 ++ (Lb31 ++ []))))))) rfl ?_
     obtain rfl := inj1 r182
     exact mf (kc (kc (kd (kx (kg (fS (fS fP)) (kg (fS fP) kr)))))) ⟨hF184, rfl, (sc rfl (sc rfl (sc rfl (sc rfl (sc rfl (sc rfl (sc rfl (sn _)))))))), hz185⟩
   have r186 := bf r180 c181; clear r180
   refine shO_on (b := false) 110 rfl (EnvB rfl c181) (om rfl rfl (shO_on (b := false) 110 rfl (EnvB rfl c181) ?_))
   refine ov (v_makeFunc rfl rfl) rfl ?_
   refine shO_on (b := false) 110 rfl (EnvB rfl c181) ?_
   refine shO_freeze 0 rfl hb86 ?_; intro F187 hF188 hz189
   refine shO_L (L' := (b43, .cells #[.slice a44 metal2.length c45, .int .i64 at_3, .int .u32 turn3] 104 (0, 0)) :: ((b36, .cells #[.slice a17 l.length c18, .slice a23 l2.length c24] 26 (0, 0)) :: ((b7, .cells #[.slice a8 metal.length c9, .int .i64 at_2, .int .u32 turn2] 104 (0, 0)) :: (Lb95 ++ (Lb73 ++ (Lb61 ++ (Lb31 ++ []))))))) rfl ?_
   replace h85 := h85.mono (iE_ok _) hF188
   replace hz74 := hz74.mono (iE_ok _) hF188
   have hn190 : FnR Try.prog F187 39 #[] #[.pointer (some ⟨b86, 0, none⟩)] (iE .i64) Value.bool (fun xx_ : Int => oyezlaw05_NightSlept_1 xx_ l6) := ⟨Try.call39, fun F2 h2 vs xx_ r ha hr => by obtain rfl := ha; exact oyezlaw05_NightSlept_1_w (h2 _ _ hz189) (h85.mono (iE_ok _) h2) hr⟩
   obtain ⟨ok2, h191, r192⟩ := b1_ok r186; clear r186
   refine o_callT (Lt := Lb73 ++ []) (Lr := (b43, .cells #[.slice a44 metal2.length c45, .int .i64 at_3, .int .u32 turn3] 104 (0, 0)) :: ((b36, .cells #[.slice a17 l.length c18, .slice a23 l2.length c24] 26 (0, 0)) :: ((b7, .cells #[.slice a8 metal.length c9, .int .i64 at_2, .int .u32 turn2] 104 (0, 0)) :: (Lb95 ++ (Lb61 ++ (Lb31 ++ [])))))) rfl Try.call38 rfl rfl rfl (pT ((fC (fC (fC (fS fP)))).trans (pA pR)) (lp (ln rfl))) (fun F2 h2 h3 => by rw [(SlR.caps hz74).1]; exact slices_ContainsFunc_int_int_w (hz74.row (iE_ok _) h2 (fun p hp => h3 p (List.mem_append_left _ hp))) (hn190.mono h2) h191) ?_
   refine ov (v_pick_f (evB rfl c181) rfl) rfl ?_
   refine shO_nil ?_
   obtain rfl := inj1 r192
   exact mf (kc (kc (kd (kx (kg (fS (fS fP)) (kg (fS fP) kr)))))) ⟨hF188, rfl, (sc rfl (sc rfl (sc rfl (sc rfl (sc rfl (sc rfl (sc rfl (sn _)))))))), hz189⟩
 rintro e1 F194 _ ⟨hF195, rfl, he193, hz128⟩
 refine shW_env _ he193 ?_; clear he193
 replace h46 := h46.mono (iE_ok _) hF195
 replace h49 := h49.mono (slE_ok (iE_ok _)) hF195
 replace h52 := h52.mono (slE_ok (iE_ok _)) hF195
 replace h85 := h85.mono (iE_ok _) hF195
 replace hz32 := hz32.mono (iE_ok _) hF195
 replace hz62 := hz62.mono (slE_ok (iE_ok _)) hF195
 replace hz74 := hz74.mono (iE_ok _) hF195
 refine shW_cond rfl (fun c196 => ?_) (fun c196 => ?_)
 · have r197 := bt r130 c196; clear r130
   refine wsr (oa rfl rfl (shO_nil ?_))
   refine kW kn ?_
   refine shW_ret (andThen_ret ?_)
   refine q_res1 Try.results8 (res_tmp rfl) (sr) ?_
   obtain rfl := inj1 r197
   exact rfl
 have r198 := bf r130 c196; clear r130
 refine shW_skip (wsr (om rfl rfl ?_))
 refine o_buildSlice (cs := #[.slice a29 n33 c30]) rfl rfl (buildSlice_all slt_23 [.slice a29 n33 c30] rfl (by decide) (by simp [Value.cells]) (by decide)) ?_; intro b199 hb199
 obtain rfl := (SlR.caps hz32).1
 refine shO_freezeR (Nat.le_refl _) (iE_ok _) (fC (fC (fC fP))) hz32 ?_; intro F200 hF201 h202
 replace h46 := h46.mono (iE_ok _) hF201
 replace h49 := h49.mono (slE_ok (iE_ok _)) hF201
 replace h52 := h52.mono (slE_ok (iE_ok _)) hF201
 replace h85 := h85.mono (iE_ok _) hF201
 replace hz62 := hz62.mono (slE_ok (iE_ok _)) hF201
 replace hz74 := hz74.mono (iE_ok _) hF201
 replace hz128 := hF201 _ _ hz128
 have hz204 : SlR K.w0.heap.size 27 1 (slE 1 (iE .i64)) F200 (some ⟨b199, 0, none⟩) 1 1 [l3] [(b199, .cells #[.slice a29 l3.length c30] 27 (0, 0))] := SlR.of_block (vss := [[.slice a29 l3.length c30]]) (slE_ok (iE_ok _)) hb199 (.cons ⟨_, _, rfl, h202⟩ .nil) rfl rfl (by simp [maxLen])
 generalize hLLb203 : ([(b199, .cells #[.slice a29 l3.length c30] 27 (0, 0))] : LH) = Lb203 at hz204
 refine shO_perm (L' := Lb203 ++ ((b43, .cells #[.slice a44 metal2.length c45, .int .i64 at_3, .int .u32 turn3] 104 (0, 0)) :: ((b36, .cells #[.slice a17 l.length c18, .slice a23 l2.length c24] 26 (0, 0)) :: (Lb61 ++ (Lb73 ++ []))))) (by rw [← hLLb203]; exact fO) ?_
 refine shO_perm (L' := (b43, .cells #[.slice a44 metal2.length c45, .int .i64 at_3, .int .u32 turn3] 104 (0, 0)) :: ((b36, .cells #[.slice a17 l.length c18, .slice a23 l2.length c24] 26 (0, 0)) :: (Lb203 ++ (Lb61 ++ (Lb73 ++ []))))) (List.Perm.symm (fC (fC fP))) ?_
 refine oa rfl rfl (shO_nil ?_)
 obtain ⟨all_, h212, r213⟩ := b1_ok r198; clear r198
 refine shW_join (fun e1 F1 L1 => ∃ (a206 : Option Addr) (n210 : Nat) (c207 : Nat) (Lb208 : LH), FExt F200 F1 ∧ L1 = ((b36, .cells #[.slice a17 l.length c18, .slice a23 l2.length c24] 26 (0, 0)) :: (Lb61 ++ (Lb73 ++ (Lb208 ++ [])))) ∧ e1.sub [(5, .pointer (some ⟨b36, 0, none⟩)), (8, .slice a59 n63 c60), (10, .slice a71 n75 c72), (12, .pointer (some ⟨b86, 0, none⟩)), (19, .slice a206 n210 c207)] ∧ SlR K.w0.heap.size 27 1 (slE 1 (iE .i64)) F1 a206 n210 c207 all_ Lb208) ?_ ?_
 · clear r213
   refine wsr (om rfl rfl (shO_nil ?_))
   refine shW_block ?_
   obtain ⟨g220, r221⟩ := gd_ok h212; clear h212
   refine shW_lp (fun fu1 e1 F1 L1 => ∃ (k2 : Int), Ctr 0 5 k2 fu1 ∧ ∃ (q_at : Int) (q_turn : Int) (all_2 : List (List Int)) (a214 : Option Addr) (n218 : Nat) (c215 : Nat) (Lb216 : LH), oyezlaw05_NightSlept_l1 l l2 metal2 fu1 q_at q_turn all_2 = some all_ ∧ FExt F200 F1 ∧ L1 = ((b43, .cells #[.slice a44 metal2.length c45, .int .i64 q_at, .int .u32 q_turn] 104 (0, 0)) :: ((b36, .cells #[.slice a17 l.length c18, .slice a23 l2.length c24] 26 (0, 0)) :: (Lb61 ++ (Lb73 ++ (Lb216 ++ []))))) ∧ e1.sub [(5, .pointer (some ⟨b36, 0, none⟩)), (7, .pointer (some ⟨b43, 0, none⟩)), (8, .slice a59 n63 c60), (10, .slice a71 n75 c72), (12, .pointer (some ⟨b86, 0, none⟩)), (19, .slice a214 n218 c215), (117, .int .i64 k2)] ∧ SlR K.w0.heap.size 27 1 (slE 1 (iE .i64)) F1 a214 n218 c215 all_2 Lb216) _ (m0 (kc (kc (kg (fS fP) (kg (fS fP) kr)))) ⟨_, Ctr.start _ _, at_3, turn3, [l3], (some ⟨b199, 0, none⟩), 1, 1, Lb203, r221, FExt.refl _, rfl, (sc rfl (sc rfl (sc rfl (sc rfl (sc rfl (sc rfl (sc rfl (sn _)))))))), hz204⟩) ?_
   rintro fu1 e1 F226 _ ⟨k2, hk222, q_at, q_turn, all_2, a214, n218, c215, Lb216, r224, hF227, rfl, he225, hz217⟩
   refine shW_env _ he225 ?_; clear he225
   replace h46 := h46.mono (iE_ok _) hF227
   replace h49 := h49.mono (slE_ok (iE_ok _)) hF227
   replace h52 := h52.mono (slE_ok (iE_ok _)) hF227
   refine wsr ?_
   refine ov (v_lssK rfl rfl) rfl ?_
   refine shO_nil (shW_seq ?_)
   refine shW_condP rfl (fun c229 => ?_) (fun c229 => ?_)
   · obtain ⟨fu1, rfl, hk230⟩ := Ctr.succ hk222 c229
     rw [oyezlaw05_NightSlept_l1] at r224
     refine shW_skip (shW_seq ?_)
     refine shW_block ?_
     refine wsr (om rfl rfl ?_)
     refine ov (v_loadA (cs := #[.slice a17 l.length c18, .slice a23 l2.length c24]) Try.isAgg26 Try.sizeOf26 rfl (Has.own 1 rfl) (Nat.le_of_ble_eq_true rfl) rfl) rfl ?_
     obtain ⟨l8, ok3, at_4, turn4, h231, r232⟩ := b4_ok r224; clear r224
     refine o_callG (Lb := [(b43, .cells #[.slice a44 metal2.length c45, .int .i64 q_at, .int .u32 q_turn] 104 (0, 0))]) (Lr := (b36, .cells #[.slice a17 l.length c18, .slice a23 l2.length c24] 26 (0, 0)) :: (Lb61 ++ (Lb73 ++ (Lb216 ++ [])))) rfl Try.call41 rfl rfl rfl (pR) (oyezlaw05_tried_w h46 h49 h52 h231) ?_; rintro _ F233 _ hF234 hd236 hn235 ⟨a237, n241, c238, Lb239, rfl, rfl, hz240⟩
     replace hz217 := hz217.mono (slE_ok (iE_ok _)) hF234
     have hn243 := newp (Lb' := [(b43, .cells #[.slice a44 metal2.length c45, .int .i64 at_4, .int .u32 turn4] 104 (0, 0))]) (by rfl) hd236 hn235
     replace hz240 := hz240.new fun p hp => hn243 p (by simp [hp])
     refine shO_L (lb (lp (ln rfl))) ?_
     refine kO (kc (kf (fS fO) kr)) ?_
     refine om rfl rfl (ox rfl rfl rfl (ox rfl rfl rfl (oa rfl rfl (oa rfl rfl (nsr (om rfl rfl (shO_nil ?_)))))))
     refine shW_cond rfl (fun c244 => ?_) (fun c244 => ?_)
     · have r245 := bt r232 c244; clear r232
       refine shW_region (om rfl rfl (om rfl rfl ?_))
       refine o_buildSlice (cs := #[.slice a237 n241 c238]) rfl rfl (buildSlice_all slt_23 [.slice a237 n241 c238] rfl (by decide) (by simp [Value.cells]) (by decide)) ?_; intro b246 hb246
       obtain rfl := (SlR.caps hz240).1
       refine shO_freezeR (Nat.le_refl _) (iE_ok _) (fC (fC (fC fP))) hz240 ?_; intro F247 hF248 h249
       replace hz217 := hz217.mono (slE_ok (iE_ok _)) hF248
       obtain ⟨all_3, h250, g251, r252⟩ := ap_ok r245; clear r245
       refine o_appZ (xs := all_2) (ys := [l8]) (zs := all_3) rfl slt_23 rfl rfl (Nat.le_refl _) (fun _ => .c (.c (.c (.s (.s .h))))) hz217 (SrcR.box (vss := [[.slice a237 l8.length c238]]) (ys := [l8]) 0 rfl (slE_ok (iE_ok _)) (.cons ⟨_, _, rfl, h249⟩ .nil) rfl rfl) h250 g251 (by decide) ?_; intro a253 n257 c254 Lb255 hz256
       refine kO (kd kr) ?_
       refine oa rfl rfl (shO_nil (inBlock_n (id := 1) (shW_region ?_)))
       refine ov (v_add rfl rfl (Ctr.r64 hk222 c229 g220)) rfl ?_
       refine om rfl rfl (shO_nil ?_)
       exact le kr ⟨_, hk230, at_4, turn4, all_3, a253, n257, c254, Lb255, r252, ((hF227.trans hF234).trans hF248), rfl, (sc rfl (sc rfl (sc rfl (sc rfl (sc rfl (sc rfl (sc rfl (sn _)))))))), hz256⟩
     have r259 := bf r232 c244; clear r232
     refine shW_skip (inBlock_n (id := 1) (shW_region ?_))
     refine ov (v_add rfl rfl (Ctr.r64 hk222 c229 g220)) rfl ?_
     refine om rfl rfl (shO_nil ?_)
     exact le (kc (kc (kx kr))) ⟨_, hk230, at_4, turn4, all_2, a214, n218, c215, Lb216, r259, (hF227.trans hF234), rfl, (sc rfl (sc rfl (sc rfl (sc rfl (sc rfl (sc rfl (sc rfl (sn _)))))))), hz217⟩
   obtain rfl := Ctr.zero hk222 c229
   rw [oyezlaw05_NightSlept_l1] at r224
   refine shW_exit (andThen_exit (andThen_exit ?_))
   refine inBlock_exit ?_
   obtain rfl := inj1 r224
   exact mi (kd kr) ⟨a214, n218, c215, Lb216, hF227, rfl, (sc rfl (sc rfl (sc rfl (sc rfl (sc rfl (sn _)))))), hz217⟩
 rintro e1 F261 _ ⟨a206, n210, c207, Lb208, hF262, rfl, he260, hz209⟩
 refine shW_env _ he260 ?_; clear he260
 replace h49 := h49.mono (slE_ok (iE_ok _)) hF262
 replace h52 := h52.mono (slE_ok (iE_ok _)) hF262
 replace h85 := h85.mono (iE_ok _) hF262
 replace hz62 := hz62.mono (slE_ok (iE_ok _)) hF262
 replace hz74 := hz74.mono (iE_ok _) hF262
 replace hz128 := hF262 _ _ hz128
 refine shW_join (fun e1 F1 L1 => oyezlaw05_NightSlept_j2 l2 l4 l5 = some r ∧ FExt F261 F1 ∧ L1 = ((b36, .cells #[.slice a17 l.length c18, .slice a23 l2.length c24] 26 (0, 0)) :: (Lb61 ++ (Lb73 ++ []))) ∧ e1.sub [(5, .pointer (some ⟨b36, 0, none⟩)), (8, .slice a59 n63 c60), (10, .slice a71 n75 c72)]) ?_ ?_
 · refine wsr (om rfl rfl ?_)
   refine ov ((v_lenS Try.underlying23 rfl).i (SlR.lenI hz209)) rfl ?_
   refine om rfl rfl (shO_nil ?_)
   refine shW_block ?_
   refine shW_lp (fun fu3 e1 F1 L1 => ∃ (tl : List (List Int)) (k3 : Int), tl.length = fu3 ∧ Lst all_ k3 tl ∧ oyezlaw05_NightSlept_l3 l l2 l4 l5 l6 tl = some r ∧ FExt F261 F1 ∧ L1 = ((b36, .cells #[.slice a17 l.length c18, .slice a23 l2.length c24] 26 (0, 0)) :: (Lb61 ++ (Lb73 ++ (Lb208 ++ [])))) ∧ e1.sub [(5, .pointer (some ⟨b36, 0, none⟩)), (8, .slice a59 n63 c60), (10, .slice a71 n75 c72), (12, .pointer (some ⟨b86, 0, none⟩)), (131, .slice a206 n210 c207), (132, .int .i64 (all_.length : Int)), (133, .int .i64 k3)]) _ (m0 kr ⟨_, _, rfl, Lst.start _, r213, FExt.refl _, rfl, (sc rfl (sc rfl (sc rfl (sc rfl (sc rfl (sc rfl (sc rfl (sn _))))))))⟩) ?_
   rintro fu3 e1 F267 _ ⟨tl, k3, hn264, hk263, r265, hF268, rfl, he266⟩
   refine shW_env _ he266 ?_; clear he266
   replace h49 := h49.mono (slE_ok (iE_ok _)) hF268
   replace h85 := h85.mono (iE_ok _) hF268
   replace hz62 := hz62.mono (slE_ok (iE_ok _)) hF268
   replace hz74 := hz74.mono (iE_ok _) hF268
   replace hz209 := hz209.mono (slE_ok (iE_ok _)) hF268
   replace hz128 := hF268 _ _ hz128
   refine wsr ?_
   refine ov (v_lssK rfl rfl) rfl ?_
   refine shO_nil (shW_seq ?_)
   refine shW_condP rfl (fun c270 => ?_) (fun c270 => ?_)
   · obtain ⟨x, tl2, rfl, hx272, g273, hk271⟩ := Lst.succ hk263 c270
     rw [oyezlaw05_NightSlept_l3] at r265
     refine shW_skip ?_
     refine shW_join (fun e1 F1 L1 => oyezlaw05_NightSlept_j4 (oyezlaw05_NightSlept_l3 l l2 l4 l5 l6 tl2) = some r ∧ FExt F267 F1 ∧ L1 = ((b36, .cells #[.slice a17 l.length c18, .slice a23 l2.length c24] 26 (0, 0)) :: (Lb61 ++ (Lb73 ++ (Lb208 ++ [])))) ∧ e1.sub [(5, .pointer (some ⟨b36, 0, none⟩)), (8, .slice a59 n63 c60), (10, .slice a71 n75 c72), (12, .pointer (some ⟨b86, 0, none⟩)), (131, .slice a206 n210 c207), (132, .int .i64 (all_.length : Int)), (133, .int .i64 k3)]) ?_ ?_
     · refine shW_block ?_
       refine wsr ?_
       obtain ⟨b274, o275, c276, vs277, ha278, hs279, hle280, ⟨a283, c284, rfl, h285⟩, hl281, hc282⟩ := SlR.at (slE_ok (iE_ok _)) hz209 (L := (b36, .cells #[.slice a17 l.length c18, .slice a23 l2.length c24] 26 (0, 0)) :: (Lb61 ++ (Lb73 ++ (Lb208 ++ [])))) (fC (fS (fS fP))) g273.1 hx272
       refine ov (v_indexO Try.underlying23 Try.sizeOf27 rfl ha278 rfl (SlR.idx hz209 g273)) rfl ?_
       refine ov (v_load Try.isAgg27 rfl hs279 (hc282 0 (by decide))) rfl ?_
       refine oa rfl rfl (nsr (oa rfl rfl (shO_nil ?_)))
       refine shW_join (fun e1 F1 L1 => ∃ (some_ : Int), oyezlaw05_NightSlept_j5 l l5 l6 (oyezlaw05_NightSlept_l3 l l2 l4 l5 l6 tl2) some_ = some r ∧ F267 = F1 ∧ L1 = ((b36, .cells #[.slice a17 l.length c18, .slice a23 l2.length c24] 26 (0, 0)) :: (Lb61 ++ (Lb73 ++ (Lb208 ++ [])))) ∧ e1.sub [(5, .pointer (some ⟨b36, 0, none⟩)), (8, .slice a59 n63 c60), (10, .slice a71 n75 c72), (12, .pointer (some ⟨b86, 0, none⟩)), (24, .int .i64 some_), (131, .slice a206 n210 c207), (132, .int .i64 (all_.length : Int)), (133, .int .i64 k3)]) ?_ ?_
       · refine wsr (om rfl rfl ?_)
         refine ov (v_lenS Try.underlying27 rfl) rfl ?_
         refine om rfl rfl (shO_nil ?_)
         refine shW_block ?_
         refine shW_lp (fun fu6 e1 F1 L1 => ∃ (tl3 : List Int) (k4 : Int), tl3.length = fu6 ∧ Lst x k4 tl3 ∧ ∃ (some_2 : Int), oyezlaw05_NightSlept_l6 l l4 l5 l6 (oyezlaw05_NightSlept_l3 l l2 l4 l5 l6 tl2) tl3 k4 some_2 = some r ∧ F267 = F1 ∧ L1 = ((b36, .cells #[.slice a17 l.length c18, .slice a23 l2.length c24] 26 (0, 0)) :: (Lb61 ++ (Lb73 ++ (Lb208 ++ [])))) ∧ e1.sub [(5, .pointer (some ⟨b36, 0, none⟩)), (8, .slice a59 n63 c60), (10, .slice a71 n75 c72), (12, .pointer (some ⟨b86, 0, none⟩)), (24, .int .i64 some_2), (131, .slice a206 n210 c207), (132, .int .i64 (all_.length : Int)), (133, .int .i64 k3), (137, .slice a283 x.length c284), (138, .int .i64 (x.length : Int)), (139, .int .i64 k4)]) _ (m0 kr ⟨_, _, rfl, Lst.start _, 0, r265, rfl, rfl, (sc rfl (sc rfl (sc rfl (sc rfl (sc rfl (sc rfl (sc rfl (sc rfl (sc rfl (sc rfl (sc rfl (sn _))))))))))))⟩) ?_
         rintro fu6 e1 _ _ ⟨tl3, k4, hn287, hk286, some_2, r288, rfl, rfl, he289⟩
         refine shW_env _ he289 ?_; clear he289
         refine wsr ?_
         refine ov (v_lssK rfl rfl) rfl ?_
         refine shO_nil (shW_seq ?_)
         refine shW_condP rfl (fun c291 => ?_) (fun c291 => ?_)
         · obtain ⟨x2, tl4, rfl, hx293, g294, hk292⟩ := Lst.succ hk286 c291
           rw [oyezlaw05_NightSlept_l6] at r288
           refine shW_skip ?_
           refine shW_join (fun e1 F1 L1 => oyezlaw05_NightSlept_j7 some_2 k4 x2 (oyezlaw05_NightSlept_l6 l l4 l5 l6 (oyezlaw05_NightSlept_l3 l l2 l4 l5 l6 tl2) tl4) = some r ∧ F267 = F1 ∧ L1 = ((b36, .cells #[.slice a17 l.length c18, .slice a23 l2.length c24] 26 (0, 0)) :: (Lb61 ++ (Lb73 ++ (Lb208 ++ [])))) ∧ e1.sub [(5, .pointer (some ⟨b36, 0, none⟩)), (8, .slice a59 n63 c60), (10, .slice a71 n75 c72), (12, .pointer (some ⟨b86, 0, none⟩)), (24, .int .i64 (bor some_2 x2)), (131, .slice a206 n210 c207), (132, .int .i64 (all_.length : Int)), (133, .int .i64 k3), (137, .slice a283 x.length c284), (138, .int .i64 (x.length : Int)), (139, .int .i64 k4)]) ?_ ?_
           · refine shW_block ?_
             refine wsr (om rfl rfl ?_)
             obtain ⟨b295, o296, c297, vs298, ha299, hs300, hle301, rfl, hl302, hc303⟩ := RowR.at (iE_ok _) h285 ((b36, .cells #[.slice a17 l.length c18, .slice a23 l2.length c24] 26 (0, 0)) :: (Lb61 ++ (Lb73 ++ (Lb208 ++ [])))) g294.1 hx293
             refine ov (v_indexO Try.underlying27 Try.sizeOf3 rfl ha299 rfl g294) rfl ?_
             refine ov (v_load Try.isAgg3 rfl hs300 (hc303 0 (by decide))) rfl ?_
             refine oa rfl rfl (oa rfl rfl (shO_nil (shW_seq (wsr (om rfl rfl (om rfl rfl ?_))))))
             refine ov (v_or rfl rfl) rfl ?_
             refine oa rfl rfl ?_
             refine nsd (by kernel_rfl) (by kernel_rfl) (by kernel_rfl) ?_
             refine qm rfl rfl (qm rfl rfl ?_)
             obtain ⟨x3, g304, hx305, r306⟩ := ix_ok r288; clear r288
             obtain ⟨b307, o308, c309, vs310, ha311, hs312, hle313, ⟨a316, c317, rfl, h318⟩, hl314, hc315⟩ := SlR.at (slE_ok (iE_ok _)) hz62 (L := (b36, .cells #[.slice a17 l.length c18, .slice a23 l2.length c24] 26 (0, 0)) :: (Lb61 ++ (Lb73 ++ (Lb208 ++ [])))) (fC fP) g304.1 hx305
             refine qv (v_indexO Try.underlying71 Try.sizeOf80 rfl ha311 rfl (SlR.idx hz62 g304)) rfl ?_
             refine qv (v_load Try.isAgg80 rfl hs312 (hc315 0 (by decide))) rfl ?_
             refine qv (v_lenS Try.underlying80 rfl) rfl ?_
             refine qv (v_fieldAddr fa_26_0 rfl) rfl ?_
             refine qv (v_load Try.isAgg23 rfl (Has.own 0 rfl) rfl) rfl ?_
             refine qv (v_lenS Try.underlying23 rfl) rfl ?_
             refine qv (v_neq rfl rfl) rfl ?_
             refine shQ_nil ?_
             refine shW_condP rfl (fun c319 => ?_) (fun c319 => ?_)
             · have r320 := ite_t r306 c319; clear r306
               refine wsr (oa rfl rfl (shO_nil ?_))
               refine kW kn ?_
               refine shW_ret (andThen_ret (inBlock_ret (andThen_ret (andThen_ret (inBlock_ret (andThen_ret (inBlock_ret (andThen_ret (andThen_ret ?_)))))))))
               refine inBlock_ret (andThen_ret ?_)
               refine q_res1 Try.results8 (res_tmp rfl) (sr) ?_
               obtain rfl := inj1 r320
               exact rfl
             have r321 := ite_f r306 c319; clear r306
             refine shW_skip (wsr (om rfl rfl (om rfl rfl ?_)))
             obtain ⟨b322, o323, c324, vs325, ha326, hs327, hle328, ⟨a331, c332, rfl, h333⟩, hl329, hc330⟩ := SlR.at (slE_ok (iE_ok _)) hz62 (L := (b36, .cells #[.slice a17 l.length c18, .slice a23 l2.length c24] 26 (0, 0)) :: (Lb61 ++ (Lb73 ++ (Lb208 ++ [])))) (fC fP) g304.1 hx305
             refine ov (v_indexO Try.underlying71 Try.sizeOf80 rfl ha326 rfl (SlR.idx hz62 g304)) rfl ?_
             refine ov (v_load Try.isAgg80 rfl hs327 (hc330 0 (by decide))) rfl ?_
             refine ov (v_lenS Try.underlying80 rfl) rfl ?_
             refine om rfl rfl (shO_nil ?_)
             refine shW_block ?_
             refine shW_lp (fun fu8 e1 F1 L1 => ∃ (tl5 : List Int) (k5 : Int), tl5.length = fu8 ∧ Lst x3 k5 tl5 ∧ oyezlaw05_NightSlept_l8 some_2 k4 x2 (oyezlaw05_NightSlept_l6 l l4 l5 l6 (oyezlaw05_NightSlept_l3 l l2 l4 l5 l6 tl2) tl4) tl5 k5 = some r ∧ F267 = F1 ∧ L1 = ((b36, .cells #[.slice a17 l.length c18, .slice a23 l2.length c24] 26 (0, 0)) :: (Lb61 ++ (Lb73 ++ (Lb208 ++ [])))) ∧ e1.sub [(5, .pointer (some ⟨b36, 0, none⟩)), (8, .slice a59 n63 c60), (10, .slice a71 n75 c72), (12, .pointer (some ⟨b86, 0, none⟩)), (24, .int .i64 (bor some_2 x2)), (26, .int .i64 x2), (131, .slice a206 n210 c207), (132, .int .i64 (all_.length : Int)), (133, .int .i64 k3), (137, .slice a283 x.length c284), (138, .int .i64 (x.length : Int)), (139, .int .i64 k4), (159, .slice a331 x3.length c332), (160, .int .i64 (x3.length : Int)), (161, .int .i64 k5)]) _ (m0 kr ⟨_, _, rfl, Lst.start _, r321, rfl, rfl, (sc rfl (sc rfl (sc rfl (sc rfl (sc rfl (sc rfl (sc rfl (sc rfl (sc rfl (sc rfl (sc rfl (sc rfl (sc rfl (sc rfl (sc rfl (sn _))))))))))))))))⟩) ?_
             rintro fu8 e1 _ _ ⟨tl5, k5, hn335, hk334, r336, rfl, rfl, he337⟩
             refine shW_env _ he337 ?_; clear he337
             refine wsr ?_
             refine ov (v_lssK rfl rfl) rfl ?_
             refine shO_nil (shW_seq ?_)
             refine shW_condP rfl (fun c339 => ?_) (fun c339 => ?_)
             · obtain ⟨x4, tl6, rfl, hx341, g342, hk340⟩ := Lst.succ hk334 c339
               rw [oyezlaw05_NightSlept_l8] at r336
               refine shW_skip (shW_seq ?_)
               refine shW_block ?_
               refine wsr (om rfl rfl ?_)
               obtain ⟨b343, o344, c345, vs346, ha347, hs348, hle349, rfl, hl350, hc351⟩ := RowR.at (iE_ok _) h333 ((b36, .cells #[.slice a17 l.length c18, .slice a23 l2.length c24] 26 (0, 0)) :: (Lb61 ++ (Lb73 ++ (Lb208 ++ [])))) g342.1 hx341
               refine ov (v_indexO Try.underlying80 Try.sizeOf81 rfl ha347 rfl g342) rfl ?_
               refine ov (v_load Try.isAgg81 rfl hs348 (hc351 0 (by decide))) rfl ?_
               refine oa rfl rfl (oa rfl rfl (shO_nil ?_))
               obtain ⟨k6, h352, r353⟩ := b1_ok r336; clear r336
               refine shW_join (fun e1 F1 L1 => F267 = F1 ∧ L1 = ((b36, .cells #[.slice a17 l.length c18, .slice a23 l2.length c24] 26 (0, 0)) :: (Lb61 ++ (Lb73 ++ (Lb208 ++ [])))) ∧ e1.sub [(5, .pointer (some ⟨b36, 0, none⟩)), (8, .slice a59 n63 c60), (10, .slice a71 n75 c72), (12, .pointer (some ⟨b86, 0, none⟩)), (24, .int .i64 (bor some_2 x2)), (26, .int .i64 x2), (131, .slice a206 n210 c207), (132, .int .i64 (all_.length : Int)), (133, .int .i64 k3), (137, .slice a283 x.length c284), (138, .int .i64 (x.length : Int)), (139, .int .i64 k4), (159, .slice a331 x3.length c332), (160, .int .i64 (x3.length : Int)), (161, .int .i64 k5), (185, .bool k6)]) ?_ ?_
               · clear r353
                 refine shW_region (om rfl rfl ?_)
                 refine ov (v_eql rfl rfl) rfl ?_
                 refine om rfl rfl ?_
                 by_cases c354 : x4 = 1
                 · have r355 := ite_t h352 c354; clear h352
                   refine shO_on (b := true) 168 rfl (Env.isT rfl c354) (om rfl rfl (shO_on (b := true) 168 rfl (Env.isT rfl c354) (om rfl rfl (shO_on (b := true) 168 rfl (Env.isT rfl c354) ?_))))
                   obtain ⟨g356, r357⟩ := gd_ok r355; clear r355
                   refine ov (v_shr rfl rfl g356) rfl ?_
                   refine shO_on (b := true) 168 rfl (Env.isT rfl c354) ?_
                   refine ov (v_and rfl rfl) rfl ?_
                   refine shO_on (b := true) 168 rfl (Env.isT rfl c354) ?_
                   refine ov (v_eql rfl rfl) rfl ?_
                   refine ov (v_pick_t (evD_true rfl c354) rfl) rfl ?_
                   refine om rfl rfl ?_
                   by_cases c358 : (band (shr x2 k5) 1) = 0
                   · have r359 := ite_t r357 c358; clear r357
                     refine shO_off (b' := true) 175 rfl (Env.isT rfl c358) rfl rfl (shO_off (b' := true) 175 rfl (Env.isT rfl c358) rfl rfl (shO_off (b' := true) 175 rfl (Env.isT rfl c358) rfl rfl (shO_offU 178 rfl rfl rfl (shO_offU 178 rfl rfl rfl (shO_offU 178 rfl rfl rfl (shO_offU 178 rfl rfl rfl (shO_offU 178 rfl rfl rfl (shO_off (b' := true) 175 rfl (Env.isT rfl c358) rfl rfl ?_))))))))
                     refine ov (v_pick_t (evD_true rfl c358) rfl) rfl ?_
                     refine shO_nil ?_
                     obtain rfl := inj1 r359
                     exact mi kr ⟨rfl, rfl, (sc rfl (sc rfl (sc rfl (sc rfl (sc rfl (sc rfl (sc rfl (sc rfl (sc rfl (sc rfl (sc rfl (sc rfl (sc rfl (sc rfl (sc rfl (sc rfl (sn _)))))))))))))))))⟩
                   have r360 := ite_f r357 c358; clear r357
                   refine shO_on (b := false) 175 rfl (Env.isF rfl c358) (om rfl rfl (shO_on (b := false) 175 rfl (Env.isF rfl c358) ?_))
                   refine ov (v_eql rfl rfl) rfl ?_
                   refine shO_on (b := false) 175 rfl (Env.isF rfl c358) (om rfl rfl ?_)
                   by_cases c361 : x4 = 2
                   · have r362 := ite_t r360 c361; clear r360
                     refine shO_on (b := true) 178 rfl (Env.isT rfl c361) (om rfl rfl (shO_on (b := true) 178 rfl (Env.isT rfl c361) (om rfl rfl (shO_on (b := true) 178 rfl (Env.isT rfl c361) ?_))))
                     obtain ⟨g363, r364⟩ := gd_ok r362; clear r362
                     refine ov (v_shr rfl rfl g363) rfl ?_
                     refine shO_on (b := true) 178 rfl (Env.isT rfl c361) ?_
                     refine ov (v_and rfl rfl) rfl ?_
                     refine shO_on (b := true) 178 rfl (Env.isT rfl c361) ?_
                     refine ov (v_eql rfl rfl) rfl ?_
                     refine shO_on (b := false) 175 rfl (Env.isF rfl c358) ?_
                     refine ov (v_pick_t (evD_true rfl c361) rfl) rfl ?_
                     refine ov (v_pick_f (evD_false rfl c358) rfl) rfl ?_
                     refine shO_nil ?_
                     obtain rfl := inj1 r364
                     exact mi kr ⟨rfl, rfl, (sc rfl (sc rfl (sc rfl (sc rfl (sc rfl (sc rfl (sc rfl (sc rfl (sc rfl (sc rfl (sc rfl (sc rfl (sc rfl (sc rfl (sc rfl (sc rfl (sn _)))))))))))))))))⟩
                   have r365 := ite_f r360 c361; clear r360
                   refine shO_off (b' := false) 178 rfl (Env.isF rfl c361) rfl rfl (shO_off (b' := false) 178 rfl (Env.isF rfl c361) rfl rfl (shO_off (b' := false) 178 rfl (Env.isF rfl c361) rfl rfl (shO_off (b' := false) 178 rfl (Env.isF rfl c361) rfl rfl (shO_off (b' := false) 178 rfl (Env.isF rfl c361) rfl rfl (shO_on (b := false) 175 rfl (Env.isF rfl c358) ?_)))))
                   refine ov (v_pick_f (evD_false rfl c361) rfl) rfl ?_
                   refine ov (v_pick_f (evD_false rfl c358) rfl) rfl ?_
                   refine shO_nil ?_
                   obtain rfl := inj1 r365
                   exact mi kr ⟨rfl, rfl, (sc rfl (sc rfl (sc rfl (sc rfl (sc rfl (sc rfl (sc rfl (sc rfl (sc rfl (sc rfl (sc rfl (sc rfl (sc rfl (sc rfl (sc rfl (sc rfl (sn _)))))))))))))))))⟩
                 have r366 := ite_f h352 c354; clear h352
                 refine shO_off (b' := false) 168 rfl (Env.isF rfl c354) rfl rfl (shO_off (b' := false) 168 rfl (Env.isF rfl c354) rfl rfl (shO_off (b' := false) 168 rfl (Env.isF rfl c354) rfl rfl (shO_off (b' := false) 168 rfl (Env.isF rfl c354) rfl rfl (shO_off (b' := false) 168 rfl (Env.isF rfl c354) rfl rfl ?_))))
                 refine ov (v_pick_f (evD_false rfl c354) rfl) rfl ?_
                 refine om rfl rfl (shO_on (b := false) 175 rfl rfl (om rfl rfl (shO_on (b := false) 175 rfl rfl ?_)))
                 refine ov (v_eql rfl rfl) rfl ?_
                 refine shO_on (b := false) 175 rfl rfl (om rfl rfl ?_)
                 by_cases c367 : x4 = 2
                 · have r368 := ite_t r366 c367; clear r366
                   refine shO_on (b := true) 178 rfl (Env.isT rfl c367) (om rfl rfl (shO_on (b := true) 178 rfl (Env.isT rfl c367) (om rfl rfl (shO_on (b := true) 178 rfl (Env.isT rfl c367) ?_))))
                   obtain ⟨g369, r370⟩ := gd_ok r368; clear r368
                   refine ov (v_shr rfl rfl g369) rfl ?_
                   refine shO_on (b := true) 178 rfl (Env.isT rfl c367) ?_
                   refine ov (v_and rfl rfl) rfl ?_
                   refine shO_on (b := true) 178 rfl (Env.isT rfl c367) ?_
                   refine ov (v_eql rfl rfl) rfl ?_
                   refine shO_on (b := false) 175 rfl rfl ?_
                   refine ov (v_pick_t (evD_true rfl c367) rfl) rfl ?_
                   refine ov (v_pick_f rfl rfl) rfl ?_
                   refine shO_nil ?_
                   obtain rfl := inj1 r370
                   exact mi kr ⟨rfl, rfl, (sc rfl (sc rfl (sc rfl (sc rfl (sc rfl (sc rfl (sc rfl (sc rfl (sc rfl (sc rfl (sc rfl (sc rfl (sc rfl (sc rfl (sc rfl (sc rfl (sn _)))))))))))))))))⟩
                 have r371 := ite_f r366 c367; clear r366
                 refine shO_off (b' := false) 178 rfl (Env.isF rfl c367) rfl rfl (shO_off (b' := false) 178 rfl (Env.isF rfl c367) rfl rfl (shO_off (b' := false) 178 rfl (Env.isF rfl c367) rfl rfl (shO_off (b' := false) 178 rfl (Env.isF rfl c367) rfl rfl (shO_off (b' := false) 178 rfl (Env.isF rfl c367) rfl rfl (shO_on (b := false) 175 rfl rfl ?_)))))
                 refine ov (v_pick_f (evD_false rfl c367) rfl) rfl ?_
                 refine ov (v_pick_f rfl rfl) rfl ?_
                 refine shO_nil ?_
                 obtain rfl := inj1 r371
                 exact mi kr ⟨rfl, rfl, (sc rfl (sc rfl (sc rfl (sc rfl (sc rfl (sc rfl (sc rfl (sc rfl (sc rfl (sc rfl (sc rfl (sc rfl (sc rfl (sc rfl (sc rfl (sc rfl (sn _)))))))))))))))))⟩
               rintro e1 _ _ ⟨rfl, rfl, he372⟩
               refine shW_env _ he372 ?_; clear he372
               refine shW_cond rfl (fun c373 => ?_) (fun c373 => ?_)
               · have r374 := bt r353 c373; clear r353
                 refine wsr (oa rfl rfl (shO_nil ?_))
                 refine kW kn ?_
                 refine shW_ret (inBlock_ret (andThen_ret (andThen_ret (inBlock_ret (inBlock_ret (andThen_ret (andThen_ret (inBlock_ret (andThen_ret ?_)))))))))
                 refine inBlock_ret (andThen_ret (andThen_ret (inBlock_ret (andThen_ret ?_))))
                 refine q_res1 Try.results8 (res_tmp rfl) (sr) ?_
                 obtain rfl := inj1 r374
                 exact rfl
               have r375 := bf r353 c373; clear r353
               refine shW_skip (inBlock_n (id := 7) (shW_region ?_))
               refine ov (v_add rfl rfl (Lst.r64 hk334 c339 (RowR.lt h333))) rfl ?_
               refine om rfl rfl (shO_nil ?_)
               subst hn335; exact le kr ⟨_, _, rfl, hk340, r375, rfl, rfl, (sc rfl (sc rfl (sc rfl (sc rfl (sc rfl (sc rfl (sc rfl (sc rfl (sc rfl (sc rfl (sc rfl (sc rfl (sc rfl (sc rfl (sc rfl (sn _))))))))))))))))⟩
             obtain rfl := Lst.zero hk334 c339
             rw [oyezlaw05_NightSlept_l8] at r336
             refine shW_exit (andThen_exit (andThen_exit ?_))
             refine inBlock_exit ?_
             refine inBlock_n (id := 5) ?_
             exact mi kr ⟨r336, rfl, rfl, (sc rfl (sc rfl (sc rfl (sc rfl (sc rfl (sc rfl (sc rfl (sc rfl (sc rfl (sc rfl (sc rfl (sn _))))))))))))⟩
           rintro e1 _ _ ⟨r376, rfl, rfl, he377⟩
           refine shW_env _ he377 ?_; clear he377
           rw [oyezlaw05_NightSlept_j7] at r376
           refine shW_region ?_
           refine ov (v_add rfl rfl (Lst.r64 hk286 c291 (RowR.lt h285))) rfl ?_
           refine om rfl rfl (shO_nil ?_)
           subst hn287; exact le kr ⟨_, _, rfl, hk292, bor some_2 x2, r376, rfl, rfl, (sc rfl (sc rfl (sc rfl (sc rfl (sc rfl (sc rfl (sc rfl (sc rfl (sc rfl (sc rfl (sc rfl (sn _))))))))))))⟩
         obtain rfl := Lst.zero hk286 c291
         rw [oyezlaw05_NightSlept_l6] at r288
         refine shW_exit (andThen_exit (andThen_exit ?_))
         refine inBlock_exit ?_
         exact mi kr ⟨some_2, r288, rfl, rfl, (sc rfl (sc rfl (sc rfl (sc rfl (sc rfl (sc rfl (sc rfl (sc rfl (sn _)))))))))⟩
       rintro e1 _ _ ⟨some_, r378, rfl, rfl, he379⟩
       refine shW_env _ he379 ?_; clear he379
       rw [oyezlaw05_NightSlept_j5] at r378
       refine wsr ?_
       refine o_alloc rfl Try.zeroValue27 ?_; intro b380 hb380
       refine shO_nil ?_
       obtain ⟨l9, h387, r388⟩ := b1_ok r378; clear r378
       refine shW_join (fun e1 F1 L1 => ∃ (a381 : Option Addr) (n385 : Nat) (c382 : Nat) (Lb383 : LH), F267 = F1 ∧ L1 = ((b380, .cells #[.slice a381 n385 c382] 27 (0, 0)) :: ((b36, .cells #[.slice a17 l.length c18, .slice a23 l2.length c24] 26 (0, 0)) :: (Lb61 ++ (Lb73 ++ (Lb383 ++ (Lb208 ++ [])))))) ∧ e1.sub [(5, .pointer (some ⟨b36, 0, none⟩)), (8, .slice a59 n63 c60), (10, .slice a71 n75 c72), (12, .pointer (some ⟨b86, 0, none⟩)), (29, .pointer (some ⟨b380, 0, none⟩)), (131, .slice a206 n210 c207), (132, .int .i64 (all_.length : Int)), (133, .int .i64 k3)] ∧ SlR K.w0.heap.size 3 1 (iE .i64) F1 a381 n385 c382 l9 Lb383) ?_ ?_
       · clear r388
         refine wsr ?_
         refine ov (v_fieldAddr fa_26_0 rfl) rfl ?_
         refine ov (v_load Try.isAgg23 rfl (Has.own 1 rfl) rfl) rfl ?_
         refine ov (v_lenS Try.underlying23 rfl) rfl ?_
         refine om rfl rfl (shO_nil ?_)
         refine shW_block ?_
         refine shW_lp (fun fu9 e1 F1 L1 => ∃ (tl7 : List (List Int)) (k7 : Int), tl7.length = fu9 ∧ Lst l k7 tl7 ∧ ∃ (l10 : List Int) (a389 : Option Addr) (n393 : Nat) (c390 : Nat) (Lb391 : LH), oyezlaw05_NightSlept_l9 some_ tl7 k7 l10 = some l9 ∧ F267 = F1 ∧ L1 = ((b380, .cells #[.slice a389 n393 c390] 27 (0, 0)) :: ((b36, .cells #[.slice a17 l.length c18, .slice a23 l2.length c24] 26 (0, 0)) :: (Lb61 ++ (Lb73 ++ (Lb391 ++ (Lb208 ++ [])))))) ∧ e1.sub [(5, .pointer (some ⟨b36, 0, none⟩)), (8, .slice a59 n63 c60), (10, .slice a71 n75 c72), (12, .pointer (some ⟨b86, 0, none⟩)), (24, .int .i64 some_), (29, .pointer (some ⟨b380, 0, none⟩)), (131, .slice a206 n210 c207), (132, .int .i64 (all_.length : Int)), (133, .int .i64 k3), (190, .int .i64 (l.length : Int)), (191, .int .i64 k7)] ∧ SlR K.w0.heap.size 3 1 (iE .i64) F1 a389 n393 c390 l10 Lb391) _ (m0 (kc (kc (ka (ka (ke kr))))) ⟨_, _, rfl, Lst.start _, [], none, 0, 0, [], h387, rfl, rfl, (sc rfl (sc rfl (sc rfl (sc rfl (sc rfl (sc rfl (sc rfl (sc rfl (sc rfl (sc rfl (sc rfl (sn _)))))))))))), SlR.nil _ _ _ _ _⟩) ?_
         rintro fu9 e1 _ _ ⟨tl7, k7, hn396, hk395, l10, a389, n393, c390, Lb391, r397, rfl, rfl, he398, hz392⟩
         refine shW_env _ he398 ?_; clear he398
         refine wsr ?_
         refine ov (v_lssK rfl rfl) rfl ?_
         refine shO_nil (shW_seq ?_)
         refine shW_condP rfl (fun c400 => ?_) (fun c400 => ?_)
         · obtain ⟨x5, tl8, rfl, hx402, g403, hk401⟩ := Lst.succ hk395 c400
           rw [oyezlaw05_NightSlept_l9] at r397
           refine shW_skip (shW_seq ?_)
           refine shW_block ?_
           refine wsr (om rfl rfl (oa rfl rfl (nsr (om rfl rfl (om rfl rfl ?_)))))
           obtain ⟨g404, r405⟩ := gd_ok r397; clear r397
           refine ov (v_shr rfl rfl g404) rfl ?_
           refine ov (v_and rfl rfl) rfl ?_
           refine ov (v_eql rfl rfl) rfl ?_
           refine shO_nil ?_
           refine shW_condP rfl (fun c406 => ?_) (fun c406 => ?_)
           · have r407 := ite_t r405 c406; clear r405
             refine shW_region ?_
             refine ov (v_load Try.isAgg27 rfl (Has.own 0 rfl) rfl) rfl ?_
             refine om rfl rfl ?_
             refine o_buildSlice (cs := #[.int .i64 k7]) rfl rfl (buildSlice_all slt_27 [.int .i64 k7] rfl (by decide) (by simp [Value.cells]) (by decide)) ?_; intro b408 hb408
             obtain ⟨l11, h409, g410, r411⟩ := ap_ok r407; clear r407
             refine o_appZ (xs := l10) (ys := [k7]) (zs := l11) rfl slt_27 rfl rfl (Nat.le_refl _) (fun _ => .c (.c (.c (.s (.s .h))))) hz392 (SrcR.box (vss := [[.int .i64 k7]]) (ys := [k7]) 0 rfl (iE_ok _) (.cons rfl .nil) rfl rfl) h409 g410 (by decide) ?_; intro a412 n416 c413 Lb414 hz415
             refine kO (kd kr) ?_
             refine o_store (i := 0) Try.sizeOf27 rfl rfl rfl rfl (Nat.le_of_ble_eq_true rfl) ?_
             refine shO_L (L' := (b380, .cells #[.slice a412 n416 c413] 27 (0, 0)) :: ((b36, .cells #[.slice a17 l.length c18, .slice a23 l2.length c24] 26 (0, 0)) :: (Lb61 ++ (Lb73 ++ (Lb414 ++ (Lb208 ++ [])))))) rfl ?_
             refine shO_nil (inBlock_n (id := 9) (shW_region ?_))
             refine ov (v_add rfl rfl (Lst.r64 hk395 c400 (RowR.lt h49))) rfl ?_
             refine om rfl rfl (shO_nil ?_)
             subst hn396; exact le kr ⟨_, _, rfl, hk401, l11, a412, n416, c413, Lb414, r411, rfl, rfl, (sc rfl (sc rfl (sc rfl (sc rfl (sc rfl (sc rfl (sc rfl (sc rfl (sc rfl (sc rfl (sc rfl (sn _)))))))))))), hz415⟩
           have r418 := ite_f r405 c406; clear r405
           refine shW_skip (inBlock_n (id := 9) (shW_region ?_))
           refine ov (v_add rfl rfl (Lst.r64 hk395 c400 (RowR.lt h49))) rfl ?_
           refine om rfl rfl (shO_nil ?_)
           subst hn396; exact le kr ⟨_, _, rfl, hk401, l10, a389, n393, c390, Lb391, r418, rfl, rfl, (sc rfl (sc rfl (sc rfl (sc rfl (sc rfl (sc rfl (sc rfl (sc rfl (sc rfl (sc rfl (sc rfl (sn _)))))))))))), hz392⟩
         obtain rfl := Lst.zero hk395 c400
         rw [oyezlaw05_NightSlept_l9] at r397
         refine shW_exit (andThen_exit (andThen_exit ?_))
         refine inBlock_exit ?_
         obtain rfl := inj1 r397
         exact mi kr ⟨a389, n393, c390, Lb391, rfl, rfl, (sc rfl (sc rfl (sc rfl (sc rfl (sc rfl (sc rfl (sc rfl (sc rfl (sn _))))))))), hz392⟩
       rintro e1 _ _ ⟨a381, n385, c382, Lb383, rfl, rfl, he419, hz384⟩
       refine shW_env _ he419 ?_; clear he419
       obtain ⟨k8, h420, r421⟩ := b1_ok r388; clear r388
       refine shW_join (fun e1 F1 L1 => FExt F267 F1 ∧ L1 = ((b36, .cells #[.slice a17 l.length c18, .slice a23 l2.length c24] 26 (0, 0)) :: (Lb61 ++ (Lb73 ++ (Lb208 ++ [])))) ∧ e1.sub [(5, .pointer (some ⟨b36, 0, none⟩)), (8, .slice a59 n63 c60), (10, .slice a71 n75 c72), (12, .pointer (some ⟨b86, 0, none⟩)), (131, .slice a206 n210 c207), (132, .int .i64 (all_.length : Int)), (133, .int .i64 k3), (226, .bool k8)]) ?_ ?_
       · clear r421
         refine shW_region ?_
         refine ov (v_load Try.isAgg27 rfl (Has.own 0 rfl) rfl) rfl ?_
         refine ov ((v_lenS Try.underlying27 rfl).i (SlR.lenI hz384)) rfl ?_
         refine ov (v_load Try.isAgg27 rfl (Has.frozen hz128) rfl) rfl ?_
         refine ov (v_lenS Try.underlying27 rfl) rfl ?_
         refine ov (v_lssK rfl rfl) rfl ?_
         refine om rfl rfl ?_
         by_cases c422 : (l9.length : Int) < (l6.length : Int)
         · have r423 := ite_t h420 c422; clear h420
           refine shO_off (b' := true) 209 rfl (Env.isT rfl c422) rfl rfl (shO_off (b' := true) 209 rfl (Env.isT rfl c422) rfl rfl (shO_off (b' := true) 209 rfl (Env.isT rfl c422) rfl rfl (shO_off (b' := true) 209 rfl (Env.isT rfl c422) rfl rfl (shO_off (b' := true) 209 rfl (Env.isT rfl c422) rfl rfl (shO_off (b' := true) 209 rfl (Env.isT rfl c422) rfl rfl (shO_offU 215 rfl rfl rfl (shO_offU 215 rfl rfl rfl (shO_offU 215 rfl rfl rfl (shO_offU 215 rfl rfl rfl ?_)))))))))
           refine shO_off (b' := true) 209 rfl (Env.isT rfl c422) rfl rfl ?_
           refine ov (v_pick_t (evD_true rfl c422) rfl) rfl ?_
           refine om rfl rfl (shO_off (b' := true) 222 rfl rfl rfl rfl (shO_off (b' := true) 222 rfl rfl rfl rfl (shO_off (b' := true) 222 rfl rfl rfl rfl ?_)))
           refine ov (v_pick_t rfl rfl) rfl ?_
           refine shO_nil ?_
           obtain rfl := inj1 r423
           exact mi (kd (kc (ka (ka (kx kr))))) ⟨FExt.refl _, rfl, (sc rfl (sc rfl (sc rfl (sc rfl (sc rfl (sc rfl (sc rfl (sc rfl (sn _)))))))))⟩
         have r424 := ite_f h420 c422; clear h420
         refine shO_on (b := false) 209 rfl (Env.isF rfl c422) ?_
         refine ov (v_load Try.isAgg27 rfl (Has.own 0 rfl) rfl) rfl ?_
         refine shO_on (b := false) 209 rfl (Env.isF rfl c422) ?_
         refine ov ((v_lenS Try.underlying27 rfl).i (SlR.lenI hz384)) rfl ?_
         refine shO_on (b := false) 209 rfl (Env.isF rfl c422) ?_
         refine ov (v_load Try.isAgg27 rfl (Has.frozen hz128) rfl) rfl ?_
         refine shO_on (b := false) 209 rfl (Env.isF rfl c422) ?_
         refine ov (v_lenS Try.underlying27 rfl) rfl ?_
         refine shO_on (b := false) 209 rfl (Env.isF rfl c422) ?_
         refine ov (v_eql rfl rfl) rfl ?_
         refine shO_on (b := false) 209 rfl (Env.isF rfl c422) (om rfl rfl ?_)
         by_cases c425 : (l9.length : Int) = (l6.length : Int)
         · have r426 := ite_t r424 c425; clear r424
           refine shO_on (b := true) 215 rfl (Env.isT rfl c425) ?_
           refine ov (v_load Try.isAgg27 rfl (Has.own 0 rfl) rfl) rfl ?_
           refine shO_on (b := true) 215 rfl (Env.isT rfl c425) ?_
           refine ov (v_load Try.isAgg27 rfl (Has.frozen hz128) rfl) rfl ?_
           refine shO_on (b := true) 215 rfl (Env.isT rfl c425) ?_
           obtain ⟨n8, h427, r428⟩ := b1_ok r426; clear r426
           refine o_callT (Lt := Lb383 ++ []) (Lr := (b380, .cells #[.slice a381 n385 c382] 27 (0, 0)) :: ((b36, .cells #[.slice a17 l.length c18, .slice a23 l2.length c24] 26 (0, 0)) :: (Lb61 ++ (Lb73 ++ (Lb208 ++ []))))) rfl Try.call42 rfl rfl rfl (pT ((fC (fC (fS (fS fP)))).trans (pA pR)) (lp (ln rfl))) (fun F2 h2 h3 => by rw [(SlR.caps hz384).1]; exact slices_Compare_int_int_w (hz384.row (iE_ok _) h2 (fun p hp => h3 p (List.mem_append_left _ hp))) (h85.mono (iE_ok _) h2) h427) ?_
           refine shO_on (b := true) 215 rfl (Env.isT rfl c425) ?_
           refine ov (v_lssK rfl rfl) rfl ?_
           refine shO_on (b := false) 209 rfl (Env.isF rfl c422) ?_
           refine ov (v_pick_t (evD_true rfl c425) rfl) rfl ?_
           refine ov (v_pick_f (evD_false rfl c422) rfl) rfl ?_
           refine om rfl rfl ?_
           by_cases c429 : n8 < 0
           · have r430 := ite_t r428 c429; clear r428
             refine shO_off (b' := true) 222 rfl (Env.isT rfl c429) rfl rfl (shO_off (b' := true) 222 rfl (Env.isT rfl c429) rfl rfl (shO_off (b' := true) 222 rfl (Env.isT rfl c429) rfl rfl ?_))
             refine ov (v_pick_t (evD_true rfl c429) rfl) rfl ?_
             refine shO_nil ?_
             obtain rfl := inj1 r430
             exact mi (kd (kc (ka (ka (kx kr))))) ⟨FExt.refl _, rfl, (sc rfl (sc rfl (sc rfl (sc rfl (sc rfl (sc rfl (sc rfl (sc rfl (sn _)))))))))⟩
           have r431 := ite_f r428 c429; clear r428
           refine shO_on (b := false) 222 rfl (Env.isF rfl c429) (om rfl rfl (shO_on (b := false) 222 rfl (Env.isF rfl c429) ?_))
           refine ov (v_makeFunc rfl rfl) rfl ?_
           refine shO_on (b := false) 222 rfl (Env.isF rfl c429) ?_
           obtain rfl := (SlR.caps hz384).1
           refine shO_freezeR (Nat.le_refl _) (iE_ok _) (fC (fC (fS (fS fP)))) hz384 ?_; intro F432 hF433 h434
           replace hz74 := hz74.mono (iE_ok _) hF433
           refine shO_freeze 0 rfl hb380 ?_; intro F435 hF436 hz437
           refine shO_L (L' := (b36, .cells #[.slice a17 l.length c18, .slice a23 l2.length c24] 26 (0, 0)) :: (Lb61 ++ (Lb73 ++ (Lb208 ++ [])))) rfl ?_
           replace h434 := h434.mono (iE_ok _) hF436
           replace hz74 := hz74.mono (iE_ok _) hF436
           have hn438 : FnR Try.prog F435 43 #[] #[.pointer (some ⟨b380, 0, none⟩)] (iE .i64) Value.bool (fun xx_ : Int => oyezlaw05_NightSlept_2 xx_ l9) := ⟨Try.call43, fun F2 h2 vs xx_ r ha hr => by obtain rfl := ha; exact oyezlaw05_NightSlept_2_w (h2 _ _ hz437) (h434.mono (iE_ok _) h2) hr⟩
           obtain ⟨ok4, h439, r440⟩ := b1_ok r431; clear r431
           refine o_callT (Lt := Lb73 ++ []) (Lr := (b36, .cells #[.slice a17 l.length c18, .slice a23 l2.length c24] 26 (0, 0)) :: (Lb61 ++ (Lb208 ++ []))) rfl Try.call38 rfl rfl rfl (pT ((fC (fS fP)).trans (pA pR)) (lp (ln rfl))) (fun F2 h2 h3 => by rw [(SlR.caps hz74).1]; exact slices_ContainsFunc_int_int_w (hz74.row (iE_ok _) h2 (fun p hp => h3 p (List.mem_append_left _ hp))) (hn438.mono h2) h439) ?_
           refine ov (v_pick_f (evD_false rfl c429) rfl) rfl ?_
           refine shO_nil ?_
           obtain rfl := inj1 r440
           exact mi kr ⟨(hF433.trans hF436), rfl, (sc rfl (sc rfl (sc rfl (sc rfl (sc rfl (sc rfl (sc rfl (sc rfl (sn _)))))))))⟩
         have r441 := ite_f r424 c425; clear r424
         refine shO_off (b' := false) 215 rfl (Env.isF rfl c425) rfl rfl (shO_off (b' := false) 215 rfl (Env.isF rfl c425) rfl rfl (shO_off (b' := false) 215 rfl (Env.isF rfl c425) rfl rfl (shO_off (b' := false) 215 rfl (Env.isF rfl c425) rfl rfl (shO_on (b := false) 209 rfl (Env.isF rfl c422) ?_))))
         refine ov (v_pick_f (evD_false rfl c425) rfl) rfl ?_
         refine ov (v_pick_f (evD_false rfl c422) rfl) rfl ?_
         refine om rfl rfl (shO_on (b := false) 222 rfl rfl (om rfl rfl (shO_on (b := false) 222 rfl rfl ?_)))
         refine ov (v_makeFunc rfl rfl) rfl ?_
         refine shO_on (b := false) 222 rfl rfl ?_
         obtain rfl := (SlR.caps hz384).1
         refine shO_freezeR (Nat.le_refl _) (iE_ok _) (fC (fC (fS (fS fP)))) hz384 ?_; intro F442 hF443 h444
         replace hz74 := hz74.mono (iE_ok _) hF443
         refine shO_freeze 0 rfl hb380 ?_; intro F445 hF446 hz447
         refine shO_L (L' := (b36, .cells #[.slice a17 l.length c18, .slice a23 l2.length c24] 26 (0, 0)) :: (Lb61 ++ (Lb73 ++ (Lb208 ++ [])))) rfl ?_
         replace h444 := h444.mono (iE_ok _) hF446
         replace hz74 := hz74.mono (iE_ok _) hF446
         have hn448 : FnR Try.prog F445 43 #[] #[.pointer (some ⟨b380, 0, none⟩)] (iE .i64) Value.bool (fun xx_ : Int => oyezlaw05_NightSlept_2 xx_ l9) := ⟨Try.call43, fun F2 h2 vs xx_ r ha hr => by obtain rfl := ha; exact oyezlaw05_NightSlept_2_w (h2 _ _ hz447) (h444.mono (iE_ok _) h2) hr⟩
         obtain ⟨ok5, h449, r450⟩ := b1_ok r441; clear r441
         refine o_callT (Lt := Lb73 ++ []) (Lr := (b36, .cells #[.slice a17 l.length c18, .slice a23 l2.length c24] 26 (0, 0)) :: (Lb61 ++ (Lb208 ++ []))) rfl Try.call38 rfl rfl rfl (pT ((fC (fS fP)).trans (pA pR)) (lp (ln rfl))) (fun F2 h2 h3 => by rw [(SlR.caps hz74).1]; exact slices_ContainsFunc_int_int_w (hz74.row (iE_ok _) h2 (fun p hp => h3 p (List.mem_append_left _ hp))) (hn448.mono h2) h449) ?_
         refine ov (v_pick_f rfl rfl) rfl ?_
         refine shO_nil ?_
         obtain rfl := inj1 r450
         exact mi kr ⟨(hF443.trans hF446), rfl, (sc rfl (sc rfl (sc rfl (sc rfl (sc rfl (sc rfl (sc rfl (sc rfl (sn _)))))))))⟩
       rintro e1 F452 _ ⟨hF453, rfl, he451⟩
       refine shW_env _ he451 ?_; clear he451
       refine shW_cond rfl (fun c454 => ?_) (fun c454 => ?_)
       · have r455 := bt r421 c454; clear r421
         refine wsr (oa rfl rfl (shO_nil ?_))
         refine kW kn ?_
         refine shW_ret (inBlock_ret (andThen_ret (andThen_ret (inBlock_ret (andThen_ret ?_)))))
         refine q_res1 Try.results8 (res_tmp rfl) (sr) ?_
         obtain rfl := inj1 r455
         exact rfl
       have r456 := bf r421 c454; clear r421
       refine shW_skip (inBlock_n (id := 3) ?_)
       exact mi kr ⟨r456, hF453, rfl, (sc rfl (sc rfl (sc rfl (sc rfl (sc rfl (sc rfl (sc rfl (sn _))))))))⟩
     rintro e1 F459 _ ⟨r457, hF460, rfl, he458⟩
     refine shW_env _ he458 ?_; clear he458
     replace hz209 := hz209.mono (slE_ok (iE_ok _)) hF460
     rw [oyezlaw05_NightSlept_j4] at r457
     refine shW_region ?_
     refine ov (v_add rfl rfl (Lst.r64 hk263 c270 (SlR.llt hz209))) rfl ?_
     refine om rfl rfl (shO_nil ?_)
     subst hn264; exact le kr ⟨_, _, rfl, hk271, r457, (hF268.trans hF460), rfl, (sc rfl (sc rfl (sc rfl (sc rfl (sc rfl (sc rfl (sc rfl (sn _))))))))⟩
   obtain rfl := Lst.zero hk263 c270
   rw [oyezlaw05_NightSlept_l3] at r265
   refine shW_exit (andThen_exit (andThen_exit ?_))
   refine inBlock_exit ?_
   exact mi (kc (ka (ka kn))) ⟨r265, hF268, rfl, (sc rfl (sc rfl (sc rfl (sn _))))⟩
 rintro e1 F463 _ ⟨r461, hF464, rfl, he462⟩
 refine shW_env _ he462 ?_; clear he462
 replace h52 := h52.mono (slE_ok (iE_ok _)) hF464
 replace hz62 := hz62.mono (slE_ok (iE_ok _)) hF464
 replace hz74 := hz74.mono (iE_ok _) hF464
 rw [oyezlaw05_NightSlept_j2] at r461
 refine shW_join (fun e1 F1 L1 => oyezlaw05_NightSlept_j10 = some r ∧ F463 = F1 ∧ L1 = [] ∧ e1.sub []) ?_ ?_
 · refine wsr (om rfl rfl ?_)
   refine ov ((v_lenS Try.underlying71 rfl).i (SlR.lenI hz62)) rfl ?_
   refine om rfl rfl (shO_nil ?_)
   refine shW_block ?_
   refine shW_lp (fun fu11 e1 F1 L1 => ∃ (tl9 : List (List Int)) (k9 : Int), tl9.length = fu11 ∧ Lst l4 k9 tl9 ∧ oyezlaw05_NightSlept_l11 l2 l5 tl9 k9 = some r ∧ F463 = F1 ∧ L1 = ((b36, .cells #[.slice a17 l.length c18, .slice a23 l2.length c24] 26 (0, 0)) :: (Lb73 ++ (Lb61 ++ []))) ∧ e1.sub [(5, .pointer (some ⟨b36, 0, none⟩)), (10, .slice a71 n75 c72), (228, .slice a59 n63 c60), (229, .int .i64 (l4.length : Int)), (230, .int .i64 k9)]) _ (m0 (kc (kg (fS fP) kr)) ⟨_, _, rfl, Lst.start _, r461, rfl, rfl, (sc rfl (sc rfl (sc rfl (sc rfl (sc rfl (sn _))))))⟩) ?_
   rintro fu11 e1 _ _ ⟨tl9, k9, hn466, hk465, r467, rfl, rfl, he468⟩
   refine shW_env _ he468 ?_; clear he468
   refine wsr ?_
   refine ov (v_lssK rfl rfl) rfl ?_
   refine shO_nil (shW_seq ?_)
   refine shW_condP rfl (fun c470 => ?_) (fun c470 => ?_)
   · obtain ⟨x6, tl10, rfl, hx472, g473, hk471⟩ := Lst.succ hk465 c470
     rw [oyezlaw05_NightSlept_l11] at r467
     refine shW_skip ?_
     refine shW_join (fun e1 F1 L1 => oyezlaw05_NightSlept_j12 k9 (oyezlaw05_NightSlept_l11 l2 l5 tl10) = some r ∧ F463 = F1 ∧ L1 = ((b36, .cells #[.slice a17 l.length c18, .slice a23 l2.length c24] 26 (0, 0)) :: (Lb73 ++ (Lb61 ++ []))) ∧ e1.sub [(5, .pointer (some ⟨b36, 0, none⟩)), (10, .slice a71 n75 c72), (228, .slice a59 n63 c60), (229, .int .i64 (l4.length : Int)), (230, .int .i64 k9)]) ?_ ?_
     · refine shW_block ?_
       refine wsr (om rfl rfl ?_)
       obtain ⟨b474, o475, c476, vs477, ha478, hs479, hle480, ⟨a483, c484, rfl, h485⟩, hl481, hc482⟩ := SlR.at (slE_ok (iE_ok _)) hz62 (L := (b36, .cells #[.slice a17 l.length c18, .slice a23 l2.length c24] 26 (0, 0)) :: (Lb73 ++ (Lb61 ++ []))) (fC (fS fP)) g473.1 hx472
       refine ov (v_indexO Try.underlying71 Try.sizeOf80 rfl ha478 rfl (SlR.idx hz62 g473)) rfl ?_
       refine ov (v_load Try.isAgg80 rfl hs479 (hc482 0 (by decide))) rfl ?_
       refine oa rfl rfl (oa rfl rfl (nsr (om rfl rfl ?_)))
       refine ov (v_lenS Try.underlying80 rfl) rfl ?_
       refine om rfl rfl (shO_nil ?_)
       refine shW_block ?_
       refine shW_lp (fun fu13 e1 F1 L1 => ∃ (tl11 : List Int) (k10 : Int), tl11.length = fu13 ∧ Lst x6 k10 tl11 ∧ oyezlaw05_NightSlept_l13 l2 l5 k9 (oyezlaw05_NightSlept_l11 l2 l5 tl10) tl11 k10 = some r ∧ F463 = F1 ∧ L1 = ((b36, .cells #[.slice a17 l.length c18, .slice a23 l2.length c24] 26 (0, 0)) :: (Lb73 ++ (Lb61 ++ []))) ∧ e1.sub [(5, .pointer (some ⟨b36, 0, none⟩)), (10, .slice a71 n75 c72), (31, .int .i64 k9), (228, .slice a59 n63 c60), (229, .int .i64 (l4.length : Int)), (230, .int .i64 k9), (235, .slice a483 x6.length c484), (236, .int .i64 (x6.length : Int)), (237, .int .i64 k10)]) _ (m0 kr ⟨_, _, rfl, Lst.start _, r467, rfl, rfl, (sc rfl (sc rfl (sc rfl (sc rfl (sc rfl (sc rfl (sc rfl (sc rfl (sc rfl (sn _))))))))))⟩) ?_
       rintro fu13 e1 _ _ ⟨tl11, k10, hn487, hk486, r488, rfl, rfl, he489⟩
       refine shW_env _ he489 ?_; clear he489
       refine wsr ?_
       refine ov (v_lssK rfl rfl) rfl ?_
       refine shO_nil (shW_seq ?_)
       refine shW_condP rfl (fun c491 => ?_) (fun c491 => ?_)
       · obtain ⟨x7, tl12, rfl, hx493, g494, hk492⟩ := Lst.succ hk486 c491
         rw [oyezlaw05_NightSlept_l13] at r488
         refine shW_skip (shW_seq ?_)
         refine shW_block ?_
         refine wsr (om rfl rfl ?_)
         obtain ⟨b495, o496, c497, vs498, ha499, hs500, hle501, rfl, hl502, hc503⟩ := RowR.at (iE_ok _) h485 ((b36, .cells #[.slice a17 l.length c18, .slice a23 l2.length c24] 26 (0, 0)) :: (Lb73 ++ (Lb61 ++ []))) g494.1 hx493
         refine ov (v_indexO Try.underlying80 Try.sizeOf81 rfl ha499 rfl g494) rfl ?_
         refine ov (v_load Try.isAgg81 rfl hs500 (hc503 0 (by decide))) rfl ?_
         refine oa rfl rfl (oa rfl rfl (shO_nil ?_))
         obtain ⟨k11, h504, r505⟩ := b1_ok r488; clear r488
         refine shW_join (fun e1 F1 L1 => F463 = F1 ∧ L1 = ((b36, .cells #[.slice a17 l.length c18, .slice a23 l2.length c24] 26 (0, 0)) :: (Lb73 ++ (Lb61 ++ []))) ∧ e1.sub [(5, .pointer (some ⟨b36, 0, none⟩)), (10, .slice a71 n75 c72), (31, .int .i64 k9), (228, .slice a59 n63 c60), (229, .int .i64 (l4.length : Int)), (230, .int .i64 k9), (235, .slice a483 x6.length c484), (236, .int .i64 (x6.length : Int)), (237, .int .i64 k10), (264, .bool k11)]) ?_ ?_
         · clear r505
           refine shW_region (om rfl rfl ?_)
           refine ov (v_eql rfl rfl) rfl ?_
           refine om rfl rfl ?_
           by_cases c506 : x7 = 1
           · have r507 := ite_t h504 c506; clear h504
             refine shO_on (b := true) 244 rfl (Env.isT rfl c506) (om rfl rfl (shO_on (b := true) 244 rfl (Env.isT rfl c506) (om rfl rfl (shO_on (b := true) 244 rfl (Env.isT rfl c506) ?_))))
             obtain ⟨ok6, h508, r509⟩ := b1_ok r507; clear r507
             refine o_callT (Lt := Lb73 ++ []) (Lr := (b36, .cells #[.slice a17 l.length c18, .slice a23 l2.length c24] 26 (0, 0)) :: (Lb61 ++ [])) rfl Try.call40 rfl rfl rfl (pT ((fC fP).trans (pA pR)) (lp (ln rfl))) (fun F2 h2 h3 => by rw [(SlR.caps hz74).1]; exact slices_Contains_int_int_w (hz74.row (iE_ok _) h2 (fun p hp => h3 p (List.mem_append_left _ hp))) h508) ?_
             refine shO_on (b := true) 244 rfl (Env.isT rfl c506) ?_
             refine ov (v_notB rfl) rfl ?_
             refine ov (v_pick_t (evD_true rfl c506) rfl) rfl ?_
             refine om rfl rfl ?_
             rcases bool_two (!ok6) with c510 | c510
             · have r511 := bt r509 c510; clear r509
               refine shO_off (b' := true) 250 rfl (EnvB rfl c510) rfl rfl (shO_off (b' := true) 250 rfl (EnvB rfl c510) rfl rfl (shO_off (b' := true) 250 rfl (EnvB rfl c510) rfl rfl (shO_offU 253 rfl rfl rfl (shO_offU 253 rfl rfl rfl (shO_offU 253 rfl rfl rfl (shO_offU 253 rfl rfl rfl (shO_offU 253 rfl rfl rfl (shO_offU 253 rfl rfl rfl (shO_offU 253 rfl rfl rfl ?_)))))))))
               refine shO_offU 253 rfl rfl rfl (shO_offU 253 rfl rfl rfl (shO_off (b' := true) 250 rfl (EnvB rfl c510) rfl rfl ?_))
               refine ov (v_pick_t (evB rfl c510) rfl) rfl ?_
               refine shO_nil ?_
               obtain rfl := inj1 r511
               exact mi kr ⟨rfl, rfl, (sc rfl (sc rfl (sc rfl (sc rfl (sc rfl (sc rfl (sc rfl (sc rfl (sc rfl (sc rfl (sn _)))))))))))⟩
             have r512 := bf r509 c510; clear r509
             refine shO_on (b := false) 250 rfl (EnvB rfl c510) (om rfl rfl (shO_on (b := false) 250 rfl (EnvB rfl c510) ?_))
             refine ov (v_eql rfl rfl) rfl ?_
             refine shO_on (b := false) 250 rfl (EnvB rfl c510) (om rfl rfl ?_)
             by_cases c513 : x7 = 0
             · have r514 := ite_t r512 c513; clear r512
               refine shO_on (b := true) 253 rfl (Env.isT rfl c513) ?_
               refine ov (v_fieldAddr fa_26_1 rfl) rfl ?_
               refine shO_on (b := true) 253 rfl (Env.isT rfl c513) ?_
               refine ov (v_load Try.isAgg24 rfl (Has.own 0 rfl) rfl) rfl ?_
               refine shO_on (b := true) 253 rfl (Env.isT rfl c513) (om rfl rfl (shO_on (b := true) 253 rfl (Env.isT rfl c513) ?_))
               obtain ⟨x8, g515, hx516, r517⟩ := ix_ok r514; clear r514
               obtain ⟨b518, o519, c520, vs521, ha522, hs523, hle524, ⟨a527, c528, rfl, h529⟩, hl525, hc526⟩ := RowR.at (slE_ok (iE_ok _)) h52 ((b36, .cells #[.slice a17 l.length c18, .slice a23 l2.length c24] 26 (0, 0)) :: (Lb73 ++ (Lb61 ++ []))) g515.1 hx516
               refine ov (v_indexO Try.underlying24 Try.sizeOf40 rfl ha522 rfl g515) rfl ?_
               refine shO_on (b := true) 253 rfl (Env.isT rfl c513) ?_
               refine ov (v_load Try.isAgg40 rfl hs523 (hc526 0 (by decide))) rfl ?_
               refine shO_on (b := true) 253 rfl (Env.isT rfl c513) (om rfl rfl (shO_on (b := true) 253 rfl (Env.isT rfl c513) ?_))
               obtain ⟨x9, g530, hx531, r532⟩ := ix_ok r517; clear r517
               obtain ⟨b533, o534, c535, vs536, ha537, hs538, hle539, rfl, hl540, hc541⟩ := RowR.at (iE_ok _) h529 ((b36, .cells #[.slice a17 l.length c18, .slice a23 l2.length c24] 26 (0, 0)) :: (Lb73 ++ (Lb61 ++ []))) g530.1 hx531
               refine ov (v_indexO Try.underlying40 Try.sizeOf41 rfl ha537 rfl g530) rfl ?_
               refine shO_on (b := true) 253 rfl (Env.isT rfl c513) ?_
               refine ov (v_load Try.isAgg41 rfl hs538 (hc541 0 (by decide))) rfl ?_
               refine shO_on (b := true) 253 rfl (Env.isT rfl c513) ?_
               refine ov (v_eql rfl rfl) rfl ?_
               refine shO_on (b := false) 250 rfl (EnvB rfl c510) ?_
               refine ov (v_pick_t (evD_true rfl c513) rfl) rfl ?_
               refine ov (v_pick_f (evB rfl c510) rfl) rfl ?_
               refine shO_nil ?_
               obtain rfl := inj1 r532
               exact mi kr ⟨rfl, rfl, (sc rfl (sc rfl (sc rfl (sc rfl (sc rfl (sc rfl (sc rfl (sc rfl (sc rfl (sc rfl (sn _)))))))))))⟩
             have r542 := ite_f r512 c513; clear r512
             refine shO_off (b' := false) 253 rfl (Env.isF rfl c513) rfl rfl (shO_off (b' := false) 253 rfl (Env.isF rfl c513) rfl rfl (shO_off (b' := false) 253 rfl (Env.isF rfl c513) rfl rfl (shO_off (b' := false) 253 rfl (Env.isF rfl c513) rfl rfl (shO_off (b' := false) 253 rfl (Env.isF rfl c513) rfl rfl (shO_off (b' := false) 253 rfl (Env.isF rfl c513) rfl rfl (shO_off (b' := false) 253 rfl (Env.isF rfl c513) rfl rfl (shO_off (b' := false) 253 rfl (Env.isF rfl c513) rfl rfl (shO_off (b' := false) 253 rfl (Env.isF rfl c513) rfl rfl (shO_on (b := false) 250 rfl (EnvB rfl c510) ?_)))))))))
             refine ov (v_pick_f (evD_false rfl c513) rfl) rfl ?_
             refine ov (v_pick_f (evB rfl c510) rfl) rfl ?_
             refine shO_nil ?_
             obtain rfl := inj1 r542
             exact mi kr ⟨rfl, rfl, (sc rfl (sc rfl (sc rfl (sc rfl (sc rfl (sc rfl (sc rfl (sc rfl (sc rfl (sc rfl (sn _)))))))))))⟩
           have r543 := ite_f h504 c506; clear h504
           refine shO_off (b' := false) 244 rfl (Env.isF rfl c506) rfl rfl (shO_off (b' := false) 244 rfl (Env.isF rfl c506) rfl rfl (shO_off (b' := false) 244 rfl (Env.isF rfl c506) rfl rfl (shO_off (b' := false) 244 rfl (Env.isF rfl c506) rfl rfl ?_)))
           refine ov (v_pick_f (evD_false rfl c506) rfl) rfl ?_
           refine om rfl rfl (shO_on (b := false) 250 rfl rfl (om rfl rfl (shO_on (b := false) 250 rfl rfl ?_)))
           refine ov (v_eql rfl rfl) rfl ?_
           refine shO_on (b := false) 250 rfl rfl (om rfl rfl ?_)
           by_cases c544 : x7 = 0
           · have r545 := ite_t r543 c544; clear r543
             refine shO_on (b := true) 253 rfl (Env.isT rfl c544) ?_
             refine ov (v_fieldAddr fa_26_1 rfl) rfl ?_
             refine shO_on (b := true) 253 rfl (Env.isT rfl c544) ?_
             refine ov (v_load Try.isAgg24 rfl (Has.own 0 rfl) rfl) rfl ?_
             refine shO_on (b := true) 253 rfl (Env.isT rfl c544) (om rfl rfl (shO_on (b := true) 253 rfl (Env.isT rfl c544) ?_))
             obtain ⟨x10, g546, hx547, r548⟩ := ix_ok r545; clear r545
             obtain ⟨b549, o550, c551, vs552, ha553, hs554, hle555, ⟨a558, c559, rfl, h560⟩, hl556, hc557⟩ := RowR.at (slE_ok (iE_ok _)) h52 ((b36, .cells #[.slice a17 l.length c18, .slice a23 l2.length c24] 26 (0, 0)) :: (Lb73 ++ (Lb61 ++ []))) g546.1 hx547
             refine ov (v_indexO Try.underlying24 Try.sizeOf40 rfl ha553 rfl g546) rfl ?_
             refine shO_on (b := true) 253 rfl (Env.isT rfl c544) ?_
             refine ov (v_load Try.isAgg40 rfl hs554 (hc557 0 (by decide))) rfl ?_
             refine shO_on (b := true) 253 rfl (Env.isT rfl c544) (om rfl rfl (shO_on (b := true) 253 rfl (Env.isT rfl c544) ?_))
             obtain ⟨x11, g561, hx562, r563⟩ := ix_ok r548; clear r548
             obtain ⟨b564, o565, c566, vs567, ha568, hs569, hle570, rfl, hl571, hc572⟩ := RowR.at (iE_ok _) h560 ((b36, .cells #[.slice a17 l.length c18, .slice a23 l2.length c24] 26 (0, 0)) :: (Lb73 ++ (Lb61 ++ []))) g561.1 hx562
             refine ov (v_indexO Try.underlying40 Try.sizeOf41 rfl ha568 rfl g561) rfl ?_
             refine shO_on (b := true) 253 rfl (Env.isT rfl c544) ?_
             refine ov (v_load Try.isAgg41 rfl hs569 (hc572 0 (by decide))) rfl ?_
             refine shO_on (b := true) 253 rfl (Env.isT rfl c544) ?_
             refine ov (v_eql rfl rfl) rfl ?_
             refine shO_on (b := false) 250 rfl rfl ?_
             refine ov (v_pick_t (evD_true rfl c544) rfl) rfl ?_
             refine ov (v_pick_f rfl rfl) rfl ?_
             refine shO_nil ?_
             obtain rfl := inj1 r563
             exact mi kr ⟨rfl, rfl, (sc rfl (sc rfl (sc rfl (sc rfl (sc rfl (sc rfl (sc rfl (sc rfl (sc rfl (sc rfl (sn _)))))))))))⟩
           have r573 := ite_f r543 c544; clear r543
           refine shO_off (b' := false) 253 rfl (Env.isF rfl c544) rfl rfl (shO_off (b' := false) 253 rfl (Env.isF rfl c544) rfl rfl (shO_off (b' := false) 253 rfl (Env.isF rfl c544) rfl rfl (shO_off (b' := false) 253 rfl (Env.isF rfl c544) rfl rfl (shO_off (b' := false) 253 rfl (Env.isF rfl c544) rfl rfl (shO_off (b' := false) 253 rfl (Env.isF rfl c544) rfl rfl (shO_off (b' := false) 253 rfl (Env.isF rfl c544) rfl rfl (shO_off (b' := false) 253 rfl (Env.isF rfl c544) rfl rfl (shO_off (b' := false) 253 rfl (Env.isF rfl c544) rfl rfl (shO_on (b := false) 250 rfl rfl ?_)))))))))
           refine ov (v_pick_f (evD_false rfl c544) rfl) rfl ?_
           refine ov (v_pick_f rfl rfl) rfl ?_
           refine shO_nil ?_
           obtain rfl := inj1 r573
           exact mi kr ⟨rfl, rfl, (sc rfl (sc rfl (sc rfl (sc rfl (sc rfl (sc rfl (sc rfl (sc rfl (sc rfl (sc rfl (sn _)))))))))))⟩
         rintro e1 _ _ ⟨rfl, rfl, he574⟩
         refine shW_env _ he574 ?_; clear he574
         refine shW_cond rfl (fun c575 => ?_) (fun c575 => ?_)
         · have r576 := bt r505 c575; clear r505
           refine wsr (oa rfl rfl (shO_nil ?_))
           refine kW kn ?_
           refine shW_ret (inBlock_ret (andThen_ret (andThen_ret (inBlock_ret (inBlock_ret (andThen_ret (andThen_ret (inBlock_ret (andThen_ret ?_)))))))))
           refine q_res1 Try.results8 (res_tmp rfl) (sr) ?_
           obtain rfl := inj1 r576
           exact rfl
         have r577 := bf r505 c575; clear r505
         refine shW_skip (inBlock_n (id := 13) (shW_region ?_))
         refine ov (v_add rfl rfl (Lst.r64 hk486 c491 (RowR.lt h485))) rfl ?_
         refine om rfl rfl (shO_nil ?_)
         subst hn487; exact le kr ⟨_, _, rfl, hk492, r577, rfl, rfl, (sc rfl (sc rfl (sc rfl (sc rfl (sc rfl (sc rfl (sc rfl (sc rfl (sc rfl (sn _))))))))))⟩
       obtain rfl := Lst.zero hk486 c491
       rw [oyezlaw05_NightSlept_l13] at r488
       refine shW_exit (andThen_exit (andThen_exit ?_))
       refine inBlock_exit ?_
       refine inBlock_n (id := 11) ?_
       exact mi kr ⟨r488, rfl, rfl, (sc rfl (sc rfl (sc rfl (sc rfl (sc rfl (sn _))))))⟩
     rintro e1 _ _ ⟨r578, rfl, rfl, he579⟩
     refine shW_env _ he579 ?_; clear he579
     rw [oyezlaw05_NightSlept_j12] at r578
     refine shW_region ?_
     refine ov (v_add rfl rfl (Lst.r64 hk465 c470 (SlR.llt hz62))) rfl ?_
     refine om rfl rfl (shO_nil ?_)
     subst hn466; exact le kr ⟨_, _, rfl, hk471, r578, rfl, rfl, (sc rfl (sc rfl (sc rfl (sc rfl (sc rfl (sn _))))))⟩
   obtain rfl := Lst.zero hk465 c470
   rw [oyezlaw05_NightSlept_l11] at r467
   refine shW_exit (andThen_exit (andThen_exit ?_))
   refine inBlock_exit ?_
   exact mi kn ⟨r467, rfl, rfl, (sn _)⟩
 rintro e1 _ _ ⟨r580, rfl, rfl, he581⟩
 refine shW_env _ he581 ?_; clear he581
 rw [oyezlaw05_NightSlept_j10] at r580
 refine wsr ?_
 obtain ⟨ok7, h582, r583⟩ := b1_ok r580; clear r580
 refine o_callV rfl Try.call18 rfl rfl rfl (oyezlaw05_awake_w h582) ?_
 refine oa rfl rfl (shO_nil (shW_ret ?_))
 refine q_res1 Try.results8 (res_tmp rfl) (sr) ?_
 obtain rfl := inj1 r583
 exact rfl
end Go.Proofs.Ytjgeaaganpkceaa
