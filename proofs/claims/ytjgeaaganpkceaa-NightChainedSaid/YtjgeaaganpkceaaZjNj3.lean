/- The walks that this claim needs, printed by a program of mine; part 3. -/
import Derived.Test.YtjgeaaganpkceaaZjNj2
namespace Go.Proofs.Ytjgeaaganpkceaa
open Go.SH Go.PL
set_option maxHeartbeats 1000000 in
theorem oyezlaw05_awake_w {F : FS} {r : Bool} (hr : oyezlaw05_awake = some r) :
    SpecV Try.prog 18 #[] F (.bool r) := by
 refine spec_of_shW (args := []) Try.func18 rfl Try.ntmps18 (Nat.le_of_ble_eq_true rfl) ?_
 intro K _ _; rw [oyezlaw05_awake] at hr
 refine wsr (oa rfl rfl (nsr ?_))
 obtain ⟨l, l2, h1, r2⟩ := b2_ok hr; clear hr
 refine o_call0 rfl Try.call69 rfl rfl rfl (oyezlaw05_Four_w h1) ?_; rintro _ F3 _ hF4 hn5 ⟨a7, n11, c8, Lb9, a13, n17, c14, Lb15, rfl, rfl, hz10, hz16⟩
 replace hz10 := hz10.new fun p hp => hn5 p (by simp [hp])
 replace hz16 := hz16.new fun p hp => hn5 p (by simp [hp])
 refine shO_L (lp (lp (ln rfl))) ?_
 obtain ⟨n, n2, h19, r20⟩ := b2_ok r2; clear r2
 refine o_callT (Lt := Lb9 ++ (Lb15 ++ [])) (Lr := []) rfl Try.call20 rfl rfl rfl (pT pR (lp (lp (ln rfl)))) (fun F2 h2 h3 => by rw [(SlR.caps hz10).1]; rw [(SlR.caps hz16).1]; exact night_Cries_w (hz10.row (slE_ok (iE_ok _)) h2 (fun p hp => h3 p (List.mem_append_left _ hp))) (hz16.row (slE_ok (iE_ok _)) h2 (fun p hp => h3 p (List.mem_append_right _ (List.mem_append_left _ hp)))) h19) ?_
 refine om rfl rfl (ox rfl rfl rfl (ox rfl rfl rfl (oa rfl rfl (oa rfl rfl (nsr ?_)))))
 obtain ⟨l3, l4, h21, r22⟩ := b2_ok r20; clear r20
 refine o_call0 rfl Try.call69 rfl rfl rfl (oyezlaw05_Four_w h21) ?_; rintro _ F23 _ hF24 hn25 ⟨a27, n31, c28, Lb29, a33, n37, c34, Lb35, rfl, rfl, hz30, hz36⟩
 replace hz30 := hz30.new fun p hp => hn25 p (by simp [hp])
 replace hz36 := hz36.new fun p hp => hn25 p (by simp [hp])
 refine shO_L (lp (lp (ln rfl))) ?_
 obtain ⟨l5, n3, n4, h39, r40⟩ := b3_ok r22; clear r22
 refine o_callTO (Lb := []) (Lt := Lb29 ++ (Lb35 ++ [])) (Lr := Lb9 ++ (Lb15 ++ [])) rfl Try.call14 rfl rfl rfl (pT pR (ln (lp (lp (ln rfl))))) (fun F2 h2 h3 => by rw [(SlR.caps hz30).1]; rw [(SlR.caps hz36).1]; exact night_Fewest_w (hz30.row (slE_ok (iE_ok _)) h2 (fun p hp => h3 p (List.mem_append_left _ hp))) (hz36.row (slE_ok (iE_ok _)) h2 (fun p hp => h3 p (List.mem_append_right _ (List.mem_append_left _ hp)))) h39) (fun _ _ _ _ hq => by obtain ⟨a45, n49, c46, Lb47, rfl, rfl, hz48⟩ := hq; exact ⟨_, _, _, _, rfl, rfl, hz48.flat (fun _ _ h => h)⟩) ?_; rintro _ F41 _ hF42 hd44 hn43 ⟨a45, n49, c46, Lb47, rfl, rfl, hz48⟩
 have hn51 := newp (Lb' := []) (by rfl) hd44 hn43
 replace hz48 := hz48.new fun p hp => hn51 p (by simp [hp])
 refine shO_L (lp (ln (lp (lp (ln rfl))))) ?_
 refine om rfl rfl (ox rfl rfl rfl (ox rfl rfl rfl (ox rfl rfl rfl (oa rfl rfl (oa rfl rfl (oa rfl rfl (nsr ?_)))))))
 obtain ⟨l6, l7, h52, r53⟩ := b2_ok r40; clear r40
 refine o_call0 rfl Try.call69 rfl rfl rfl (oyezlaw05_Four_w h52) ?_; rintro _ F54 _ hF55 hn56 ⟨a58, n62, c59, Lb60, a64, n68, c65, Lb66, rfl, rfl, hz61, hz67⟩
 replace hz48 := hz48.mono (iE_ok _) hF55
 replace hz61 := hz61.new fun p hp => hn56 p (by simp [hp])
 replace hz67 := hz67.new fun p hp => hn56 p (by simp [hp])
 refine shO_L (lp (lp (ln rfl))) ?_
 obtain ⟨n5, n6, h70, r71⟩ := b2_ok r53; clear r53
 refine o_callT (Lt := Lb60 ++ (Lb66 ++ [])) (Lr := Lb47 ++ (Lb29 ++ (Lb35 ++ (Lb9 ++ (Lb15 ++ []))))) rfl Try.call25 rfl rfl rfl (pT pR (lp (lp (ln rfl)))) (fun F2 h2 h3 => by rw [(SlR.caps hz61).1]; rw [(SlR.caps hz67).1]; exact night_Count_w (hz61.row (slE_ok (iE_ok _)) h2 (fun p hp => h3 p (List.mem_append_left _ hp))) (hz67.row (slE_ok (iE_ok _)) h2 (fun p hp => h3 p (List.mem_append_right _ (List.mem_append_left _ hp)))) h70) ?_
 refine om rfl rfl (ox rfl rfl rfl (ox rfl rfl rfl (oa rfl rfl (oa rfl rfl (nsr ?_)))))
 obtain ⟨l8, l9, h72, r73⟩ := b2_ok r71; clear r71
 refine o_call0 rfl Try.call69 rfl rfl rfl (oyezlaw05_Four_w h72) ?_; rintro _ F74 _ hF75 hn76 ⟨a78, n82, c79, Lb80, a84, n88, c85, Lb86, rfl, rfl, hz81, hz87⟩
 replace hz48 := hz48.mono (iE_ok _) hF75
 replace hz81 := hz81.new fun p hp => hn76 p (by simp [hp])
 replace hz87 := hz87.new fun p hp => hn76 p (by simp [hp])
 refine shO_L (lp (lp (ln rfl))) ?_
 obtain ⟨n7, n8, h90, r91⟩ := b2_ok r73; clear r73
 refine o_callT (Lt := Lb80 ++ (Lb86 ++ [])) (Lr := Lb60 ++ (Lb66 ++ (Lb47 ++ (Lb29 ++ (Lb35 ++ (Lb9 ++ (Lb15 ++ []))))))) rfl Try.call26 rfl rfl rfl (pT pR (lp (lp (ln rfl)))) (fun F2 h2 h3 => by rw [(SlR.caps hz81).1]; rw [(SlR.caps hz87).1]; exact night_Ways_w (hz81.row (slE_ok (iE_ok _)) h2 (fun p hp => h3 p (List.mem_append_left _ hp))) (hz87.row (slE_ok (iE_ok _)) h2 (fun p hp => h3 p (List.mem_append_right _ (List.mem_append_left _ hp)))) h90) ?_
 refine om rfl rfl (ox rfl rfl rfl (ox rfl rfl rfl (oa rfl rfl (oa rfl rfl (shO_nil (shW_seq ?_))))))
 obtain ⟨k, h92, r93⟩ := b1_ok r91; clear r91
 refine shW_join (fun e1 F1 L1 => FExt F74 F1 ∧ L1 = [] ∧ e1.sub [(71, .bool k)]) ?_ ?_
 · clear r93
   refine shW_region (om rfl rfl ?_)
   refine ov (v_neq rfl rfl) rfl ?_
   refine om rfl rfl ?_
   by_cases c94 : n2 ≠ 0
   · have r95 := ite_t h92 c94; clear h92
     refine shO_off (b' := true) 38 rfl (Env.isT rfl c94) rfl rfl (shO_off (b' := true) 38 rfl (Env.isT rfl c94) rfl rfl ?_)
     refine ov (v_pick_t (evD_true rfl c94) rfl) rfl ?_
     refine om rfl rfl (shO_off (b' := true) 42 rfl rfl rfl rfl (shO_off (b' := true) 42 rfl rfl rfl rfl ?_))
     refine ov (v_pick_t rfl rfl) rfl ?_
     refine om rfl rfl (shO_off (b' := true) 46 rfl rfl rfl rfl (shO_off (b' := true) 46 rfl rfl rfl rfl ?_))
     refine ov (v_pick_t rfl rfl) rfl ?_
     refine om rfl rfl (shO_off (b' := true) 50 rfl rfl rfl rfl (shO_off (b' := true) 50 rfl rfl rfl rfl ?_))
     refine ov (v_pick_t rfl rfl) rfl ?_
     refine om rfl rfl (shO_off (b' := true) 54 rfl rfl rfl rfl (shO_off (b' := true) 54 rfl rfl rfl rfl ?_))
     refine ov (v_pick_t rfl rfl) rfl ?_
     refine om rfl rfl (shO_off (b' := true) 58 rfl rfl rfl rfl (shO_off (b' := true) 58 rfl rfl rfl rfl (shO_off (b' := true) 58 rfl rfl rfl rfl (shO_off (b' := true) 58 rfl rfl rfl rfl ?_))))
     refine ov (v_pick_t rfl rfl) rfl ?_
     refine om rfl rfl (shO_off (b' := true) 64 rfl rfl rfl rfl (shO_off (b' := true) 64 rfl rfl rfl rfl ?_))
     refine ov (v_pick_t rfl rfl) rfl ?_
     refine om rfl rfl (shO_off (b' := true) 68 rfl rfl rfl rfl (shO_off (b' := true) 68 rfl rfl rfl rfl ?_))
     refine ov (v_pick_t rfl rfl) rfl ?_
     refine shO_nil ?_
     obtain rfl := inj1 r95
     exact mi kn ⟨FExt.refl _, rfl, (sc rfl (sn _))⟩
   have r96 := ite_f h92 c94; clear h92
   refine shO_on (b := false) 38 rfl (Env.isF rfl c94) (om rfl rfl (shO_on (b := false) 38 rfl (Env.isF rfl c94) ?_))
   refine ov (v_neq rfl rfl) rfl ?_
   refine ov (v_pick_f (evD_false rfl c94) rfl) rfl ?_
   refine om rfl rfl ?_
   by_cases c97 : n4 ≠ 0
   · have r98 := ite_t r96 c97; clear r96
     refine shO_off (b' := true) 42 rfl (Env.isT rfl c97) rfl rfl (shO_off (b' := true) 42 rfl (Env.isT rfl c97) rfl rfl ?_)
     refine ov (v_pick_t (evD_true rfl c97) rfl) rfl ?_
     refine om rfl rfl (shO_off (b' := true) 46 rfl rfl rfl rfl (shO_off (b' := true) 46 rfl rfl rfl rfl ?_))
     refine ov (v_pick_t rfl rfl) rfl ?_
     refine om rfl rfl (shO_off (b' := true) 50 rfl rfl rfl rfl (shO_off (b' := true) 50 rfl rfl rfl rfl ?_))
     refine ov (v_pick_t rfl rfl) rfl ?_
     refine om rfl rfl (shO_off (b' := true) 54 rfl rfl rfl rfl (shO_off (b' := true) 54 rfl rfl rfl rfl ?_))
     refine ov (v_pick_t rfl rfl) rfl ?_
     refine om rfl rfl (shO_off (b' := true) 58 rfl rfl rfl rfl (shO_off (b' := true) 58 rfl rfl rfl rfl (shO_off (b' := true) 58 rfl rfl rfl rfl (shO_off (b' := true) 58 rfl rfl rfl rfl ?_))))
     refine ov (v_pick_t rfl rfl) rfl ?_
     refine om rfl rfl (shO_off (b' := true) 64 rfl rfl rfl rfl (shO_off (b' := true) 64 rfl rfl rfl rfl ?_))
     refine ov (v_pick_t rfl rfl) rfl ?_
     refine om rfl rfl (shO_off (b' := true) 68 rfl rfl rfl rfl (shO_off (b' := true) 68 rfl rfl rfl rfl ?_))
     refine ov (v_pick_t rfl rfl) rfl ?_
     refine shO_nil ?_
     obtain rfl := inj1 r98
     exact mi kn ⟨FExt.refl _, rfl, (sc rfl (sn _))⟩
   have r99 := ite_f r96 c97; clear r96
   refine shO_on (b := false) 42 rfl (Env.isF rfl c97) (om rfl rfl (shO_on (b := false) 42 rfl (Env.isF rfl c97) ?_))
   refine ov (v_neq rfl rfl) rfl ?_
   refine ov (v_pick_f (evD_false rfl c97) rfl) rfl ?_
   refine om rfl rfl ?_
   by_cases c100 : n6 ≠ 0
   · have r101 := ite_t r99 c100; clear r99
     refine shO_off (b' := true) 46 rfl (Env.isT rfl c100) rfl rfl (shO_off (b' := true) 46 rfl (Env.isT rfl c100) rfl rfl ?_)
     refine ov (v_pick_t (evD_true rfl c100) rfl) rfl ?_
     refine om rfl rfl (shO_off (b' := true) 50 rfl rfl rfl rfl (shO_off (b' := true) 50 rfl rfl rfl rfl ?_))
     refine ov (v_pick_t rfl rfl) rfl ?_
     refine om rfl rfl (shO_off (b' := true) 54 rfl rfl rfl rfl (shO_off (b' := true) 54 rfl rfl rfl rfl ?_))
     refine ov (v_pick_t rfl rfl) rfl ?_
     refine om rfl rfl (shO_off (b' := true) 58 rfl rfl rfl rfl (shO_off (b' := true) 58 rfl rfl rfl rfl (shO_off (b' := true) 58 rfl rfl rfl rfl (shO_off (b' := true) 58 rfl rfl rfl rfl ?_))))
     refine ov (v_pick_t rfl rfl) rfl ?_
     refine om rfl rfl (shO_off (b' := true) 64 rfl rfl rfl rfl (shO_off (b' := true) 64 rfl rfl rfl rfl ?_))
     refine ov (v_pick_t rfl rfl) rfl ?_
     refine om rfl rfl (shO_off (b' := true) 68 rfl rfl rfl rfl (shO_off (b' := true) 68 rfl rfl rfl rfl ?_))
     refine ov (v_pick_t rfl rfl) rfl ?_
     refine shO_nil ?_
     obtain rfl := inj1 r101
     exact mi kn ⟨FExt.refl _, rfl, (sc rfl (sn _))⟩
   have r102 := ite_f r99 c100; clear r99
   refine shO_on (b := false) 46 rfl (Env.isF rfl c100) (om rfl rfl (shO_on (b := false) 46 rfl (Env.isF rfl c100) ?_))
   refine ov (v_neq rfl rfl) rfl ?_
   refine ov (v_pick_f (evD_false rfl c100) rfl) rfl ?_
   refine om rfl rfl ?_
   by_cases c103 : n8 ≠ 0
   · have r104 := ite_t r102 c103; clear r102
     refine shO_off (b' := true) 50 rfl (Env.isT rfl c103) rfl rfl (shO_off (b' := true) 50 rfl (Env.isT rfl c103) rfl rfl ?_)
     refine ov (v_pick_t (evD_true rfl c103) rfl) rfl ?_
     refine om rfl rfl (shO_off (b' := true) 54 rfl rfl rfl rfl (shO_off (b' := true) 54 rfl rfl rfl rfl ?_))
     refine ov (v_pick_t rfl rfl) rfl ?_
     refine om rfl rfl (shO_off (b' := true) 58 rfl rfl rfl rfl (shO_off (b' := true) 58 rfl rfl rfl rfl (shO_off (b' := true) 58 rfl rfl rfl rfl (shO_off (b' := true) 58 rfl rfl rfl rfl ?_))))
     refine ov (v_pick_t rfl rfl) rfl ?_
     refine om rfl rfl (shO_off (b' := true) 64 rfl rfl rfl rfl (shO_off (b' := true) 64 rfl rfl rfl rfl ?_))
     refine ov (v_pick_t rfl rfl) rfl ?_
     refine om rfl rfl (shO_off (b' := true) 68 rfl rfl rfl rfl (shO_off (b' := true) 68 rfl rfl rfl rfl ?_))
     refine ov (v_pick_t rfl rfl) rfl ?_
     refine shO_nil ?_
     obtain rfl := inj1 r104
     exact mi kn ⟨FExt.refl _, rfl, (sc rfl (sn _))⟩
   have r105 := ite_f r102 c103; clear r102
   refine shO_on (b := false) 50 rfl (Env.isF rfl c103) (om rfl rfl (shO_on (b := false) 50 rfl (Env.isF rfl c103) ?_))
   refine ov (v_neq rfl rfl) rfl ?_
   refine ov (v_pick_f (evD_false rfl c103) rfl) rfl ?_
   refine om rfl rfl ?_
   by_cases c106 : n ≠ 9
   · have r107 := ite_t r105 c106; clear r105
     refine shO_off (b' := true) 54 rfl (Env.isT rfl c106) rfl rfl (shO_off (b' := true) 54 rfl (Env.isT rfl c106) rfl rfl ?_)
     refine ov (v_pick_t (evD_true rfl c106) rfl) rfl ?_
     refine om rfl rfl (shO_off (b' := true) 58 rfl rfl rfl rfl (shO_off (b' := true) 58 rfl rfl rfl rfl (shO_off (b' := true) 58 rfl rfl rfl rfl (shO_off (b' := true) 58 rfl rfl rfl rfl ?_))))
     refine ov (v_pick_t rfl rfl) rfl ?_
     refine om rfl rfl (shO_off (b' := true) 64 rfl rfl rfl rfl (shO_off (b' := true) 64 rfl rfl rfl rfl ?_))
     refine ov (v_pick_t rfl rfl) rfl ?_
     refine om rfl rfl (shO_off (b' := true) 68 rfl rfl rfl rfl (shO_off (b' := true) 68 rfl rfl rfl rfl ?_))
     refine ov (v_pick_t rfl rfl) rfl ?_
     refine shO_nil ?_
     obtain rfl := inj1 r107
     exact mi kn ⟨FExt.refl _, rfl, (sc rfl (sn _))⟩
   have r108 := ite_f r105 c106; clear r105
   refine shO_on (b := false) 54 rfl (Env.isF rfl c106) (om rfl rfl (shO_on (b := false) 54 rfl (Env.isF rfl c106) ?_))
   refine ov (v_neq rfl rfl) rfl ?_
   refine ov (v_pick_f (evD_false rfl c106) rfl) rfl ?_
   refine om rfl rfl ?_
   by_cases c109 : n3 ≠ 1
   · have r110 := ite_t r108 c109; clear r108
     refine shO_off (b' := true) 58 rfl (Env.isT rfl c109) rfl rfl (shO_off (b' := true) 58 rfl (Env.isT rfl c109) rfl rfl (shO_off (b' := true) 58 rfl (Env.isT rfl c109) rfl rfl (shO_off (b' := true) 58 rfl (Env.isT rfl c109) rfl rfl ?_)))
     refine ov (v_pick_t (evD_true rfl c109) rfl) rfl ?_
     refine om rfl rfl (shO_off (b' := true) 64 rfl rfl rfl rfl (shO_off (b' := true) 64 rfl rfl rfl rfl ?_))
     refine ov (v_pick_t rfl rfl) rfl ?_
     refine om rfl rfl (shO_off (b' := true) 68 rfl rfl rfl rfl (shO_off (b' := true) 68 rfl rfl rfl rfl ?_))
     refine ov (v_pick_t rfl rfl) rfl ?_
     refine shO_nil ?_
     obtain rfl := inj1 r110
     exact mi kn ⟨FExt.refl _, rfl, (sc rfl (sn _))⟩
   have r111 := ite_f r108 c109; clear r108
   refine shO_on (b := false) 58 rfl (Env.isF rfl c109) (om rfl rfl (shO_on (b := false) 58 rfl (Env.isF rfl c109) ?_))
   refine o_buildSlice (cs := #[.int .i64 2, .int .i64 2]) rfl rfl (buildSlice_all slt_27 [.int .i64 2, .int .i64 2] rfl (by decide) (by simp [Value.cells]) (by decide)) ?_; intro b112 hb112
   refine shO_on (b := false) 58 rfl (Env.isF rfl c109) ?_
   refine shO_freeze 0 rfl hb112 ?_; intro F113 hF114 hz115
   refine shO_L (L' := Lb80 ++ (Lb86 ++ (Lb60 ++ (Lb66 ++ (Lb47 ++ (Lb29 ++ (Lb35 ++ (Lb9 ++ (Lb15 ++ []))))))))) rfl ?_
   replace hz48 := hz48.mono (iE_ok _) hF114
   have h116 : RowR 1 (iE .i64) F113 (some ⟨b112, 0, none⟩) 2 [2, 2] := RowR.of_block (iE_ok _) (vss := [[.int .i64 2], [.int .i64 2]]) (xs := [2, 2]) hz115 (.cons rfl (.cons rfl .nil)) rfl (by simp [maxLen])
   obtain ⟨ok, h117, r118⟩ := b1_ok r111; clear r111
   refine o_callT (Lt := Lb47 ++ []) (Lr := Lb80 ++ (Lb86 ++ (Lb60 ++ (Lb66 ++ (Lb29 ++ (Lb35 ++ (Lb9 ++ (Lb15 ++ [])))))))) rfl Try.call28 rfl rfl rfl (pT ((fS (fS (fS (fS fP)))).trans (pA pR)) (lp (ln rfl))) (fun F2 h2 h3 => by rw [(SlR.caps hz48).1]; exact oyezkit_Like_int_w (hz48.row (iE_ok _) h2 (fun p hp => h3 p (List.mem_append_left _ hp))) (h116.mono (iE_ok _) h2) h117) ?_
   refine shO_on (b := false) 58 rfl (Env.isF rfl c109) ?_
   refine ov (v_notB rfl) rfl ?_
   refine ov (v_pick_f (evD_false rfl c109) rfl) rfl ?_
   refine om rfl rfl ?_
   rcases bool_two (!ok) with c119 | c119
   · have r120 := bt r118 c119; clear r118
     refine shO_off (b' := true) 64 rfl (EnvB rfl c119) rfl rfl (shO_off (b' := true) 64 rfl (EnvB rfl c119) rfl rfl ?_)
     refine ov (v_pick_t (evB rfl c119) rfl) rfl ?_
     refine om rfl rfl (shO_off (b' := true) 68 rfl rfl rfl rfl (shO_off (b' := true) 68 rfl rfl rfl rfl ?_))
     refine ov (v_pick_t rfl rfl) rfl ?_
     refine shO_nil ?_
     obtain rfl := inj1 r120
     exact mi kn ⟨hF114, rfl, (sc rfl (sn _))⟩
   have r121 := bf r118 c119; clear r118
   refine shO_on (b := false) 64 rfl (EnvB rfl c119) (om rfl rfl (shO_on (b := false) 64 rfl (EnvB rfl c119) ?_))
   refine ov (v_neq rfl rfl) rfl ?_
   refine ov (v_pick_f (evB rfl c119) rfl) rfl ?_
   refine om rfl rfl ?_
   by_cases c122 : n5 ≠ 42
   · have r123 := ite_t r121 c122; clear r121
     refine shO_off (b' := true) 68 rfl (Env.isT rfl c122) rfl rfl (shO_off (b' := true) 68 rfl (Env.isT rfl c122) rfl rfl ?_)
     refine ov (v_pick_t (evD_true rfl c122) rfl) rfl ?_
     refine shO_nil ?_
     obtain rfl := inj1 r123
     exact mi kn ⟨hF114, rfl, (sc rfl (sn _))⟩
   have r124 := ite_f r121 c122; clear r121
   refine shO_on (b := false) 68 rfl (Env.isF rfl c122) (om rfl rfl (shO_on (b := false) 68 rfl (Env.isF rfl c122) ?_))
   refine ov (v_neq rfl rfl) rfl ?_
   refine ov (v_pick_f (evD_false rfl c122) rfl) rfl ?_
   refine shO_nil ?_
   obtain rfl := inj1 r124
   exact mi kn ⟨hF114, rfl, (sc rfl (sn _))⟩
 rintro e1 F126 _ ⟨hF127, rfl, he125⟩
 refine shW_env _ he125 ?_; clear he125
 refine shW_cond rfl (fun c128 => ?_) (fun c128 => ?_)
 · have r129 := bt r93 c128; clear r93
   refine wsr (oa rfl rfl (shO_nil (shW_ret (andThen_ret ?_))))
   refine q_res1 Try.results18 (res_tmp rfl) (sr) ?_
   obtain rfl := inj1 r129
   exact rfl
 have r130 := bf r93 c128; clear r93
 refine shW_skip (wsr ?_)
 obtain ⟨l10, l11, h131, r132⟩ := b2_ok r130; clear r130
 refine o_call0 rfl Try.call69 rfl rfl rfl (oyezlaw05_Four_w h131) ?_; rintro _ F133 _ hF134 hn135 ⟨a137, n141, c138, Lb139, a143, n147, c144, Lb145, rfl, rfl, hz140, hz146⟩
 replace hz140 := hz140.new fun p hp => hn135 p (by simp [hp])
 replace hz146 := hz146.new fun p hp => hn135 p (by simp [hp])
 refine shO_L (lp (lp (ln rfl))) ?_
 obtain rfl := (SlR.caps hz140).1
 refine shO_freezeR (Nat.le_refl _) (slE_ok (iE_ok _)) fP hz140 ?_; intro F149 hF150 h151
 replace hz146 := hz146.mono (slE_ok (iE_ok _)) hF150
 obtain rfl := (SlR.caps hz146).1
 refine shO_freezeR (Nat.le_refl _) (slE_ok (iE_ok _)) fP hz146 ?_; intro F152 hF153 h154
 replace h151 := h151.mono (slE_ok (iE_ok _)) hF153
 obtain ⟨l12, n9, h155, r156⟩ := b2_ok r132; clear r132
 refine o_call0 rfl Try.call36 rfl rfl rfl (night_Verdicts_w h151 h154 h155) ?_; rintro _ F157 _ hF158 hn159 ⟨a161, n165, c162, Lb163, rfl, rfl, hz164⟩
 replace hz164 := hz164.new fun p hp => hn159 p (by simp [hp])
 refine shO_L (lp (ln rfl)) ?_
 refine om rfl rfl (ox rfl rfl rfl (ox rfl rfl rfl (oa rfl rfl (oa rfl rfl (nsr ?_)))))
 obtain ⟨l13, l14, h167, r168⟩ := b2_ok r156; clear r156
 refine o_call0 rfl Try.call69 rfl rfl rfl (oyezlaw05_Four_w h167) ?_; rintro _ F169 _ hF170 hn171 ⟨a173, n177, c174, Lb175, a179, n183, c180, Lb181, rfl, rfl, hz176, hz182⟩
 replace hz164 := hz164.mono (slE_ok (iE_ok _)) hF170
 replace hz176 := hz176.new fun p hp => hn171 p (by simp [hp])
 replace hz182 := hz182.new fun p hp => hn171 p (by simp [hp])
 refine shO_L (lp (lp (ln rfl))) ?_
 obtain rfl := (SlR.caps hz176).1
 refine shO_freezeR (Nat.le_refl _) (slE_ok (iE_ok _)) fP hz176 ?_; intro F185 hF186 h187
 replace hz164 := hz164.mono (slE_ok (iE_ok _)) hF186
 replace hz182 := hz182.mono (slE_ok (iE_ok _)) hF186
 obtain rfl := (SlR.caps hz182).1
 refine shO_freezeR (Nat.le_refl _) (slE_ok (iE_ok _)) fP hz182 ?_; intro F188 hF189 h190
 replace h187 := h187.mono (slE_ok (iE_ok _)) hF189
 replace hz164 := hz164.mono (slE_ok (iE_ok _)) hF189
 obtain ⟨l15, n10, h191, r192⟩ := b2_ok r168; clear r168
 refine o_call0 rfl Try.call17 rfl rfl rfl (night_Men_w h187 h190 h191) ?_; rintro _ F193 _ hF194 hn195 ⟨a197, c198, rfl, rfl, h199⟩
 replace hz164 := hz164.mono (slE_ok (iE_ok _)) hF194
 refine shO_L (ln rfl) ?_
 refine om rfl rfl (ox rfl rfl rfl (ox rfl rfl rfl (oa rfl rfl (oa rfl rfl (nsr ?_)))))
 obtain ⟨l16, l17, h200, r201⟩ := b2_ok r192; clear r192
 refine o_call0 rfl Try.call69 rfl rfl rfl (oyezlaw05_Four_w h200) ?_; rintro _ F202 _ hF203 hn204 ⟨a206, n210, c207, Lb208, a212, n216, c213, Lb214, rfl, rfl, hz209, hz215⟩
 replace h199 := h199.mono (iE_ok _) hF203
 replace hz164 := hz164.mono (slE_ok (iE_ok _)) hF203
 replace hz209 := hz209.new fun p hp => hn204 p (by simp [hp])
 replace hz215 := hz215.new fun p hp => hn204 p (by simp [hp])
 refine shO_L (lp (lp (ln rfl))) ?_
 refine ov (v_build (v := .agg #[.int .i64 0, .int .i64 1]) rfl (by intro w; kernel_rfl)) rfl ?_
 obtain ⟨n11, n12, n13, h218, r219⟩ := b3_ok r201; clear r201
 refine o_callT (Lt := Lb208 ++ (Lb214 ++ [])) (Lr := Lb163 ++ []) rfl Try.call30 rfl rfl rfl (pT pR (lp (lp (ln rfl)))) (fun F2 h2 h3 => by rw [(SlR.caps hz209).1]; rw [(SlR.caps hz215).1]; exact night_Split_w (hz209.row (slE_ok (iE_ok _)) h2 (fun p hp => h3 p (List.mem_append_left _ hp))) (hz215.row (slE_ok (iE_ok _)) h2 (fun p hp => h3 p (List.mem_append_right _ (List.mem_append_left _ hp)))) h218) ?_
 refine om rfl rfl (ox rfl rfl rfl (ox rfl rfl rfl (ox rfl rfl rfl (oa rfl rfl (oa rfl rfl (oa rfl rfl (nsr ?_)))))))
 obtain ⟨l18, l19, h220, r221⟩ := b2_ok r219; clear r219
 refine o_call0 rfl Try.call69 rfl rfl rfl (oyezlaw05_Four_w h220) ?_; rintro _ F222 _ hF223 hn224 ⟨a226, n230, c227, Lb228, a232, n236, c233, Lb234, rfl, rfl, hz229, hz235⟩
 replace h199 := h199.mono (iE_ok _) hF223
 replace hz164 := hz164.mono (slE_ok (iE_ok _)) hF223
 replace hz229 := hz229.new fun p hp => hn224 p (by simp [hp])
 replace hz235 := hz235.new fun p hp => hn224 p (by simp [hp])
 refine shO_L (lp (lp (ln rfl))) ?_
 obtain ⟨n14, n15, n16, h238, r239⟩ := b3_ok r221; clear r221
 refine o_callT (Lt := Lb228 ++ (Lb234 ++ [])) (Lr := Lb208 ++ (Lb214 ++ (Lb163 ++ []))) rfl Try.call15 rfl rfl rfl (pT pR (lp (lp (ln rfl)))) (fun F2 h2 h3 => by rw [(SlR.caps hz229).1]; rw [(SlR.caps hz235).1]; exact night_Most_w (hz229.row (slE_ok (iE_ok _)) h2 (fun p hp => h3 p (List.mem_append_left _ hp))) (hz235.row (slE_ok (iE_ok _)) h2 (fun p hp => h3 p (List.mem_append_right _ (List.mem_append_left _ hp)))) h238) ?_
 refine om rfl rfl (ox rfl rfl rfl (ox rfl rfl rfl ?_))
 refine o_alloc rfl Try.zeroValue36 ?_; intro b240 hb240
 refine o_storeA (i := 0) Try.sizeOf36 rfl rfl rfl (by simp [Value.oneCell']) rfl (Nat.le_of_ble_eq_true rfl) ?_
 refine shO_L (L' := (b240, .cells #[.int .i64 n14, .int .i64 n15] 36 (0, 0)) :: (Lb228 ++ (Lb234 ++ (Lb208 ++ (Lb214 ++ (Lb163 ++ [])))))) rfl ?_
 refine oa rfl rfl (nsr (om rfl rfl ?_))
 refine ov (v_eql rfl rfl) rfl ?_
 refine om rfl rfl ?_
 by_cases c241 : n9 = 0
 · have r242 := ite_t r239 c241; clear r239
   refine shO_on (b := true) 96 rfl (Env.isT rfl c241) (om rfl rfl (shO_on (b := true) 96 rfl (Env.isT rfl c241) ?_))
   refine ov (v_eql rfl rfl) rfl ?_
   refine ov (v_pick_t (evD_true rfl c241) rfl) rfl ?_
   refine om rfl rfl ?_
   by_cases c243 : n10 = 0
   · have r244 := ite_t r242 c243; clear r242
     refine shO_on (b := true) 100 rfl (Env.isT rfl c243) (om rfl rfl (shO_on (b := true) 100 rfl (Env.isT rfl c243) ?_))
     refine ov (v_eql rfl rfl) rfl ?_
     refine ov (v_pick_t (evD_true rfl c243) rfl) rfl ?_
     refine om rfl rfl ?_
     by_cases c245 : n13 = 0
     · have r246 := ite_t r244 c245; clear r244
       refine shO_on (b := true) 104 rfl (Env.isT rfl c245) (om rfl rfl (shO_on (b := true) 104 rfl (Env.isT rfl c245) ?_))
       refine ov (v_eql rfl rfl) rfl ?_
       refine ov (v_pick_t (evD_true rfl c245) rfl) rfl ?_
       refine om rfl rfl ?_
       by_cases c247 : n16 = 0
       · have r248 := ite_t r246 c247; clear r246
         refine shO_on (b := true) 108 rfl (Env.isT rfl c247) (om rfl rfl (shO_on (b := true) 108 rfl (Env.isT rfl c247) ?_))
         refine ov ((v_lenS Try.underlying71 rfl).i (SlR.lenI hz164)) rfl ?_
         refine shO_on (b := true) 108 rfl (Env.isT rfl c247) ?_
         refine ov (v_eql rfl rfl) rfl ?_
         refine ov (v_pick_t (evD_true rfl c247) rfl) rfl ?_
         refine om rfl rfl ?_
         by_cases c249 : (l12.length : Int) = 2
         · have r250 := ite_t r248 c249; clear r248
           refine shO_on (b := true) 113 rfl (Env.isT rfl c249) (om rfl rfl (shO_on (b := true) 113 rfl (Env.isT rfl c249) ?_))
           obtain ⟨x, g251, hx252, r253⟩ := ix_ok r250; clear r250
           obtain ⟨b254, o255, c256, vs257, ha258, hs259, hle260, ⟨a263, c264, rfl, h265⟩, hl261, hc262⟩ := SlR.at (slE_ok (iE_ok _)) hz164 (L := (b240, .cells #[.int .i64 n14, .int .i64 n15] 36 (0, 0)) :: (Lb228 ++ (Lb234 ++ (Lb208 ++ (Lb214 ++ (Lb163 ++ [])))))) (fC (fS (fS (fS (fS fP))))) g251.1 hx252
           refine ov (v_indexO Try.underlying71 Try.sizeOf80 rfl ha258 rfl (SlR.idx hz164 g251)) rfl ?_
           refine shO_on (b := true) 113 rfl (Env.isT rfl c249) ?_
           refine ov (v_load Try.isAgg80 rfl hs259 (hc262 0 (by decide))) rfl ?_
           refine shO_on (b := true) 113 rfl (Env.isT rfl c249) ?_
           refine o_buildSlice (cs := #[.int .i64 2, .int .i64 0, .int .i64 0, .int .i64 2]) rfl rfl (buildSlice_all slt_80 [.int .i64 2, .int .i64 0, .int .i64 0, .int .i64 2] rfl (by decide) (by simp [Value.cells]) (by decide)) ?_; intro b266 hb266
           refine shO_on (b := true) 113 rfl (Env.isT rfl c249) ?_
           refine shO_freeze 0 rfl hb266 ?_; intro F267 hF268 hz269
           refine shO_L (L' := (b240, .cells #[.int .i64 n14, .int .i64 n15] 36 (0, 0)) :: (Lb228 ++ (Lb234 ++ (Lb208 ++ (Lb214 ++ (Lb163 ++ [])))))) rfl ?_
           replace h199 := h199.mono (iE_ok _) hF268
           replace h265 := h265.mono (iE_ok _) hF268
           have h270 : RowR 1 (iE .i64) F267 (some ⟨b266, 0, none⟩) 4 [2, 0, 0, 2] := RowR.of_block (iE_ok _) (vss := [[.int .i64 2], [.int .i64 0], [.int .i64 0], [.int .i64 2]]) (xs := [2, 0, 0, 2]) hz269 (.cons rfl (.cons rfl (.cons rfl (.cons rfl .nil)))) rfl (by simp [maxLen])
           obtain ⟨ok2, h271, r272⟩ := b1_ok r253; clear r253
           refine o_callV rfl Try.call70 rfl rfl rfl (oyezkit_Like_Verdict_w h265 h270 h271) ?_
           refine ov (v_pick_t (evD_true rfl c249) rfl) rfl ?_
           refine om rfl rfl ?_
           rcases bool_two ok2 with c273 | c273
           · have r274 := bt r272 c273; clear r272
             refine shO_on (b := true) 120 rfl (EnvB rfl c273) (om rfl rfl (shO_on (b := true) 120 rfl (EnvB rfl c273) ?_))
             refine o_buildSlice (cs := #[.int .i64 1]) rfl rfl (buildSlice_all slt_27 [.int .i64 1] rfl (by decide) (by simp [Value.cells]) (by decide)) ?_; intro b275 hb275
             refine shO_on (b := true) 120 rfl (EnvB rfl c273) ?_
             refine shO_freeze 0 rfl hb275 ?_; intro F276 hF277 hz278
             refine shO_L (L' := (b240, .cells #[.int .i64 n14, .int .i64 n15] 36 (0, 0)) :: (Lb228 ++ (Lb234 ++ (Lb208 ++ (Lb214 ++ (Lb163 ++ [])))))) rfl ?_
             replace h199 := h199.mono (iE_ok _) hF277
             have h279 : RowR 1 (iE .i64) F276 (some ⟨b275, 0, none⟩) 1 [1] := RowR.of_block (iE_ok _) (vss := [[.int .i64 1]]) (xs := [1]) hz278 (.cons rfl .nil) rfl (by simp [maxLen])
             obtain ⟨ok3, h280, r281⟩ := b1_ok r274; clear r274
             refine o_callV rfl Try.call28 rfl rfl rfl (oyezkit_Like_int_w h199 h279 h280) ?_
             refine ov (v_pick_t (evB rfl c273) rfl) rfl ?_
             refine om rfl rfl ?_
             rcases bool_two ok3 with c282 | c282
             · have r283 := bt r281 c282; clear r281
               refine shO_on (b := true) 125 rfl (EnvB rfl c282) (om rfl rfl (shO_on (b := true) 125 rfl (EnvB rfl c282) ?_))
               refine ov (v_eql rfl rfl) rfl ?_
               refine ov (v_pick_t (evB rfl c282) rfl) rfl ?_
               refine om rfl rfl ?_
               by_cases c284 : n11 = 14
               · have r285 := ite_t r283 c284; clear r283
                 refine shO_on (b := true) 129 rfl (Env.isT rfl c284) (om rfl rfl (shO_on (b := true) 129 rfl (Env.isT rfl c284) ?_))
                 refine ov (v_eql rfl rfl) rfl ?_
                 refine ov (v_pick_t (evD_true rfl c284) rfl) rfl ?_
                 refine om rfl rfl ?_
                 by_cases c286 : n12 = 28
                 · have r287 := ite_t r285 c286; clear r285
                   refine shO_on (b := true) 133 rfl (Env.isT rfl c286) ?_
                   refine ov (v_loadA (cs := #[.int .i64 n14, .int .i64 n15]) Try.isAgg36 Try.sizeOf36 rfl (Has.own 0 rfl) (Nat.le_of_ble_eq_true rfl) rfl) rfl ?_
                   refine shO_on (b := true) 133 rfl (Env.isT rfl c286) ?_
                   refine ov (v_build (v := .agg #[.int .i64 0, .int .i64 1]) rfl (by intro w; kernel_rfl)) rfl ?_
                   refine shO_on (b := true) 133 rfl (Env.isT rfl c286) ?_
                   refine ov (v_eqA (eqg_36 _ _ _ _) (eq_36 _ _ _ _) rfl rfl) rfl ?_
                   refine ov (v_pick_t (evD_true rfl c286) rfl) rfl ?_
                   refine oa rfl rfl (shO_nil ?_)
                   refine kW kn ?_
                   refine shW_ret ?_
                   refine q_res1 Try.results18 (res_tmp rfl) (sr) ?_
                   obtain rfl := inj1 r287
                   exact rfl
                 have r288 := ite_f r285 c286; clear r285
                 refine shO_off (b' := false) 133 rfl (Env.isF rfl c286) rfl rfl (shO_off (b' := false) 133 rfl (Env.isF rfl c286) rfl rfl (shO_off (b' := false) 133 rfl (Env.isF rfl c286) rfl rfl ?_))
                 refine ov (v_pick_f (evD_false rfl c286) rfl) rfl ?_
                 refine oa rfl rfl (shO_nil ?_)
                 refine kW kn ?_
                 refine shW_ret ?_
                 refine q_res1 Try.results18 (res_tmp rfl) (sr) ?_
                 obtain rfl := inj1 r288
                 exact rfl
               have r289 := ite_f r283 c284; clear r283
               refine shO_off (b' := false) 129 rfl (Env.isF rfl c284) rfl rfl (shO_off (b' := false) 129 rfl (Env.isF rfl c284) rfl rfl ?_)
               refine ov (v_pick_f (evD_false rfl c284) rfl) rfl ?_
               refine om rfl rfl (shO_off (b' := false) 133 rfl rfl rfl rfl (shO_off (b' := false) 133 rfl rfl rfl rfl (shO_off (b' := false) 133 rfl rfl rfl rfl ?_)))
               refine ov (v_pick_f rfl rfl) rfl ?_
               refine oa rfl rfl (shO_nil ?_)
               refine kW kn ?_
               refine shW_ret ?_
               refine q_res1 Try.results18 (res_tmp rfl) (sr) ?_
               obtain rfl := inj1 r289
               exact rfl
             have r290 := bf r281 c282; clear r281
             refine shO_off (b' := false) 125 rfl (EnvB rfl c282) rfl rfl (shO_off (b' := false) 125 rfl (EnvB rfl c282) rfl rfl ?_)
             refine ov (v_pick_f (evB rfl c282) rfl) rfl ?_
             refine om rfl rfl (shO_off (b' := false) 129 rfl rfl rfl rfl (shO_off (b' := false) 129 rfl rfl rfl rfl ?_))
             refine ov (v_pick_f rfl rfl) rfl ?_
             refine om rfl rfl (shO_off (b' := false) 133 rfl rfl rfl rfl (shO_off (b' := false) 133 rfl rfl rfl rfl (shO_off (b' := false) 133 rfl rfl rfl rfl ?_)))
             refine ov (v_pick_f rfl rfl) rfl ?_
             refine oa rfl rfl (shO_nil ?_)
             refine kW kn ?_
             refine shW_ret ?_
             refine q_res1 Try.results18 (res_tmp rfl) (sr) ?_
             obtain rfl := inj1 r290
             exact rfl
           have r291 := bf r272 c273; clear r272
           refine shO_off (b' := false) 120 rfl (EnvB rfl c273) rfl rfl (shO_off (b' := false) 120 rfl (EnvB rfl c273) rfl rfl (shO_off (b' := false) 120 rfl (EnvB rfl c273) rfl rfl ?_))
           refine ov (v_pick_f (evB rfl c273) rfl) rfl ?_
           refine om rfl rfl (shO_off (b' := false) 125 rfl rfl rfl rfl (shO_off (b' := false) 125 rfl rfl rfl rfl ?_))
           refine ov (v_pick_f rfl rfl) rfl ?_
           refine om rfl rfl (shO_off (b' := false) 129 rfl rfl rfl rfl (shO_off (b' := false) 129 rfl rfl rfl rfl ?_))
           refine ov (v_pick_f rfl rfl) rfl ?_
           refine om rfl rfl (shO_off (b' := false) 133 rfl rfl rfl rfl (shO_off (b' := false) 133 rfl rfl rfl rfl (shO_off (b' := false) 133 rfl rfl rfl rfl ?_)))
           refine ov (v_pick_f rfl rfl) rfl ?_
           refine oa rfl rfl (shO_nil ?_)
           refine kW kn ?_
           refine shW_ret ?_
           refine q_res1 Try.results18 (res_tmp rfl) (sr) ?_
           obtain rfl := inj1 r291
           exact rfl
         have r292 := ite_f r248 c249; clear r248
         refine shO_off (b' := false) 113 rfl (Env.isF rfl c249) rfl rfl (shO_off (b' := false) 113 rfl (Env.isF rfl c249) rfl rfl (shO_off (b' := false) 113 rfl (Env.isF rfl c249) rfl rfl (shO_off (b' := false) 113 rfl (Env.isF rfl c249) rfl rfl (shO_off (b' := false) 113 rfl (Env.isF rfl c249) rfl rfl ?_))))
         refine ov (v_pick_f (evD_false rfl c249) rfl) rfl ?_
         refine om rfl rfl (shO_off (b' := false) 120 rfl rfl rfl rfl (shO_off (b' := false) 120 rfl rfl rfl rfl (shO_off (b' := false) 120 rfl rfl rfl rfl ?_)))
         refine ov (v_pick_f rfl rfl) rfl ?_
         refine om rfl rfl (shO_off (b' := false) 125 rfl rfl rfl rfl (shO_off (b' := false) 125 rfl rfl rfl rfl ?_))
         refine ov (v_pick_f rfl rfl) rfl ?_
         refine om rfl rfl (shO_off (b' := false) 129 rfl rfl rfl rfl (shO_off (b' := false) 129 rfl rfl rfl rfl ?_))
         refine ov (v_pick_f rfl rfl) rfl ?_
         refine om rfl rfl (shO_off (b' := false) 133 rfl rfl rfl rfl (shO_off (b' := false) 133 rfl rfl rfl rfl (shO_off (b' := false) 133 rfl rfl rfl rfl ?_)))
         refine ov (v_pick_f rfl rfl) rfl ?_
         refine oa rfl rfl (shO_nil ?_)
         refine kW kn ?_
         refine shW_ret ?_
         refine q_res1 Try.results18 (res_tmp rfl) (sr) ?_
         obtain rfl := inj1 r292
         exact rfl
       have r293 := ite_f r246 c247; clear r246
       refine shO_off (b' := false) 108 rfl (Env.isF rfl c247) rfl rfl (shO_off (b' := false) 108 rfl (Env.isF rfl c247) rfl rfl (shO_off (b' := false) 108 rfl (Env.isF rfl c247) rfl rfl ?_))
       refine ov (v_pick_f (evD_false rfl c247) rfl) rfl ?_
       refine om rfl rfl (shO_off (b' := false) 113 rfl rfl rfl rfl (shO_off (b' := false) 113 rfl rfl rfl rfl (shO_off (b' := false) 113 rfl rfl rfl rfl (shO_off (b' := false) 113 rfl rfl rfl rfl (shO_off (b' := false) 113 rfl rfl rfl rfl ?_)))))
       refine ov (v_pick_f rfl rfl) rfl ?_
       refine om rfl rfl (shO_off (b' := false) 120 rfl rfl rfl rfl (shO_off (b' := false) 120 rfl rfl rfl rfl (shO_off (b' := false) 120 rfl rfl rfl rfl ?_)))
       refine ov (v_pick_f rfl rfl) rfl ?_
       refine om rfl rfl (shO_off (b' := false) 125 rfl rfl rfl rfl (shO_off (b' := false) 125 rfl rfl rfl rfl ?_))
       refine ov (v_pick_f rfl rfl) rfl ?_
       refine om rfl rfl (shO_off (b' := false) 129 rfl rfl rfl rfl (shO_off (b' := false) 129 rfl rfl rfl rfl ?_))
       refine ov (v_pick_f rfl rfl) rfl ?_
       refine om rfl rfl (shO_off (b' := false) 133 rfl rfl rfl rfl (shO_off (b' := false) 133 rfl rfl rfl rfl (shO_off (b' := false) 133 rfl rfl rfl rfl ?_)))
       refine ov (v_pick_f rfl rfl) rfl ?_
       refine oa rfl rfl (shO_nil ?_)
       refine kW kn ?_
       refine shW_ret ?_
       refine q_res1 Try.results18 (res_tmp rfl) (sr) ?_
       obtain rfl := inj1 r293
       exact rfl
     have r294 := ite_f r244 c245; clear r244
     refine shO_off (b' := false) 104 rfl (Env.isF rfl c245) rfl rfl (shO_off (b' := false) 104 rfl (Env.isF rfl c245) rfl rfl ?_)
     refine ov (v_pick_f (evD_false rfl c245) rfl) rfl ?_
     refine om rfl rfl (shO_off (b' := false) 108 rfl rfl rfl rfl (shO_off (b' := false) 108 rfl rfl rfl rfl (shO_off (b' := false) 108 rfl rfl rfl rfl ?_)))
     refine ov (v_pick_f rfl rfl) rfl ?_
     refine om rfl rfl (shO_off (b' := false) 113 rfl rfl rfl rfl (shO_off (b' := false) 113 rfl rfl rfl rfl (shO_off (b' := false) 113 rfl rfl rfl rfl (shO_off (b' := false) 113 rfl rfl rfl rfl (shO_off (b' := false) 113 rfl rfl rfl rfl ?_)))))
     refine ov (v_pick_f rfl rfl) rfl ?_
     refine om rfl rfl (shO_off (b' := false) 120 rfl rfl rfl rfl (shO_off (b' := false) 120 rfl rfl rfl rfl (shO_off (b' := false) 120 rfl rfl rfl rfl ?_)))
     refine ov (v_pick_f rfl rfl) rfl ?_
     refine om rfl rfl (shO_off (b' := false) 125 rfl rfl rfl rfl (shO_off (b' := false) 125 rfl rfl rfl rfl ?_))
     refine ov (v_pick_f rfl rfl) rfl ?_
     refine om rfl rfl (shO_off (b' := false) 129 rfl rfl rfl rfl (shO_off (b' := false) 129 rfl rfl rfl rfl ?_))
     refine ov (v_pick_f rfl rfl) rfl ?_
     refine om rfl rfl (shO_off (b' := false) 133 rfl rfl rfl rfl (shO_off (b' := false) 133 rfl rfl rfl rfl (shO_off (b' := false) 133 rfl rfl rfl rfl ?_)))
     refine ov (v_pick_f rfl rfl) rfl ?_
     refine oa rfl rfl (shO_nil ?_)
     refine kW kn ?_
     refine shW_ret ?_
     refine q_res1 Try.results18 (res_tmp rfl) (sr) ?_
     obtain rfl := inj1 r294
     exact rfl
   have r295 := ite_f r242 c243; clear r242
   refine shO_off (b' := false) 100 rfl (Env.isF rfl c243) rfl rfl (shO_off (b' := false) 100 rfl (Env.isF rfl c243) rfl rfl ?_)
   refine ov (v_pick_f (evD_false rfl c243) rfl) rfl ?_
   refine om rfl rfl (shO_off (b' := false) 104 rfl rfl rfl rfl (shO_off (b' := false) 104 rfl rfl rfl rfl ?_))
   refine ov (v_pick_f rfl rfl) rfl ?_
   refine om rfl rfl (shO_off (b' := false) 108 rfl rfl rfl rfl (shO_off (b' := false) 108 rfl rfl rfl rfl (shO_off (b' := false) 108 rfl rfl rfl rfl ?_)))
   refine ov (v_pick_f rfl rfl) rfl ?_
   refine om rfl rfl (shO_off (b' := false) 113 rfl rfl rfl rfl (shO_off (b' := false) 113 rfl rfl rfl rfl (shO_off (b' := false) 113 rfl rfl rfl rfl (shO_off (b' := false) 113 rfl rfl rfl rfl (shO_off (b' := false) 113 rfl rfl rfl rfl ?_)))))
   refine ov (v_pick_f rfl rfl) rfl ?_
   refine om rfl rfl (shO_off (b' := false) 120 rfl rfl rfl rfl (shO_off (b' := false) 120 rfl rfl rfl rfl (shO_off (b' := false) 120 rfl rfl rfl rfl ?_)))
   refine ov (v_pick_f rfl rfl) rfl ?_
   refine om rfl rfl (shO_off (b' := false) 125 rfl rfl rfl rfl (shO_off (b' := false) 125 rfl rfl rfl rfl ?_))
   refine ov (v_pick_f rfl rfl) rfl ?_
   refine om rfl rfl (shO_off (b' := false) 129 rfl rfl rfl rfl (shO_off (b' := false) 129 rfl rfl rfl rfl ?_))
   refine ov (v_pick_f rfl rfl) rfl ?_
   refine om rfl rfl (shO_off (b' := false) 133 rfl rfl rfl rfl (shO_off (b' := false) 133 rfl rfl rfl rfl (shO_off (b' := false) 133 rfl rfl rfl rfl ?_)))
   refine ov (v_pick_f rfl rfl) rfl ?_
   refine oa rfl rfl (shO_nil ?_)
   refine kW kn ?_
   refine shW_ret ?_
   refine q_res1 Try.results18 (res_tmp rfl) (sr) ?_
   obtain rfl := inj1 r295
   exact rfl
 have r296 := ite_f r239 c241; clear r239
 refine shO_off (b' := false) 96 rfl (Env.isF rfl c241) rfl rfl (shO_off (b' := false) 96 rfl (Env.isF rfl c241) rfl rfl ?_)
 refine ov (v_pick_f (evD_false rfl c241) rfl) rfl ?_
 refine om rfl rfl (shO_off (b' := false) 100 rfl rfl rfl rfl (shO_off (b' := false) 100 rfl rfl rfl rfl ?_))
 refine ov (v_pick_f rfl rfl) rfl ?_
 refine om rfl rfl (shO_off (b' := false) 104 rfl rfl rfl rfl (shO_off (b' := false) 104 rfl rfl rfl rfl ?_))
 refine ov (v_pick_f rfl rfl) rfl ?_
 refine om rfl rfl (shO_off (b' := false) 108 rfl rfl rfl rfl (shO_off (b' := false) 108 rfl rfl rfl rfl (shO_off (b' := false) 108 rfl rfl rfl rfl ?_)))
 refine ov (v_pick_f rfl rfl) rfl ?_
 refine om rfl rfl (shO_off (b' := false) 113 rfl rfl rfl rfl (shO_off (b' := false) 113 rfl rfl rfl rfl (shO_off (b' := false) 113 rfl rfl rfl rfl (shO_off (b' := false) 113 rfl rfl rfl rfl (shO_off (b' := false) 113 rfl rfl rfl rfl ?_)))))
 refine ov (v_pick_f rfl rfl) rfl ?_
 refine om rfl rfl (shO_off (b' := false) 120 rfl rfl rfl rfl (shO_off (b' := false) 120 rfl rfl rfl rfl (shO_off (b' := false) 120 rfl rfl rfl rfl ?_)))
 refine ov (v_pick_f rfl rfl) rfl ?_
 refine om rfl rfl (shO_off (b' := false) 125 rfl rfl rfl rfl (shO_off (b' := false) 125 rfl rfl rfl rfl ?_))
 refine ov (v_pick_f rfl rfl) rfl ?_
 refine om rfl rfl (shO_off (b' := false) 129 rfl rfl rfl rfl (shO_off (b' := false) 129 rfl rfl rfl rfl ?_))
 refine ov (v_pick_f rfl rfl) rfl ?_
 refine om rfl rfl (shO_off (b' := false) 133 rfl rfl rfl rfl (shO_off (b' := false) 133 rfl rfl rfl rfl (shO_off (b' := false) 133 rfl rfl rfl rfl ?_)))
 refine ov (v_pick_f rfl rfl) rfl ?_
 refine oa rfl rfl (shO_nil ?_)
 refine kW kn ?_
 refine shW_ret ?_
 refine q_res1 Try.results18 (res_tmp rfl) (sr) ?_
 obtain rfl := inj1 r296
 exact rfl
set_option maxHeartbeats 1000000 in
theorem oyezlaw01_Made_w {b_b : Nat} {metal_a : Option Addr} {metal_c : Nat} {metal : List Int} {at_ : Int} {turn : Int} {plots : Int} {F : FS} (h_metal : RowR 1 (iE .u8) F metal_a metal_c metal) {r : Int} {r2 : List Int} {r3 : Int} {r4 : Int} (hr : oyezlaw01_Made metal at_ turn plots = some (r, r2, r3, r4)) :
    SH.Spec Try.prog 51 #[.pointer (some ⟨b_b, 0, none⟩), .int .i64 plots] F [(b_b, .cells #[.slice metal_a metal.length metal_c, .int .i64 at_, .int .u32 turn] 104 (0, 0))] fun F' L' v => ∃ (r2a : Option Addr) (r2n : Nat) (r2c : Nat) (r2L : LH), v = .agg #[.int .i64 r, .slice r2a r2n r2c] ∧ L' = (b_b, .cells #[.slice metal_a metal.length metal_c, .int .i64 r3, .int .u32 r4] 104 (0, 0)) :: (r2L ++ []) ∧ SlR 0 100 1 (iE .i64) F' r2a r2n r2c r2 r2L := by
 refine spec_of_shW (args := [.pointer (some ⟨b_b, 0, none⟩), .int .i64 plots]) Try.func51 rfl Try.ntmps51 (Nat.le_of_ble_eq_true rfl) ?_
 intro K _ _; rw [oyezlaw01_Made] at hr
 refine wsr ?_
 refine o_alloc rfl Try.zeroValue94 ?_; intro b1 hb1
 refine nsr (om rfl rfl ?_)
 obtain ⟨n, at_2, turn2, h2, r5⟩ := b3_ok hr; clear hr
 refine o_callG (Lb := [(b_b, .cells #[.slice metal_a metal.length metal_c, .int .i64 at_, .int .u32 turn] 104 (0, 0))]) (Lr := [(b1, .cells #[.int .i64 0, .slice none 0 0] 94 (0, 0))]) rfl Try.call34 rfl rfl rfl (((fC fO).trans (pC pR))) (oyezkit_Bell_Strike_w h_metal h2) ?_; rintro _ F6 _ hF7 hd9 hn8 ⟨rfl, rfl⟩
 replace h_metal := h_metal.mono (iE_ok _) hF7
 refine shO_L (lb (ln rfl)) ?_
 refine ov (v_build (v := .agg #[.int .i64 n, .slice none 0 0]) rfl (by intro w; kernel_rfl)) rfl ?_
 refine o_alloc rfl Try.zeroValue94 ?_; intro b10 hb10
 refine o_storeA (i := 0) Try.sizeOf94 rfl rfl rfl (by simp [Value.oneCell']) rfl (Nat.le_of_ble_eq_true rfl) ?_
 refine shO_L (L' := [(b10, .cells #[.int .i64 n, .slice none 0 0] 94 (0, 0)), (b_b, .cells #[.slice metal_a metal.length metal_c, .int .i64 at_2, .int .u32 turn2] 104 (0, 0)), (b1, .cells #[.int .i64 0, .slice none 0 0] 94 (0, 0))]) rfl ?_
 refine nsr (om rfl rfl (om rfl rfl ?_))
 refine ov (v_fieldAddr fa_94_0 rfl) rfl ?_
 refine ov (v_load Try.isAgg3 rfl (Has.own 0 rfl) rfl) rfl ?_
 obtain ⟨g11, r12⟩ := gd_ok r5; clear r5
 refine ov (v_quoT rfl rfl g11) rfl ?_
 refine ov (v_max2 rfl rfl) rfl ?_
 obtain ⟨n2, at_3, turn3, h13, r14⟩ := b3_ok r12; clear r12
 refine o_callG (Lb := [(b_b, .cells #[.slice metal_a metal.length metal_c, .int .i64 at_2, .int .u32 turn2] 104 (0, 0))]) (Lr := [(b10, .cells #[.int .i64 n, .slice none 0 0] 94 (0, 0)), (b1, .cells #[.int .i64 0, .slice none 0 0] 94 (0, 0))]) rfl Try.call34 rfl rfl rfl (((fC fO).trans (pC pR))) (oyezkit_Bell_Strike_w h_metal h13) ?_; rintro _ F15 _ hF16 hd18 hn17 ⟨rfl, rfl⟩
 replace h_metal := h_metal.mono (iE_ok _) hF16
 refine shO_L (lb (ln rfl)) ?_
 refine oa rfl rfl (nsr (oa rfl rfl (shO_nil ?_)))
 obtain ⟨b_at, b_turn, t_plots, h25, r26⟩ := b3_ok r14; clear r14
 refine shW_join (fun e1 F1 L1 => ∃ (a19 : Option Addr) (n23 : Nat) (c20 : Nat) (Lb21 : LH), FExt F15 F1 ∧ L1 = ((b_b, .cells #[.slice metal_a metal.length metal_c, .int .i64 b_at, .int .u32 b_turn] 104 (0, 0)) :: ((b10, .cells #[.int .i64 n, .slice a19 n23 c20] 94 (0, 0)) :: ((b1, .cells #[.int .i64 0, .slice none 0 0] 94 (0, 0)) :: (Lb21 ++ [])))) ∧ e1.sub [(0, .pointer (some ⟨b_b, 0, none⟩)), (4, .pointer (some ⟨b1, 0, none⟩)), (5, .pointer (some ⟨b10, 0, none⟩))] ∧ SlR K.w0.heap.size 100 1 (iE .i64) F1 a19 n23 c20 t_plots Lb21) ?_ ?_
 · clear r26
   refine wsr (om rfl rfl ?_)
   refine ov (v_fieldAddr fa_94_0 rfl) rfl ?_
   refine ov (v_load Try.isAgg3 rfl (Has.own 1 rfl) rfl) rfl ?_
   obtain ⟨g27, r28⟩ := gd_ok h25; clear h25
   refine ov (v_mul rfl rfl g27) rfl ?_
   refine om rfl rfl (shO_nil ?_)
   refine shW_block ?_
   obtain ⟨g35, r36⟩ := gd_ok r28; clear r28
   refine shW_lp (fun fu1 e1 F1 L1 => ∃ (k : Int), Ctr 0 (n2 * n) k fu1 ∧ ∃ (b_at2 : Int) (b_turn2 : Int) (t_plots2 : List Int) (left_ : Int) (a29 : Option Addr) (n33 : Nat) (c30 : Nat) (Lb31 : LH), oyezlaw01_Made_l1 metal fu1 b_at2 b_turn2 t_plots2 left_ = some (b_at, b_turn, t_plots) ∧ FExt F15 F1 ∧ L1 = ((b_b, .cells #[.slice metal_a metal.length metal_c, .int .i64 b_at2, .int .u32 b_turn2] 104 (0, 0)) :: ((b10, .cells #[.int .i64 n, .slice a29 n33 c30] 94 (0, 0)) :: ((b1, .cells #[.int .i64 0, .slice none 0 0] 94 (0, 0)) :: (Lb31 ++ [])))) ∧ e1.sub [(0, .pointer (some ⟨b_b, 0, none⟩)), (4, .pointer (some ⟨b1, 0, none⟩)), (5, .pointer (some ⟨b10, 0, none⟩)), (7, .int .i64 left_), (22, .int .i64 (n2 * n)), (23, .int .i64 k)] ∧ SlR K.w0.heap.size 100 1 (iE .i64) F1 a29 n33 c30 t_plots2 Lb31) _ (m0 (kc (kc (kc (ke kr)))) ⟨_, Ctr.start _ _, at_3, turn3, [], 10, none, 0, 0, [], r36, FExt.refl _, rfl, (sc rfl (sc rfl (sc rfl (sc rfl (sc rfl (sc rfl (sn _))))))), SlR.nil _ _ _ _ _⟩) ?_
   rintro fu1 e1 F41 _ ⟨k, hk37, b_at2, b_turn2, t_plots2, left_, a29, n33, c30, Lb31, r39, hF42, rfl, he40, hz32⟩
   refine shW_env _ he40 ?_; clear he40
   replace h_metal := h_metal.mono (iE_ok _) hF42
   refine wsr ?_
   refine ov (v_lssK rfl rfl) rfl ?_
   refine shO_nil (shW_seq ?_)
   refine shW_condP rfl (fun c44 => ?_) (fun c44 => ?_)
   · obtain ⟨fu1, rfl, hk45⟩ := Ctr.succ hk37 c44
     rw [oyezlaw01_Made_l1] at r39
     refine shW_skip (shW_seq ?_)
     refine shW_block ?_
     refine wsr ?_
     refine o_buildSlice (cs := #[.int .i64 0, .int .i64 0, .int .i64 0, .int .i64 1, .int .i64 1, .int .i64 2]) rfl rfl (buildSlice_all slt_27 [.int .i64 0, .int .i64 0, .int .i64 0, .int .i64 1, .int .i64 1, .int .i64 2] rfl (by decide) (by simp [Value.cells]) (by decide)) ?_; intro b46 hb46
     refine om rfl rfl ?_
     obtain ⟨n3, at_4, turn4, h47, r48⟩ := b3_ok r39; clear r39
     refine o_callG (Lb := [(b_b, .cells #[.slice metal_a metal.length metal_c, .int .i64 b_at2, .int .u32 b_turn2] 104 (0, 0))]) (Lr := (b46, .cells #[.int .i64 0, .int .i64 0, .int .i64 0, .int .i64 1, .int .i64 1, .int .i64 2] 3 (0, 0)) :: ((b10, .cells #[.int .i64 n, .slice a29 n33 c30] 94 (0, 0)) :: ((b1, .cells #[.int .i64 0, .slice none 0 0] 94 (0, 0)) :: (Lb31 ++ [])))) rfl Try.call19 rfl rfl rfl (((fC fO).trans (pC pR))) (oyezkit_Bell_Stroke_w h_metal h47) ?_; rintro _ F49 _ hF50 hd52 hn51 ⟨rfl, rfl⟩
     replace hz32 := hz32.mono (iE_ok _) hF50
     refine shO_L (lb (ln rfl)) ?_
     refine shO_freeze 1 rfl hb46 ?_; intro F53 hF54 hz55
     refine shO_L (L' := (b_b, .cells #[.slice metal_a metal.length metal_c, .int .i64 at_4, .int .u32 turn4] 104 (0, 0)) :: ((b10, .cells #[.int .i64 n, .slice a29 n33 c30] 94 (0, 0)) :: ((b1, .cells #[.int .i64 0, .slice none 0 0] 94 (0, 0)) :: (Lb31 ++ [])))) rfl ?_
     replace hz32 := hz32.mono (iE_ok _) hF54
     have h56 : RowR 1 (iE .i64) F53 (some ⟨b46, 0, none⟩) 6 [0, 0, 0, 1, 1, 2] := RowR.of_block (iE_ok _) (vss := [[.int .i64 0], [.int .i64 0], [.int .i64 0], [.int .i64 1], [.int .i64 1], [.int .i64 2]]) (xs := [0, 0, 0, 1, 1, 2]) hz55 (.cons rfl (.cons rfl (.cons rfl (.cons rfl (.cons rfl (.cons rfl .nil)))))) rfl (by simp [maxLen])
     obtain ⟨x, g57, hx58, r59⟩ := ix_ok r48; clear r48
     obtain ⟨b60, o61, c62, vs63, ha64, hs65, hle66, rfl, hl67, hc68⟩ := RowR.at (iE_ok _) h56 ((b_b, .cells #[.slice metal_a metal.length metal_c, .int .i64 at_4, .int .u32 turn4] 104 (0, 0)) :: ((b10, .cells #[.int .i64 n, .slice a29 n33 c30] 94 (0, 0)) :: ((b1, .cells #[.int .i64 0, .slice none 0 0] 94 (0, 0)) :: (Lb31 ++ [])))) g57.1 hx58
     refine ov (v_indexO Try.underlying27 Try.sizeOf3 rfl ha64 rfl g57) rfl ?_
     refine ov (v_load Try.isAgg3 rfl hs65 (hc68 0 (by decide))) rfl ?_
     refine oa rfl rfl (shO_nil ?_)
     obtain ⟨left_2, p, h69, r70⟩ := b2_ok r59; clear r59
     refine shW_join (fun e1 F1 L1 => F53 = F1 ∧ L1 = ((b_b, .cells #[.slice metal_a metal.length metal_c, .int .i64 at_4, .int .u32 turn4] 104 (0, 0)) :: ((b10, .cells #[.int .i64 n, .slice a29 n33 c30] 94 (0, 0)) :: ((b1, .cells #[.int .i64 0, .slice none 0 0] 94 (0, 0)) :: (Lb31 ++ [])))) ∧ e1.sub [(0, .pointer (some ⟨b_b, 0, none⟩)), (4, .pointer (some ⟨b1, 0, none⟩)), (5, .pointer (some ⟨b10, 0, none⟩)), (7, .int .i64 left_2), (8, .int .i64 p), (22, .int .i64 (n2 * n)), (23, .int .i64 k)]) ?_ ?_
     · clear r70
       refine wsr (om rfl rfl ?_)
       refine ov (v_eql rfl rfl) rfl ?_
       refine shO_nil ?_
       refine shW_condP rfl (fun c71 => ?_) (fun c71 => ?_)
       · have r72 := ite_t h69 c71; clear h69
         refine wsr (om rfl rfl ?_)
         obtain ⟨g73, r74⟩ := gd_ok r72; clear r72
         refine ov (v_sub rfl rfl g73) rfl ?_
         refine oa rfl rfl (nsr (om rfl rfl ?_))
         refine ov (v_lssK rfl rfl) rfl ?_
         refine shO_nil ?_
         refine shW_condP rfl (fun c75 => ?_) (fun c75 => ?_)
         · have r76 := ite_t r74 c75; clear r74
           refine shW_region (oa rfl rfl (shO_nil ?_))
           obtain ⟨rfl, rfl⟩ := inj2 r76
           exact mi kr ⟨rfl, rfl, (sc rfl (sc rfl (sc rfl (sc rfl (sc rfl (sc rfl (sc rfl (sn _))))))))⟩
         have r77 := ite_f r74 c75; clear r74
         refine shW_skip ?_
         obtain ⟨rfl, rfl⟩ := inj2 r77
         exact mi kr ⟨rfl, rfl, (sc rfl (sc rfl (sc rfl (sc rfl (sc rfl (sc rfl (sc rfl (sn _))))))))⟩
       have r78 := ite_f h69 c71; clear h69
       refine shW_skip ?_
       obtain ⟨rfl, rfl⟩ := inj2 r78
       exact mi kr ⟨rfl, rfl, (sc rfl (sc rfl (sc rfl (sc rfl (sc rfl (sc rfl (sc rfl (sn _))))))))⟩
     rintro e1 _ _ ⟨rfl, rfl, he79⟩
     refine shW_env _ he79 ?_; clear he79
     refine shW_region ?_
     refine ov (v_fieldAddr fa_94_1 rfl) rfl ?_
     refine ov (v_load Try.isAgg92 rfl (Has.own 1 rfl) rfl) rfl ?_
     refine om rfl rfl ?_
     refine o_buildSlice (cs := #[.int .i64 p]) rfl rfl (buildSlice_all slt_92 [.int .i64 p] rfl (by decide) (by simp [Value.cells]) (by decide)) ?_; intro b80 hb80
     obtain ⟨t, h81, g82, r83⟩ := ap_ok r70; clear r70
     refine o_appZ (xs := t_plots2) (ys := [p]) (zs := t) rfl slt_92 rfl rfl (Nat.le_refl _) (fun _ => .c (.c (.c (.c .h)))) hz32 (SrcR.box (vss := [[.int .i64 p]]) (ys := [p]) 0 rfl (iE_ok _) (.cons rfl .nil) rfl rfl) h81 g82 (by decide) ?_; intro a84 n88 c85 Lb86 hz87
     refine kO (kd kr) ?_
     refine ov (v_fieldAddr fa_94_1 rfl) rfl ?_
     refine o_store (i := 1) Try.sizeOf92 rfl rfl rfl rfl (Nat.le_of_ble_eq_true rfl) ?_
     refine shO_L (L' := (b_b, .cells #[.slice metal_a metal.length metal_c, .int .i64 at_4, .int .u32 turn4] 104 (0, 0)) :: ((b10, .cells #[.int .i64 n, .slice a84 n88 c85] 94 (0, 0)) :: ((b1, .cells #[.int .i64 0, .slice none 0 0] 94 (0, 0)) :: (Lb86 ++ [])))) rfl ?_
     refine shO_nil (inBlock_n (id := 1) (shW_region ?_))
     refine ov (v_add rfl rfl (Ctr.r64 hk37 c44 g35)) rfl ?_
     refine om rfl rfl (shO_nil ?_)
     exact le kr ⟨_, hk45, at_4, turn4, t, left_2, a84, n88, c85, Lb86, r83, ((hF42.trans hF50).trans hF54), rfl, (sc rfl (sc rfl (sc rfl (sc rfl (sc rfl (sc rfl (sn _))))))), hz87⟩
   obtain rfl := Ctr.zero hk37 c44
   rw [oyezlaw01_Made_l1] at r39
   refine shW_exit (andThen_exit (andThen_exit ?_))
   refine inBlock_exit ?_
   obtain ⟨rfl, rfl, rfl⟩ := inj3 r39
   exact mi kr ⟨a29, n33, c30, Lb31, hF42, rfl, (sc rfl (sc rfl (sc rfl (sn _)))), hz32⟩
 rintro e1 F91 _ ⟨a19, n23, c20, Lb21, hF92, rfl, he90, hz22⟩
 refine shW_env _ he90 ?_; clear he90
 replace h_metal := h_metal.mono (iE_ok _) hF92
 refine shW_seq ?_
 refine shW_drawM [(.still, 0), (.still, 1), (.still, 2), (.still, 3), (.still, 4), (.still, 5), (.still, 6), (.seq, 7), (.still, 8), (.seq, 9)] (by kernel_rfl) (by kernel_rfl) (trivial) (by rfl) (by kernel_rfl) ?_
 refine shM_v (v := .pointer (some ⟨b10, 1, none⟩)) (ek := [(5, .pointer (some ⟨b10, 0, none⟩))]) (Ls := []) rfl rfl rfl rfl ((sc rfl (sn _))) (by kernel_rfl) sm (fun H F' L' hF' hL' => v_fieldAddr fa_94_1 rfl) ?_
 refine shM_v (v := .slice a19 n23 c20) (ek := [(43, .pointer (some ⟨b10, 1, none⟩))]) (Ls := [(b10, .cells #[.int .i64 n, .slice a19 n23 c20] 94 (0, 0))]) rfl rfl rfl rfl ((sc rfl (sn _))) (by kernel_rfl) (s0 (s1 (s2 (s1 (s3 sr))))) (fun H F' L' hF' hL' => v_load Try.isAgg92 rfl ((Has.own 0 rfl).ext hF' hL') rfl) ?_
 refine shM_v (v := .pointer (some ⟨b_b, 0, none⟩)) (ek := [(0, .pointer (some ⟨b_b, 0, none⟩))]) (Ls := []) rfl rfl rfl rfl ((sc rfl (sn _))) (by kernel_rfl) sm (fun H F' L' hF' hL' => v_move rfl) ?_
 refine shM_v (v := .pointer (some ⟨b10, 1, none⟩)) (ek := [(5, .pointer (some ⟨b10, 0, none⟩))]) (Ls := []) rfl rfl rfl rfl ((sc rfl (sn _))) (by kernel_rfl) sm (fun H F' L' hF' hL' => v_fieldAddr fa_94_1 rfl) ?_
 refine shM_v (v := .slice a19 n23 c20) (ek := [(46, .pointer (some ⟨b10, 1, none⟩))]) (Ls := [(b10, .cells #[.int .i64 n, .slice a19 n23 c20] 94 (0, 0))]) rfl rfl rfl rfl ((sc rfl (sn _))) (by kernel_rfl) (s0 (s1 (s2 (s1 (s3 sr))))) (fun H F' L' hF' hL' => v_load Try.isAgg92 rfl ((Has.own 0 rfl).ext hF' hL') rfl) ?_
 refine shM_v (v := .int .i64 (t_plots.length : Int)) (ek := [(47, .slice a19 n23 c20)]) (Ls := []) rfl rfl rfl rfl ((sc rfl (sn _))) (by kernel_rfl) sm (fun H F' L' hF' hL' => (v_lenS Try.underlying92 rfl).i (SlR.lenI hz22)) ?_
 obtain ⟨g93, r94⟩ := gd_ok r26; clear r26
 refine shM_v (v := .int .i64 ((t_plots.length : Int) - 1)) (ek := [(48, .int .i64 (t_plots.length : Int))]) (Ls := []) rfl rfl rfl rfl ((sc rfl (sn _))) (by kernel_rfl) sm (fun H F' L' hF' hL' => v_sub rfl rfl g93) ?_
 refine ⟨_, [(45, .pointer (some ⟨b_b, 0, none⟩)), (49, .int .i64 ((t_plots.length : Int) - 1))], rfl, rfl, (sc rfl (sc rfl (sn _))), by kernel_rfl, ?_⟩; intro H
 obtain ⟨n4, at_5, turn5, h95, r96⟩ := b3_ok r94; clear r94
 refine o_callG (Lb := [(b_b, .cells #[.slice metal_a metal.length metal_c, .int .i64 b_at, .int .u32 b_turn] 104 (0, 0))]) (Lr := (b10, .cells #[.int .i64 n, .slice a19 n23 c20] 94 (0, 0)) :: ((b1, .cells #[.int .i64 0, .slice none 0 0] 94 (0, 0)) :: (Lb21 ++ []))) rfl Try.call19 rfl rfl rfl (pR) (oyezkit_Bell_Stroke_w h_metal h95) ?_; rintro _ F97 _ hF98 hd100 hn99 ⟨rfl, rfl⟩
 replace hz22 := hz22.mono (iE_ok _) hF98
 refine shO_L (lb (ln rfl)) ?_
 refine shO_nil ⟨_, rfl, hF98, [1, 0], by kernel_rfl, .inl (.inr (fun d h => by cases h; rfl)), (List.forall_mem_cons.2 ⟨s0 (s1 (s2 (s1 (s3 sr)))), (List.forall_mem_cons.2 ⟨sm, (fun _ h => absurd h List.not_mem_nil)⟩)⟩), ?_⟩
 obtain ⟨x2, g101, hx102, r103⟩ := ix_ok r96; clear r96
 obtain ⟨b104, o105, c106, vs107, ha108, hs109, hle110, rfl, hl111, hc112⟩ := SlR.at (iE_ok _) hz22 (L := Lb21 ++ []) fP g101.1 hx102
 refine shM_v (v := .pointer (some ⟨b104, o105 + (n4 : Int).toNat * 1, none⟩)) (ek := [(44, .slice a19 n23 c20), (50, .int .i64 n4)]) (Ls := []) rfl rfl rfl rfl ((sc rfl (sc rfl (sn _)))) (by kernel_rfl) sm (fun H F' L' hF' hL' => v_indexO Try.underlying92 Try.sizeOf100 rfl ha108 rfl (SlR.idx hz22 g101)) ?_
 refine ⟨_, [(51, .pointer (some ⟨b104, o105 + (n4 : Int).toNat * 1, none⟩))], rfl, rfl, (sc rfl (sn _)), by kernel_rfl, ?_⟩; intro H
 obtain ⟨l, h113, r114⟩ := bv_ok r103; clear r103
 refine o_storeZ (u := 0) Try.sizeOf100 (iE_ok _) rfl ha108 rfl rfl (fun _ => .c (.c (.c .h))) hz22 h113 g101 ?_; intro Lb115 hz116
 refine shO_nil ⟨undef, rfl, FExt.refl _, [], by kernel_rfl, .inl (.inl rfl), (fun _ h => absurd h List.not_mem_nil), ?_⟩
 refine shM_nil ?_
 refine wsr ?_
 refine ov (v_loadA (cs := #[.int .i64 n, .slice a19 n23 c20]) Try.isAgg94 Try.sizeOf94 rfl (Has.own 1 rfl) (Nat.le_of_ble_eq_true rfl) rfl) rfl ?_
 refine o_storeA (i := 2) Try.sizeOf94 rfl rfl rfl (by simp [Value.oneCell']) rfl (Nat.le_of_ble_eq_true rfl) ?_
 refine shO_L (L' := (b_b, .cells #[.slice metal_a metal.length metal_c, .int .i64 at_5, .int .u32 turn5] 104 (0, 0)) :: ((b10, .cells #[.int .i64 n, .slice a19 n23 c20] 94 (0, 0)) :: ((b1, .cells #[.int .i64 n, .slice a19 n23 c20] 94 (0, 0)) :: (Lb115 ++ [])))) rfl ?_
 refine shO_nil ?_
 refine kW (kf (fC (fC fO)) (kc (kd kr))) ?_
 refine shW_ret ?_
 refine q_res1 Try.results51 (res_cellA (cs := #[.int .i64 n, .slice a19 n23 c20]) Try.isAgg94 Try.sizeOf94 rfl (Has.own 0 rfl) (Nat.le_of_ble_eq_true rfl) rfl) (s1 (s2 (s4 sr))) ?_
 obtain ⟨rfl, rfl, rfl, rfl⟩ := inj4 r114
 exact ⟨_, _, _, _, rfl, rfl, hz116.any⟩
set_option maxHeartbeats 1000000 in
theorem oyezlaw01_Aired_w {b_b : Nat} {metal_a : Option Addr} {metal_c : Nat} {metal : List Int} {at_ : Int} {turn : Int} {F : FS} (h_metal : RowR 1 (iE .u8) F metal_a metal_c metal) {r : Int} {r2 : Int} {r3 : Int} {r4 : Int} (hr : oyezlaw01_Aired metal at_ turn = some (r, r2, r3, r4)) :
    SH.Spec Try.prog 52 #[.pointer (some ⟨b_b, 0, none⟩)] F [(b_b, .cells #[.slice metal_a metal.length metal_c, .int .i64 at_, .int .u32 turn] 104 (0, 0))] fun _ L' v => v = .agg #[.int .i64 r, .int .i64 r2] ∧ L' = [(b_b, .cells #[.slice metal_a metal.length metal_c, .int .i64 r3, .int .u32 r4] 104 (0, 0))] := by
 refine spec_of_shW (args := [.pointer (some ⟨b_b, 0, none⟩)]) Try.func52 rfl Try.ntmps52 (Nat.le_of_ble_eq_true rfl) ?_
 intro K _ _; rw [oyezlaw01_Aired] at hr
 refine wsr ?_
 refine o_alloc rfl Try.zeroValue98 ?_; intro b1 hb1
 refine nsr (om rfl rfl ?_)
 obtain ⟨n, at_2, turn2, h2, r5⟩ := b3_ok hr; clear hr
 refine o_callG (Lb := [(b_b, .cells #[.slice metal_a metal.length metal_c, .int .i64 at_, .int .u32 turn] 104 (0, 0))]) (Lr := [(b1, .cells #[.int .i64 0, .int .i64 0] 98 (0, 0))]) rfl Try.call19 rfl rfl rfl (((fC fO).trans (pC pR))) (oyezkit_Bell_Stroke_w h_metal h2) ?_; rintro _ F6 _ hF7 hd9 hn8 ⟨rfl, rfl⟩
 replace h_metal := h_metal.mono (iE_ok _) hF7
 refine shO_L (lb (ln rfl)) ?_
 refine om rfl rfl ?_
 obtain ⟨n2, at_3, turn3, h10, r11⟩ := b3_ok r5; clear r5
 refine o_callG (Lb := [(b_b, .cells #[.slice metal_a metal.length metal_c, .int .i64 at_2, .int .u32 turn2] 104 (0, 0))]) (Lr := [(b1, .cells #[.int .i64 0, .int .i64 0] 98 (0, 0))]) rfl Try.call34 rfl rfl rfl (pR) (oyezkit_Bell_Strike_w h_metal h10) ?_; rintro _ F12 _ hF13 hd15 hn14 ⟨rfl, rfl⟩
 refine shO_L (lb (ln rfl)) ?_
 refine ov (v_build (v := .agg #[.int .i64 n, .int .i64 n2]) rfl (by intro w; kernel_rfl)) rfl ?_
 refine o_storeA (i := 1) Try.sizeOf98 rfl rfl rfl (by simp [Value.oneCell']) rfl (Nat.le_of_ble_eq_true rfl) ?_
 refine shO_L (L' := [(b_b, .cells #[.slice metal_a metal.length metal_c, .int .i64 at_3, .int .u32 turn3] 104 (0, 0)), (b1, .cells #[.int .i64 n, .int .i64 n2] 98 (0, 0))]) rfl ?_
 refine shO_nil ?_
 refine kW (kf (fC fO) kr) ?_
 refine shW_ret ?_
 refine q_res1 Try.results52 (res_cellA (cs := #[.int .i64 n, .int .i64 n2]) Try.isAgg98 Try.sizeOf98 rfl (Has.own 0 rfl) (Nat.le_of_ble_eq_true rfl) rfl) (s1 (s2 sr)) ?_
 obtain ⟨rfl, rfl, rfl, rfl⟩ := inj4 r11
 exact ⟨rfl, rfl⟩
set_option maxHeartbeats 1000000 in
theorem hear_in_w {n : Int} {lo : Int} {hi : Int} {F : FS} {r : Bool} (hr : hear_in n lo hi = some r) :
    SpecV Try.prog 116 #[.int .i64 n, .int .i64 lo, .int .i64 hi] F (.bool r) := by
 refine spec_of_shW (args := [.int .i64 n, .int .i64 lo, .int .i64 hi]) Try.func116 rfl Try.ntmps116 (Nat.le_of_ble_eq_true rfl) ?_
 intro K _ _; rw [hear_in] at hr
 refine wsr (oa rfl rfl (nsr (om rfl rfl (om rfl rfl ?_))))
 refine ov (v_geqK rfl rfl) rfl ?_
 refine om rfl rfl ?_
 by_cases c1 : lo ≤ n
 · have r2 := ite_t hr c1; clear hr
   refine shO_on (b := true) 10 rfl (Env.isT rfl c1) (om rfl rfl (shO_on (b := true) 10 rfl (Env.isT rfl c1) (om rfl rfl (shO_on (b := true) 10 rfl (Env.isT rfl c1) ?_))))
   refine ov (v_leqK rfl rfl) rfl ?_
   refine ov (v_pick_t (evD_true rfl c1) rfl) rfl ?_
   refine oa rfl rfl (shO_nil (shW_ret ?_))
   refine q_res1 Try.results116 (res_tmp rfl) (sr) ?_
   obtain rfl := inj1 r2
   exact rfl
 have r3 := ite_f hr c1; clear hr
 refine shO_off (b' := false) 10 rfl (Env.isF rfl c1) rfl rfl (shO_off (b' := false) 10 rfl (Env.isF rfl c1) rfl rfl (shO_off (b' := false) 10 rfl (Env.isF rfl c1) rfl rfl ?_))
 refine ov (v_pick_f (evD_false rfl c1) rfl) rfl ?_
 refine oa rfl rfl (shO_nil (shW_ret ?_))
 refine q_res1 Try.results116 (res_tmp rfl) (sr) ?_
 obtain rfl := inj1 r3
 exact rfl
set_option maxHeartbeats 1000000 in
theorem slices_IndexFunc_hear_Plot_hear_Plot_w {s__a : Option Addr} {s__c : Nat} {s_ : List Int} {f_f : FuncId} {f_1 : Array Value} {f_2 : Array Value} {f : Int → Option Bool} {F : FS} (h_s_ : RowR 1 (iE .i64) F s__a s__c s_) (h_f : FnR Try.prog F f_f f_1 f_2 (iE .i64) Value.bool f) {r : Int} (hr : slices_IndexFunc_hear_Plot_hear_Plot s_ f = some r) :
    SpecV Try.prog 140 #[.slice s__a s_.length s__c, .func (.func f_f) f_1 f_2] F (.int .i64 r) := by
 refine spec_of_shW (args := [.slice s__a s_.length s__c, .func (.func f_f) f_1 f_2]) Try.func140 rfl Try.ntmps140 (Nat.le_of_ble_eq_true rfl) ?_
 intro K _ _; rw [slices_IndexFunc_hear_Plot_hear_Plot] at hr
 refine wsr (oa rfl rfl (shO_nil ?_))
 refine shW_join (fun e1 F1 L1 => slices_IndexFunc_hear_Plot_hear_Plot_j1 = some r ∧ F = F1 ∧ L1 = [] ∧ e1.sub []) ?_ ?_
 · refine wsr (om rfl rfl ?_)
   refine ov (v_lenS Try.underlying92 rfl) rfl ?_
   refine om rfl rfl (shO_nil ?_)
   refine shW_block ?_
   refine shW_lp (fun fu2 e1 F1 L1 => ∃ (tl : List Int) (k : Int), tl.length = fu2 ∧ Lst s_ k tl ∧ slices_IndexFunc_hear_Plot_hear_Plot_l2 f tl k = some r ∧ F = F1 ∧ L1 = [] ∧ e1.sub [(0, .slice s__a s_.length s__c), (1, .func (.func f_f) f_1 f_2), (7, .int .i64 (s_.length : Int)), (8, .int .i64 k)]) _ (m0 kr ⟨_, _, rfl, Lst.start _, hr, rfl, rfl, (sc rfl (sc rfl (sc rfl (sc rfl (sn _)))))⟩) ?_
   rintro fu2 e1 _ _ ⟨tl, k, hn2, hk1, r3, rfl, rfl, he4⟩
   refine shW_env _ he4 ?_; clear he4
   refine wsr ?_
   refine ov (v_lssK rfl rfl) rfl ?_
   refine shO_nil (shW_seq ?_)
   refine shW_condP rfl (fun c6 => ?_) (fun c6 => ?_)
   · obtain ⟨x, tl2, rfl, hx8, g9, hk7⟩ := Lst.succ hk1 c6
     rw [slices_IndexFunc_hear_Plot_hear_Plot_l2] at r3
     refine shW_skip (shW_seq ?_)
     refine shW_block ?_
     refine wsr (om rfl rfl (oa rfl rfl (nsr (om rfl rfl (om rfl rfl (om rfl rfl ?_))))))
     obtain ⟨b10, o11, c12, vs13, ha14, hs15, hle16, rfl, hl17, hc18⟩ := RowR.at (iE_ok _) h_s_ ([]) g9.1 hx8
     refine ov (v_indexO Try.underlying92 Try.sizeOf100 rfl ha14 rfl g9) rfl ?_
     refine ov (v_load Try.isAgg100 rfl hs15 (hc18 0 (by decide))) rfl ?_
     obtain ⟨ok, h19, r20⟩ := b1_ok r3; clear r3
     refine o_callV rfl h_f.1 rfl rfl rfl (h_f.2 _ (FExt.refl _) _ _ _ rfl h19) ?_
     refine shO_nil ?_
     refine shW_cond rfl (fun c21 => ?_) (fun c21 => ?_)
     · have r22 := bt r20 c21; clear r20
       refine wsr (om rfl rfl (oa rfl rfl (shO_nil (shW_ret (inBlock_ret (andThen_ret (andThen_ret (inBlock_ret (andThen_ret ?_)))))))))
       refine q_res1 Try.results140 (res_tmp rfl) (sr) ?_
       obtain rfl := inj1 r22
       exact rfl
     have r23 := bf r20 c21; clear r20
     refine shW_skip (inBlock_n (id := 1) (shW_region ?_))
     refine ov (v_add rfl rfl (Lst.r64 hk1 c6 (RowR.lt h_s_))) rfl ?_
     refine om rfl rfl (shO_nil ?_)
     subst hn2; exact le kr ⟨_, _, rfl, hk7, r23, rfl, rfl, (sc rfl (sc rfl (sc rfl (sc rfl (sn _)))))⟩
   obtain rfl := Lst.zero hk1 c6
   rw [slices_IndexFunc_hear_Plot_hear_Plot_l2] at r3
   refine shW_exit (andThen_exit (andThen_exit ?_))
   refine inBlock_exit ?_
   exact mi kr ⟨r3, rfl, rfl, (sn _)⟩
 rintro e1 _ _ ⟨r24, rfl, rfl, he25⟩
 refine shW_env _ he25 ?_; clear he25
 rw [slices_IndexFunc_hear_Plot_hear_Plot_j1] at r24
 refine wsr (oa rfl rfl (shO_nil (shW_ret ?_)))
 refine q_res1 Try.results140 (res_tmp rfl) (sr) ?_
 obtain rfl := inj1 r24
 exact rfl
set_option maxHeartbeats 1000000 in
theorem slices_ContainsFunc_hear_Plot_hear_Plot_w {s__a : Option Addr} {s__c : Nat} {s_ : List Int} {f_f : FuncId} {f_1 : Array Value} {f_2 : Array Value} {f : Int → Option Bool} {F : FS} (h_s_ : RowR 1 (iE .i64) F s__a s__c s_) (h_f : FnR Try.prog F f_f f_1 f_2 (iE .i64) Value.bool f) {r : Bool} (hr : slices_ContainsFunc_hear_Plot_hear_Plot s_ f = some r) :
    SpecV Try.prog 138 #[.slice s__a s_.length s__c, .func (.func f_f) f_1 f_2] F (.bool r) := by
 refine spec_of_shW (args := [.slice s__a s_.length s__c, .func (.func f_f) f_1 f_2]) Try.func138 rfl Try.ntmps138 (Nat.le_of_ble_eq_true rfl) ?_
 intro K _ _; rw [slices_ContainsFunc_hear_Plot_hear_Plot] at hr
 refine wsr (oa rfl rfl (nsr (om rfl rfl (om rfl rfl ?_))))
 obtain ⟨n, h1, r2⟩ := b1_ok hr; clear hr
 refine o_callV rfl Try.call140 rfl rfl rfl (slices_IndexFunc_hear_Plot_hear_Plot_w h_s_ h_f h1) ?_
 refine ov (v_geqK rfl rfl) rfl ?_
 refine oa rfl rfl (shO_nil (shW_ret ?_))
 refine q_res1 Try.results138 (res_tmp rfl) (sr) ?_
 obtain rfl := inj1 r2
 exact rfl
set_option maxHeartbeats 1000000 in
theorem hear_every_Plot_1_w {x : Int} {b_so : Nat} {so_f : FuncId} {so_1 : Array Value} {so_2 : Array Value} {so : Int → Option Bool} {mb_so : Nat × Nat} {F : FS} (hb_so : F b_so = some (.cells #[.func (.func so_f) so_1 so_2] 178 mb_so)) (h_so : FnR Try.prog F so_f so_1 so_2 (iE .i64) Value.bool so) {r : Bool} (hr : hear_every_Plot_1 x so = some r) :
    SpecV Try.prog 139 #[.int .i64 x, .pointer (some ⟨b_so, 0, none⟩)] F (.bool r) := by
 refine spec_of_shW (args := [.int .i64 x, .pointer (some ⟨b_so, 0, none⟩)]) Try.func139 rfl Try.ntmps139 (Nat.le_of_ble_eq_true rfl) ?_
 intro K _ _; rw [hear_every_Plot_1] at hr
 refine wsr (oa rfl rfl (nsr ?_))
 refine ov (v_load Try.isAgg178 rfl (Has.frozen hb_so) rfl) rfl ?_
 refine om rfl rfl ?_
 obtain ⟨ok, h1, r2⟩ := b1_ok hr; clear hr
 refine o_callV rfl h_so.1 rfl rfl rfl (h_so.2 _ (FExt.refl _) _ _ _ rfl h1) ?_
 refine ov (v_notB rfl) rfl ?_
 refine oa rfl rfl (shO_nil (shW_ret ?_))
 refine q_res1 Try.results139 (res_tmp rfl) (sr) ?_
 obtain rfl := inj1 r2
 exact rfl
set_option maxHeartbeats 1000000 in
theorem hear_every_Plot_w {l_a : Option Addr} {l_c : Nat} {l : List Int} {so_f : FuncId} {so_1 : Array Value} {so_2 : Array Value} {so : Int → Option Bool} {F : FS} (h_l : RowR 1 (iE .i64) F l_a l_c l) (h_so : FnR Try.prog F so_f so_1 so_2 (iE .i64) Value.bool so) {r : Bool} (hr : hear_every_Plot l so = some r) :
    SpecV Try.prog 134 #[.slice l_a l.length l_c, .func (.func so_f) so_1 so_2] F (.bool r) := by
 refine spec_of_shW (args := [.slice l_a l.length l_c, .func (.func so_f) so_1 so_2]) Try.func134 rfl Try.ntmps134 (Nat.le_of_ble_eq_true rfl) ?_
 intro K _ _; rw [hear_every_Plot] at hr
 refine wsr ?_
 refine o_box rfl rfl ?_; intro b1 hb1
 refine oa rfl rfl (nsr (om rfl rfl ?_))
 refine ov (v_makeFunc rfl rfl) rfl ?_
 refine shO_freeze 0 rfl hb1 ?_; intro F2 hF3 hz4
 refine shO_L (L' := []) rfl ?_
 replace h_l := h_l.mono (iE_ok _) hF3
 replace h_so := h_so.mono hF3
 have hn5 : FnR Try.prog F2 139 #[] #[.pointer (some ⟨b1, 0, none⟩)] (iE .i64) Value.bool (fun xx_ : Int => hear_every_Plot_1 xx_ so) := ⟨Try.call139, fun F2 h2 vs xx_ r ha hr => by obtain rfl := ha; exact hear_every_Plot_1_w (h2 _ _ hz4) (h_so.mono h2) hr⟩
 obtain ⟨ok, h6, r7⟩ := b1_ok hr; clear hr
 refine o_callV rfl Try.call138 rfl rfl rfl (slices_ContainsFunc_hear_Plot_hear_Plot_w h_l hn5 h6) ?_
 refine ov (v_notB rfl) rfl ?_
 refine oa rfl rfl (shO_nil (shW_ret ?_))
 refine q_res1 Try.results134 (res_tmp rfl) (sr) ?_
 obtain rfl := inj1 r7
 exact rfl
set_option maxHeartbeats 1000000 in
theorem hear_Check_1_w {p : Int} {F : FS} {r : Bool} (hr : hear_Check_1 p = some r) :
    SpecV Try.prog 135 #[.int .i64 p] F (.bool r) := by
 refine spec_of_shW (args := [.int .i64 p]) Try.func135 rfl Try.ntmps135 (Nat.le_of_ble_eq_true rfl) ?_
 intro K _ _; rw [hear_Check_1] at hr
 refine wsr (oa rfl rfl (nsr (om rfl rfl ?_)))
 obtain ⟨ok, h1, r2⟩ := b1_ok hr; clear hr
 refine o_callV rfl Try.call116 rfl rfl rfl (hear_in_w h1) ?_
 refine oa rfl rfl (shO_nil (shW_ret ?_))
 refine q_res1 Try.results135 (res_tmp rfl) (sr) ?_
 obtain rfl := inj1 r2
 exact rfl
set_option maxHeartbeats 1000000 in
theorem hear_Town_houses_w {wide : Int} {plots_a : Option Addr} {plots_c : Nat} {plots : List Int} {F : FS} (h_plots : RowR 1 (iE .i64) F plots_a plots_c plots) {r : Int} (hr : hear_Town_houses wide plots = some r) :
    SpecV Try.prog 136 #[.agg #[.int .i64 wide, .slice plots_a plots.length plots_c]] F (.int .i64 r) := by
 refine spec_of_shW (args := [.agg #[.int .i64 wide, .slice plots_a plots.length plots_c]]) Try.func136 rfl Try.ntmps136 (Nat.le_of_ble_eq_true rfl) ?_
 intro K _ _; rw [hear_Town_houses] at hr
 refine wsr ?_
 refine o_box rfl rfl ?_; intro b1 hb1
 refine oa rfl rfl (nsr (oa rfl rfl (shO_nil ?_)))
 obtain ⟨n, h2, r3⟩ := b1_ok hr; clear hr
 refine shW_join (fun e1 F1 L1 => F = F1 ∧ L1 = [] ∧ e1.sub [(3, .int .i64 n)]) ?_ ?_
 · clear r3
   refine wsr ?_
   refine ov (v_fieldAddr fa_94_1 rfl) rfl ?_
   refine ov (v_load Try.isAgg92 rfl (Has.own 0 rfl) rfl) rfl ?_
   refine ov (v_lenS Try.underlying92 rfl) rfl ?_
   refine om rfl rfl (shO_nil ?_)
   refine shW_block ?_
   refine kW kn ?_
   refine shW_lp (fun fu1 e1 F1 L1 => ∃ (tl : List Int) (k : Int), tl.length = fu1 ∧ Lst plots k tl ∧ ∃ (n2 : Int), hear_Town_houses_l1 tl n2 = some n ∧ F = F1 ∧ L1 = [] ∧ e1.sub [(3, .int .i64 n2), (7, .slice plots_a plots.length plots_c), (8, .int .i64 (plots.length : Int)), (9, .int .i64 k)]) _ (m0 kr ⟨_, _, rfl, Lst.start _, 0, h2, rfl, rfl, (sc rfl (sc rfl (sc rfl (sc rfl (sn _)))))⟩) ?_
   rintro fu1 e1 _ _ ⟨tl, k, hn5, hk4, n2, r6, rfl, rfl, he7⟩
   refine shW_env _ he7 ?_; clear he7
   refine wsr ?_
   refine ov (v_lssK rfl rfl) rfl ?_
   refine shO_nil (shW_seq ?_)
   refine shW_condP rfl (fun c9 => ?_) (fun c9 => ?_)
   · obtain ⟨x, tl2, rfl, hx11, g12, hk10⟩ := Lst.succ hk4 c9
     rw [hear_Town_houses_l1] at r6
     refine shW_skip (shW_seq ?_)
     refine shW_block ?_
     refine wsr ?_
     obtain ⟨b13, o14, c15, vs16, ha17, hs18, hle19, rfl, hl20, hc21⟩ := RowR.at (iE_ok _) h_plots ([]) g12.1 hx11
     refine ov (v_indexO Try.underlying92 Try.sizeOf100 rfl ha17 rfl g12) rfl ?_
     refine ov (v_load Try.isAgg100 rfl hs18 (hc21 0 (by decide))) rfl ?_
     refine oa rfl rfl (nsr (om rfl rfl ?_))
     refine ov (v_eql rfl rfl) rfl ?_
     refine shO_nil ?_
     refine shW_condP rfl (fun c22 => ?_) (fun c22 => ?_)
     · have r23 := ite_t r6 c22; clear r6
       refine shW_region (om rfl rfl ?_)
       obtain ⟨g24, r25⟩ := gd_ok r23; clear r23
       refine ov (v_add rfl rfl g24) rfl ?_
       refine oa rfl rfl (shO_nil (inBlock_n (id := 1) (shW_region ?_)))
       refine ov (v_add rfl rfl (Lst.r64 hk4 c9 (RowR.lt h_plots))) rfl ?_
       refine om rfl rfl (shO_nil ?_)
       subst hn5; exact le kr ⟨_, _, rfl, hk10, n2 + 1, r25, rfl, rfl, (sc rfl (sc rfl (sc rfl (sc rfl (sn _)))))⟩
     have r26 := ite_f r6 c22; clear r6
     refine shW_skip (inBlock_n (id := 1) (shW_region ?_))
     refine ov (v_add rfl rfl (Lst.r64 hk4 c9 (RowR.lt h_plots))) rfl ?_
     refine om rfl rfl (shO_nil ?_)
     subst hn5; exact le kr ⟨_, _, rfl, hk10, n2, r26, rfl, rfl, (sc rfl (sc rfl (sc rfl (sc rfl (sn _)))))⟩
   obtain rfl := Lst.zero hk4 c9
   rw [hear_Town_houses_l1] at r6
   refine shW_exit (andThen_exit (andThen_exit ?_))
   refine inBlock_exit ?_
   obtain rfl := inj1 r6
   exact mi kr ⟨rfl, rfl, (sc rfl (sn _))⟩
 rintro e1 _ _ ⟨rfl, rfl, he27⟩
 refine shW_env _ he27 ?_; clear he27
 refine wsr (om rfl rfl (oa rfl rfl (shO_nil (shW_ret ?_))))
 refine q_res1 Try.results136 (res_tmp rfl) (sr) ?_
 obtain rfl := inj1 r3
 exact rfl
set_option maxHeartbeats 1000000 in
theorem hear_Check_w {wide : Int} {plots_a : Option Addr} {plots_c : Nat} {plots : List Int} {F : FS} (h_plots : RowR 1 (iE .i64) F plots_a plots_c plots) {r : Int} (hr : hear_Check wide plots = some r) :
    SpecV Try.prog 128 #[.agg #[.int .i64 wide, .slice plots_a plots.length plots_c]] F (.int .i64 r) := by
 refine spec_of_shW (args := [.agg #[.int .i64 wide, .slice plots_a plots.length plots_c]]) Try.func128 rfl Try.ntmps128 (Nat.le_of_ble_eq_true rfl) ?_
 intro K _ _; rw [hear_Check] at hr
 refine wsr ?_
 refine o_box rfl rfl ?_; intro b1 hb1
 refine oa rfl rfl (shO_nil (shW_seq ?_))
 refine shW_block ?_
 obtain ⟨k, h2, r3⟩ := b1_ok hr; clear hr
 refine shW_join (fun e1 F1 L1 => F = F1 ∧ L1 = [(b1, .cells #[.int .i64 wide, .slice plots_a plots.length plots_c] 94 (0, 0))] ∧ e1.sub [(1, .pointer (some ⟨b1, 0, none⟩)), (3, .bool k)]) ?_ ?_
 · clear r3
   refine shW_region ?_
   refine ov (v_fieldAddr fa_94_0 rfl) rfl ?_
   refine ov (v_load Try.isAgg3 rfl (Has.own 0 rfl) rfl) rfl ?_
   obtain ⟨ok, h4, r5⟩ := b1_ok h2; clear h2
   refine o_callV rfl Try.call116 rfl rfl rfl (hear_in_w h4) ?_
   refine ov (v_notB rfl) rfl ?_
   refine om rfl rfl ?_
   rcases bool_two (!ok) with c6 | c6
   · have r7 := bt r5 c6; clear r5
     refine shO_off (b' := true) 8 rfl (EnvB rfl c6) rfl rfl (shO_off (b' := true) 8 rfl (EnvB rfl c6) rfl rfl (shO_off (b' := true) 8 rfl (EnvB rfl c6) rfl rfl (shO_off (b' := true) 8 rfl (EnvB rfl c6) rfl rfl (shO_off (b' := true) 8 rfl (EnvB rfl c6) rfl rfl ?_))))
     refine ov (v_pick_t (evB rfl c6) rfl) rfl ?_
     refine om rfl rfl (shO_off (b' := true) 15 rfl rfl rfl rfl (shO_off (b' := true) 15 rfl rfl rfl rfl (shO_off (b' := true) 15 rfl rfl rfl rfl (shO_off (b' := true) 15 rfl rfl rfl rfl (shO_off (b' := true) 15 rfl rfl rfl rfl (shO_off (b' := true) 15 rfl rfl rfl rfl (shO_off (b' := true) 15 rfl rfl rfl rfl ?_)))))))
     refine ov (v_pick_t rfl rfl) rfl ?_
     refine oa rfl rfl (shO_nil ?_)
     obtain rfl := inj1 r7
     exact mi kr ⟨rfl, rfl, (sc rfl (sc rfl (sn _)))⟩
   have r8 := bf r5 c6; clear r5
   refine shO_on (b := false) 8 rfl (EnvB rfl c6) ?_
   refine ov (v_fieldAddr fa_94_1 rfl) rfl ?_
   refine shO_on (b := false) 8 rfl (EnvB rfl c6) ?_
   refine ov (v_load Try.isAgg92 rfl (Has.own 0 rfl) rfl) rfl ?_
   refine shO_on (b := false) 8 rfl (EnvB rfl c6) ?_
   refine ov (v_lenS Try.underlying92 rfl) rfl ?_
   refine shO_on (b := false) 8 rfl (EnvB rfl c6) ?_
   obtain ⟨ok2, h9, r10⟩ := b1_ok r8; clear r8
   refine o_callV rfl Try.call116 rfl rfl rfl (hear_in_w h9) ?_
   refine shO_on (b := false) 8 rfl (EnvB rfl c6) ?_
   refine ov (v_notB rfl) rfl ?_
   refine ov (v_pick_f (evB rfl c6) rfl) rfl ?_
   refine om rfl rfl ?_
   rcases bool_two (!ok2) with c11 | c11
   · have r12 := bt r10 c11; clear r10
     refine shO_off (b' := true) 15 rfl (EnvB rfl c11) rfl rfl (shO_off (b' := true) 15 rfl (EnvB rfl c11) rfl rfl (shO_off (b' := true) 15 rfl (EnvB rfl c11) rfl rfl (shO_off (b' := true) 15 rfl (EnvB rfl c11) rfl rfl (shO_off (b' := true) 15 rfl (EnvB rfl c11) rfl rfl (shO_off (b' := true) 15 rfl (EnvB rfl c11) rfl rfl (shO_off (b' := true) 15 rfl (EnvB rfl c11) rfl rfl ?_))))))
     refine ov (v_pick_t (evB rfl c11) rfl) rfl ?_
     refine oa rfl rfl (shO_nil ?_)
     obtain rfl := inj1 r12
     exact mi kr ⟨rfl, rfl, (sc rfl (sc rfl (sn _)))⟩
   have r13 := bf r10 c11; clear r10
   refine shO_on (b := false) 15 rfl (EnvB rfl c11) ?_
   refine ov (v_fieldAddr fa_94_1 rfl) rfl ?_
   refine shO_on (b := false) 15 rfl (EnvB rfl c11) ?_
   refine ov (v_load Try.isAgg92 rfl (Has.own 0 rfl) rfl) rfl ?_
   refine shO_on (b := false) 15 rfl (EnvB rfl c11) ?_
   refine ov (v_lenS Try.underlying92 rfl) rfl ?_
   refine shO_on (b := false) 15 rfl (EnvB rfl c11) ?_
   refine ov (v_fieldAddr fa_94_0 rfl) rfl ?_
   refine shO_on (b := false) 15 rfl (EnvB rfl c11) ?_
   refine ov (v_load Try.isAgg3 rfl (Has.own 0 rfl) rfl) rfl ?_
   refine shO_on (b := false) 15 rfl (EnvB rfl c11) ?_
   obtain ⟨g14, r15⟩ := gd_ok r13; clear r13
   refine ov (v_remT rfl rfl g14) rfl ?_
   refine shO_on (b := false) 15 rfl (EnvB rfl c11) ?_
   refine ov (v_neq rfl rfl) rfl ?_
   refine ov (v_pick_f (evB rfl c11) rfl) rfl ?_
   refine oa rfl rfl (shO_nil ?_)
   obtain rfl := inj1 r15
   exact mi kr ⟨rfl, rfl, (sc rfl (sc rfl (sn _)))⟩
 rintro e1 _ _ ⟨rfl, rfl, he16⟩
 refine shW_env _ he16 ?_; clear he16
 refine shW_cond rfl (fun c17 => ?_) (fun c17 => ?_)
 · have r18 := bt r3 c17; clear r3
   refine wsr (oa rfl rfl (shO_nil ?_))
   refine kW kn ?_
   refine shW_ret (inBlock_ret (andThen_ret ?_))
   refine q_res1 Try.results128 (res_tmp rfl) (sr) ?_
   obtain rfl := inj1 r18
   exact rfl
 have r19 := bf r3 c17; clear r3
 refine wsr ?_
 refine ov (v_fieldAddr fa_94_1 rfl) rfl ?_
 refine ov (v_load Try.isAgg92 rfl (Has.own 0 rfl) rfl) rfl ?_
 have hn20 : FnR Try.prog F 135 #[] #[] (iE .i64) Value.bool (fun xx_ : Int => hear_Check_1 xx_) := ⟨Try.call135, fun F2 h2 vs xx_ r ha hr => by obtain rfl := ha; exact hear_Check_1_w hr⟩
 obtain ⟨ok3, h21, r22⟩ := b1_ok r19; clear r19
 refine o_callV rfl Try.call134 rfl rfl rfl (hear_every_Plot_w h_plots hn20 h21) ?_
 refine ov (v_notB rfl) rfl ?_
 refine oa rfl rfl (shO_nil ?_)
 refine shW_cond rfl (fun c23 => ?_) (fun c23 => ?_)
 · have r24 := bt r22 c23; clear r22
   refine wsr (oa rfl rfl (shO_nil ?_))
   refine kW kn ?_
   refine shW_ret (inBlock_ret (andThen_ret ?_))
   refine q_res1 Try.results128 (res_tmp rfl) (sr) ?_
   obtain rfl := inj1 r24
   exact rfl
 have r25 := bf r22 c23; clear r22
 refine wsr ?_
 refine ov (v_loadA (cs := #[.int .i64 wide, .slice plots_a plots.length plots_c]) Try.isAgg94 Try.sizeOf94 rfl (Has.own 0 rfl) (Nat.le_of_ble_eq_true rfl) rfl) rfl ?_
 obtain ⟨n, h26, r27⟩ := b1_ok r25; clear r25
 refine o_callV rfl Try.call136 rfl rfl rfl (hear_Town_houses_w h_plots h26) ?_
 refine ov (v_gtrK rfl rfl) rfl ?_
 refine oa rfl rfl (shO_nil ?_)
 refine shW_condP rfl (fun c28 => ?_) (fun c28 => ?_)
 · have r29 := ite_t r27 c28; clear r27
   refine wsr (oa rfl rfl (shO_nil ?_))
   refine kW kn ?_
   refine shW_ret (inBlock_ret (andThen_ret ?_))
   refine q_res1 Try.results128 (res_tmp rfl) (sr) ?_
   obtain rfl := inj1 r29
   exact rfl
 have r30 := ite_f r27 c28; clear r27
 refine shW_skip (inBlock_n (id := 0) (wsr (oa rfl rfl (shO_nil ?_))))
 refine kW kn ?_
 refine shW_ret ?_
 refine q_res1 Try.results128 (res_tmp rfl) (sr) ?_
 obtain rfl := inj1 r30
 exact rfl
set_option maxHeartbeats 1000000 in
theorem hear_Dir_there_w {w : Int} {F : FS} {r : Bool} (hr : hear_Dir_there w = some r) :
    SpecV Try.prog 129 #[.int .i64 w] F (.bool r) := by
 refine spec_of_shW (args := [.int .i64 w]) Try.func129 rfl Try.ntmps129 (Nat.le_of_ble_eq_true rfl) ?_
 intro K _ _; rw [hear_Dir_there] at hr
 refine wsr (oa rfl rfl (nsr (om rfl rfl ?_)))
 obtain ⟨ok, h1, r2⟩ := b1_ok hr; clear hr
 refine o_callV rfl Try.call116 rfl rfl rfl (hear_in_w h1) ?_
 refine oa rfl rfl (shO_nil (shW_ret ?_))
 refine q_res1 Try.results129 (res_tmp rfl) (sr) ?_
 obtain rfl := inj1 r2
 exact rfl
set_option maxHeartbeats 1000000 in
theorem hear_steps_w {F : FS} {r : List (Int × (Int × Int))} (hr : hear_steps = some r) :
    SH.Spec Try.prog 130 #[] F [] fun _ L' v => ∃ (rb : Nat) (res : Array MapEntry) (rcl : Nat), v = .map (some rb) ∧ L' = [(rb, .map res rcl)] ∧ MapR (Value.int .i64) (vA (cP (cI .i64) (cI .i64))) res r := by
 refine spec_of_shW (args := []) Try.func130 rfl Try.ntmps130 (Nat.le_of_ble_eq_true rfl) ?_
 intro K _ _; rw [hear_steps] at hr
 refine wsr (oa rfl rfl (nsr ?_))
 refine o_makeMap rfl ?_; intro b1 hb1
 refine ov (v_build (v := .agg #[.int .i64 (-1), .int .i64 0]) rfl (by intro w; kernel_rfl)) rfl ?_
 refine o_insert (i := 0) (k := 1) (v := (-1, 0)) Try.underlying173 (keyOK_int Try.underlying96) rfl rfl rfl rfl (show MapR (Value.int .i64) (vA (cP (cI .i64) (cI .i64))) #[] ([] : List (Int × (Int × Int))) from MapR.nil) ?_; intro es2 cl3 hR4
 obtain ⟨met, h5, r6⟩ := bv_ok hr; clear hr
 rw [← h5] at hR4
 refine shO_L (L' := [(b1, .map es2 cl3)]) rfl ?_
 refine ov (v_build (v := .agg #[.int .i64 0, .int .i64 1]) rfl (by intro w; kernel_rfl)) rfl ?_
 refine o_insert (i := 0) (k := 2) (v := (0, 1)) Try.underlying173 (keyOK_int Try.underlying96) rfl rfl rfl rfl (show MapR (Value.int .i64) (vA (cP (cI .i64) (cI .i64))) es2 (met : List (Int × (Int × Int))) from hR4) ?_; intro es7 cl8 hR9
 obtain ⟨met2, h10, r11⟩ := bv_ok r6; clear r6
 rw [← h10] at hR9
 refine shO_L (L' := [(b1, .map es7 cl8)]) rfl ?_
 refine ov (v_build (v := .agg #[.int .i64 1, .int .i64 0]) rfl (by intro w; kernel_rfl)) rfl ?_
 refine o_insert (i := 0) (k := 3) (v := (1, 0)) Try.underlying173 (keyOK_int Try.underlying96) rfl rfl rfl rfl (show MapR (Value.int .i64) (vA (cP (cI .i64) (cI .i64))) es7 (met2 : List (Int × (Int × Int))) from hR9) ?_; intro es12 cl13 hR14
 obtain ⟨met3, h15, r16⟩ := bv_ok r11; clear r11
 rw [← h15] at hR14
 refine shO_L (L' := [(b1, .map es12 cl13)]) rfl ?_
 refine ov (v_build (v := .agg #[.int .i64 0, .int .i64 (-1)]) rfl (by intro w; kernel_rfl)) rfl ?_
 refine o_insert (i := 0) (k := 4) (v := (0, -1)) Try.underlying173 (keyOK_int Try.underlying96) rfl rfl rfl rfl (show MapR (Value.int .i64) (vA (cP (cI .i64) (cI .i64))) es12 (met3 : List (Int × (Int × Int))) from hR14) ?_; intro es17 cl18 hR19
 obtain ⟨met4, h20, r21⟩ := bv_ok r16; clear r16
 rw [← h20] at hR19
 refine shO_L (L' := [(b1, .map es17 cl18)]) rfl ?_
 refine om rfl rfl (oa rfl rfl (shO_nil (shW_ret ?_)))
 refine q_res1 Try.results130 (res_tmp rfl) (sr) ?_
 obtain rfl := inj1 r21
 exact ⟨_, _, _, rfl, rfl, hR19⟩
set_option maxHeartbeats 1000000 in
theorem hear_opened_w {wide : Int} {plots_a : Option Addr} {plots_c : Nat} {plots : List Int} {wind : Int} {F : FS} (h_plots : RowR 1 (iE .i64) F plots_a plots_c plots) {r : Option (Int × (List Int) × Int × Int × Bool)} {r2 : Int} (hr : hear_opened wide plots wind = some (r, r2)) :
    SH.Spec Try.prog 123 #[.agg #[.int .i64 wide, .slice plots_a plots.length plots_c], .int .i64 wind] F [] fun F' L' v => ∃ (rv : Value), v = .tuple #[rv, .int .i64 r2] ∧ L' = [] ∧ PtrR 165 (prE (iE .i64) (prE (slE 1 (iE .i64)) (prE (iE .i64) (prE (iE .i64) bE)))) F' rv r := by
 refine spec_of_shW (args := [.agg #[.int .i64 wide, .slice plots_a plots.length plots_c], .int .i64 wind]) Try.func123 rfl Try.ntmps123 (Nat.le_of_ble_eq_true rfl) ?_
 intro K _ _; rw [hear_opened] at hr
 refine wsr ?_
 refine o_box rfl rfl ?_; intro b1 hb1
 refine oa rfl rfl (oa rfl rfl (shO_nil (shW_seq (wsr ?_))))
 refine ov (v_loadA (cs := #[.int .i64 wide, .slice plots_a plots.length plots_c]) Try.isAgg94 Try.sizeOf94 rfl (Has.own 0 rfl) (Nat.le_of_ble_eq_true rfl) rfl) rfl ?_
 obtain ⟨n, h2, r3⟩ := b1_ok hr; clear hr
 refine o_callV rfl Try.call128 rfl rfl rfl (hear_Check_w h_plots h2) ?_
 refine oa rfl rfl (nsr (om rfl rfl ?_))
 refine ov (v_neq rfl rfl) rfl ?_
 refine shO_nil ?_
 refine shW_condP rfl (fun c4 => ?_) (fun c4 => ?_)
 · have r5 := ite_t r3 c4; clear r3
   refine wsr (om rfl rfl (oa rfl rfl (oa rfl rfl (shO_nil ?_))))
   refine kW kn ?_
   refine shW_ret (andThen_ret ?_)
   refine q_res2 Try.results123 (res_tmp rfl) (res_tmp rfl) (sr) ?_
   obtain ⟨rfl, rfl⟩ := inj2 r5
   exact ⟨_, rfl, rfl, rfl⟩
 have r6 := ite_f r3 c4; clear r3
 refine shW_skip (shW_seq (wsr (om rfl rfl ?_)))
 obtain ⟨ok, h7, r8⟩ := b1_ok r6; clear r6
 refine o_callV rfl Try.call129 rfl rfl rfl (hear_Dir_there_w h7) ?_
 refine ov (v_notB rfl) rfl ?_
 refine shO_nil ?_
 refine shW_cond rfl (fun c9 => ?_) (fun c9 => ?_)
 · have r10 := bt r8 c9; clear r8
   refine wsr (oa rfl rfl (oa rfl rfl (shO_nil ?_)))
   refine kW kn ?_
   refine shW_ret (andThen_ret ?_)
   refine q_res2 Try.results123 (res_tmp rfl) (res_tmp rfl) (sr) ?_
   obtain ⟨rfl, rfl⟩ := inj2 r10
   exact ⟨_, rfl, rfl, rfl⟩
 have r11 := bf r8 c9; clear r8
 refine shW_skip (wsr ?_)
 obtain ⟨m, h12, r13⟩ := b1_ok r11; clear r11
 refine o_call0 rfl Try.call130 rfl rfl rfl (hear_steps_w h12) ?_; rintro _ F14 _ hF15 hn16 ⟨b18, es19, cl20, rfl, rfl, hR21⟩
 replace h_plots := h_plots.mono (iE_ok _) hF15
 refine shO_L (lb (ln rfl)) ?_
 refine om rfl rfl ?_
 refine ov (OpV.eq (v' := .tuple #[.agg #[.int .i64 (((mget m wind).getD (0, 0)).1), .int .i64 (((mget m wind).getD (0, 0)).2)], .bool ((mget m wind).isSome)]) (v_lookS2 (k := wind) (z0 := (0, 0)) rfl Try.underlying173 (keyOK_int Try.underlying96) Try.zeroValue163 rfl rfl (HasM.own 0 rfl) (show MapR (Value.int .i64) (vA (cP (cI .i64) (cI .i64))) es19 (m : List (Int × (Int × Int))) from hR21)) rfl) rfl ?_
 refine om rfl rfl (ox rfl rfl rfl (ox rfl rfl rfl ?_))
 refine o_alloc rfl Try.zeroValue163 ?_; intro b22 hb22
 refine o_storeA (i := 0) Try.sizeOf163 rfl rfl rfl (by simp [Value.oneCell']) rfl (Nat.le_of_ble_eq_true rfl) ?_
 refine shO_L (L' := [(b22, .cells #[.int .i64 (((mget m wind).getD (0, 0)).1), .int .i64 (((mget m wind).getD (0, 0)).2)] 163 (0, 0)), (b18, .map es19 cl20), (b1, .cells #[.int .i64 wide, .slice plots_a plots.length plots_c] 94 (0, 0))]) rfl ?_
 refine oa rfl rfl (nsr ?_)
 refine ov (v_loadA (cs := #[.int .i64 wide, .slice plots_a plots.length plots_c]) Try.isAgg94 Try.sizeOf94 rfl (Has.own 2 rfl) (Nat.le_of_ble_eq_true rfl) rfl) rfl ?_
 refine ov (v_loadA (cs := #[.int .i64 (((mget m wind).getD (0, 0)).1), .int .i64 (((mget m wind).getD (0, 0)).2)]) Try.isAgg163 Try.sizeOf163 rfl (Has.own 0 rfl) (Nat.le_of_ble_eq_true rfl) rfl) rfl ?_
 refine om rfl rfl ?_
 refine ov (v_build (v := .agg #[.int .i64 wide, .slice plots_a plots.length plots_c, .int .i64 (((mget m wind).getD (0, 0)).1), .int .i64 (((mget m wind).getD (0, 0)).2), .bool ((mget m wind).isSome)]) rfl (by intro w; kernel_rfl)) rfl ?_
 refine o_box rfl rfl ?_; intro b23 hb23
 refine oa rfl rfl (oa rfl rfl (shO_nil ?_))
 refine shW_freeze 0 rfl hb23 ?_; intro F24 hF25 hz26
 refine shW_L (L' := [(b22, .cells #[.int .i64 (((mget m wind).getD (0, 0)).1), .int .i64 (((mget m wind).getD (0, 0)).2)] 163 (0, 0)), (b18, .map es19 cl20), (b1, .cells #[.int .i64 wide, .slice plots_a plots.length plots_c] 94 (0, 0))]) rfl ?_
 replace h_plots := h_plots.mono (iE_ok _) hF25
 refine kW kn ?_
 refine shW_ret ?_
 refine q_res2 Try.results123 (res_tmp rfl) (res_tmp rfl) (sr) ?_
 obtain ⟨rfl, rfl⟩ := inj2 r13
 exact ⟨_, rfl, rfl, ⟨_, _, _, rfl, hz26, ⟨_, _, rfl, rfl, ⟨_, _, rfl, ⟨_, _, rfl, h_plots⟩, ⟨_, _, rfl, rfl, ⟨_, _, rfl, rfl, rfl⟩⟩⟩⟩⟩⟩
set_option maxHeartbeats 1000000 in
theorem hear_Town_plot_w {wide : Int} {plots_a : Option Addr} {plots_c : Nat} {plots : List Int} {p : Int} {F : FS} (_h_plots : RowR 1 (iE .i64) F plots_a plots_c plots) {r : Bool} (hr : hear_Town_plot wide plots p = some r) :
    SpecV Try.prog 98 #[.agg #[.int .i64 wide, .slice plots_a plots.length plots_c], .int .i64 p] F (.bool r) := by
 refine spec_of_shW (args := [.agg #[.int .i64 wide, .slice plots_a plots.length plots_c], .int .i64 p]) Try.func98 rfl Try.ntmps98 (Nat.le_of_ble_eq_true rfl) ?_
 intro K _ _; rw [hear_Town_plot] at hr
 refine wsr ?_
 refine o_box rfl rfl ?_; intro b1 hb1
 refine oa rfl rfl (nsr (om rfl rfl ?_))
 refine ov (v_fieldAddr fa_94_1 rfl) rfl ?_
 refine ov (v_load Try.isAgg92 rfl (Has.own 0 rfl) rfl) rfl ?_
 refine ov (v_lenS Try.underlying92 rfl) rfl ?_
 obtain ⟨g2, r3⟩ := gd_ok hr; clear hr
 refine ov (v_sub rfl rfl g2) rfl ?_
 obtain ⟨ok, h4, r5⟩ := b1_ok r3; clear r3
 refine o_callV rfl Try.call116 rfl rfl rfl (hear_in_w h4) ?_
 refine oa rfl rfl (shO_nil ?_)
 refine kW kn ?_
 refine shW_ret ?_
 refine q_res1 Try.results98 (res_tmp rfl) (sr) ?_
 obtain rfl := inj1 r5
 exact rfl
set_option maxHeartbeats 1000000 in
theorem hear_Town_is_w {wide : Int} {plots_a : Option Addr} {plots_c : Nat} {plots : List Int} {p : Int} {kind : Int} {F : FS} (h_plots : RowR 1 (iE .i64) F plots_a plots_c plots) {r : Int} (hr : hear_Town_is wide plots p kind = some r) :
    SpecV Try.prog 124 #[.agg #[.int .i64 wide, .slice plots_a plots.length plots_c], .int .i64 p, .int .i64 kind] F (.int .i64 r) := by
 refine spec_of_shW (args := [.agg #[.int .i64 wide, .slice plots_a plots.length plots_c], .int .i64 p, .int .i64 kind]) Try.func124 rfl Try.ntmps124 (Nat.le_of_ble_eq_true rfl) ?_
 intro K _ _; rw [hear_Town_is] at hr
 refine wsr ?_
 refine o_box rfl rfl ?_; intro b1 hb1
 refine oa rfl rfl (shO_nil (shW_seq ?_))
 refine shW_block ?_
 refine wsr ?_
 refine ov (v_loadA (cs := #[.int .i64 wide, .slice plots_a plots.length plots_c]) Try.isAgg94 Try.sizeOf94 rfl (Has.own 0 rfl) (Nat.le_of_ble_eq_true rfl) rfl) rfl ?_
 refine om rfl rfl ?_
 obtain ⟨ok, h2, r3⟩ := b1_ok hr; clear hr
 refine o_callV rfl Try.call98 rfl rfl rfl (hear_Town_plot_w h_plots h2) ?_
 refine ov (v_notB rfl) rfl ?_
 refine oa rfl rfl (shO_nil ?_)
 refine shW_cond rfl (fun c4 => ?_) (fun c4 => ?_)
 · have r5 := bt r3 c4; clear r3
   refine wsr (oa rfl rfl (shO_nil ?_))
   refine kW kn ?_
   refine shW_ret (inBlock_ret (andThen_ret ?_))
   refine q_res1 Try.results124 (res_tmp rfl) (sr) ?_
   obtain rfl := inj1 r5
   exact rfl
 have r6 := bf r3 c4; clear r3
 refine wsr ?_
 refine ov (v_fieldAddr fa_94_1 rfl) rfl ?_
 refine ov (v_load Try.isAgg92 rfl (Has.own 0 rfl) rfl) rfl ?_
 refine om rfl rfl ?_
 obtain ⟨x, g7, hx8, r9⟩ := ix_ok r6; clear r6
 obtain ⟨b10, o11, c12, vs13, ha14, hs15, hle16, rfl, hl17, hc18⟩ := RowR.at (iE_ok _) h_plots ([(b1, .cells #[.int .i64 wide, .slice plots_a plots.length plots_c] 94 (0, 0))]) g7.1 hx8
 refine ov (v_indexO Try.underlying92 Try.sizeOf100 rfl ha14 rfl g7) rfl ?_
 refine ov (v_load Try.isAgg100 rfl hs15 (hc18 0 (by decide))) rfl ?_
 refine om rfl rfl ?_
 refine ov (v_neq rfl rfl) rfl ?_
 refine oa rfl rfl (shO_nil ?_)
 refine shW_condP rfl (fun c19 => ?_) (fun c19 => ?_)
 · have r20 := ite_t r9 c19; clear r9
   refine wsr (oa rfl rfl (shO_nil ?_))
   refine kW kn ?_
   refine shW_ret (inBlock_ret (andThen_ret ?_))
   refine q_res1 Try.results124 (res_tmp rfl) (sr) ?_
   obtain rfl := inj1 r20
   exact rfl
 have r21 := ite_f r9 c19; clear r9
 refine shW_skip (inBlock_n (id := 0) (wsr (oa rfl rfl (shO_nil ?_))))
 refine kW kn ?_
 refine shW_ret ?_
 refine q_res1 Try.results124 (res_tmp rfl) (sr) ?_
 obtain rfl := inj1 r21
 exact rfl
set_option maxHeartbeats 1000000 in
theorem hear_standing_w {wide : Int} {plots_a : Option Addr} {plots_c : Nat} {plots : List Int} {wind : Int} {stand : Int} {F : FS} (h_plots : RowR 1 (iE .i64) F plots_a plots_c plots) {r : Option (Int × (List Int) × Int × Int × Bool)} {r2 : Int} (hr : hear_standing wide plots wind stand = some (r, r2)) :
    SH.Spec Try.prog 114 #[.agg #[.int .i64 wide, .slice plots_a plots.length plots_c], .int .i64 wind, .int .i64 stand] F [] fun F' L' v => ∃ (rv : Value), v = .tuple #[rv, .int .i64 r2] ∧ L' = [] ∧ PtrR 165 (prE (iE .i64) (prE (slE 1 (iE .i64)) (prE (iE .i64) (prE (iE .i64) bE)))) F' rv r := by
 refine spec_of_shW (args := [.agg #[.int .i64 wide, .slice plots_a plots.length plots_c], .int .i64 wind, .int .i64 stand]) Try.func114 rfl Try.ntmps114 (Nat.le_of_ble_eq_true rfl) ?_
 intro K _ _; rw [hear_standing] at hr
 refine wsr ?_
 refine o_box rfl rfl ?_; intro b1 hb1
 refine oa rfl rfl (oa rfl rfl (nsr ?_))
 refine ov (v_loadA (cs := #[.int .i64 wide, .slice plots_a plots.length plots_c]) Try.isAgg94 Try.sizeOf94 rfl (Has.own 0 rfl) (Nat.le_of_ble_eq_true rfl) rfl) rfl ?_
 refine om rfl rfl ?_
 obtain ⟨d, n, h2, r3⟩ := b2_ok hr; clear hr
 refine o_call0 rfl Try.call123 rfl rfl rfl (hear_opened_w h_plots h2) ?_; rintro _ F4 _ hF5 hn6 ⟨v8, rfl, rfl, hp9⟩
 replace h_plots := h_plots.mono (iE_ok _) hF5
 refine shO_L (ln rfl) ?_
 refine om rfl rfl (ox rfl rfl rfl (ox rfl rfl rfl (oa rfl rfl (oa rfl rfl (shO_nil (shW_seq (wsr (om rfl rfl ?_))))))))
 refine ov (v_neq rfl rfl) rfl ?_
 refine shO_nil ?_
 refine shW_condP rfl (fun c10 => ?_) (fun c10 => ?_)
 · have r11 := ite_t r3 c10; clear r3
   refine wsr (om rfl rfl (oa rfl rfl (oa rfl rfl (shO_nil ?_))))
   refine kW kn ?_
   refine shW_ret (andThen_ret ?_)
   refine q_res2 Try.results114 (res_tmp rfl) (res_tmp rfl) (sr) ?_
   obtain ⟨rfl, rfl⟩ := inj2 r11
   exact ⟨_, rfl, rfl, rfl⟩
 have r12 := ite_f r3 c10; clear r3
 refine shW_skip (shW_seq (wsr ?_))
 refine ov (v_loadA (cs := #[.int .i64 wide, .slice plots_a plots.length plots_c]) Try.isAgg94 Try.sizeOf94 rfl (Has.own 0 rfl) (Nat.le_of_ble_eq_true rfl) rfl) rfl ?_
 refine om rfl rfl ?_
 obtain ⟨n2, h13, r14⟩ := b1_ok r12; clear r12
 refine o_callV rfl Try.call124 rfl rfl rfl (hear_Town_is_w h_plots h13) ?_
 refine oa rfl rfl (nsr (om rfl rfl ?_))
 refine ov (v_neq rfl rfl) rfl ?_
 refine shO_nil ?_
 refine shW_condP rfl (fun c15 => ?_) (fun c15 => ?_)
 · have r16 := ite_t r14 c15; clear r14
   refine wsr (om rfl rfl (oa rfl rfl (oa rfl rfl (shO_nil ?_))))
   refine kW kn ?_
   refine shW_ret (andThen_ret ?_)
   refine q_res2 Try.results114 (res_tmp rfl) (res_tmp rfl) (sr) ?_
   obtain ⟨rfl, rfl⟩ := inj2 r16
   exact ⟨_, rfl, rfl, rfl⟩
 have r17 := ite_f r14 c15; clear r14
 refine shW_skip (wsr (om rfl rfl (oa rfl rfl (oa rfl rfl (shO_nil ?_)))))
 refine kW kn ?_
 refine shW_ret ?_
 refine q_res2 Try.results114 (res_tmp rfl) (res_tmp rfl) (sr) ?_
 obtain ⟨rfl, rfl⟩ := inj2 r17
 exact ⟨_, rfl, rfl, hp9⟩
set_option maxHeartbeats 1000000 in
theorem hear_Town_wall_w {wide : Int} {plots_a : Option Addr} {plots_c : Nat} {plots : List Int} {p : Int} {F : FS} (h_plots : RowR 1 (iE .i64) F plots_a plots_c plots) {r : Bool} (hr : hear_Town_wall wide plots p = some r) :
    SpecV Try.prog 131 #[.agg #[.int .i64 wide, .slice plots_a plots.length plots_c], .int .i64 p] F (.bool r) := by
 refine spec_of_shW (args := [.agg #[.int .i64 wide, .slice plots_a plots.length plots_c], .int .i64 p]) Try.func131 rfl Try.ntmps131 (Nat.le_of_ble_eq_true rfl) ?_
 intro K _ _; rw [hear_Town_wall] at hr
 refine wsr ?_
 refine o_box rfl rfl ?_; intro b1 hb1
 refine oa rfl rfl (nsr ?_)
 refine ov (v_fieldAddr fa_94_1 rfl) rfl ?_
 refine ov (v_load Try.isAgg92 rfl (Has.own 0 rfl) rfl) rfl ?_
 refine om rfl rfl ?_
 obtain ⟨x, g2, hx3, r4⟩ := ix_ok hr; clear hr
 obtain ⟨b5, o6, c7, vs8, ha9, hs10, hle11, rfl, hl12, hc13⟩ := RowR.at (iE_ok _) h_plots ([(b1, .cells #[.int .i64 wide, .slice plots_a plots.length plots_c] 94 (0, 0))]) g2.1 hx3
 refine ov (v_indexO Try.underlying92 Try.sizeOf100 rfl ha9 rfl g2) rfl ?_
 refine ov (v_load Try.isAgg100 rfl hs10 (hc13 0 (by decide))) rfl ?_
 refine ov (v_eql rfl rfl) rfl ?_
 refine oa rfl rfl (shO_nil ?_)
 refine kW kn ?_
 refine shW_ret ?_
 refine q_res1 Try.results131 (res_tmp rfl) (sr) ?_
 obtain rfl := inj1 r4
 exact rfl
set_option maxHeartbeats 1000000 in
theorem hear_step_back_w {down : Int} {right_ : Int} {F : FS} {r : Int} {r2 : Int} (hr : hear_step_back down right_ = some (r, r2)) :
    SpecV Try.prog 137 #[.agg #[.int .i64 down, .int .i64 right_]] F (.agg #[.int .i64 r, .int .i64 r2]) := by
 refine spec_of_shW (args := [.agg #[.int .i64 down, .int .i64 right_]]) Try.func137 rfl Try.ntmps137 (Nat.le_of_ble_eq_true rfl) ?_
 intro K _ _; rw [hear_step_back] at hr
 refine wsr ?_
 refine o_box rfl rfl ?_; intro b1 hb1
 refine o_alloc rfl Try.zeroValue163 ?_; intro b2 hb2
 refine nsr ?_
 refine ov (v_fieldAddr fa_163_0 rfl) rfl ?_
 refine ov (v_load Try.isAgg3 rfl (Has.own 1 rfl) rfl) rfl ?_
 obtain ⟨g3, r4⟩ := gd_ok hr; clear hr
 refine ov (v_negT rfl g3) rfl ?_
 refine ov (v_fieldAddr fa_163_1 rfl) rfl ?_
 refine ov (v_load Try.isAgg3 rfl (Has.own 1 rfl) rfl) rfl ?_
 obtain ⟨g5, r6⟩ := gd_ok r4; clear r4
 refine ov (v_negT rfl g5) rfl ?_
 refine ov (v_build (v := .agg #[.int .i64 (-down), .int .i64 (-right_)]) rfl (by intro w; kernel_rfl)) rfl ?_
 refine o_storeA (i := 0) Try.sizeOf163 rfl rfl rfl (by simp [Value.oneCell']) rfl (Nat.le_of_ble_eq_true rfl) ?_
 refine shO_L (L' := [(b2, .cells #[.int .i64 (-down), .int .i64 (-right_)] 163 (0, 0)), (b1, .cells #[.int .i64 down, .int .i64 right_] 163 (0, 0))]) rfl ?_
 refine shO_nil ?_
 refine kW (kc kn) ?_
 refine shW_ret ?_
 refine q_res1 Try.results137 (res_cellA (cs := #[.int .i64 (-down), .int .i64 (-right_)]) Try.isAgg163 Try.sizeOf163 rfl (Has.own 0 rfl) (Nat.le_of_ble_eq_true rfl) rfl) (s1 sr) ?_
 obtain ⟨rfl, rfl⟩ := inj2 r6
 exact rfl
set_option maxHeartbeats 1000000 in
theorem hear_desk_needs_w {b_d : Nat} {wide : Int} {plots_a : Option Addr} {plots_c : Nat} {plots : List Int} {down : Int} {right_ : Int} {blows : Bool} {mb_d : Nat × Nat} {down2 : Int} {right_2 : Int} {to : Int} {F : FS} (hb_d : F b_d = some (.cells #[.int .i64 wide, .slice plots_a plots.length plots_c, .int .i64 down, .int .i64 right_, .bool blows] 165 mb_d)) (h_plots : RowR 1 (iE .i64) F plots_a plots_c plots) {r : Int} (hr : hear_desk_needs wide plots down right_ blows down2 right_2 to = some r) :
    SpecV Try.prog 133 #[.pointer (some ⟨b_d, 0, none⟩), .agg #[.int .i64 down2, .int .i64 right_2], .int .i64 to] F (.int .i64 r) := by
 refine spec_of_shW (args := [.pointer (some ⟨b_d, 0, none⟩), .agg #[.int .i64 down2, .int .i64 right_2], .int .i64 to]) Try.func133 rfl Try.ntmps133 (Nat.le_of_ble_eq_true rfl) ?_
 intro K _ _; rw [hear_desk_needs] at hr
 refine wsr ?_
 refine o_box rfl rfl ?_; intro b1 hb1
 refine oa rfl rfl (nsr (oa rfl rfl (shO_nil ?_)))
 obtain ⟨n, h2, r3⟩ := b1_ok hr; clear hr
 refine shW_join (fun e1 F1 L1 => F = F1 ∧ L1 = [] ∧ e1.sub [(0, .pointer (some ⟨b_d, 0, none⟩)), (2, .int .i64 to), (7, .int .i64 n)]) ?_ ?_
 · clear r3
   refine shW_block ?_
   refine wsr (om rfl rfl ?_)
   refine ov (v_nilCheck rfl) rfl ?_
   refine ov (v_fieldAddr fa_165_2 rfl) rfl ?_
   refine ov (v_load Try.isAgg4 rfl (Has.frozen hb_d) rfl) rfl ?_
   refine ov (v_notB rfl) rfl ?_
   refine oa rfl rfl (shO_nil ?_)
   refine shW_cond rfl (fun c4 => ?_) (fun c4 => ?_)
   · have r5 := bt h2 c4; clear h2
     refine shW_skip (inBlock_n (id := 0) ?_)
     obtain rfl := inj1 r5
     exact mi kn ⟨rfl, rfl, (sc rfl (sc rfl (sc rfl (sn _))))⟩
   have r6 := bf h2 c4; clear h2
   refine wsd (by kernel_rfl) (by kernel_rfl) (by kernel_rfl) ?_
   refine qv (v_loadA (cs := #[.int .i64 down2, .int .i64 right_2]) Try.isAgg163 Try.sizeOf163 rfl (Has.own 0 rfl) (Nat.le_of_ble_eq_true rfl) rfl) rfl ?_
   refine qm rfl rfl ?_
   refine qv (v_nilCheck rfl) rfl ?_
   refine qv (v_fieldAddr fa_165_1 rfl) rfl ?_
   refine qv (v_loadA (cs := #[.int .i64 down, .int .i64 right_]) Try.isAgg163 Try.sizeOf163 rfl (Has.frozen hb_d) (Nat.le_of_ble_eq_true rfl) rfl) rfl ?_
   refine qv (v_eqA (eqg_163 _ _ _ _) (eq_163 _ _ _ _) rfl rfl) rfl ?_
   refine qa rfl rfl (shQ_nil ?_)
   refine shW_condP rfl (fun c7 => ?_) (fun c7 => ?_)
   · have r8 := ite_t r6 c7; clear r6
     refine shW_region (oa rfl rfl (shO_nil (inBlock_n (id := 0) ?_)))
     obtain rfl := inj1 r8
     exact mi kn ⟨rfl, rfl, (sc rfl (sc rfl (sc rfl (sn _))))⟩
   have r9 := ite_f r6 c7; clear r6
   refine wsd (by kernel_rfl) (by kernel_rfl) (by kernel_rfl) ?_
   refine qv (v_loadA (cs := #[.int .i64 down2, .int .i64 right_2]) Try.isAgg163 Try.sizeOf163 rfl (Has.own 0 rfl) (Nat.le_of_ble_eq_true rfl) rfl) rfl ?_
   refine qm rfl rfl ?_
   refine qv (v_nilCheck rfl) rfl ?_
   refine qv (v_fieldAddr fa_165_1 rfl) rfl ?_
   refine qv (v_loadA (cs := #[.int .i64 down, .int .i64 right_]) Try.isAgg163 Try.sizeOf163 rfl (Has.frozen hb_d) (Nat.le_of_ble_eq_true rfl) rfl) rfl ?_
   obtain ⟨n2, n3, h10, r11⟩ := b2_ok r9; clear r9
   refine shQ_callV rfl Try.call137 rfl rfl rfl (hear_step_back_w h10) ?_
   refine qv (v_eqA (eqg_163 _ _ _ _) (eq_163 _ _ _ _) rfl rfl) rfl ?_
   refine qa rfl rfl (shQ_nil ?_)
   refine shW_condP rfl (fun c12 => ?_) (fun c12 => ?_)
   · have r13 := ite_t r11 c12; clear r11
     refine shW_region (oa rfl rfl (shO_nil (inBlock_n (id := 0) ?_)))
     obtain rfl := inj1 r13
     exact mi kn ⟨rfl, rfl, (sc rfl (sc rfl (sc rfl (sn _))))⟩
   have r14 := ite_f r11 c12; clear r11
   refine shW_skip (inBlock_n (id := 0) ?_)
   obtain rfl := inj1 r14
   exact mi kn ⟨rfl, rfl, (sc rfl (sc rfl (sc rfl (sn _))))⟩
 rintro e1 _ _ ⟨rfl, rfl, he15⟩
 refine shW_env _ he15 ?_; clear he15
 refine shW_seq (wsr (om rfl rfl ?_))
 refine ov (v_nilCheck rfl) rfl ?_
 refine ov (v_fieldAddr fa_165_0 rfl) rfl ?_
 refine ov (v_fieldAddr fa_94_1 rfl) rfl ?_
 refine ov (v_load Try.isAgg92 rfl (Has.frozen hb_d) rfl) rfl ?_
 refine om rfl rfl ?_
 obtain ⟨x, g16, hx17, r18⟩ := ix_ok r3; clear r3
 obtain ⟨b19, o20, c21, vs22, ha23, hs24, hle25, rfl, hl26, hc27⟩ := RowR.at (iE_ok _) h_plots ([]) g16.1 hx17
 refine ov (v_indexO Try.underlying92 Try.sizeOf100 rfl ha23 rfl g16) rfl ?_
 refine ov (v_load Try.isAgg100 rfl hs24 (hc27 0 (by decide))) rfl ?_
 refine ov (v_eql rfl rfl) rfl ?_
 refine shO_nil ?_
 refine shW_condP rfl (fun c28 => ?_) (fun c28 => ?_)
 · have r29 := ite_t r18 c28; clear r18
   refine shW_region (om rfl rfl ?_)
   obtain ⟨g30, r31⟩ := gd_ok r29; clear r29
   refine ov (v_add rfl rfl g30) rfl ?_
   refine oa rfl rfl (nsr (om rfl rfl (oa rfl rfl (shO_nil (shW_ret ?_)))))
   refine q_res1 Try.results133 (res_tmp rfl) (sr) ?_
   obtain rfl := inj1 r31
   exact rfl
 have r32 := ite_f r18 c28; clear r18
 refine shW_skip (wsr (om rfl rfl (oa rfl rfl (shO_nil (shW_ret ?_)))))
 refine q_res1 Try.results133 (res_tmp rfl) (sr) ?_
 obtain rfl := inj1 r32
 exact rfl
set_option maxHeartbeats 1000000 in
theorem hear_desk_next_1_w {b_p : Nat} {p : Int} {mb_p : Nat × Nat} {b_d : Nat} {b_d_ : Nat} {wide : Int} {plots_a : Option Addr} {plots_c : Nat} {plots : List Int} {down : Int} {right_ : Int} {blows : Bool} {mb_d_ : Nat × Nat} {mb_d : Nat × Nat} {b_closed : Nat} {closed_f : FuncId} {closed_1 : Array Value} {closed_2 : Array Value} {closed : Int → Option Bool} {mb_closed : Nat × Nat} {F : FS} (hb_p : F b_p = some (.cells #[.int .i64 p] 3 mb_p)) (hb_d : F b_d = some (.cells #[.pointer (some ⟨b_d_, 0, none⟩)] 154 mb_d)) (hb_d_ : F b_d_ = some (.cells #[.int .i64 wide, .slice plots_a plots.length plots_c, .int .i64 down, .int .i64 right_, .bool blows] 165 mb_d_)) (h_plots : RowR 1 (iE .i64) F plots_a plots_c plots) (hb_closed : F b_closed = some (.cells #[.func (.func closed_f) closed_1 closed_2] 77 mb_closed)) (h_closed : FnR Try.prog F closed_f closed_1 closed_2 (iE .i64) Value.bool closed) {xs : List (Int × Int)} (hr : hear_desk_next_1 p wide plots down right_ blows closed = some xs) :
    IterOK Try.prog 132 #[] #[.pointer (some ⟨b_p, 0, none⟩), .pointer (some ⟨b_d, 0, none⟩), .pointer (some ⟨b_closed, 0, none⟩)] F (fun x : Int × Int => #[.int .i64 x.1, .int .i64 x.2]) xs := by
 intro G0 hG0 yv J Jx hJm hJxm hy Fc L0 hG hJ0
 replace hb_p := (hG0.trans hG) _ _ hb_p
 replace hb_d := (hG0.trans hG) _ _ hb_d
 replace hb_d_ := (hG0.trans hG) _ _ hb_d_
 replace h_plots := h_plots.mono (iE_ok _) (hG0.trans hG)
 replace hb_closed := (hG0.trans hG) _ _ hb_closed
 replace h_closed := h_closed.mono (hG0.trans hG)
 have hfull0 : xs = [] ++ xs := rfl
 show SH.Spec Try.prog 132 #[yv, .pointer (some ⟨b_p, 0, none⟩), .pointer (some ⟨b_d, 0, none⟩), .pointer (some ⟨b_closed, 0, none⟩)] Fc L0 _
 refine spec_of_shW (args := [yv, .pointer (some ⟨b_p, 0, none⟩), .pointer (some ⟨b_d, 0, none⟩), .pointer (some ⟨b_closed, 0, none⟩)]) Try.func132 rfl Try.ntmps132 (Nat.le_of_ble_eq_true rfl) ?_
 intro K _ _; rw [hear_desk_next_1] at hr; refine shW_L (L' := L0 ++ []) (by simp) ?_
 refine wsr ?_
 refine ov (v_build (v := .agg #[.int .i64 (-1), .int .i64 0]) rfl (by intro w; kernel_rfl)) rfl ?_
 refine ov (v_build (v := .agg #[.int .i64 0, .int .i64 (-1)]) rfl (by intro w; kernel_rfl)) rfl ?_
 refine ov (v_build (v := .agg #[.int .i64 0, .int .i64 1]) rfl (by intro w; kernel_rfl)) rfl ?_
 refine ov (v_build (v := .agg #[.int .i64 1, .int .i64 0]) rfl (by intro w; kernel_rfl)) rfl ?_
 refine o_buildSlice (cs := #[.int .i64 (-1), .int .i64 0, .int .i64 0, .int .i64 (-1), .int .i64 0, .int .i64 1, .int .i64 1, .int .i64 0]) rfl rfl (buildSlice_all slt_175 [.agg #[.int .i64 (-1), .int .i64 0], .agg #[.int .i64 0, .int .i64 (-1)], .agg #[.int .i64 0, .int .i64 1], .agg #[.int .i64 1, .int .i64 0]] rfl (by decide) (by simp [Value.cells]) (by decide)) ?_; intro b1 hb1
 refine ov (v_lenS Try.underlying175 rfl) rfl ?_
 refine om rfl rfl (shO_nil ?_)
 refine shW_block ?_
 refine shW_freeze 0 rfl hb1 ?_; intro F2 hF3 hz4
 refine shW_L (L' := L0 ++ []) rfl ?_
 replace h_plots := h_plots.mono (iE_ok _) hF3
 replace h_closed := h_closed.mono hF3
 replace hb_p := hF3 _ _ hb_p
 replace hb_d_ := hF3 _ _ hb_d_
 replace hb_d := hF3 _ _ hb_d
 replace hb_closed := hF3 _ _ hb_closed
 replace hG := hG.trans hF3
 replace hJ0 := hJm _ _ _ _ hJ0 hF3
 have h5 : RowR 2 (prE (iE .i64) (iE .i64)) F2 (some ⟨b1, 0, none⟩) 4 [(-1, 0), (0, -1), (0, 1), (1, 0)] := RowR.of_block (prE_ok (iE_ok _) (iE_ok _)) (vss := [[.int .i64 (-1), .int .i64 0], [.int .i64 0, .int .i64 (-1)], [.int .i64 0, .int .i64 1], [.int .i64 1, .int .i64 0]]) (xs := [(-1, 0), (0, -1), (0, 1), (1, 0)]) hz4 (.cons ⟨_, _, rfl, rfl, rfl⟩ (.cons ⟨_, _, rfl, rfl, rfl⟩ (.cons ⟨_, _, rfl, rfl, rfl⟩ (.cons ⟨_, _, rfl, rfl, rfl⟩ .nil)))) rfl (by simp [maxLen])
 obtain ⟨g11, r12⟩ := gd_ok hr; clear hr
 refine shW_lp (fun fu1 e1 F1 L1 => ∃ (k : Int), Ctr 0 4 k fu1 ∧ ∃ (pre6 : List (Int × Int)) (rem7 : List (Int × Int)) (Lj8 : LH), hear_desk_next_1_l1 p wide plots down right_ blows closed fu1 k = some rem7 ∧ FExt F2 F1 ∧ L1 = (Lj8 ++ []) ∧ e1.sub [(0, yv), (1, .pointer (some ⟨b_p, 0, none⟩)), (2, .pointer (some ⟨b_d, 0, none⟩)), (3, .pointer (some ⟨b_closed, 0, none⟩)), (12, .slice (some ⟨b1, 0, none⟩) [(-1, 0), (0, -1), (0, 1), (1, 0)].length 4), (13, .int .i64 4), (14, .int .i64 k)] ∧ xs = pre6 ++ rem7 ∧ J pre6 F1 Lj8 ∧ FExt G0 F1) _ (m0 kr ⟨_, Ctr.start _ _, [], xs, L0, r12, FExt.refl _, rfl, (sc rfl (sc rfl (sc rfl (sc rfl (sc rfl (sc rfl (sc rfl (sn _)))))))), hfull0, hJ0, hG⟩) ?_
 rintro fu1 e1 F17 _ ⟨k, hk13, pre6, rem7, Lj8, r15, hF18, rfl, he16, hfull10, hJ9, hG⟩
 refine shW_env _ he16 ?_; clear he16
 replace h_plots := h_plots.mono (iE_ok _) hF18
 replace h5 := h5.mono (prE_ok (iE_ok _) (iE_ok _)) hF18
 replace h_closed := h_closed.mono hF18
 replace hb_p := hF18 _ _ hb_p
 replace hb_d_ := hF18 _ _ hb_d_
 replace hb_d := hF18 _ _ hb_d
 replace hb_closed := hF18 _ _ hb_closed
 refine wsr ?_
 refine ov (v_lssK rfl rfl) rfl ?_
 refine shO_nil (shW_seq ?_)
 refine shW_condP rfl (fun c20 => ?_) (fun c20 => ?_)
 · obtain ⟨fu1, rfl, hk21⟩ := Ctr.succ hk13 c20
   rw [hear_desk_next_1_l1] at r15
   refine shW_skip (shW_seq ?_)
   refine shW_block ?_
   refine wsr ?_
   obtain ⟨x, g22, hx23, r24⟩ := ix_ok r15; clear r15
   obtain ⟨b25, o26, c27, vs28, ha29, hs30, hle31, ⟨_, _, rfl, rfl, rfl⟩, hl32, hc33⟩ := RowR.at (prE_ok (iE_ok _) (iE_ok _)) h5 (Lj8 ++ []) g22.1 hx23
   refine ov (v_indexO Try.underlying175 Try.sizeOf163 rfl ha29 rfl g22) rfl ?_
   refine ov (v_loadA (cs := #[.int .i64 x.1, .int .i64 x.2]) Try.isAgg163 Try.sizeOf163 rfl hs30 hle31 (extract_cells hle31 hl32 hc33)) rfl ?_
   refine o_alloc rfl Try.zeroValue163 ?_; intro b34 hb34
   refine o_storeA (i := 0) Try.sizeOf163 rfl rfl rfl (by simp [Value.oneCell']) rfl (Nat.le_of_ble_eq_true rfl) ?_
   refine shO_L (L' := (b34, .cells #[.int .i64 x.1, .int .i64 x.2] 163 (0, 0)) :: (Lj8 ++ [])) rfl ?_
   refine nsd (by kernel_rfl) (by kernel_rfl) (by kernel_rfl) ?_
   refine qv (v_load Try.isAgg3 rfl (Has.frozen hb_p) rfl) rfl ?_
   refine qv (v_fieldAddr fa_163_0 rfl) rfl ?_
   refine qv (v_load Try.isAgg3 rfl (Has.own 0 rfl) rfl) rfl ?_
   refine qv (v_load Try.isAgg154 rfl (Has.frozen hb_d) rfl) rfl ?_
   refine qv (v_nilCheck rfl) rfl ?_
   refine qv (v_fieldAddr fa_165_0 rfl) rfl ?_
   refine qv (v_fieldAddr fa_94_0 rfl) rfl ?_
   refine qv (v_load Try.isAgg3 rfl (Has.frozen hb_d_) rfl) rfl ?_
   obtain ⟨g35, r36⟩ := gd_ok r24; clear r24
   refine qv (v_mul rfl rfl g35) rfl ?_
   obtain ⟨g37, r38⟩ := gd_ok r36; clear r36
   refine qv (v_add rfl rfl g37) rfl ?_
   refine qv (v_fieldAddr fa_163_1 rfl) rfl ?_
   refine qv (v_load Try.isAgg3 rfl (Has.own 0 rfl) rfl) rfl ?_
   obtain ⟨g39, r40⟩ := gd_ok r38; clear r38
   refine qv (v_add rfl rfl g39) rfl ?_
   refine qa rfl rfl (shQ_nil (shW_seq ?_))
   refine wsd (by kernel_rfl) (by kernel_rfl) (by kernel_rfl) ?_
   refine qv (v_load Try.isAgg154 rfl (Has.frozen hb_d) rfl) rfl ?_
   refine qv (v_nilCheck rfl) rfl ?_
   refine qv (v_fieldAddr fa_165_0 rfl) rfl ?_
   refine qv (v_loadA (cs := #[.int .i64 wide, .slice plots_a plots.length plots_c]) Try.isAgg94 Try.sizeOf94 rfl (Has.frozen hb_d_) (Nat.le_of_ble_eq_true rfl) rfl) rfl ?_
   refine qm rfl rfl ?_
   obtain ⟨ok, h41, r42⟩ := b1_ok r40; clear r40
   refine shQ_callV rfl Try.call98 rfl rfl rfl (hear_Town_plot_w h_plots h41) ?_
   refine qv (v_notB rfl) rfl ?_
   refine qm rfl rfl ?_
   rcases bool_two (!ok) with c43 | c43
   · have r44 := bt r42 c43; clear r42
     refine shQ_off (b' := true) 38 rfl (EnvB rfl c43) rfl rfl (shQ_off (b' := true) 38 rfl (EnvB rfl c43) rfl rfl (shQ_off (b' := true) 38 rfl (EnvB rfl c43) rfl rfl (shQ_off (b' := true) 38 rfl (EnvB rfl c43) rfl rfl (shQ_offU 42 rfl rfl rfl (shQ_offU 42 rfl rfl rfl (shQ_offU 42 rfl rfl rfl (shQ_offU 42 rfl rfl rfl (shQ_offU 42 rfl rfl rfl (shQ_offU 42 rfl rfl rfl ?_)))))))))
     refine shQ_offU 42 rfl rfl rfl (shQ_offU 42 rfl rfl rfl (shQ_offU 42 rfl rfl rfl (shQ_offU 42 rfl rfl rfl (shQ_offU 42 rfl rfl rfl (shQ_offU 42 rfl rfl rfl (shQ_offU 42 rfl rfl rfl (shQ_offU 42 rfl rfl rfl (shQ_offU 42 rfl rfl rfl (shQ_off (b' := true) 38 rfl (EnvB rfl c43) rfl rfl ?_)))))))))
     refine qv (v_pick_t (evB rfl c43) rfl) rfl ?_
     refine qm rfl rfl (shQ_off (b' := true) 60 rfl rfl rfl rfl (shQ_off (b' := true) 60 rfl rfl rfl rfl (shQ_off (b' := true) 60 rfl rfl rfl rfl ?_)))
     refine qv (v_pick_t rfl rfl) rfl ?_
     refine shQ_nil ?_
     refine shW_cond rfl (fun c45 => ?_) (fun c45 => nomatch c45)
     refine shW_exit (andThen_exit ?_)
     refine inBlock_exit ?_
     refine shW_region ?_
     refine ov (v_add rfl rfl (Ctr.r64 hk13 c20 g11)) rfl ?_
     refine om rfl rfl (shO_nil ?_)
     exact le (kd kr) ⟨_, hk21, pre6, rem7, Lj8, r44, hF18, rfl, (sc rfl (sc rfl (sc rfl (sc rfl (sc rfl (sc rfl (sc rfl (sn _)))))))), hfull10, hJ9, hG⟩
   have r46 := bf r42 c43; clear r42
   refine shQ_on (b := false) 38 rfl (EnvB rfl c43) ?_
   refine qv (v_fieldAddr fa_163_0 rfl) rfl ?_
   refine shQ_on (b := false) 38 rfl (EnvB rfl c43) ?_
   refine qv (v_load Try.isAgg3 rfl (Has.own 0 rfl) rfl) rfl ?_
   refine shQ_on (b := false) 38 rfl (EnvB rfl c43) ?_
   refine qv (v_eql rfl rfl) rfl ?_
   refine shQ_on (b := false) 38 rfl (EnvB rfl c43) (qm rfl rfl ?_)
   by_cases c47 : x.1 = 0
   · have r48 := ite_t r46 c47; clear r46
     refine shQ_on (b := true) 42 rfl (Env.isT rfl c47) (qm rfl rfl (shQ_on (b := true) 42 rfl (Env.isT rfl c47) ?_))
     refine qv (v_load Try.isAgg154 rfl (Has.frozen hb_d) rfl) rfl ?_
     refine shQ_on (b := true) 42 rfl (Env.isT rfl c47) ?_
     refine qv (v_nilCheck rfl) rfl ?_
     refine shQ_on (b := true) 42 rfl (Env.isT rfl c47) ?_
     refine qv (v_fieldAddr fa_165_0 rfl) rfl ?_
     refine shQ_on (b := true) 42 rfl (Env.isT rfl c47) ?_
     refine qv (v_fieldAddr fa_94_0 rfl) rfl ?_
     refine shQ_on (b := true) 42 rfl (Env.isT rfl c47) ?_
     refine qv (v_load Try.isAgg3 rfl (Has.frozen hb_d_) rfl) rfl ?_
     refine shQ_on (b := true) 42 rfl (Env.isT rfl c47) ?_
     obtain ⟨g49, r50⟩ := gd_ok r48; clear r48
     refine qv (v_quoT rfl rfl g49) rfl ?_
     refine shQ_on (b := true) 42 rfl (Env.isT rfl c47) ?_
     refine qv (v_load Try.isAgg3 rfl (Has.frozen hb_p) rfl) rfl ?_
     refine shQ_on (b := true) 42 rfl (Env.isT rfl c47) ?_
     refine qv (v_load Try.isAgg154 rfl (Has.frozen hb_d) rfl) rfl ?_
     refine shQ_on (b := true) 42 rfl (Env.isT rfl c47) ?_
     refine qv (v_nilCheck rfl) rfl ?_
     refine shQ_on (b := true) 42 rfl (Env.isT rfl c47) ?_
     refine qv (v_fieldAddr fa_165_0 rfl) rfl ?_
     refine shQ_on (b := true) 42 rfl (Env.isT rfl c47) ?_
     refine qv (v_fieldAddr fa_94_0 rfl) rfl ?_
     refine shQ_on (b := true) 42 rfl (Env.isT rfl c47) ?_
     refine qv (v_load Try.isAgg3 rfl (Has.frozen hb_d_) rfl) rfl ?_
     refine shQ_on (b := true) 42 rfl (Env.isT rfl c47) ?_
     obtain ⟨g51, r52⟩ := gd_ok r50; clear r50
     refine qv (v_quoT rfl rfl g51) rfl ?_
     refine shQ_on (b := true) 42 rfl (Env.isT rfl c47) ?_
     refine qv (v_neq rfl rfl) rfl ?_
     refine shQ_on (b := false) 38 rfl (EnvB rfl c43) ?_
     refine qv (v_pick_t (evD_true rfl c47) rfl) rfl ?_
     refine qv (v_pick_f (evB rfl c43) rfl) rfl ?_
     refine qm rfl rfl ?_
     by_cases c53 : (Int.tdiv ((p + (x.1 * wide)) + x.2) wide) ≠ (Int.tdiv p wide)
     · have r54 := ite_t r52 c53; clear r52
       refine shQ_off (b' := true) 60 rfl (Env.isT rfl c53) rfl rfl (shQ_off (b' := true) 60 rfl (Env.isT rfl c53) rfl rfl (shQ_off (b' := true) 60 rfl (Env.isT rfl c53) rfl rfl ?_))
       refine qv (v_pick_t (evD_true rfl c53) rfl) rfl ?_
       refine shQ_nil ?_
       refine shW_cond rfl (fun c55 => ?_) (fun c55 => nomatch c55)
       refine shW_exit (andThen_exit ?_)
       refine inBlock_exit ?_
       refine shW_region ?_
       refine ov (v_add rfl rfl (Ctr.r64 hk13 c20 g11)) rfl ?_
       refine om rfl rfl (shO_nil ?_)
       exact le (kd kr) ⟨_, hk21, pre6, rem7, Lj8, r54, hF18, rfl, (sc rfl (sc rfl (sc rfl (sc rfl (sc rfl (sc rfl (sc rfl (sn _)))))))), hfull10, hJ9, hG⟩
     have r56 := ite_f r52 c53; clear r52
     refine shQ_on (b := false) 60 rfl (Env.isF rfl c53) ?_
     refine qv (v_load Try.isAgg77 rfl (Has.frozen hb_closed) rfl) rfl ?_
     refine shQ_on (b := false) 60 rfl (Env.isF rfl c53) (qm rfl rfl (shQ_on (b := false) 60 rfl (Env.isF rfl c53) ?_))
     obtain ⟨ok2, h57, r58⟩ := b1_ok r56; clear r56
     refine shQ_callV rfl h_closed.1 rfl rfl rfl (h_closed.2 _ (FExt.refl _) _ _ _ rfl h57) ?_
     refine qv (v_pick_f (evD_false rfl c53) rfl) rfl ?_
     refine shQ_nil ?_
     refine shW_cond rfl (fun c59 => ?_) (fun c59 => ?_)
     · have r60 := bt r58 c59; clear r58
       refine shW_exit (andThen_exit ?_)
       refine inBlock_exit ?_
       refine shW_region ?_
       refine ov (v_add rfl rfl (Ctr.r64 hk13 c20 g11)) rfl ?_
       refine om rfl rfl (shO_nil ?_)
       exact le (kd kr) ⟨_, hk21, pre6, rem7, Lj8, r60, hF18, rfl, (sc rfl (sc rfl (sc rfl (sc rfl (sc rfl (sc rfl (sc rfl (sn _)))))))), hfull10, hJ9, hG⟩
     have r61 := bf r58 c59; clear r58
     refine shW_skip (wsr (om rfl rfl (om rfl rfl ?_)))
     refine ov (v_load Try.isAgg154 rfl (Has.frozen hb_d) rfl) rfl ?_
     refine ov (v_loadA (cs := #[.int .i64 x.1, .int .i64 x.2]) Try.isAgg163 Try.sizeOf163 rfl (Has.own 0 rfl) (Nat.le_of_ble_eq_true rfl) rfl) rfl ?_
     refine om rfl rfl ?_
     obtain ⟨n, h62, r63⟩ := b1_ok r61; clear r61
     refine o_callV rfl Try.call133 rfl rfl rfl (hear_desk_needs_w hb_d_ h_plots h62) ?_
     obtain ⟨tl64, r66, hx65⟩ := yl_ok r63; clear r63
     refine o_callC (Lb := Lj8) (Lr := [(b34, .cells #[.int .i64 x.1, .int .i64 x.2] 163 (0, 0))]) (vs := [.int .i64 ((p + (x.1 * wide)) + x.2), .int .i64 n]) rfl rfl rfl (fC fP) (hy pre6 ((p + (x.1 * wide)) + x.2, n) tl64 (by rw [hfull10, hx65]) _ _ hG hJ9) ?_
     rintro v74 F67 Lj68 hF69 hz70; obtain ⟨yb71, rfl, hbt72, hbf73⟩ := yield_bool hz70
     replace hG := hG.trans hF69
     refine kO (kf (fS fO) kr) ?_
     refine ov (v_notB rfl) rfl ?_
     refine shO_nil ?_
     refine shW_cond rfl (fun c75 => ?_) (fun c75 => ?_)
     · have hJ76 := hbf73 (by simpa using c75)
       refine shW_ret (inBlock_ret (andThen_ret (andThen_ret (inBlock_ret ?_))))
       refine q_end0s (.inl rfl) Try.results132 (s1 (s4 sr)) ?_
       exact .inr (by rw [List.append_nil]; exact hJ76)
     have hJ77 := hbt72 (by simpa using c75)
     have hfull78 : xs = (pre6 ++ [((p + (x.1 * wide)) + x.2, n)]) ++ tl64 := by rw [hfull10, hx65]; simp
     refine shW_skip (inBlock_n (id := 1) (shW_region ?_))
     refine ov (v_add rfl rfl (Ctr.r64 hk13 c20 g11)) rfl ?_
     refine om rfl rfl (shO_nil ?_)
     exact le (kd kr) ⟨_, hk21, pre6 ++ [((p + (x.1 * wide)) + x.2, n)], tl64, Lj68, r66, (hF18.trans hF69), rfl, (sc rfl (sc rfl (sc rfl (sc rfl (sc rfl (sc rfl (sc rfl (sn _)))))))), hfull78, hJ77, hG⟩
   have r79 := ite_f r46 c47; clear r46
   refine shQ_off (b' := false) 42 rfl (Env.isF rfl c47) rfl rfl (shQ_off (b' := false) 42 rfl (Env.isF rfl c47) rfl rfl (shQ_off (b' := false) 42 rfl (Env.isF rfl c47) rfl rfl (shQ_off (b' := false) 42 rfl (Env.isF rfl c47) rfl rfl (shQ_off (b' := false) 42 rfl (Env.isF rfl c47) rfl rfl (shQ_off (b' := false) 42 rfl (Env.isF rfl c47) rfl rfl (shQ_off (b' := false) 42 rfl (Env.isF rfl c47) rfl rfl (shQ_off (b' := false) 42 rfl (Env.isF rfl c47) rfl rfl (shQ_off (b' := false) 42 rfl (Env.isF rfl c47) rfl rfl (shQ_off (b' := false) 42 rfl (Env.isF rfl c47) rfl rfl ?_)))))))))
   refine shQ_off (b' := false) 42 rfl (Env.isF rfl c47) rfl rfl (shQ_off (b' := false) 42 rfl (Env.isF rfl c47) rfl rfl (shQ_off (b' := false) 42 rfl (Env.isF rfl c47) rfl rfl (shQ_off (b' := false) 42 rfl (Env.isF rfl c47) rfl rfl (shQ_off (b' := false) 42 rfl (Env.isF rfl c47) rfl rfl (shQ_on (b := false) 38 rfl (EnvB rfl c43) ?_)))))
   refine qv (v_pick_f (evD_false rfl c47) rfl) rfl ?_
   refine qv (v_pick_f (evB rfl c43) rfl) rfl ?_
   refine qm rfl rfl (shQ_on (b := false) 60 rfl rfl ?_)
   refine qv (v_load Try.isAgg77 rfl (Has.frozen hb_closed) rfl) rfl ?_
   refine shQ_on (b := false) 60 rfl rfl (qm rfl rfl (shQ_on (b := false) 60 rfl rfl ?_))
   obtain ⟨ok3, h80, r81⟩ := b1_ok r79; clear r79
   refine shQ_callV rfl h_closed.1 rfl rfl rfl (h_closed.2 _ (FExt.refl _) _ _ _ rfl h80) ?_
   refine qv (v_pick_f rfl rfl) rfl ?_
   refine shQ_nil ?_
   refine shW_cond rfl (fun c82 => ?_) (fun c82 => ?_)
   · have r83 := bt r81 c82; clear r81
     refine shW_exit (andThen_exit ?_)
     refine inBlock_exit ?_
     refine shW_region ?_
     refine ov (v_add rfl rfl (Ctr.r64 hk13 c20 g11)) rfl ?_
     refine om rfl rfl (shO_nil ?_)
     exact le (kd kr) ⟨_, hk21, pre6, rem7, Lj8, r83, hF18, rfl, (sc rfl (sc rfl (sc rfl (sc rfl (sc rfl (sc rfl (sc rfl (sn _)))))))), hfull10, hJ9, hG⟩
   have r84 := bf r81 c82; clear r81
   refine shW_skip (wsr (om rfl rfl (om rfl rfl ?_)))
   refine ov (v_load Try.isAgg154 rfl (Has.frozen hb_d) rfl) rfl ?_
   refine ov (v_loadA (cs := #[.int .i64 x.1, .int .i64 x.2]) Try.isAgg163 Try.sizeOf163 rfl (Has.own 0 rfl) (Nat.le_of_ble_eq_true rfl) rfl) rfl ?_
   refine om rfl rfl ?_
   obtain ⟨n2, h85, r86⟩ := b1_ok r84; clear r84
   refine o_callV rfl Try.call133 rfl rfl rfl (hear_desk_needs_w hb_d_ h_plots h85) ?_
   obtain ⟨tl87, r89, hx88⟩ := yl_ok r86; clear r86
   refine o_callC (Lb := Lj8) (Lr := [(b34, .cells #[.int .i64 x.1, .int .i64 x.2] 163 (0, 0))]) (vs := [.int .i64 ((p + (x.1 * wide)) + x.2), .int .i64 n2]) rfl rfl rfl (fC fP) (hy pre6 ((p + (x.1 * wide)) + x.2, n2) tl87 (by rw [hfull10, hx88]) _ _ hG hJ9) ?_
   rintro v97 F90 Lj91 hF92 hz93; obtain ⟨yb94, rfl, hbt95, hbf96⟩ := yield_bool hz93
   replace hG := hG.trans hF92
   refine kO (kf (fS fO) kr) ?_
   refine ov (v_notB rfl) rfl ?_
   refine shO_nil ?_
   refine shW_cond rfl (fun c98 => ?_) (fun c98 => ?_)
   · have hJ99 := hbf96 (by simpa using c98)
     refine shW_ret (inBlock_ret (andThen_ret (andThen_ret (inBlock_ret ?_))))
     refine q_end0s (.inl rfl) Try.results132 (s1 (s4 sr)) ?_
     exact .inr (by rw [List.append_nil]; exact hJ99)
   have hJ100 := hbt95 (by simpa using c98)
   have hfull101 : xs = (pre6 ++ [((p + (x.1 * wide)) + x.2, n2)]) ++ tl87 := by rw [hfull10, hx88]; simp
   refine shW_skip (inBlock_n (id := 1) (shW_region ?_))
   refine ov (v_add rfl rfl (Ctr.r64 hk13 c20 g11)) rfl ?_
   refine om rfl rfl (shO_nil ?_)
   exact le (kd kr) ⟨_, hk21, pre6 ++ [((p + (x.1 * wide)) + x.2, n2)], tl87, Lj91, r89, (hF18.trans hF92), rfl, (sc rfl (sc rfl (sc rfl (sc rfl (sc rfl (sc rfl (sc rfl (sn _)))))))), hfull101, hJ100, hG⟩
 obtain rfl := Ctr.zero hk13 c20
 rw [hear_desk_next_1_l1] at r15
 refine shW_exit (andThen_exit (andThen_exit ?_))
 refine inBlock_exit ?_
 refine q_end0s (.inr rfl) Try.results132 (sr) ?_
 obtain rfl := inj1 r15
 exact .inl (by have e1 := hfull10; rw [List.append_nil] at e1; rw [List.append_nil, e1]; exact hJ9)
set_option maxHeartbeats 1000000 in
theorem hear_desk_next_w {b_d : Nat} {wide : Int} {plots_a : Option Addr} {plots_c : Nat} {plots : List Int} {down : Int} {right_ : Int} {blows : Bool} {mb_d : Nat × Nat} {p : Int} {F : FS} (hb_d : F b_d = some (.cells #[.int .i64 wide, .slice plots_a plots.length plots_c, .int .i64 down, .int .i64 right_, .bool blows] 165 mb_d)) (h_plots : RowR 1 (iE .i64) F plots_a plots_c plots) {r : List (Int × Int)} (hr : hear_desk_next wide plots down right_ blows p = some r) :
    SH.Spec Try.prog 125 #[.pointer (some ⟨b_d, 0, none⟩), .int .i64 p] F [] fun F' L' v => ∃ (rcp : Array Value), v = .func (.func 132) #[] rcp ∧ L' = [] ∧ IterOK Try.prog 132 #[] rcp F' (fun x : Int × Int => #[.int .i64 x.1, .int .i64 x.2]) r := by
 refine spec_of_shW (args := [.pointer (some ⟨b_d, 0, none⟩), .int .i64 p]) Try.func125 rfl Try.ntmps125 (Nat.le_of_ble_eq_true rfl) ?_
 intro K _ _; rw [hear_desk_next] at hr
 refine wsr ?_
 refine o_box rfl rfl ?_; intro b1 hb1
 refine o_box rfl rfl ?_; intro b2 hb2
 refine oa rfl rfl (nsr ?_)
 refine ov (v_load Try.isAgg154 rfl (Has.own 1 rfl) rfl) rfl ?_
 refine ov (v_nilCheck rfl) rfl ?_
 refine ov (v_fieldAddr fa_165_0 rfl) rfl ?_
 refine ov (v_loadA (cs := #[.int .i64 wide, .slice plots_a plots.length plots_c]) Try.isAgg94 Try.sizeOf94 rfl (Has.frozen hb_d) (Nat.le_of_ble_eq_true rfl) rfl) rfl ?_
 refine ov (v_makeFunc rfl rfl) rfl ?_
 refine o_alloc rfl Try.zeroValue77 ?_; intro b3 hb3
 refine o_store (i := 0) Try.sizeOf77 rfl rfl rfl rfl (Nat.le_of_ble_eq_true rfl) ?_
 refine shO_L (L' := [(b3, .cells (#[.func (.func 131) #[.agg #[.int .i64 wide, .slice plots_a plots.length plots_c]] #[]]) 77 (0, 0)), (b2, .cells #[.int .i64 p] 3 (0, 0)), (b1, .cells #[.pointer (some ⟨b_d, 0, none⟩)] 154 (0, 0))]) rfl ?_
 refine nsr ?_
 refine ov (v_makeFunc rfl rfl) rfl ?_
 refine oa rfl rfl (shO_nil ?_)
 refine shW_freeze 1 rfl hb2 ?_; intro F4 hF5 hz6
 refine shW_L (L' := [(b3, .cells (#[.func (.func 131) #[.agg #[.int .i64 wide, .slice plots_a plots.length plots_c]] #[]]) 77 (0, 0)), (b1, .cells #[.pointer (some ⟨b_d, 0, none⟩)] 154 (0, 0))]) rfl ?_
 replace h_plots := h_plots.mono (iE_ok _) hF5
 replace hb_d := hF5 _ _ hb_d
 refine shW_freeze 1 rfl hb1 ?_; intro F7 hF8 hz9
 refine shW_L (L' := [(b3, .cells (#[.func (.func 131) #[.agg #[.int .i64 wide, .slice plots_a plots.length plots_c]] #[]]) 77 (0, 0))]) rfl ?_
 replace h_plots := h_plots.mono (iE_ok _) hF8
 replace hb_d := hF8 _ _ hb_d
 replace hz6 := hF8 _ _ hz6
 refine shW_freeze 0 rfl hb3 ?_; intro F10 hF11 hz12
 refine shW_L (L' := []) rfl ?_
 replace h_plots := h_plots.mono (iE_ok _) hF11
 replace hb_d := hF11 _ _ hb_d
 replace hz6 := hF11 _ _ hz6
 replace hz9 := hF11 _ _ hz9
 have hn13 : FnR Try.prog F10 131 #[.agg #[.int .i64 wide, .slice plots_a plots.length plots_c]] #[] (iE .i64) Value.bool (fun xx_ : Int => hear_Town_wall wide plots xx_) := ⟨Try.call131, fun F2 h2 vs xx_ r ha hr => by obtain rfl := ha; exact hear_Town_wall_w (h_plots.mono (iE_ok _) h2) hr⟩
 obtain ⟨l, h14, r16⟩ := b1_ok hr; clear hr
 have hit15 : IterOK Try.prog 132 #[] #[.pointer (some ⟨b2, 0, none⟩), .pointer (some ⟨b1, 0, none⟩), .pointer (some ⟨b3, 0, none⟩)] F10 (fun x : Int × Int => #[.int .i64 x.1, .int .i64 x.2]) l := hear_desk_next_1_w hz6 hz9 hb_d h_plots hz12 hn13 h14
 refine shW_ret ?_
 refine q_res1 Try.results125 (res_tmp rfl) (sr) ?_
 obtain rfl := inj1 r16
 exact ⟨_, rfl, rfl, hit15⟩
set_option maxHeartbeats 1000000 in
theorem hear_desk_from_w {b_d : Nat} {wide : Int} {plots_a : Option Addr} {plots_c : Nat} {plots : List Int} {down : Int} {right_ : Int} {blows : Bool} {mb_d : Nat × Nat} {stand : Int} {F : FS} (hb_d : F b_d = some (.cells #[.int .i64 wide, .slice plots_a plots.length plots_c, .int .i64 down, .int .i64 right_, .bool blows] 165 mb_d)) (h_plots : RowR 1 (iE .i64) F plots_a plots_c plots) {r : List Int} (hr : hear_desk_from wide plots down right_ blows stand = some r) :
    SH.Spec Try.prog 115 #[.pointer (some ⟨b_d, 0, none⟩), .int .i64 stand] F [] fun F' L' v => ∃ (ra : Option Addr) (rn : Nat) (rc : Nat) (rL : LH), v = .slice ra rn rc ∧ L' = rL ++ [] ∧ SlR 0 3 1 (iE .i64) F' ra rn rc r rL := by
 refine spec_of_shW (args := [.pointer (some ⟨b_d, 0, none⟩), .int .i64 stand]) Try.func115 rfl Try.ntmps115 (Nat.le_of_ble_eq_true rfl) ?_
 intro K _ _; rw [hear_desk_from] at hr
 refine wsr (oa rfl rfl (nsr (om rfl rfl ?_)))
 refine ov (v_nilCheck rfl) rfl ?_
 refine ov (v_fieldAddr fa_165_0 rfl) rfl ?_
 refine ov (v_fieldAddr fa_94_1 rfl) rfl ?_
 refine ov (v_load Try.isAgg92 rfl (Has.frozen hb_d) rfl) rfl ?_
 refine ov (v_lenS Try.underlying92 rfl) rfl ?_
 obtain ⟨g1, r2⟩ := gd_ok hr; clear hr
 obtain ⟨l, h3, r4⟩ := bv_ok r2; clear r2
 refine o_makeZ (R := (iE .i64)) (z0 := 0) (zs := l) rfl slt_27 (by decide) (iE_ok _) (fun _ => rfl) rfl g1 h3 (fun _ => .n) ?_; intro a5 n8 Lb6 hz7
 refine o_alloc rfl Try.zeroValue27 ?_; intro b10 hb10
 refine o_store (i := 0) Try.sizeOf27 rfl rfl rfl rfl (Nat.le_of_ble_eq_true rfl) ?_
 refine shO_L (L' := (b10, .cells #[.slice a5 n8 n8] 27 (0, 0)) :: (Lb6 ++ [])) rfl ?_
 refine shO_nil ?_
 obtain ⟨out, h13, r14⟩ := b1_ok r4; clear r4
 refine shW_join (fun e1 F1 L1 => ∃ (Lb11 : LH), F = F1 ∧ L1 = ((b10, .cells #[.slice a5 n8 n8] 27 (0, 0)) :: (Lb11 ++ [])) ∧ e1.sub [(0, .pointer (some ⟨b_d, 0, none⟩)), (1, .int .i64 stand), (5, .pointer (some ⟨b10, 0, none⟩))] ∧ SlR K.w0.heap.size 3 1 (iE .i64) F1 a5 n8 n8 out Lb11) ?_ ?_
 · clear r14
   refine wsr ?_
   refine ov (v_load Try.isAgg27 rfl (Has.own 0 rfl) rfl) rfl ?_
   refine ov ((v_lenS Try.underlying27 rfl).i (SlR.lenI hz7)) rfl ?_
   refine om rfl rfl (shO_nil ?_)
   refine shW_block ?_
   obtain ⟨g17, r18⟩ := gd_ok h13; clear h13
   refine shW_lp (fun fu1 e1 F1 L1 => ∃ (k : Int), Ctr 0 (l.length : Int) k fu1 ∧ ∃ (out2 : List Int) (Lb15 : LH), hear_desk_from_l1 fu1 k out2 = some out ∧ F = F1 ∧ L1 = ((b10, .cells #[.slice a5 n8 n8] 27 (0, 0)) :: (Lb15 ++ [])) ∧ e1.sub [(0, .pointer (some ⟨b_d, 0, none⟩)), (1, .int .i64 stand), (5, .pointer (some ⟨b10, 0, none⟩)), (19, .int .i64 (l.length : Int)), (20, .int .i64 k)] ∧ SlR K.w0.heap.size 3 1 (iE .i64) F1 a5 n8 n8 out2 Lb15) _ (m0 kr ⟨_, Ctr.start _ _, l, Lb6, r18, rfl, rfl, (sc rfl (sc rfl (sc rfl (sc rfl (sc rfl (sn _)))))), hz7⟩) ?_
   rintro fu1 e1 _ _ ⟨k, hk19, out2, Lb15, r21, rfl, rfl, he22, hz16⟩
   refine shW_env _ he22 ?_; clear he22
   refine wsr ?_
   refine ov (v_lssK rfl rfl) rfl ?_
   refine shO_nil (shW_seq ?_)
   refine shW_condP rfl (fun c24 => ?_) (fun c24 => ?_)
   · obtain ⟨fu1, rfl, hk25⟩ := Ctr.succ hk19 c24
     rw [hear_desk_from_l1] at r21
     refine shW_skip (shW_seq ?_)
     refine shW_block ?_
     refine wsr (om rfl rfl (oa rfl rfl (shO_nil (shW_region ?_))))
     refine ov (v_load Try.isAgg27 rfl (Has.own 0 rfl) rfl) rfl ?_
     refine om rfl rfl ?_
     obtain ⟨x, g26, hx27, r28⟩ := ix_ok r21; clear r21
     obtain ⟨b29, o30, c31, vs32, ha33, hs34, hle35, rfl, hl36, hc37⟩ := SlR.at (iE_ok _) hz16 (L := (b10, .cells #[.slice a5 n8 n8] 27 (0, 0)) :: (Lb15 ++ [])) (fC fP) g26.1 hx27
     refine ov (v_indexO Try.underlying27 Try.sizeOf3 rfl ha33 rfl (SlR.idx hz16 g26)) rfl ?_
     obtain ⟨out3, h38, r39⟩ := bv_ok r28; clear r28
     refine o_storeZ (u := -1) Try.sizeOf3 (iE_ok _) rfl ha33 rfl rfl (fun _ => .c .h) hz16 h38 g26 ?_; intro Lb40 hz41
     refine shO_nil (inBlock_n (id := 1) (shW_region ?_))
     refine ov (v_add rfl rfl (Ctr.r64 hk19 c24 g17)) rfl ?_
     refine om rfl rfl (shO_nil ?_)
     exact le kr ⟨_, hk25, out3, Lb40, r39, rfl, rfl, (sc rfl (sc rfl (sc rfl (sc rfl (sc rfl (sn _)))))), hz41⟩
   obtain rfl := Ctr.zero hk19 c24
   rw [hear_desk_from_l1] at r21
   refine shW_exit (andThen_exit (andThen_exit ?_))
   refine inBlock_exit ?_
   obtain rfl := inj1 r21
   exact mi kr ⟨Lb15, rfl, rfl, (sc rfl (sc rfl (sc rfl (sn _)))), hz16⟩
 rintro e1 _ _ ⟨Lb11, rfl, rfl, he42, hz12⟩
 refine shW_env _ he42 ?_; clear he42
 refine wsr ?_
 refine ov (v_load Try.isAgg27 rfl (Has.own 0 rfl) rfl) rfl ?_
 refine om rfl rfl ?_
 obtain ⟨x2, g43, hx44, r45⟩ := ix_ok r14; clear r14
 obtain ⟨b46, o47, c48, vs49, ha50, hs51, hle52, rfl, hl53, hc54⟩ := SlR.at (iE_ok _) hz12 (L := (b10, .cells #[.slice a5 n8 n8] 27 (0, 0)) :: (Lb11 ++ [])) (fC fP) g43.1 hx44
 refine ov (v_indexO Try.underlying27 Try.sizeOf3 rfl ha50 rfl (SlR.idx hz12 g43)) rfl ?_
 obtain ⟨out4, h55, r56⟩ := bv_ok r45; clear r45
 refine o_storeZ (u := 0) Try.sizeOf3 (iE_ok _) rfl ha50 rfl rfl (fun _ => .c .h) hz12 h55 g43 ?_; intro Lb57 hz58
 refine nsr (om rfl rfl ?_)
 refine o_buildSlice (cs := #[.int .i64 stand]) rfl rfl (buildSlice_all slt_27 [.int .i64 stand] rfl (by decide) (by simp [Value.cells]) (by decide)) ?_; intro b59 hb59
 refine o_alloc rfl Try.zeroValue27 ?_; intro b60 hb60
 have hz62 : SlR K.w0.heap.size 3 1 (iE .i64) F (some ⟨b59, 0, none⟩) 1 1 [stand] [(b59, .cells #[.int .i64 stand] 3 (0, 0))] := SlR.of_block (vss := [[.int .i64 stand]]) (iE_ok _) hb59 (.cons rfl .nil) rfl rfl (by simp [maxLen])
 generalize hLLb61 : ([(b59, .cells #[.int .i64 stand] 3 (0, 0))] : LH) = Lb61 at hz62
 refine shO_perm (L' := Lb61 ++ ((b60, .cells #[.slice none 0 0] 27 (0, 0)) :: ((b10, .cells #[.slice a5 n8 n8] 27 (0, 0)) :: (Lb57 ++ [])))) (by rw [← hLLb61]; exact (fC fO)) ?_
 refine shO_perm (L' := (b60, .cells #[.slice none 0 0] 27 (0, 0)) :: ((b10, .cells #[.slice a5 n8 n8] 27 (0, 0)) :: (Lb61 ++ (Lb57 ++ [])))) (List.Perm.symm (fC (fC fP))) ?_
 refine o_store (i := 0) Try.sizeOf27 rfl rfl rfl rfl (Nat.le_of_ble_eq_true rfl) ?_
 refine shO_L (L' := (b60, .cells #[.slice (some ⟨b59, 0, none⟩) 1 1] 27 (0, 0)) :: ((b10, .cells #[.slice a5 n8 n8] 27 (0, 0)) :: (Lb61 ++ (Lb57 ++ [])))) rfl ?_
 refine shO_nil ?_
 obtain ⟨out5, h66, r67⟩ := b1_ok r56; clear r56
 refine shW_join (fun e1 F1 L1 => ∃ (Lb64 : LH), FExt F F1 ∧ L1 = ((b10, .cells #[.slice a5 n8 n8] 27 (0, 0)) :: (Lb64 ++ [])) ∧ e1.sub [(5, .pointer (some ⟨b10, 0, none⟩))] ∧ SlR K.w0.heap.size 3 1 (iE .i64) F1 a5 n8 n8 out5 Lb64) ?_ ?_
 · clear r67
   refine shW_block ?_
   refine shW_lp (fun fu2 e1 F1 L1 => ∃ (out6 : List Int) (line : List Int) (Lb68 : LH) (a70 : Option Addr) (n74 : Nat) (c71 : Nat) (Lb72 : LH), hear_desk_from_l2 wide plots down right_ blows fu2 out6 line = some out5 ∧ FExt F F1 ∧ L1 = ((b60, .cells #[.slice a70 n74 c71] 27 (0, 0)) :: ((b10, .cells #[.slice a5 n8 n8] 27 (0, 0)) :: (Lb68 ++ (Lb72 ++ [])))) ∧ e1.sub [(0, .pointer (some ⟨b_d, 0, none⟩)), (5, .pointer (some ⟨b10, 0, none⟩)), (7, .pointer (some ⟨b60, 0, none⟩))] ∧ SlR K.w0.heap.size 3 1 (iE .i64) F1 a5 n8 n8 out6 Lb68 ∧ SlR K.w0.heap.size 3 1 (iE .i64) F1 a70 n74 c71 line Lb72) FU (m0 (kc (kc (kg (fS fP) kr))) ⟨out4, [stand], Lb57, (some ⟨b59, 0, none⟩), 1, 1, Lb61, h66, FExt.refl _, rfl, (sc rfl (sc rfl (sc rfl (sn _)))), hz58, hz62⟩) ?_
   rintro fu2 e1 F80 _ ⟨out6, line, Lb68, a70, n74, c71, Lb72, r78, hF81, rfl, he79, hz69, hz73⟩
   refine shW_env _ he79 ?_; clear he79
   replace h_plots := h_plots.mono (iE_ok _) hF81
   replace hb_d := hF81 _ _ hb_d
   rcases fu2 with _ | fu2
   · rw [hear_desk_from_l2] at r78; cases r78
   rw [hear_desk_from_l2] at r78
   refine shW_seq (wsr ?_)
   refine ov (v_load Try.isAgg27 rfl (Has.own 0 rfl) rfl) rfl ?_
   refine ov ((v_lenS Try.underlying27 rfl).i (SlR.lenI hz73)) rfl ?_
   refine ov (v_gtrK rfl rfl) rfl ?_
   refine shO_nil ?_
   refine shW_condP rfl (fun c82 => ?_) (fun c82 => ?_)
   · have r83 := ite_t r78 c82; clear r78
     refine shW_skip ?_
     refine shW_block ?_
     refine wsr ?_
     refine ov (v_load Try.isAgg27 rfl (Has.own 0 rfl) rfl) rfl ?_
     obtain ⟨x3, g84, hx85, r86⟩ := ix_ok r83; clear r83
     obtain ⟨b87, o88, c89, vs90, ha91, hs92, hle93, rfl, hl94, hc95⟩ := SlR.at (iE_ok _) hz73 (L := (b60, .cells #[.slice a70 n74 c71] 27 (0, 0)) :: ((b10, .cells #[.slice a5 n8 n8] 27 (0, 0)) :: (Lb68 ++ (Lb72 ++ [])))) (fC (fC (fS fP))) g84.1 hx85
     refine ov (v_indexO Try.underlying27 Try.sizeOf3 rfl ha91 rfl (SlR.idx hz73 g84)) rfl ?_
     refine ov (v_load Try.isAgg3 rfl hs92 (hc95 0 (by decide))) rfl ?_
     refine o_alloc rfl Try.zeroValue3 ?_; intro b96 hb96
     refine o_store (i := 0) Try.sizeOf3 rfl rfl rfl rfl (Nat.le_of_ble_eq_true rfl) ?_
     refine shO_L (L' := (b96, .cells #[.int .i64 x3] 3 (0, 0)) :: ((b60, .cells #[.slice a70 n74 c71] 27 (0, 0)) :: ((b10, .cells #[.slice a5 n8 n8] 27 (0, 0)) :: (Lb68 ++ (Lb72 ++ []))))) rfl ?_
     refine nsr ?_
     refine ov (v_load Try.isAgg27 rfl (Has.own 1 rfl) rfl) rfl ?_
     obtain ⟨g97, r98⟩ := gd_ok r86; clear r86
     obtain ⟨line2, h99, r100⟩ := bv_ok r98; clear r98
     refine o_sliceZ (l := 1) (h := (line.length : Int)) (zs := line2) rfl slt_27 (iE_ok _) rfl (.inr ⟨_, rfl, rfl⟩) (.inl ⟨rfl, rfl⟩) (fun _ => .c (.c (.c (.s .h)))) hz73 g97 h99 ?_; intro a101 n104 c102 Lb105 h103
     refine o_store (i := 1) Try.sizeOf27 rfl rfl rfl rfl (Nat.le_of_ble_eq_true rfl) ?_
     refine shO_L (L' := (b96, .cells #[.int .i64 x3] 3 (0, 0)) :: ((b60, .cells #[.slice a101 n104 c102] 27 (0, 0)) :: ((b10, .cells #[.slice a5 n8 n8] 27 (0, 0)) :: (Lb68 ++ (Lb105 ++ []))))) rfl ?_
     refine nsr (om rfl rfl ?_)
     refine ov (v_load Try.isAgg3 rfl (Has.own 0 rfl) rfl) rfl ?_
     obtain ⟨y, h107, r108⟩ := b1_ok r100; clear r100
     refine o_call0 rfl Try.call125 rfl rfl rfl (hear_desk_next_w hb_d h_plots h107) ?_; rintro _ F109 _ hF110 hn111 ⟨cp113, rfl, rfl, hit114⟩
     replace hz69 := hz69.mono (iE_ok _) hF110
     replace h103 := h103.mono (iE_ok _) hF110
     refine shO_L (ln rfl) ?_
     refine shO_nil ?_
     refine shW_block ?_
     refine shW_rangeFunc (encs := (fun x : Int × Int => #[.int .i64 x.1, .int .i64 x.2])) (xs := y) rfl Try.call132 rfl (fun _ => rfl) hit114 (fun pre F1 L1 => ∃ (tl : List (Int × Int)) (out7 : List Int) (line3 : List Int) (Lb115 : LH) (a117 : Option Addr) (n121 : Nat) (c118 : Nat) (Lb119 : LH), y = pre ++ tl ∧ hear_desk_from_l3 x3 (hear_desk_from_l2 wide plots down right_ blows fu2) tl out7 line3 = some out5 ∧ L1 = ((b96, .cells #[.int .i64 x3] 3 (0, 0)) :: ((b60, .cells #[.slice a117 n121 c118] 27 (0, 0)) :: ((b10, .cells #[.slice a5 n8 n8] 27 (0, 0)) :: (Lb115 ++ (Lb119 ++ []))))) ∧ SlR K.w0.heap.size 3 1 (iE .i64) F1 a5 n8 n8 out7 Lb115 ∧ SlR K.w0.heap.size 3 1 (iE .i64) F1 a117 n121 c118 line3 Lb119) (fun _ _ _ => False) ?_ ?_ ?_ ?_ ?_ ?_
     · rintro pre F1 F2 L1 ⟨tl, out7, line3, Lb115, a117, n121, c118, Lb119, hs123, r124, rfl, hz116, hz120⟩ hx; exact ⟨tl, out7, line3, Lb115, a117, n121, c118, Lb119, hs123, r124, rfl, hz116.mono (iE_ok _) hx, hz120.mono (iE_ok _) hx⟩
     · intro c F1 F2 L1 h hx; exact h
     · exact ⟨_, out6, line2, Lb68, a101, n104, c102, Lb105, rfl, r108, rfl, hz69, h103⟩
     · rintro l125 wr126 Fr127 Xr128 Ha129 Hb130 hnb131 hH135 pre x4 tl2 hxs134 F132 _ hF133 ⟨tl, out7, line3, Lb115, a117, n121, c118, Lb119, hs123, r136, rfl, hz116, hz120⟩
       obtain rfl := rest_head hs123 hxs134
       rw [hear_desk_from_l3] at r136
       refine shW_env [(0, .pointer (some ⟨b_d, 0, none⟩)), (5, .pointer (some ⟨b10, 0, none⟩)), (7, .pointer (some ⟨b60, 0, none⟩)), (8, .pointer (some ⟨b96, 0, none⟩)), (43, .int .i64 x4.1), (44, .int .i64 x4.2)] (by exact (sc rfl (sc rfl (sc rfl (sc rfl (sc rfl (sc rfl (sn _)))))))) ?_
       refine wsr (oa rfl rfl (shO_nil (shW_region (oa rfl rfl (shO_nil ?_)))))
       refine ⟨rfl, ?_⟩
       refine shW_block ?_
       obtain ⟨k2, h137, r138⟩ := b1_ok r136; clear r136
       refine shW_join (fun e1 F1 L1 => F132 = F1 ∧ L1 = ((b96, .cells #[.int .i64 x3] 3 (0, 0)) :: ((b60, .cells #[.slice a117 n121 c118] 27 (0, 0)) :: ((b10, .cells #[.slice a5 n8 n8] 27 (0, 0)) :: (Lb115 ++ (Lb119 ++ []))))) ∧ e1.sub [(0, .pointer (some ⟨b_d, 0, none⟩)), (5, .pointer (some ⟨b10, 0, none⟩)), (7, .pointer (some ⟨b60, 0, none⟩)), (8, .pointer (some ⟨b96, 0, none⟩)), (9, .int .i64 x4.1), (10, .int .i64 x4.2), (43, .int .i64 x4.1), (44, .int .i64 x4.2), (62, .bool k2)]) ?_ ?_
       · clear r138
         refine shW_draw (by kernel_rfl) (by kernel_rfl) (by kernel_rfl) ?_
         refine qv (v_load Try.isAgg27 rfl (Has.own 2 rfl) rfl) rfl ?_
         refine qm rfl rfl ?_
         obtain ⟨x5, g139, hx140, r141⟩ := ix_ok h137; clear h137
         obtain ⟨b142, o143, c144, vs145, ha146, hs147, hle148, rfl, hl149, hc150⟩ := SlR.at (iE_ok _) hz116 (L := (b96, .cells #[.int .i64 x3] 3 (0, 0)) :: ((b60, .cells #[.slice a117 n121 c118] 27 (0, 0)) :: ((b10, .cells #[.slice a5 n8 n8] 27 (0, 0)) :: (Lb115 ++ (Lb119 ++ []))))) (fC (fC (fC fP))) g139.1 hx140
         refine qv (v_indexO Try.underlying27 Try.sizeOf3 rfl ha146 rfl (SlR.idx hz116 g139)) rfl ?_
         refine qv (v_load Try.isAgg3 rfl hs147 (hc150 0 (by decide))) rfl ?_
         refine qv (v_eql rfl rfl) rfl ?_
         refine qm rfl rfl ?_
         by_cases c151 : x5 = (-1)
         · have r152 := ite_t r141 c151; clear r141
           refine shQ_off (b' := true) 50 rfl (Env.isT rfl c151) rfl rfl (shQ_off (b' := true) 50 rfl (Env.isT rfl c151) rfl rfl (shQ_off (b' := true) 50 rfl (Env.isT rfl c151) rfl rfl (shQ_off (b' := true) 50 rfl (Env.isT rfl c151) rfl rfl (shQ_off (b' := true) 50 rfl (Env.isT rfl c151) rfl rfl (shQ_off (b' := true) 50 rfl (Env.isT rfl c151) rfl rfl (shQ_off (b' := true) 50 rfl (Env.isT rfl c151) rfl rfl (shQ_off (b' := true) 50 rfl (Env.isT rfl c151) rfl rfl (shQ_off (b' := true) 50 rfl (Env.isT rfl c151) rfl rfl (shQ_off (b' := true) 50 rfl (Env.isT rfl c151) rfl rfl ?_)))))))))
           refine shQ_off (b' := true) 50 rfl (Env.isT rfl c151) rfl rfl ?_
           refine qv (v_pick_t (evD_true rfl c151) rfl) rfl ?_
           refine shQ_nil ?_
           obtain rfl := inj1 r152
           exact mi kr ⟨rfl, rfl, (sc rfl (sc rfl (sc rfl (sc rfl (sc rfl (sc rfl (sc rfl (sc rfl (sc rfl (sn _))))))))))⟩
         have r153 := ite_f r141 c151; clear r141
         refine shQ_on (b := false) 50 rfl (Env.isF rfl c151) ?_
         refine qv (v_load Try.isAgg27 rfl (Has.own 2 rfl) rfl) rfl ?_
         refine shQ_on (b := false) 50 rfl (Env.isF rfl c151) ?_
         refine qv (v_load Try.isAgg3 rfl (Has.own 0 rfl) rfl) rfl ?_
         refine shQ_on (b := false) 50 rfl (Env.isF rfl c151) ?_
         obtain ⟨x6, g154, hx155, r156⟩ := ix_ok r153; clear r153
         obtain ⟨b157, o158, c159, vs160, ha161, hs162, hle163, rfl, hl164, hc165⟩ := SlR.at (iE_ok _) hz116 (L := (b96, .cells #[.int .i64 x3] 3 (0, 0)) :: ((b60, .cells #[.slice a117 n121 c118] 27 (0, 0)) :: ((b10, .cells #[.slice a5 n8 n8] 27 (0, 0)) :: (Lb115 ++ (Lb119 ++ []))))) (fC (fC (fC fP))) g154.1 hx155
         refine qv (v_indexO Try.underlying27 Try.sizeOf3 rfl ha161 rfl (SlR.idx hz116 g154)) rfl ?_
         refine shQ_on (b := false) 50 rfl (Env.isF rfl c151) ?_
         refine qv (v_load Try.isAgg3 rfl hs162 (hc165 0 (by decide))) rfl ?_
         refine shQ_on (b := false) 50 rfl (Env.isF rfl c151) (qm rfl rfl (shQ_on (b := false) 50 rfl (Env.isF rfl c151) ?_))
         obtain ⟨g166, r167⟩ := gd_ok r156; clear r156
         refine qv (v_add rfl rfl g166) rfl ?_
         refine shQ_on (b := false) 50 rfl (Env.isF rfl c151) ?_
         refine qv (v_load Try.isAgg27 rfl (Has.own 2 rfl) rfl) rfl ?_
         refine shQ_on (b := false) 50 rfl (Env.isF rfl c151) (qm rfl rfl (shQ_on (b := false) 50 rfl (Env.isF rfl c151) ?_))
         obtain ⟨b168, o169, c170, vs171, ha172, hs173, hle174, rfl, hl175, hc176⟩ := SlR.at (iE_ok _) hz116 (L := (b96, .cells #[.int .i64 x3] 3 (0, 0)) :: ((b60, .cells #[.slice a117 n121 c118] 27 (0, 0)) :: ((b10, .cells #[.slice a5 n8 n8] 27 (0, 0)) :: (Lb115 ++ (Lb119 ++ []))))) (fC (fC (fC fP))) g139.1 hx140
         refine qv (v_indexO Try.underlying27 Try.sizeOf3 rfl ha172 rfl (SlR.idx hz116 g139)) rfl ?_
         refine shQ_on (b := false) 50 rfl (Env.isF rfl c151) ?_
         refine qv (v_load Try.isAgg3 rfl hs173 (hc176 0 (by decide))) rfl ?_
         refine shQ_on (b := false) 50 rfl (Env.isF rfl c151) ?_
         refine qv (v_lssK rfl rfl) rfl ?_
         refine qv (v_pick_f (evD_false rfl c151) rfl) rfl ?_
         refine shQ_nil ?_
         obtain rfl := inj1 r167
         exact mi kr ⟨rfl, rfl, (sc rfl (sc rfl (sc rfl (sc rfl (sc rfl (sc rfl (sc rfl (sc rfl (sc rfl (sn _))))))))))⟩
       rintro e1 _ _ ⟨rfl, rfl, he177⟩
       refine shW_env _ he177 ?_; clear he177
       refine shW_cond rfl (fun c178 => ?_) (fun c178 => ?_)
       · have r179 := bt r138 c178; clear r138
         refine shW_seq ?_
         refine shW_drawM [(.still, 0), (.still, 1), (.still, 2), (.still, 3), (.still, 4), (.still, 5), (.still, 6), (.still, 7), (.still, 8), (.seq, 9)] (by kernel_rfl) (by kernel_rfl) (trivial) (by rfl) (by kernel_rfl) ?_
         refine shM_v (v := .slice a5 n8 n8) (ek := [(5, .pointer (some ⟨b10, 0, none⟩))]) (Ls := [(b10, .cells #[.slice a5 n8 n8] 27 (0, 0))]) rfl rfl rfl rfl ((sc rfl (sn _))) (by kernel_rfl) (s0 (s1 (s1 (s2 (s3 (s3 sr)))))) (fun H F' L' hF' hL' => v_load Try.isAgg27 rfl ((Has.own 0 rfl).ext hF' hL') rfl) ?_
         refine shM_v (v := .int .i64 x4.1) (ek := [(9, .int .i64 x4.1)]) (Ls := []) rfl rfl rfl rfl ((sc rfl (sn _))) (by kernel_rfl) sm (fun H F' L' hF' hL' => v_move rfl) ?_
         refine shM_v (v := .slice a5 n8 n8) (ek := [(5, .pointer (some ⟨b10, 0, none⟩))]) (Ls := [(b10, .cells #[.slice a5 n8 n8] 27 (0, 0))]) rfl rfl rfl rfl ((sc rfl (sn _))) (by kernel_rfl) (s0 (s1 (s1 (s2 (s3 (s3 sr)))))) (fun H F' L' hF' hL' => v_load Try.isAgg27 rfl ((Has.own 0 rfl).ext hF' hL') rfl) ?_
         refine shM_v (v := .int .i64 x3) (ek := [(8, .pointer (some ⟨b96, 0, none⟩))]) (Ls := [(b96, .cells #[.int .i64 x3] 3 (0, 0))]) rfl rfl rfl rfl ((sc rfl (sn _))) (by kernel_rfl) (s0 (s2 (s1 (s1 (s3 (s3 sr)))))) (fun H F' L' hF' hL' => v_load Try.isAgg3 rfl ((Has.own 0 rfl).ext hF' hL') rfl) ?_
         obtain ⟨x7, g180, hx181, r182⟩ := ix_ok r179; clear r179
         obtain ⟨b183, o184, c185, vs186, ha187, hs188, hle189, rfl, hl190, hc191⟩ := SlR.at (iE_ok _) hz116 (L := Lb115 ++ []) fP g180.1 hx181
         refine shM_v (v := .pointer (some ⟨b183, o184 + (x3 : Int).toNat * 1, none⟩)) (ek := [(65, .slice a5 n8 n8), (66, .int .i64 x3)]) (Ls := []) rfl rfl rfl rfl ((sc rfl (sc rfl (sn _)))) (by kernel_rfl) sm (fun H F' L' hF' hL' => v_indexO Try.underlying27 Try.sizeOf3 rfl ha187 rfl (SlR.idx hz116 g180)) ?_
         refine shM_v (v := .int .i64 x7) (ek := [(67, .pointer (some ⟨b183, o184 + (x3 : Int).toNat * 1, none⟩))]) (Ls := Lb115 ++ []) rfl rfl rfl rfl ((sc rfl (sn _))) (by kernel_rfl) (s0 (s1 (s1 (s1 (s4 (s3 sr)))))) (fun H F' L' hF' hL' => v_load Try.isAgg3 rfl (hs188.ext hF' hL') (hc191 0 (by decide))) ?_
         refine shM_v (v := .int .i64 x4.2) (ek := [(10, .int .i64 x4.2)]) (Ls := []) rfl rfl rfl rfl ((sc rfl (sn _))) (by kernel_rfl) sm (fun H F' L' hF' hL' => v_move rfl) ?_
         obtain ⟨g192, r193⟩ := gd_ok r182; clear r182
         refine shM_v (v := .int .i64 (x7 + x4.2)) (ek := [(68, .int .i64 x7), (69, .int .i64 x4.2)]) (Ls := []) rfl rfl rfl rfl ((sc rfl (sc rfl (sn _)))) (by kernel_rfl) sm (fun H F' L' hF' hL' => v_add rfl rfl g192) ?_
         obtain ⟨x8, g194, hx195, r196⟩ := ix_ok r193; clear r193
         obtain ⟨b197, o198, c199, vs200, ha201, hs202, hle203, rfl, hl204, hc205⟩ := SlR.at (iE_ok _) hz116 (L := Lb115 ++ []) fP g194.1 hx195
         refine shM_v (v := .pointer (some ⟨b197, o198 + (x4.1 : Int).toNat * 1, none⟩)) (ek := [(63, .slice a5 n8 n8), (64, .int .i64 x4.1)]) (Ls := []) rfl rfl rfl rfl ((sc rfl (sc rfl (sn _)))) (by kernel_rfl) sm (fun H F' L' hF' hL' => v_indexO Try.underlying27 Try.sizeOf3 rfl ha201 rfl (SlR.idx hz116 g194)) ?_
         refine ⟨_, [(70, .int .i64 (x7 + x4.2)), (71, .pointer (some ⟨b197, o198 + (x4.1 : Int).toNat * 1, none⟩))], rfl, rfl, (sc rfl (sc rfl (sn _))), by kernel_rfl, ?_⟩; intro H
         obtain ⟨l2, h206, r207⟩ := bv_ok r196; clear r196
         refine o_storeZ (u := x7 + x4.2) Try.sizeOf3 (iE_ok _) rfl ha201 rfl rfl (fun _ => .c (.c (.c .h))) hz116 h206 g194 ?_; intro Lb208 hz209
         refine shO_nil ⟨undef, rfl, FExt.refl _, [], by kernel_rfl, .inl (.inl rfl), (fun _ h => absurd h List.not_mem_nil), ?_⟩
         refine shM_nil ?_
         refine shW_region ?_
         refine ov (v_load Try.isAgg27 rfl (Has.own 1 rfl) rfl) rfl ?_
         refine om rfl rfl ?_
         refine o_buildSlice (cs := #[.int .i64 x4.1]) rfl rfl (buildSlice_all slt_27 [.int .i64 x4.1] rfl (by decide) (by simp [Value.cells]) (by decide)) ?_; intro b210 hb210
         obtain ⟨line4, h211, g212, r213⟩ := ap_ok r207; clear r207
         refine o_appZ (xs := line3) (ys := [x4.1]) (zs := line4) rfl slt_27 rfl rfl hnb131 (fun _ => .c (.c (.c (.c (.s .h))))) hz120 (SrcR.box (vss := [[.int .i64 x4.1]]) (ys := [x4.1]) 0 rfl (iE_ok _) (.cons rfl .nil) rfl rfl) h211 g212 (by decide) ?_; intro a214 n218 c215 Lb216 hz217
         refine kO (kd kr) ?_
         refine o_store (i := 1) Try.sizeOf27 rfl rfl rfl rfl (Nat.le_of_ble_eq_true rfl) ?_
         refine shO_L (L' := (b96, .cells #[.int .i64 x3] 3 (0, 0)) :: ((b60, .cells #[.slice a214 n218 c215] 27 (0, 0)) :: ((b10, .cells #[.slice a5 n8 n8] 27 (0, 0)) :: (Lb208 ++ (Lb216 ++ []))))) rfl ?_
         refine shO_nil (inBlock_n (id := 5) ?_)
         refine ⟨(b96, .cells #[.int .i64 x3] 3 (0, 0)) :: ((b60, .cells #[.slice a214 n218 c215] 27 (0, 0)) :: ((b10, .cells #[.slice a5 n8 n8] 27 (0, 0)) :: (Lb208 ++ (Lb216 ++ [])))), sr, ?_⟩; exact ⟨_, l2, line4, Lb208, a214, n218, c215, Lb216, (by rw [hxs134]; simp), r213, rfl, hz209, hz217⟩
       have r220 := bf r138 c178; clear r138
       refine shW_skip (inBlock_n (id := 5) ?_)
       refine ⟨(b96, .cells #[.int .i64 x3] 3 (0, 0)) :: ((b60, .cells #[.slice a117 n121 c118] 27 (0, 0)) :: ((b10, .cells #[.slice a5 n8 n8] 27 (0, 0)) :: (Lb115 ++ (Lb119 ++ [])))), sr, ?_⟩; exact ⟨_, out7, line3, Lb115, a117, n121, c118, Lb119, (by rw [hxs134]; simp), r220, rfl, hz116, hz120⟩
     · rintro F221 _ hF222 ⟨tl, out7, line3, Lb115, a117, n121, c118, Lb119, hs123, r223, rfl, hz116, hz120⟩
       obtain rfl := rest_nil hs123; rw [hear_desk_from_l3] at r223
       refine inBlock_n (id := 4) (inBlock_n (id := 3) ?_)
       exact le (kd kr) ⟨out7, line3, Lb115, a117, n121, c118, Lb119, r223, ((hF81.trans hF110).trans hF222), rfl, (sc rfl (sc rfl (sc rfl (sn _)))), hz116, hz120⟩
     intro c F1 L1 hx h; exact h.elim
   have r224 := ite_f r78 c82; clear r78
   refine shW_exit (andThen_exit (andThen_exit ?_))
   refine inBlock_exit ?_
   obtain rfl := inj1 r224
   exact mi (kd (kc (ka kn))) ⟨Lb68, hF81, rfl, (sc rfl (sn _)), hz69⟩
 rintro e1 F226 _ ⟨Lb64, hF227, rfl, he225, hz65⟩
 refine shW_env _ he225 ?_; clear he225
 refine wsr ?_
 refine ov (v_load Try.isAgg27 rfl (Has.own 0 rfl) rfl) rfl ?_
 refine oa rfl rfl (shO_nil ?_)
 refine kW (kd kr) ?_
 refine shW_ret ?_
 refine q_res1 Try.results115 (res_tmp rfl) (sr) ?_
 obtain rfl := inj1 r67
 exact ⟨_, _, _, _, rfl, rfl, hz65.any⟩
set_option maxHeartbeats 1000000 in
theorem hear_Needs_w {wide : Int} {plots_a : Option Addr} {plots_c : Nat} {plots : List Int} {wind : Int} {stand : Int} {F : FS} (h_plots : RowR 1 (iE .i64) F plots_a plots_c plots) {r : List Int} {r2 : Int} (hr : hear_Needs wide plots wind stand = some (r, r2)) :
    SH.Spec Try.prog 97 #[.agg #[.int .i64 wide, .slice plots_a plots.length plots_c], .int .i64 wind, .int .i64 stand] F [] fun F' L' v => ∃ (ra : Option Addr) (rn : Nat) (rc : Nat) (rL : LH), v = .tuple #[.slice ra rn rc, .int .i64 r2] ∧ L' = rL ++ [] ∧ SlR 0 3 1 (iE .i64) F' ra rn rc r rL := by
 refine spec_of_shW (args := [.agg #[.int .i64 wide, .slice plots_a plots.length plots_c], .int .i64 wind, .int .i64 stand]) Try.func97 rfl Try.ntmps97 (Nat.le_of_ble_eq_true rfl) ?_
 intro K _ _; rw [hear_Needs] at hr
 refine wsr ?_
 refine o_box rfl rfl ?_; intro b1 hb1
 refine oa rfl rfl (oa rfl rfl (nsr ?_))
 refine ov (v_loadA (cs := #[.int .i64 wide, .slice plots_a plots.length plots_c]) Try.isAgg94 Try.sizeOf94 rfl (Has.own 0 rfl) (Nat.le_of_ble_eq_true rfl) rfl) rfl ?_
 refine om rfl rfl (om rfl rfl ?_)
 obtain ⟨d, n, h2, r3⟩ := b2_ok hr; clear hr
 refine o_call0 rfl Try.call114 rfl rfl rfl (hear_standing_w h_plots h2) ?_; rintro _ F4 _ hF5 hn6 ⟨v8, rfl, rfl, hp9⟩
 refine shO_L (ln rfl) ?_
 refine om rfl rfl (ox rfl rfl rfl (ox rfl rfl rfl (oa rfl rfl (oa rfl rfl (shO_nil (shW_seq (wsr (om rfl rfl ?_))))))))
 refine ov (v_neq rfl rfl) rfl ?_
 refine shO_nil ?_
 refine shW_condP rfl (fun c10 => ?_) (fun c10 => ?_)
 · have r11 := ite_t r3 c10; clear r3
   refine wsr (om rfl rfl (oa rfl rfl (oa rfl rfl (shO_nil ?_))))
   refine kW kn ?_
   refine shW_ret (andThen_ret ?_)
   refine q_res2 Try.results97 (res_tmp rfl) (res_tmp rfl) (sr) ?_
   obtain ⟨rfl, rfl⟩ := inj2 r11
   exact ⟨_, _, _, [], rfl, rfl, SlR.nil _ _ _ _ _⟩
 have r12 := ite_f r3 c10; clear r3
 refine shW_skip (wsr (om rfl rfl (om rfl rfl ?_)))
 obtain ⟨wide2, plots2, down, right_, blows, h13, r14⟩ := b5_ok r12; clear r12
 have h23 := hp9; rw [h13] at h23; obtain ⟨b15, c16, m17, hv18, hz19, ⟨_, _, rfl, rfl, ⟨_, _, rfl, ⟨a20, c21, rfl, h22⟩, ⟨_, _, rfl, rfl, ⟨_, _, rfl, rfl, rfl⟩⟩⟩⟩⟩ := h23; subst hv18
 have hz19 : F4 b15 = some (.cells #[.int .i64 wide2, .slice a20 plots2.length c21, .int .i64 down, .int .i64 right_, .bool blows] 165 m17) := hz19
 obtain ⟨l, h24, r25⟩ := b1_ok r14; clear r14
 refine o_call0 rfl Try.call115 rfl rfl rfl (hear_desk_from_w hz19 h22 h24) ?_; rintro _ F26 _ hF27 hn28 ⟨a30, n34, c31, Lb32, rfl, rfl, hz33⟩
 replace hz33 := hz33.new fun p hp => hn28 p (by simp [hp])
 refine shO_L (lp (ln rfl)) ?_
 refine kO (kf (fS fO) kr) ?_
 refine oa rfl rfl (oa rfl rfl (shO_nil ?_))
 refine kW (kd kr) ?_
 refine shW_ret ?_
 refine q_res2 Try.results97 (res_tmp rfl) (res_tmp rfl) (sr) ?_
 obtain ⟨rfl, rfl⟩ := inj2 r25
 exact ⟨_, _, _, _, rfl, rfl, hz33.any⟩
set_option maxHeartbeats 1000000 in
theorem hear_Need_w {wide : Int} {plots_a : Option Addr} {plots_c : Nat} {plots : List Int} {wind : Int} {stand : Int} {plot : Int} {F : FS} (h_plots : RowR 1 (iE .i64) F plots_a plots_c plots) {r : Int} {r2 : Int} (hr : hear_Need wide plots wind stand plot = some (r, r2)) :
    SpecV Try.prog 53 #[.agg #[.int .i64 wide, .slice plots_a plots.length plots_c], .int .i64 wind, .int .i64 stand, .int .i64 plot] F (.tuple #[.int .i64 r, .int .i64 r2]) := by
 refine spec_of_shW (args := [.agg #[.int .i64 wide, .slice plots_a plots.length plots_c], .int .i64 wind, .int .i64 stand, .int .i64 plot]) Try.func53 rfl Try.ntmps53 (Nat.le_of_ble_eq_true rfl) ?_
 intro K _ _; rw [hear_Need] at hr
 refine wsr ?_
 refine o_box rfl rfl ?_; intro b1 hb1
 refine oa rfl rfl (oa rfl rfl (nsr ?_))
 refine ov (v_loadA (cs := #[.int .i64 wide, .slice plots_a plots.length plots_c]) Try.isAgg94 Try.sizeOf94 rfl (Has.own 0 rfl) (Nat.le_of_ble_eq_true rfl) rfl) rfl ?_
 refine om rfl rfl (om rfl rfl ?_)
 obtain ⟨l, n, h2, r3⟩ := b2_ok hr; clear hr
 refine o_call0 rfl Try.call97 rfl rfl rfl (hear_Needs_w h_plots h2) ?_; rintro _ F4 _ hF5 hn6 ⟨a8, n12, c9, Lb10, rfl, rfl, hz11⟩
 replace h_plots := h_plots.mono (iE_ok _) hF5
 replace hz11 := hz11.new fun p hp => hn6 p (by simp [hp])
 refine shO_L (lp (ln rfl)) ?_
 refine kO (kf (fS fO) kr) ?_
 refine om rfl rfl (ox rfl rfl rfl (ox rfl rfl rfl (oa rfl rfl (oa rfl rfl (shO_nil (shW_seq ?_))))))
 refine shW_block ?_
 refine wsr (om rfl rfl ?_)
 refine ov (v_neq rfl rfl) rfl ?_
 refine oa rfl rfl (shO_nil ?_)
 refine shW_condP rfl (fun c14 => ?_) (fun c14 => ?_)
 · have r15 := ite_t r3 c14; clear r3
   refine wsr (om rfl rfl (oa rfl rfl (oa rfl rfl (shO_nil ?_))))
   refine kW kn ?_
   refine shW_ret (inBlock_ret (andThen_ret ?_))
   refine q_res2 Try.results53 (res_tmp rfl) (res_tmp rfl) (sr) ?_
   obtain ⟨rfl, rfl⟩ := inj2 r15
   exact rfl
 have r16 := ite_f r3 c14; clear r3
 refine wsr ?_
 refine ov (v_loadA (cs := #[.int .i64 wide, .slice plots_a plots.length plots_c]) Try.isAgg94 Try.sizeOf94 rfl (Has.own 0 rfl) (Nat.le_of_ble_eq_true rfl) rfl) rfl ?_
 refine om rfl rfl ?_
 obtain ⟨ok, h17, r18⟩ := b1_ok r16; clear r16
 refine o_callV rfl Try.call98 rfl rfl rfl (hear_Town_plot_w h_plots h17) ?_
 refine ov (v_notB rfl) rfl ?_
 refine oa rfl rfl (shO_nil ?_)
 refine shW_cond rfl (fun c19 => ?_) (fun c19 => ?_)
 · have r20 := bt r18 c19; clear r18
   refine wsr (oa rfl rfl (oa rfl rfl (shO_nil ?_)))
   refine kW kn ?_
   refine shW_ret (inBlock_ret (andThen_ret ?_))
   refine q_res2 Try.results53 (res_tmp rfl) (res_tmp rfl) (sr) ?_
   obtain ⟨rfl, rfl⟩ := inj2 r20
   exact rfl
 have r21 := bf r18 c19; clear r18
 refine wsr (om rfl rfl (om rfl rfl ?_))
 obtain ⟨x, g22, hx23, r24⟩ := ix_ok r21; clear r21
 obtain ⟨b25, o26, c27, vs28, ha29, hs30, hle31, rfl, hl32, hc33⟩ := SlR.at (iE_ok _) hz11 (L := (b1, .cells #[.int .i64 wide, .slice plots_a plots.length plots_c] 94 (0, 0)) :: (Lb10 ++ [])) (fC fP) g22.1 hx23
 refine ov (v_indexO Try.underlying27 Try.sizeOf3 rfl ha29 rfl (SlR.idx hz11 g22)) rfl ?_
 refine ov (v_load Try.isAgg3 rfl hs30 (hc33 0 (by decide))) rfl ?_
 refine ov (v_eql rfl rfl) rfl ?_
 refine oa rfl rfl (shO_nil ?_)
 refine shW_condP rfl (fun c34 => ?_) (fun c34 => ?_)
 · have r35 := ite_t r24 c34; clear r24
   refine wsr (oa rfl rfl (oa rfl rfl (shO_nil ?_)))
   refine kW kn ?_
   refine shW_ret (inBlock_ret (andThen_ret ?_))
   refine q_res2 Try.results53 (res_tmp rfl) (res_tmp rfl) (sr) ?_
   obtain ⟨rfl, rfl⟩ := inj2 r35
   exact rfl
 have r36 := ite_f r24 c34; clear r24
 refine shW_skip (inBlock_n (id := 0) (wsr (om rfl rfl (om rfl rfl ?_))))
 obtain ⟨b37, o38, c39, vs40, ha41, hs42, hle43, rfl, hl44, hc45⟩ := SlR.at (iE_ok _) hz11 (L := (b1, .cells #[.int .i64 wide, .slice plots_a plots.length plots_c] 94 (0, 0)) :: (Lb10 ++ [])) (fC fP) g22.1 hx23
 refine ov (v_indexO Try.underlying27 Try.sizeOf3 rfl ha41 rfl (SlR.idx hz11 g22)) rfl ?_
 refine ov (v_load Try.isAgg3 rfl hs42 (hc45 0 (by decide))) rfl ?_
 refine oa rfl rfl (oa rfl rfl (shO_nil ?_))
 refine kW kn ?_
 refine shW_ret ?_
 refine q_res2 Try.results53 (res_tmp rfl) (res_tmp rfl) (sr) ?_
 obtain ⟨rfl, rfl⟩ := inj2 r36
 exact rfl
set_option maxHeartbeats 1000000 in
theorem oyezlaw05_NightChained_1_w {k : Int} {b_met : Nat} {met : Int} {mb_met : Nat × Nat} {F : FS} (hb_met : F b_met = some (.cells #[.int .i64 met] 3 mb_met)) {r : Bool} (hr : oyezlaw05_NightChained_1 k met = some r) :
    SpecV Try.prog 54 #[.int .i64 k, .pointer (some ⟨b_met, 0, none⟩)] F (.bool r) := by
 refine spec_of_shW (args := [.int .i64 k, .pointer (some ⟨b_met, 0, none⟩)]) Try.func54 rfl Try.ntmps54 (Nat.le_of_ble_eq_true rfl) ?_
 intro K _ _; rw [oyezlaw05_NightChained_1] at hr
 refine wsr (oa rfl rfl (nsr ?_))
 refine ov (v_load Try.isAgg3 rfl (Has.frozen hb_met) rfl) rfl ?_
 refine om rfl rfl ?_
 obtain ⟨g1, r2⟩ := gd_ok hr; clear hr
 refine ov (v_shr rfl rfl g1) rfl ?_
 refine ov (v_and rfl rfl) rfl ?_
 refine ov (v_eql rfl rfl) rfl ?_
 refine oa rfl rfl (shO_nil (shW_ret ?_))
 refine q_res1 Try.results54 (res_tmp rfl) (sr) ?_
 obtain rfl := inj1 r2
 exact rfl
set_option maxHeartbeats 1000000 in
theorem oyezlaw05_NightChained_w {numbers_a : Option Addr} {numbers_c : Nat} {numbers : List Int} {set_ : Int} {F : FS} (h_numbers : RowR 1 (iE .u8) F numbers_a numbers_c numbers) {r : Bool} (hr : oyezlaw05_NightChained numbers set_ = some r) :
    SpecV Try.prog 11 #[.slice numbers_a numbers.length numbers_c, .int .u8 set_] F (.bool r) := by
 refine spec_of_shW (args := [.slice numbers_a numbers.length numbers_c, .int .u8 set_]) Try.func11 rfl Try.ntmps11 (Nat.le_of_ble_eq_true rfl) ?_
 intro K _ _; rw [oyezlaw05_NightChained] at hr
 refine wsr (oa rfl rfl (nsr (om rfl rfl ?_)))
 obtain ⟨metal, at_, turn, h1, r2⟩ := b3_ok hr; clear hr
 refine o_call0 rfl Try.call13 rfl rfl rfl (oyezkit_Hang_w h_numbers h1) ?_; rintro _ F3 _ hF4 hn5 ⟨b7, a8, c9, rfl, rfl, h10⟩
 refine shO_L (lb (ln rfl)) ?_
 refine oa rfl rfl (nsr (om rfl rfl ?_))
 obtain ⟨n, l, at_2, turn2, h11, r12⟩ := b4_ok r2; clear r2
 refine o_callG (Lb := [(b7, .cells #[.slice a8 metal.length c9, .int .i64 at_, .int .u32 turn] 104 (0, 0))]) (Lr := []) rfl Try.call51 rfl rfl rfl (pR) (oyezlaw01_Made_w h10 h11) ?_; rintro _ F13 _ hF14 hd16 hn15 ⟨a17, n21, c18, Lb19, rfl, rfl, hz20⟩
 replace h10 := h10.mono (iE_ok _) hF14
 have hn23 := newp (Lb' := [(b7, .cells #[.slice a8 metal.length c9, .int .i64 at_2, .int .u32 turn2] 104 (0, 0))]) (by rfl) hd16 hn15
 replace hz20 := hz20.new fun p hp => hn23 p (by simp [hp])
 refine shO_L (lb (lp (ln rfl))) ?_
 refine o_alloc rfl Try.zeroValue94 ?_; intro b24 hb24
 refine o_storeA (i := 0) Try.sizeOf94 rfl rfl rfl (by simp [Value.oneCell']) rfl (Nat.le_of_ble_eq_true rfl) ?_
 refine shO_L (L' := (b24, .cells #[.int .i64 n, .slice a17 n21 c18] 94 (0, 0)) :: ((b7, .cells #[.slice a8 metal.length c9, .int .i64 at_2, .int .u32 turn2] 104 (0, 0)) :: (Lb19 ++ []))) rfl ?_
 refine nsr (om rfl rfl ?_)
 obtain ⟨n2, n3, at_3, turn3, h25, r26⟩ := b4_ok r12; clear r12
 refine o_callG (Lb := [(b7, .cells #[.slice a8 metal.length c9, .int .i64 at_2, .int .u32 turn2] 104 (0, 0))]) (Lr := (b24, .cells #[.int .i64 n, .slice a17 n21 c18] 94 (0, 0)) :: (Lb19 ++ [])) rfl Try.call52 rfl rfl rfl (((fC fO).trans (pC pR))) (oyezlaw01_Aired_w h10 h25) ?_; rintro _ F27 _ hF28 hd30 hn29 ⟨rfl, rfl⟩
 replace hz20 := hz20.mono (iE_ok _) hF28
 refine shO_L (lb (ln rfl)) ?_
 refine o_alloc rfl Try.zeroValue98 ?_; intro b31 hb31
 refine o_storeA (i := 0) Try.sizeOf98 rfl rfl rfl (by simp [Value.oneCell']) rfl (Nat.le_of_ble_eq_true rfl) ?_
 refine shO_L (L' := (b31, .cells #[.int .i64 n2, .int .i64 n3] 98 (0, 0)) :: ((b7, .cells #[.slice a8 metal.length c9, .int .i64 at_3, .int .u32 turn3] 104 (0, 0)) :: ((b24, .cells #[.int .i64 n, .slice a17 n21 c18] 94 (0, 0)) :: (Lb19 ++ [])))) rfl ?_
 refine nsr (oa rfl rfl (shO_nil ?_))
 obtain ⟨at_4, h38, r39⟩ := b1_ok r26; clear r26
 refine shW_join (fun e1 F1 L1 => ∃ (a32 : Option Addr) (n36 : Nat) (c33 : Nat) (Lb34 : LH), F27 = F1 ∧ L1 = ((b31, .cells #[.int .i64 n2, .int .i64 n3] 98 (0, 0)) :: ((b24, .cells #[.int .i64 n, .slice a17 n21 c18] 94 (0, 0)) :: (Lb19 ++ (Lb34 ++ [])))) ∧ e1.sub [(1, .int .u8 set_), (6, .pointer (some ⟨b24, 0, none⟩)), (7, .pointer (some ⟨b31, 0, none⟩)), (8, .slice a32 n36 c33)] ∧ SlR K.w0.heap.size 3 1 (iE .i64) F1 a32 n36 c33 at_4 Lb34) ?_ ?_
 · clear r39
   refine wsr ?_
   refine ov (v_fieldAddr fa_94_1 rfl) rfl ?_
   refine ov (v_load Try.isAgg92 rfl (Has.own 2 rfl) rfl) rfl ?_
   refine ov ((v_lenS Try.underlying92 rfl).i (SlR.lenI hz20)) rfl ?_
   refine om rfl rfl (shO_nil ?_)
   refine shW_block ?_
   refine kW (kc (kd kr)) ?_
   refine shW_lp (fun fu1 e1 F1 L1 => ∃ (tl : List Int) (k : Int), tl.length = fu1 ∧ Lst l k tl ∧ ∃ (at_5 : List Int) (a40 : Option Addr) (n44 : Nat) (c41 : Nat) (Lb42 : LH), oyezlaw05_NightChained_l1 tl k at_5 = some at_4 ∧ F27 = F1 ∧ L1 = ((b31, .cells #[.int .i64 n2, .int .i64 n3] 98 (0, 0)) :: ((b24, .cells #[.int .i64 n, .slice a17 n21 c18] 94 (0, 0)) :: (Lb19 ++ (Lb42 ++ [])))) ∧ e1.sub [(1, .int .u8 set_), (6, .pointer (some ⟨b24, 0, none⟩)), (7, .pointer (some ⟨b31, 0, none⟩)), (8, .slice a40 n44 c41), (32, .slice a17 n21 c18), (33, .int .i64 (l.length : Int)), (34, .int .i64 k)] ∧ SlR K.w0.heap.size 3 1 (iE .i64) F1 a40 n44 c41 at_5 Lb42) _ (m0 (kc (kc (ka (ke kr)))) ⟨_, _, rfl, Lst.start _, [], none, 0, 0, [], h38, rfl, rfl, (sc rfl (sc rfl (sc rfl (sc rfl (sc rfl (sc rfl (sc rfl (sn _)))))))), SlR.nil _ _ _ _ _⟩) ?_
   rintro fu1 e1 _ _ ⟨tl, k, hn47, hk46, at_5, a40, n44, c41, Lb42, r48, rfl, rfl, he49, hz43⟩
   refine shW_env _ he49 ?_; clear he49
   refine wsr ?_
   refine ov (v_lssK rfl rfl) rfl ?_
   refine shO_nil (shW_seq ?_)
   refine shW_condP rfl (fun c51 => ?_) (fun c51 => ?_)
   · obtain ⟨x, tl2, rfl, hx53, g54, hk52⟩ := Lst.succ hk46 c51
     rw [oyezlaw05_NightChained_l1] at r48
     refine shW_skip (shW_seq ?_)
     refine shW_block ?_
     refine wsr (om rfl rfl ?_)
     obtain ⟨b55, o56, c57, vs58, ha59, hs60, hle61, rfl, hl62, hc63⟩ := SlR.at (iE_ok _) hz20 (L := (b31, .cells #[.int .i64 n2, .int .i64 n3] 98 (0, 0)) :: ((b24, .cells #[.int .i64 n, .slice a17 n21 c18] 94 (0, 0)) :: (Lb19 ++ (Lb42 ++ [])))) (fC (fC fP)) g54.1 hx53
     refine ov (v_indexO Try.underlying92 Try.sizeOf100 rfl ha59 rfl (SlR.idx hz20 g54)) rfl ?_
     refine ov (v_load Try.isAgg100 rfl hs60 (hc63 0 (by decide))) rfl ?_
     refine oa rfl rfl (oa rfl rfl (shO_nil ?_))
     obtain ⟨k2, h64, r65⟩ := b1_ok r48; clear r48
     refine shW_join (fun e1 F1 L1 => F27 = F1 ∧ L1 = ((b31, .cells #[.int .i64 n2, .int .i64 n3] 98 (0, 0)) :: ((b24, .cells #[.int .i64 n, .slice a17 n21 c18] 94 (0, 0)) :: (Lb19 ++ (Lb42 ++ [])))) ∧ e1.sub [(1, .int .u8 set_), (6, .pointer (some ⟨b24, 0, none⟩)), (7, .pointer (some ⟨b31, 0, none⟩)), (8, .slice a40 n44 c41), (9, .int .i64 k), (32, .slice a17 n21 c18), (33, .int .i64 (l.length : Int)), (34, .int .i64 k), (45, .bool k2)]) ?_ ?_
     · clear r65
       refine shW_region (om rfl rfl ?_)
       refine ov (v_eql rfl rfl) rfl ?_
       refine om rfl rfl ?_
       by_cases c66 : x = 0
       · have r67 := ite_t h64 c66; clear h64
         refine shO_on (b := true) 41 rfl (Env.isT rfl c66) (om rfl rfl (shO_on (b := true) 41 rfl (Env.isT rfl c66) ?_))
         refine ov ((v_lenS Try.underlying27 rfl).i (SlR.lenI hz43)) rfl ?_
         refine shO_on (b := true) 41 rfl (Env.isT rfl c66) ?_
         refine ov (v_lssK rfl rfl) rfl ?_
         refine ov (v_pick_t (evD_true rfl c66) rfl) rfl ?_
         refine shO_nil ?_
         obtain rfl := inj1 r67
         exact mi kr ⟨rfl, rfl, (sc rfl (sc rfl (sc rfl (sc rfl (sc rfl (sc rfl (sc rfl (sc rfl (sc rfl (sn _))))))))))⟩
       have r68 := ite_f h64 c66; clear h64
       refine shO_off (b' := false) 41 rfl (Env.isF rfl c66) rfl rfl (shO_off (b' := false) 41 rfl (Env.isF rfl c66) rfl rfl (shO_off (b' := false) 41 rfl (Env.isF rfl c66) rfl rfl ?_))
       refine ov (v_pick_f (evD_false rfl c66) rfl) rfl ?_
       refine shO_nil ?_
       obtain rfl := inj1 r68
       exact mi kr ⟨rfl, rfl, (sc rfl (sc rfl (sc rfl (sc rfl (sc rfl (sc rfl (sc rfl (sc rfl (sc rfl (sn _))))))))))⟩
     rintro e1 _ _ ⟨rfl, rfl, he69⟩
     refine shW_env _ he69 ?_; clear he69
     refine shW_cond rfl (fun c70 => ?_) (fun c70 => ?_)
     · have r71 := bt r65 c70; clear r65
       refine shW_region (om rfl rfl (om rfl rfl ?_))
       refine o_buildSlice (cs := #[.int .i64 k]) rfl rfl (buildSlice_all slt_27 [.int .i64 k] rfl (by decide) (by simp [Value.cells]) (by decide)) ?_; intro b72 hb72
       obtain ⟨at_6, h73, g74, r75⟩ := ap_ok r71; clear r71
       refine o_appZ (xs := at_5) (ys := [k]) (zs := at_6) rfl slt_27 rfl rfl (Nat.le_refl _) (fun _ => .c (.c (.c (.s .h)))) hz43 (SrcR.box (vss := [[.int .i64 k]]) (ys := [k]) 0 rfl (iE_ok _) (.cons rfl .nil) rfl rfl) h73 g74 (by decide) ?_; intro a76 n80 c77 Lb78 hz79
       refine kO (kd kr) ?_
       refine oa rfl rfl (shO_nil (inBlock_n (id := 1) (shW_region ?_)))
       refine ov (v_add rfl rfl (Lst.r64 hk46 c51 (SlR.llt hz20))) rfl ?_
       refine om rfl rfl (shO_nil ?_)
       subst hn47; exact le kr ⟨_, _, rfl, hk52, at_6, a76, n80, c77, Lb78, r75, rfl, rfl, (sc rfl (sc rfl (sc rfl (sc rfl (sc rfl (sc rfl (sc rfl (sn _)))))))), hz79⟩
     have r82 := bf r65 c70; clear r65
     refine shW_skip (inBlock_n (id := 1) (shW_region ?_))
     refine ov (v_add rfl rfl (Lst.r64 hk46 c51 (SlR.llt hz20))) rfl ?_
     refine om rfl rfl (shO_nil ?_)
     subst hn47; exact le kr ⟨_, _, rfl, hk52, at_5, a40, n44, c41, Lb42, r82, rfl, rfl, (sc rfl (sc rfl (sc rfl (sc rfl (sc rfl (sc rfl (sc rfl (sn _)))))))), hz43⟩
   obtain rfl := Lst.zero hk46 c51
   rw [oyezlaw05_NightChained_l1] at r48
   refine shW_exit (andThen_exit (andThen_exit ?_))
   refine inBlock_exit ?_
   obtain rfl := inj1 r48
   exact mi kr ⟨a40, n44, c41, Lb42, rfl, rfl, (sc rfl (sc rfl (sc rfl (sc rfl (sn _))))), hz43⟩
 rintro e1 _ _ ⟨a32, n36, c33, Lb34, rfl, rfl, he83, hz35⟩
 refine shW_env _ he83 ?_; clear he83
 refine wsr (om rfl rfl ?_)
 refine ov ((v_lenS Try.underlying27 rfl).i (SlR.lenI hz35)) rfl ?_
 obtain ⟨g84, r85⟩ := gd_ok r39; clear r39
 obtain ⟨l2, h86, r87⟩ := bv_ok r85; clear r85
 refine o_makeZ (R := (iE .i64)) (z0 := 0) (zs := l2) rfl slt_40 (by decide) (iE_ok _) (fun _ => rfl) rfl g84 h86 (fun _ => .c (.c .n)) ?_; intro a88 n91 Lb89 hz90
 refine o_buildSlice (cs := #[.slice a88 n91 n91]) rfl rfl (buildSlice_all slt_24 [.slice a88 n91 n91] rfl (by decide) (by simp [Value.cells]) (by decide)) ?_; intro b93 hb93
 refine ov (v_build (v := .agg #[.slice none 0 0, .slice (some ⟨b93, 0, none⟩) 1 1]) rfl (by intro w; kernel_rfl)) rfl ?_
 refine o_alloc rfl Try.zeroValue26 ?_; intro b94 hb94
 obtain rfl := (SlR.caps hz90).1
 refine shO_freezeR (Nat.le_refl _) (iE_ok _) (fC (fC (fC (fC fP)))) hz90 ?_; intro F95 hF96 h97
 replace hz20 := hz20.mono (iE_ok _) hF96
 replace hz35 := hz35.mono (iE_ok _) hF96
 have hz99 : SlR K.w0.heap.size 40 1 (slE 1 (iE .i64)) F95 (some ⟨b93, 0, none⟩) 1 1 [l2] [(b93, .cells #[.slice a88 l2.length l2.length] 40 (0, 0))] := SlR.of_block (vss := [[.slice a88 l2.length l2.length]]) (slE_ok (iE_ok _)) hb93 (.cons ⟨_, _, rfl, h97⟩ .nil) rfl rfl (by simp [maxLen])
 generalize hLLb98 : ([(b93, .cells #[.slice a88 l2.length l2.length] 40 (0, 0))] : LH) = Lb98 at hz99
 refine shO_perm (L' := Lb98 ++ ((b94, .cells #[.slice none 0 0, .slice none 0 0] 26 (0, 0)) :: ((b31, .cells #[.int .i64 n2, .int .i64 n3] 98 (0, 0)) :: ((b24, .cells #[.int .i64 n, .slice a17 n21 c18] 94 (0, 0)) :: (Lb19 ++ (Lb34 ++ [])))))) (by rw [← hLLb98]; exact (fC fO)) ?_
 refine shO_perm (L' := (b94, .cells #[.slice none 0 0, .slice none 0 0] 26 (0, 0)) :: ((b31, .cells #[.int .i64 n2, .int .i64 n3] 98 (0, 0)) :: ((b24, .cells #[.int .i64 n, .slice a17 n21 c18] 94 (0, 0)) :: (Lb98 ++ (Lb19 ++ (Lb34 ++ [])))))) (List.Perm.symm (fC (fC (fC fP)))) ?_
 refine o_storeA (i := 0) Try.sizeOf26 rfl rfl rfl (by simp [Value.oneCell']) rfl (Nat.le_of_ble_eq_true rfl) ?_
 refine shO_L (L' := (b94, .cells #[.slice none 0 0, .slice (some ⟨b93, 0, none⟩) 1 1] 26 (0, 0)) :: ((b31, .cells #[.int .i64 n2, .int .i64 n3] 98 (0, 0)) :: ((b24, .cells #[.int .i64 n, .slice a17 n21 c18] 94 (0, 0)) :: (Lb98 ++ (Lb19 ++ (Lb34 ++ [])))))) rfl ?_
 refine shO_nil ?_
 refine shW_join (fun e1 F1 L1 => ∃ (at_7 : List Int) (w_listens : List (List Int)) (a101 : Option Addr) (c102 : Nat) (a104 : Option Addr) (n108 : Nat) (c105 : Nat) (Lb106 : LH), oyezlaw05_NightChained_j2 set_ l2 at_7 w_listens = some r ∧ FExt F95 F1 ∧ L1 = ((b94, .cells #[.slice a104 n108 c105, .slice (some ⟨b93, 0, none⟩) 1 1] 26 (0, 0)) :: (Lb106 ++ (Lb98 ++ []))) ∧ e1.sub [(1, .int .u8 set_), (8, .slice a101 at_7.length c102), (11, .pointer (some ⟨b94, 0, none⟩))] ∧ RowR 1 (iE .i64) F1 a101 c102 at_7 ∧ SlR K.w0.heap.size 27 1 (slE 1 (iE .i64)) F1 a104 n108 c105 w_listens Lb106) ?_ ?_
 · refine wsr (om rfl rfl ?_)
   refine ov ((v_lenS Try.underlying27 rfl).i (SlR.lenI hz35)) rfl ?_
   refine om rfl rfl (shO_nil ?_)
   refine shW_block ?_
   obtain rfl := (SlR.caps hz35).1
   refine shW_freezeR (Nat.le_refl _) (iE_ok _) (fC (fC (fC (fS (fS fP))))) hz35 ?_; intro F110 hF111 h112
   replace hz20 := hz20.mono (iE_ok _) hF111
   refine shW_lpF (fun fu3 e1 F1 L1 => ∃ (tl3 : List Int) (k3 : Int), tl3.length = fu3 ∧ Lst at_4 k3 tl3 ∧ ∃ (w_listens2 : List (List Int)) (a113 : Option Addr) (n117 : Nat) (c114 : Nat) (Lb115 : LH), oyezlaw05_NightChained_l3 set_ n l n2 n3 at_4 l2 tl3 k3 w_listens2 = some r ∧ FExt F110 F1 ∧ L1 = ((b94, .cells #[.slice a113 n117 c114, .slice (some ⟨b93, 0, none⟩) 1 1] 26 (0, 0)) :: ((b31, .cells #[.int .i64 n2, .int .i64 n3] 98 (0, 0)) :: ((b24, .cells #[.int .i64 n, .slice a17 n21 c18] 94 (0, 0)) :: (Lb19 ++ (Lb115 ++ (Lb98 ++ [])))))) ∧ e1.sub [(1, .int .u8 set_), (6, .pointer (some ⟨b24, 0, none⟩)), (7, .pointer (some ⟨b31, 0, none⟩)), (8, .slice a32 at_4.length c33), (11, .pointer (some ⟨b94, 0, none⟩)), (56, .slice a32 at_4.length c33), (57, .int .i64 (at_4.length : Int)), (58, .int .i64 k3)] ∧ SlR K.w0.heap.size 27 1 (slE 1 (iE .i64)) F1 a113 n117 c114 w_listens2 Lb115) _ (m0 (kc (kc (kc (kg (fS fP) (ke kr))))) ⟨_, _, rfl, Lst.start _, [], none, 0, 0, [], r87, FExt.refl _, rfl, (sc rfl (sc rfl (sc rfl (sc rfl (sc rfl (sc rfl (sc rfl (sc rfl (sn _))))))))), SlR.nil _ _ _ _ _⟩) ?_
   rintro fu3 e1 F123 _ ⟨tl3, k3, hn120, hk119, w_listens2, a113, n117, c114, Lb115, r121, hF124, rfl, he122, hz116⟩
   refine shW_env _ he122 ?_; clear he122
   replace h112 := h112.mono (iE_ok _) hF124
   replace hz20 := hz20.mono (iE_ok _) hF124
   refine wsr ?_
   refine ov (v_lssK rfl rfl) rfl ?_
   refine shO_nil (shW_seq ?_)
   refine shW_condP rfl (fun c126 => ?_) (fun c126 => ?_)
   · obtain ⟨x2, tl4, rfl, hx128, g129, hk127⟩ := Lst.succ hk119 c126
     rw [oyezlaw05_NightChained_l3] at r121
     refine shW_skip ?_
     refine shW_join (fun e1 F1 L1 => ∃ (w_listens3 : List (List Int)) (a130 : Option Addr) (n134 : Nat) (c131 : Nat) (Lb132 : LH), oyezlaw05_NightChained_j4 k3 (oyezlaw05_NightChained_l3 set_ n l n2 n3 at_4 l2 tl4) w_listens3 = some r ∧ FExt F123 F1 ∧ L1 = ((b94, .cells #[.slice a130 n134 c131, .slice (some ⟨b93, 0, none⟩) 1 1] 26 (0, 0)) :: ((b31, .cells #[.int .i64 n2, .int .i64 n3] 98 (0, 0)) :: ((b24, .cells #[.int .i64 n, .slice a17 n21 c18] 94 (0, 0)) :: (Lb19 ++ (Lb132 ++ (Lb98 ++ [])))))) ∧ e1.sub [(1, .int .u8 set_), (6, .pointer (some ⟨b24, 0, none⟩)), (7, .pointer (some ⟨b31, 0, none⟩)), (8, .slice a32 at_4.length c33), (11, .pointer (some ⟨b94, 0, none⟩)), (56, .slice a32 at_4.length c33), (57, .int .i64 (at_4.length : Int)), (58, .int .i64 k3)] ∧ SlR K.w0.heap.size 27 1 (slE 1 (iE .i64)) F1 a130 n134 c131 w_listens3 Lb132) ?_ ?_
     · refine shW_block ?_
       refine wsr (om rfl rfl ?_)
       obtain ⟨b136, o137, c138, vs139, ha140, hs141, hle142, rfl, hl143, hc144⟩ := RowR.at (iE_ok _) h112 ((b94, .cells #[.slice a113 n117 c114, .slice (some ⟨b93, 0, none⟩) 1 1] 26 (0, 0)) :: ((b31, .cells #[.int .i64 n2, .int .i64 n3] 98 (0, 0)) :: ((b24, .cells #[.int .i64 n, .slice a17 n21 c18] 94 (0, 0)) :: (Lb19 ++ (Lb115 ++ (Lb98 ++ [])))))) g129.1 hx128
       refine ov (v_indexO Try.underlying27 Try.sizeOf3 rfl ha140 rfl g129) rfl ?_
       refine ov (v_load Try.isAgg3 rfl hs141 (hc144 0 (by decide))) rfl ?_
       refine oa rfl rfl (oa rfl rfl (nsr (oa rfl rfl (shO_nil ?_))))
       refine shW_join (fun e1 F1 L1 => ∃ (l3 : List Int) (a145 : Option Addr) (n149 : Nat) (c146 : Nat) (Lb147 : LH), oyezlaw05_NightChained_j5 w_listens2 k3 (oyezlaw05_NightChained_l3 set_ n l n2 n3 at_4 l2 tl4) l3 = some r ∧ F123 = F1 ∧ L1 = ((b94, .cells #[.slice a113 n117 c114, .slice (some ⟨b93, 0, none⟩) 1 1] 26 (0, 0)) :: ((b31, .cells #[.int .i64 n2, .int .i64 n3] 98 (0, 0)) :: ((b24, .cells #[.int .i64 n, .slice a17 n21 c18] 94 (0, 0)) :: (Lb19 ++ (Lb115 ++ (Lb98 ++ (Lb147 ++ []))))))) ∧ e1.sub [(1, .int .u8 set_), (6, .pointer (some ⟨b24, 0, none⟩)), (7, .pointer (some ⟨b31, 0, none⟩)), (8, .slice a32 at_4.length c33), (11, .pointer (some ⟨b94, 0, none⟩)), (14, .slice a145 n149 c146), (56, .slice a32 at_4.length c33), (57, .int .i64 (at_4.length : Int)), (58, .int .i64 k3)] ∧ SlR K.w0.heap.size 3 1 (iE .i64) F1 a145 n149 c146 l3 Lb147) ?_ ?_
       · refine wsr (om rfl rfl (om rfl rfl ?_))
         obtain ⟨g151, r152⟩ := gd_ok r121; clear r121
         obtain ⟨at_4_2, h153, r154⟩ := bv_ok r152; clear r152
         obtain ⟨a155, c156, h157, hvh157⟩ := RowR.slice (iE_ok _) h112 g151 h153
         refine ov ((v_slice (l := 0) (h := k3) Try.underlying27 Try.sizeOf3 rfl (.inl ⟨rfl, rfl⟩) (.inr ⟨_, rfl, rfl⟩) hvh157.1).eq hvh157.2) rfl ?_
         refine ov (v_lenS Try.underlying27 rfl) rfl ?_
         refine om rfl rfl (shO_nil ?_)
         refine shW_block ?_
         refine shW_lp (fun fu6 e1 F1 L1 => ∃ (tl5 : List Int) (k4 : Int), tl5.length = fu6 ∧ Lst at_4_2 k4 tl5 ∧ ∃ (l4 : List Int) (a159 : Option Addr) (n163 : Nat) (c160 : Nat) (Lb161 : LH), oyezlaw05_NightChained_l6 n l n2 n3 w_listens2 k3 x2 (oyezlaw05_NightChained_l3 set_ n l n2 n3 at_4 l2 tl4) tl5 k4 l4 = some r ∧ F123 = F1 ∧ L1 = ((b94, .cells #[.slice a113 n117 c114, .slice (some ⟨b93, 0, none⟩) 1 1] 26 (0, 0)) :: ((b31, .cells #[.int .i64 n2, .int .i64 n3] 98 (0, 0)) :: ((b24, .cells #[.int .i64 n, .slice a17 n21 c18] 94 (0, 0)) :: (Lb19 ++ (Lb115 ++ (Lb98 ++ (Lb161 ++ []))))))) ∧ e1.sub [(1, .int .u8 set_), (6, .pointer (some ⟨b24, 0, none⟩)), (7, .pointer (some ⟨b31, 0, none⟩)), (8, .slice a32 at_4.length c33), (11, .pointer (some ⟨b94, 0, none⟩)), (13, .int .i64 x2), (14, .slice a159 n163 c160), (56, .slice a32 at_4.length c33), (57, .int .i64 (at_4.length : Int)), (58, .int .i64 k3), (65, .slice a155 at_4_2.length c156), (66, .int .i64 (at_4_2.length : Int)), (67, .int .i64 k4)] ∧ SlR K.w0.heap.size 3 1 (iE .i64) F1 a159 n163 c160 l4 Lb161) _ (m0 (kc (kc (kc (ka (ka (ka (ke kr))))))) ⟨_, _, rfl, Lst.start _, [], none, 0, 0, [], r154, rfl, rfl, (sc rfl (sc rfl (sc rfl (sc rfl (sc rfl (sc rfl (sc rfl (sc rfl (sc rfl (sc rfl (sc rfl (sc rfl (sc rfl (sn _)))))))))))))), SlR.nil _ _ _ _ _⟩) ?_
         rintro fu6 e1 _ _ ⟨tl5, k4, hn166, hk165, l4, a159, n163, c160, Lb161, r167, rfl, rfl, he168, hz162⟩
         refine shW_env _ he168 ?_; clear he168
         refine wsr ?_
         refine ov (v_lssK rfl rfl) rfl ?_
         refine shO_nil (shW_seq ?_)
         refine shW_condP rfl (fun c170 => ?_) (fun c170 => ?_)
         · obtain ⟨x3, tl6, rfl, hx172, g173, hk171⟩ := Lst.succ hk165 c170
           rw [oyezlaw05_NightChained_l6] at r167
           refine shW_skip (shW_seq ?_)
           refine shW_block ?_
           refine wsr (om rfl rfl ?_)
           obtain ⟨b174, o175, c176, vs177, ha178, hs179, hle180, rfl, hl181, hc182⟩ := RowR.at (iE_ok _) h157 ((b94, .cells #[.slice a113 n117 c114, .slice (some ⟨b93, 0, none⟩) 1 1] 26 (0, 0)) :: ((b31, .cells #[.int .i64 n2, .int .i64 n3] 98 (0, 0)) :: ((b24, .cells #[.int .i64 n, .slice a17 n21 c18] 94 (0, 0)) :: (Lb19 ++ (Lb115 ++ (Lb98 ++ (Lb161 ++ []))))))) g173.1 hx172
           refine ov (v_indexO Try.underlying27 Try.sizeOf3 rfl ha178 rfl g173) rfl ?_
           refine ov (v_load Try.isAgg3 rfl hs179 (hc182 0 (by decide))) rfl ?_
           refine oa rfl rfl (oa rfl rfl (nsr ?_))
           refine ov (v_loadA (cs := #[.int .i64 n, .slice a17 n21 c18]) Try.isAgg94 Try.sizeOf94 rfl (Has.own 2 rfl) (Nat.le_of_ble_eq_true rfl) rfl) rfl ?_
           refine ov (v_fieldAddr fa_98_0 rfl) rfl ?_
           refine ov (v_load Try.isAgg96 rfl (Has.own 1 rfl) rfl) rfl ?_
           refine om rfl rfl (om rfl rfl ?_)
           obtain ⟨n4, n5, h183, r184⟩ := b2_ok r167; clear r167
           refine o_callT (Lt := Lb19 ++ []) (Lr := (b94, .cells #[.slice a113 n117 c114, .slice (some ⟨b93, 0, none⟩) 1 1] 26 (0, 0)) :: ((b31, .cells #[.int .i64 n2, .int .i64 n3] 98 (0, 0)) :: ((b24, .cells #[.int .i64 n, .slice a17 n21 c18] 94 (0, 0)) :: (Lb115 ++ (Lb98 ++ (Lb161 ++ [])))))) rfl Try.call53 rfl rfl rfl (pT ((fC (fC (fC fP))).trans (pA pR)) (lp (ln rfl))) (fun F2 h2 h3 => by rw [(SlR.caps hz20).1]; exact hear_Need_w (hz20.row (iE_ok _) h2 (fun p hp => h3 p (List.mem_append_left _ hp))) h183) ?_
           refine om rfl rfl (ox rfl rfl rfl (ox rfl rfl rfl (oa rfl rfl (oa rfl rfl (shO_nil (shW_seq ?_))))))
           obtain ⟨k5, h185, r186⟩ := b1_ok r184; clear r184
           refine shW_join (fun e1 F1 L1 => F123 = F1 ∧ L1 = ((b94, .cells #[.slice a113 n117 c114, .slice (some ⟨b93, 0, none⟩) 1 1] 26 (0, 0)) :: ((b31, .cells #[.int .i64 n2, .int .i64 n3] 98 (0, 0)) :: ((b24, .cells #[.int .i64 n, .slice a17 n21 c18] 94 (0, 0)) :: (Lb19 ++ (Lb115 ++ (Lb98 ++ (Lb161 ++ []))))))) ∧ e1.sub [(1, .int .u8 set_), (6, .pointer (some ⟨b24, 0, none⟩)), (7, .pointer (some ⟨b31, 0, none⟩)), (8, .slice a32 at_4.length c33), (11, .pointer (some ⟨b94, 0, none⟩)), (13, .int .i64 x2), (14, .slice a159 n163 c160), (15, .int .i64 k4), (17, .int .i64 n4), (18, .int .i64 n5), (56, .slice a32 at_4.length c33), (57, .int .i64 (at_4.length : Int)), (58, .int .i64 k3), (65, .slice a155 at_4_2.length c156), (66, .int .i64 (at_4_2.length : Int)), (67, .int .i64 k4), (86, .bool k5)]) ?_ ?_
           · clear r186
             refine shW_region (om rfl rfl ?_)
             refine ov (v_neq rfl rfl) rfl ?_
             refine om rfl rfl ?_
             by_cases c187 : n5 ≠ 0
             · have r188 := ite_t h185 c187; clear h185
               refine shO_on (b := true) 83 rfl (Env.isT rfl c187) (om rfl rfl (shO_on (b := true) 83 rfl (Env.isT rfl c187) ?_))
               refine ov (v_neq rfl rfl) rfl ?_
               refine ov (v_pick_t (evD_true rfl c187) rfl) rfl ?_
               refine shO_nil ?_
               obtain rfl := inj1 r188
               exact mi kr ⟨rfl, rfl, (sc rfl (sc rfl (sc rfl (sc rfl (sc rfl (sc rfl (sc rfl (sc rfl (sc rfl (sc rfl (sc rfl (sc rfl (sc rfl (sc rfl (sc rfl (sc rfl (sc rfl (sn _))))))))))))))))))⟩
             have r189 := ite_f h185 c187; clear h185
             refine shO_off (b' := false) 83 rfl (Env.isF rfl c187) rfl rfl (shO_off (b' := false) 83 rfl (Env.isF rfl c187) rfl rfl ?_)
             refine ov (v_pick_f (evD_false rfl c187) rfl) rfl ?_
             refine shO_nil ?_
             obtain rfl := inj1 r189
             exact mi kr ⟨rfl, rfl, (sc rfl (sc rfl (sc rfl (sc rfl (sc rfl (sc rfl (sc rfl (sc rfl (sc rfl (sc rfl (sc rfl (sc rfl (sc rfl (sc rfl (sc rfl (sc rfl (sc rfl (sn _))))))))))))))))))⟩
           rintro e1 _ _ ⟨rfl, rfl, he190⟩
           refine shW_env _ he190 ?_; clear he190
           refine shW_cond rfl (fun c191 => ?_) (fun c191 => ?_)
           · have r192 := bt r186 c191; clear r186
             refine wsr (oa rfl rfl (shO_nil ?_))
             refine kW kn ?_
             refine shW_ret (andThen_ret (inBlock_ret (andThen_ret (andThen_ret (inBlock_ret (andThen_ret (inBlock_ret (andThen_ret (andThen_ret ?_)))))))))
             refine inBlock_ret (andThen_ret ?_)
             refine q_res1 Try.results11 (res_tmp rfl) (sr) ?_
             obtain rfl := inj1 r192
             exact rfl
           have r193 := bf r186 c191; clear r186
           refine shW_skip ?_
           obtain ⟨k6, h194, r195⟩ := b1_ok r193; clear r193
           refine shW_join (fun e1 F1 L1 => F123 = F1 ∧ L1 = ((b94, .cells #[.slice a113 n117 c114, .slice (some ⟨b93, 0, none⟩) 1 1] 26 (0, 0)) :: ((b31, .cells #[.int .i64 n2, .int .i64 n3] 98 (0, 0)) :: ((b24, .cells #[.int .i64 n, .slice a17 n21 c18] 94 (0, 0)) :: (Lb19 ++ (Lb115 ++ (Lb98 ++ (Lb161 ++ []))))))) ∧ e1.sub [(1, .int .u8 set_), (6, .pointer (some ⟨b24, 0, none⟩)), (7, .pointer (some ⟨b31, 0, none⟩)), (8, .slice a32 at_4.length c33), (11, .pointer (some ⟨b94, 0, none⟩)), (13, .int .i64 x2), (14, .slice a159 n163 c160), (15, .int .i64 k4), (56, .slice a32 at_4.length c33), (57, .int .i64 (at_4.length : Int)), (58, .int .i64 k3), (65, .slice a155 at_4_2.length c156), (66, .int .i64 (at_4_2.length : Int)), (67, .int .i64 k4), (94, .bool k6)]) ?_ ?_
           · clear r195
             refine shW_region (om rfl rfl ?_)
             refine ov (v_eql rfl rfl) rfl ?_
             refine om rfl rfl ?_
             by_cases c196 : n5 = 0
             · have r197 := ite_t h194 c196; clear h194
               refine shO_on (b := true) 89 rfl (Env.isT rfl c196) (om rfl rfl (shO_on (b := true) 89 rfl (Env.isT rfl c196) ?_))
               refine ov (v_fieldAddr fa_98_1 rfl) rfl ?_
               refine shO_on (b := true) 89 rfl (Env.isT rfl c196) ?_
               refine ov (v_load Try.isAgg3 rfl (Has.own 1 rfl) rfl) rfl ?_
               refine shO_on (b := true) 89 rfl (Env.isT rfl c196) ?_
               refine ov (v_leqK rfl rfl) rfl ?_
               refine ov (v_pick_t (evD_true rfl c196) rfl) rfl ?_
               refine shO_nil ?_
               obtain rfl := inj1 r197
               exact mi kr ⟨rfl, rfl, (sc rfl (sc rfl (sc rfl (sc rfl (sc rfl (sc rfl (sc rfl (sc rfl (sc rfl (sc rfl (sc rfl (sc rfl (sc rfl (sc rfl (sc rfl (sn _))))))))))))))))⟩
             have r198 := ite_f h194 c196; clear h194
             refine shO_off (b' := false) 89 rfl (Env.isF rfl c196) rfl rfl (shO_off (b' := false) 89 rfl (Env.isF rfl c196) rfl rfl (shO_off (b' := false) 89 rfl (Env.isF rfl c196) rfl rfl (shO_off (b' := false) 89 rfl (Env.isF rfl c196) rfl rfl ?_)))
             refine ov (v_pick_f (evD_false rfl c196) rfl) rfl ?_
             refine shO_nil ?_
             obtain rfl := inj1 r198
             exact mi kr ⟨rfl, rfl, (sc rfl (sc rfl (sc rfl (sc rfl (sc rfl (sc rfl (sc rfl (sc rfl (sc rfl (sc rfl (sc rfl (sc rfl (sc rfl (sc rfl (sc rfl (sn _))))))))))))))))⟩
           rintro e1 _ _ ⟨rfl, rfl, he199⟩
           refine shW_env _ he199 ?_; clear he199
           refine shW_cond rfl (fun c200 => ?_) (fun c200 => ?_)
           · have r201 := bt r195 c200; clear r195
             refine shW_region (om rfl rfl (om rfl rfl ?_))
             refine o_buildSlice (cs := #[.int .i64 k4]) rfl rfl (buildSlice_all slt_27 [.int .i64 k4] rfl (by decide) (by simp [Value.cells]) (by decide)) ?_; intro b202 hb202
             obtain ⟨l5, h203, g204, r205⟩ := ap_ok r201; clear r201
             refine o_appZ (xs := l4) (ys := [k4]) (zs := l5) rfl slt_27 rfl rfl (Nat.le_refl _) (fun _ => .c (.c (.c (.c (.s (.s (.s .h))))))) hz162 (SrcR.box (vss := [[.int .i64 k4]]) (ys := [k4]) 0 rfl (iE_ok _) (.cons rfl .nil) rfl rfl) h203 g204 (by decide) ?_; intro a206 n210 c207 Lb208 hz209
             refine kO (kd kr) ?_
             refine oa rfl rfl (shO_nil (inBlock_n (id := 5) (shW_region ?_)))
             refine ov (v_add rfl rfl (Lst.r64 hk165 c170 (RowR.lt h157))) rfl ?_
             refine om rfl rfl (shO_nil ?_)
             subst hn166; exact le kr ⟨_, _, rfl, hk171, l5, a206, n210, c207, Lb208, r205, rfl, rfl, (sc rfl (sc rfl (sc rfl (sc rfl (sc rfl (sc rfl (sc rfl (sc rfl (sc rfl (sc rfl (sc rfl (sc rfl (sc rfl (sn _)))))))))))))), hz209⟩
           have r212 := bf r195 c200; clear r195
           refine shW_skip (inBlock_n (id := 5) (shW_region ?_))
           refine ov (v_add rfl rfl (Lst.r64 hk165 c170 (RowR.lt h157))) rfl ?_
           refine om rfl rfl (shO_nil ?_)
           subst hn166; exact le kr ⟨_, _, rfl, hk171, l4, a159, n163, c160, Lb161, r212, rfl, rfl, (sc rfl (sc rfl (sc rfl (sc rfl (sc rfl (sc rfl (sc rfl (sc rfl (sc rfl (sc rfl (sc rfl (sc rfl (sc rfl (sn _)))))))))))))), hz162⟩
         obtain rfl := Lst.zero hk165 c170
         rw [oyezlaw05_NightChained_l6] at r167
         refine shW_exit (andThen_exit (andThen_exit ?_))
         refine inBlock_exit ?_
         exact mi kr ⟨l4, a159, n163, c160, Lb161, r167, rfl, rfl, (sc rfl (sc rfl (sc rfl (sc rfl (sc rfl (sc rfl (sc rfl (sc rfl (sc rfl (sn _)))))))))), hz162⟩
       rintro e1 _ _ ⟨l3, a145, n149, c146, Lb147, r213, rfl, rfl, he214, hz148⟩
       refine shW_env _ he214 ?_; clear he214
       rw [oyezlaw05_NightChained_j5] at r213
       refine shW_region ?_
       refine ov (v_fieldAddr fa_26_0 rfl) rfl ?_
       refine ov (v_load Try.isAgg23 rfl (Has.own 0 rfl) rfl) rfl ?_
       refine om rfl rfl ?_
       refine o_buildSlice (cs := #[.slice a145 n149 c146]) rfl rfl (buildSlice_all slt_23 [.slice a145 n149 c146] rfl (by decide) (by simp [Value.cells]) (by decide)) ?_; intro b215 hb215
       obtain rfl := (SlR.caps hz148).1
       refine shO_freezeR (Nat.le_refl _) (iE_ok _) (fC (fC (fC (fC (fS (fS (fS fP))))))) hz148 ?_; intro F216 hF217 h218
       replace hz116 := hz116.mono (slE_ok (iE_ok _)) hF217
       obtain ⟨w, h219, g220, r221⟩ := ap_ok r213; clear r213
       refine o_appZ (xs := w_listens2) (ys := [l3]) (zs := w) rfl slt_23 rfl rfl (Nat.le_refl _) (fun _ => .c (.c (.c (.c (.s .h))))) hz116 (SrcR.box (vss := [[.slice a145 l3.length c146]]) (ys := [l3]) 0 rfl (slE_ok (iE_ok _)) (.cons ⟨_, _, rfl, h218⟩ .nil) rfl rfl) h219 g220 (by decide) ?_; intro a222 n226 c223 Lb224 hz225
       refine kO (kd kr) ?_
       refine ov (v_fieldAddr fa_26_0 rfl) rfl ?_
       refine o_store (i := 0) Try.sizeOf23 rfl rfl rfl rfl (Nat.le_of_ble_eq_true rfl) ?_
       refine shO_L (L' := (b94, .cells #[.slice a222 n226 c223, .slice (some ⟨b93, 0, none⟩) 1 1] 26 (0, 0)) :: ((b31, .cells #[.int .i64 n2, .int .i64 n3] 98 (0, 0)) :: ((b24, .cells #[.int .i64 n, .slice a17 n21 c18] 94 (0, 0)) :: (Lb19 ++ (Lb224 ++ (Lb98 ++ [])))))) rfl ?_
       refine shO_nil (inBlock_n (id := 3) ?_)
       exact mi kr ⟨w, a222, n226, c223, Lb224, r221, hF217, rfl, (sc rfl (sc rfl (sc rfl (sc rfl (sc rfl (sc rfl (sc rfl (sc rfl (sn _))))))))), hz225⟩
     rintro e1 F230 _ ⟨w_listens3, a130, n134, c131, Lb132, r228, hF231, rfl, he229, hz133⟩
     refine shW_env _ he229 ?_; clear he229
     replace h112 := h112.mono (iE_ok _) hF231
     rw [oyezlaw05_NightChained_j4] at r228
     refine shW_region ?_
     refine ov (v_add rfl rfl (Lst.r64 hk119 c126 (RowR.lt h112))) rfl ?_
     refine om rfl rfl (shO_nil ?_)
     subst hn120; refine lf ?_
     exact mf kr ⟨_, _, rfl, hk127, w_listens3, a130, n134, c131, Lb132, r228, (hF124.trans hF231), rfl, (sc rfl (sc rfl (sc rfl (sc rfl (sc rfl (sc rfl (sc rfl (sc rfl (sn _))))))))), hz133⟩
   obtain rfl := Lst.zero hk119 c126
   rw [oyezlaw05_NightChained_l3] at r121
   refine shW_exit (andThen_exit (andThen_exit ?_))
   refine inBlock_exit ?_
   exact mi (kc (kd (kd (kx kr)))) ⟨at_4, w_listens2, a32, c33, a113, n117, c114, Lb115, r121, (hF111.trans hF124), rfl, (sc rfl (sc rfl (sc rfl (sn _)))), h112, hz116⟩
 rintro e1 F234 _ ⟨at_7, w_listens, a101, c102, a104, n108, c105, Lb106, r232, hF235, rfl, he233, h103, hz107⟩
 refine shW_env _ he233 ?_; clear he233
 replace hz99 := hz99.mono (slE_ok (iE_ok _)) hF235
 rw [oyezlaw05_NightChained_j2] at r232
 refine wsr (om rfl rfl ?_)
 obtain ⟨g236, r237⟩ := gd_ok r232; clear r232
 refine ov (i_conv Try.underlying5 Try.underlying3 rfl g236) rfl ?_
 refine om rfl rfl ?_
 refine ov (v_lenS Try.underlying27 rfl) rfl ?_
 obtain ⟨g238, r239⟩ := gd_ok r237; clear r237
 refine ov (v_shl rfl rfl g238) rfl ?_
 obtain ⟨g240, r241⟩ := gd_ok r239; clear r239
 refine ov (v_remT rfl rfl g240) rfl ?_
 obtain ⟨asleep, h242, r243⟩ := bv_ok r241; clear r241
 refine ov ((v_assign rfl).i h242) rfl ?_
 refine nsr ?_
 refine ov (v_loadA (cs := #[.slice a104 n108 c105, .slice (some ⟨b93, 0, none⟩) 1 1]) Try.isAgg26 Try.sizeOf26 rfl (Has.own 0 rfl) (Nat.le_of_ble_eq_true rfl) rfl) rfl ?_
 refine om rfl rfl ?_
 obtain ⟨n6, n7, h244, r245⟩ := b2_ok r243; clear r243
 refine o_callT (Lt := Lb106 ++ (Lb98 ++ [])) (Lr := [(b94, .cells #[.slice a104 n108 c105, .slice (some ⟨b93, 0, none⟩) 1 1] 26 (0, 0))]) rfl Try.call20 rfl rfl rfl (pT ((fC fP).trans (pA ((fC fP).trans (pA pR)))) (lp (lp (ln rfl)))) (fun F2 h2 h3 => by rw [(SlR.caps hz107).1]; rw [(SlR.caps hz99).1]; exact night_Cries_w (hz107.row (slE_ok (iE_ok _)) h2 (fun p hp => h3 p (List.mem_append_left _ hp))) (hz99.row (slE_ok (iE_ok _)) h2 (fun p hp => h3 p (List.mem_append_right _ (List.mem_append_left _ hp)))) h244) ?_
 refine om rfl rfl (ox rfl rfl rfl (ox rfl rfl rfl (oa rfl rfl (oa rfl rfl (shO_nil (shW_seq ?_))))))
 obtain ⟨k7, h246, r247⟩ := b1_ok r245; clear r245
 refine shW_join (fun e1 F1 L1 => F234 = F1 ∧ L1 = ((b94, .cells #[.slice a104 n108 c105, .slice (some ⟨b93, 0, none⟩) 1 1] 26 (0, 0)) :: (Lb106 ++ (Lb98 ++ []))) ∧ e1.sub [(8, .slice a101 at_7.length c102), (11, .pointer (some ⟨b94, 0, none⟩)), (19, .int .i64 asleep), (20, .int .i64 n6), (131, .bool k7)]) ?_ ?_
 · clear r247
   refine shW_region (om rfl rfl ?_)
   refine ov (v_neq rfl rfl) rfl ?_
   refine om rfl rfl ?_
   by_cases c248 : n7 ≠ 0
   · have r249 := ite_t h246 c248; clear h246
     refine shO_off (b' := true) 121 rfl (Env.isT rfl c248) rfl rfl (shO_off (b' := true) 121 rfl (Env.isT rfl c248) rfl rfl ?_)
     refine ov (v_pick_t (evD_true rfl c248) rfl) rfl ?_
     refine om rfl rfl (shO_off (b' := true) 125 rfl rfl rfl rfl (shO_off (b' := true) 125 rfl rfl rfl rfl (shO_off (b' := true) 125 rfl rfl rfl rfl (shO_off (b' := true) 125 rfl rfl rfl rfl (shO_off (b' := true) 125 rfl rfl rfl rfl ?_)))))
     refine ov (v_pick_t rfl rfl) rfl ?_
     refine shO_nil ?_
     obtain rfl := inj1 r249
     exact mi kr ⟨rfl, rfl, (sc rfl (sc rfl (sc rfl (sc rfl (sc rfl (sn _))))))⟩
   have r250 := ite_f h246 c248; clear h246
   refine shO_on (b := false) 121 rfl (Env.isF rfl c248) (om rfl rfl (shO_on (b := false) 121 rfl (Env.isF rfl c248) ?_))
   refine ov (v_lssK rfl rfl) rfl ?_
   refine ov (v_pick_f (evD_false rfl c248) rfl) rfl ?_
   refine om rfl rfl ?_
   by_cases c251 : n6 < 0
   · have r252 := ite_t r250 c251; clear r250
     refine shO_off (b' := true) 125 rfl (Env.isT rfl c251) rfl rfl (shO_off (b' := true) 125 rfl (Env.isT rfl c251) rfl rfl (shO_off (b' := true) 125 rfl (Env.isT rfl c251) rfl rfl (shO_off (b' := true) 125 rfl (Env.isT rfl c251) rfl rfl (shO_off (b' := true) 125 rfl (Env.isT rfl c251) rfl rfl ?_))))
     refine ov (v_pick_t (evD_true rfl c251) rfl) rfl ?_
     refine shO_nil ?_
     obtain rfl := inj1 r252
     exact mi kr ⟨rfl, rfl, (sc rfl (sc rfl (sc rfl (sc rfl (sc rfl (sn _))))))⟩
   have r253 := ite_f r250 c251; clear r250
   refine shO_on (b := false) 125 rfl (Env.isF rfl c251) (om rfl rfl (shO_on (b := false) 125 rfl (Env.isF rfl c251) (om rfl rfl (shO_on (b := false) 125 rfl (Env.isF rfl c251) ?_))))
   refine ov (v_lenS Try.underlying27 rfl) rfl ?_
   refine shO_on (b := false) 125 rfl (Env.isF rfl c251) ?_
   obtain ⟨g254, r255⟩ := gd_ok r253; clear r253
   refine ov (v_shl rfl rfl g254) rfl ?_
   refine shO_on (b := false) 125 rfl (Env.isF rfl c251) ?_
   refine ov (v_geqK rfl rfl) rfl ?_
   refine ov (v_pick_f (evD_false rfl c251) rfl) rfl ?_
   refine shO_nil ?_
   obtain rfl := inj1 r255
   exact mi kr ⟨rfl, rfl, (sc rfl (sc rfl (sc rfl (sc rfl (sc rfl (sn _))))))⟩
 rintro e1 _ _ ⟨rfl, rfl, he256⟩
 refine shW_env _ he256 ?_; clear he256
 refine shW_cond rfl (fun c257 => ?_) (fun c257 => ?_)
 · have r258 := bt r247 c257; clear r247
   refine wsr (oa rfl rfl (shO_nil ?_))
   refine kW kn ?_
   refine shW_ret (andThen_ret ?_)
   refine q_res1 Try.results11 (res_tmp rfl) (sr) ?_
   obtain rfl := inj1 r258
   exact rfl
 have r259 := bf r247 c257; clear r247
 refine shW_skip (wsr ?_)
 refine o_alloc rfl Try.zeroValue3 ?_; intro b260 hb260
 refine o_store (i := 0) Try.sizeOf3 rfl rfl rfl rfl (Nat.le_of_ble_eq_true rfl) ?_
 refine shO_L (L' := (b260, .cells #[.int .i64 0] 3 (0, 0)) :: ((b94, .cells #[.slice a104 n108 c105, .slice (some ⟨b93, 0, none⟩) 1 1] 26 (0, 0)) :: (Lb106 ++ (Lb98 ++ [])))) rfl ?_
 refine shO_nil ?_
 obtain ⟨met, h261, r262⟩ := b1_ok r259; clear r259
 refine shW_join (fun e1 F1 L1 => F234 = F1 ∧ L1 = [(b260, .cells #[.int .i64 met] 3 (0, 0))] ∧ e1.sub [(20, .int .i64 n6), (22, .pointer (some ⟨b260, 0, none⟩))]) ?_ ?_
 · clear r262
   refine wsr (om rfl rfl ?_)
   refine ov (v_lenS Try.underlying27 rfl) rfl ?_
   refine om rfl rfl (shO_nil ?_)
   refine shW_block ?_
   obtain ⟨g263, r264⟩ := gd_ok h261; clear h261
   refine shW_lp (fun fu7 e1 F1 L1 => ∃ (k8 : Int), Ctr 0 (at_7.length : Int) k8 fu7 ∧ ∃ (met2 : Int), oyezlaw05_NightChained_l7 w_listens asleep fu7 met2 = some met ∧ F234 = F1 ∧ L1 = ((b260, .cells #[.int .i64 met2] 3 (0, 0)) :: ((b94, .cells #[.slice a104 n108 c105, .slice (some ⟨b93, 0, none⟩) 1 1] 26 (0, 0)) :: (Lb106 ++ (Lb98 ++ [])))) ∧ e1.sub [(11, .pointer (some ⟨b94, 0, none⟩)), (19, .int .i64 asleep), (20, .int .i64 n6), (22, .pointer (some ⟨b260, 0, none⟩)), (133, .int .i64 (at_7.length : Int)), (134, .int .i64 k8)]) _ (m0 kr ⟨_, Ctr.start _ _, 0, r264, rfl, rfl, (sc rfl (sc rfl (sc rfl (sc rfl (sc rfl (sc rfl (sn _)))))))⟩) ?_
   rintro fu7 e1 _ _ ⟨k8, hk265, met2, r267, rfl, rfl, he268⟩
   refine shW_env _ he268 ?_; clear he268
   refine wsr ?_
   refine ov (v_lssK rfl rfl) rfl ?_
   refine shO_nil (shW_seq ?_)
   refine shW_condP rfl (fun c270 => ?_) (fun c270 => ?_)
   · obtain ⟨fu7, rfl, hk271⟩ := Ctr.succ hk265 c270
     rw [oyezlaw05_NightChained_l7] at r267
     refine shW_skip ?_
     obtain ⟨met3, h272, r273⟩ := b1_ok r267; clear r267
     refine shW_join (fun e1 F1 L1 => F234 = F1 ∧ L1 = ((b260, .cells #[.int .i64 met3] 3 (0, 0)) :: ((b94, .cells #[.slice a104 n108 c105, .slice (some ⟨b93, 0, none⟩) 1 1] 26 (0, 0)) :: (Lb106 ++ (Lb98 ++ [])))) ∧ e1.sub [(11, .pointer (some ⟨b94, 0, none⟩)), (19, .int .i64 asleep), (20, .int .i64 n6), (22, .pointer (some ⟨b260, 0, none⟩)), (133, .int .i64 (at_7.length : Int)), (134, .int .i64 k8)]) ?_ ?_
     · clear r273
       refine shW_block ?_
       refine wsr ?_
       refine ov (v_fieldAddr fa_26_0 rfl) rfl ?_
       refine ov (v_load Try.isAgg23 rfl (Has.own 1 rfl) rfl) rfl ?_
       refine ov ((v_lenS Try.underlying23 rfl).i (SlR.lenI hz107)) rfl ?_
       refine om rfl rfl (shO_nil ?_)
       refine shW_block ?_
       refine shW_lp (fun fu8 e1 F1 L1 => ∃ (tl7 : List (List Int)) (k9 : Int), tl7.length = fu8 ∧ Lst w_listens k9 tl7 ∧ ∃ (met4 : Int), oyezlaw05_NightChained_l8 asleep tl7 k9 met4 = some met3 ∧ F234 = F1 ∧ L1 = ((b260, .cells #[.int .i64 met4] 3 (0, 0)) :: ((b94, .cells #[.slice a104 n108 c105, .slice (some ⟨b93, 0, none⟩) 1 1] 26 (0, 0)) :: (Lb106 ++ (Lb98 ++ [])))) ∧ e1.sub [(11, .pointer (some ⟨b94, 0, none⟩)), (19, .int .i64 asleep), (20, .int .i64 n6), (22, .pointer (some ⟨b260, 0, none⟩)), (133, .int .i64 (at_7.length : Int)), (134, .int .i64 k8), (137, .slice a104 n108 c105), (138, .int .i64 (w_listens.length : Int)), (139, .int .i64 k9)]) _ (m0 kr ⟨_, _, rfl, Lst.start _, met2, h272, rfl, rfl, (sc rfl (sc rfl (sc rfl (sc rfl (sc rfl (sc rfl (sc rfl (sc rfl (sc rfl (sn _))))))))))⟩) ?_
       rintro fu8 e1 _ _ ⟨tl7, k9, hn275, hk274, met4, r276, rfl, rfl, he277⟩
       refine shW_env _ he277 ?_; clear he277
       refine wsr ?_
       refine ov (v_lssK rfl rfl) rfl ?_
       refine shO_nil (shW_seq ?_)
       refine shW_condP rfl (fun c279 => ?_) (fun c279 => ?_)
       · obtain ⟨x4, tl8, rfl, hx281, g282, hk280⟩ := Lst.succ hk274 c279
         rw [oyezlaw05_NightChained_l8] at r276
         refine shW_skip (shW_seq ?_)
         refine shW_block ?_
         refine wsr (om rfl rfl ?_)
         obtain ⟨b283, o284, c285, vs286, ha287, hs288, hle289, ⟨a292, c293, rfl, h294⟩, hl290, hc291⟩ := SlR.at (slE_ok (iE_ok _)) hz107 (L := (b260, .cells #[.int .i64 met4] 3 (0, 0)) :: ((b94, .cells #[.slice a104 n108 c105, .slice (some ⟨b93, 0, none⟩) 1 1] 26 (0, 0)) :: (Lb106 ++ (Lb98 ++ [])))) (fC (fC fP)) g282.1 hx281
         refine ov (v_indexO Try.underlying23 Try.sizeOf27 rfl ha287 rfl (SlR.idx hz107 g282)) rfl ?_
         refine ov (v_load Try.isAgg27 rfl hs288 (hc291 0 (by decide))) rfl ?_
         refine oa rfl rfl (oa rfl rfl (shO_nil ?_))
         obtain ⟨k10, h295, r296⟩ := b1_ok r276; clear r276
         refine shW_join (fun e1 F1 L1 => F234 = F1 ∧ L1 = ((b260, .cells #[.int .i64 met4] 3 (0, 0)) :: ((b94, .cells #[.slice a104 n108 c105, .slice (some ⟨b93, 0, none⟩) 1 1] 26 (0, 0)) :: (Lb106 ++ (Lb98 ++ [])))) ∧ e1.sub [(11, .pointer (some ⟨b94, 0, none⟩)), (19, .int .i64 asleep), (20, .int .i64 n6), (22, .pointer (some ⟨b260, 0, none⟩)), (23, .int .i64 k9), (133, .int .i64 (at_7.length : Int)), (134, .int .i64 k8), (137, .slice a104 n108 c105), (138, .int .i64 (w_listens.length : Int)), (139, .int .i64 k9), (158, .bool k10)]) ?_ ?_
         · clear r296
           refine shW_region (om rfl rfl (om rfl rfl ?_))
           obtain ⟨g297, r298⟩ := gd_ok h295; clear h295
           refine ov (v_shr rfl rfl g297) rfl ?_
           refine ov (v_and rfl rfl) rfl ?_
           refine ov (v_eql rfl rfl) rfl ?_
           refine om rfl rfl ?_
           by_cases c299 : (band (shr asleep k9) 1) = 0
           · have r300 := ite_t r298 c299; clear r298
             refine shO_on (b := true) 149 rfl (Env.isT rfl c299) (om rfl rfl (shO_on (b := true) 149 rfl (Env.isT rfl c299) ?_))
             refine ov (v_lenS Try.underlying27 rfl) rfl ?_
             refine shO_on (b := true) 149 rfl (Env.isT rfl c299) ?_
             refine ov (v_eql rfl rfl) rfl ?_
             refine shO_on (b := true) 149 rfl (Env.isT rfl c299) (om rfl rfl ?_)
             by_cases c301 : (x4.length : Int) = 0
             · have r302 := ite_t r300 c301; clear r300
               refine shO_off (b' := true) 153 rfl (Env.isT rfl c301) rfl rfl (shO_off (b' := true) 153 rfl (Env.isT rfl c301) rfl rfl (shO_off (b' := true) 153 rfl (Env.isT rfl c301) rfl rfl (shO_on (b := true) 149 rfl (Env.isT rfl c299) ?_)))
               refine ov (v_pick_t (evD_true rfl c301) rfl) rfl ?_
               refine ov (v_pick_t (evD_true rfl c299) rfl) rfl ?_
               refine shO_nil ?_
               obtain rfl := inj1 r302
               exact mi kr ⟨rfl, rfl, (sc rfl (sc rfl (sc rfl (sc rfl (sc rfl (sc rfl (sc rfl (sc rfl (sc rfl (sc rfl (sc rfl (sn _))))))))))))⟩
             have r303 := ite_f r300 c301; clear r300
             refine shO_on (b := false) 153 rfl (Env.isF rfl c301) (om rfl rfl (shO_on (b := false) 153 rfl (Env.isF rfl c301) ?_))
             refine ov (v_makeFunc rfl rfl) rfl ?_
             refine shO_on (b := false) 153 rfl (Env.isF rfl c301) ?_
             obtain ⟨ok, h304, r305⟩ := b1_ok r303; clear r303
             refine o_callT (Lt := [(b260, .cells #[.int .i64 met4] 3 (0, 0))]) (Lr := (b94, .cells #[.slice a104 n108 c105, .slice (some ⟨b93, 0, none⟩) 1 1] 26 (0, 0)) :: (Lb106 ++ (Lb98 ++ []))) rfl Try.call38 rfl rfl rfl (pR) (fun F2 h2 h3 => by exact slices_ContainsFunc_int_int_w (h294.mono (iE_ok _) h2) (show FnR Try.prog F2 54 #[] #[.pointer (some ⟨b260, 0, none⟩)] (iE .i64) Value.bool (fun xx_ : Int => oyezlaw05_NightChained_1 xx_ met4) from ⟨Try.call54, fun F3 h4 vs xx_ r ha hr => by obtain rfl := ha; exact oyezlaw05_NightChained_1_w (h4 _ _ (h3 (b260, .cells #[.int .i64 met4] 3 (0, 0)) (List.mem_cons_self ..))) hr⟩) h304) ?_
             refine shO_on (b := true) 149 rfl (Env.isT rfl c299) ?_
             refine ov (v_pick_f (evD_false rfl c301) rfl) rfl ?_
             refine ov (v_pick_t (evD_true rfl c299) rfl) rfl ?_
             refine shO_nil ?_
             obtain rfl := inj1 r305
             exact mi kr ⟨rfl, rfl, (sc rfl (sc rfl (sc rfl (sc rfl (sc rfl (sc rfl (sc rfl (sc rfl (sc rfl (sc rfl (sc rfl (sn _))))))))))))⟩
           have r306 := ite_f r298 c299; clear r298
           refine shO_off (b' := false) 149 rfl (Env.isF rfl c299) rfl rfl (shO_off (b' := false) 149 rfl (Env.isF rfl c299) rfl rfl (shO_off (b' := false) 149 rfl (Env.isF rfl c299) rfl rfl (shO_off (b' := false) 149 rfl (Env.isF rfl c299) rfl rfl (shO_offU 153 rfl rfl rfl (shO_offU 153 rfl rfl rfl (shO_offU 153 rfl rfl rfl (shO_off (b' := false) 149 rfl (Env.isF rfl c299) rfl rfl ?_)))))))
           refine ov (v_pick_f (evD_false rfl c299) rfl) rfl ?_
           refine shO_nil ?_
           obtain rfl := inj1 r306
           exact mi kr ⟨rfl, rfl, (sc rfl (sc rfl (sc rfl (sc rfl (sc rfl (sc rfl (sc rfl (sc rfl (sc rfl (sc rfl (sc rfl (sn _))))))))))))⟩
         rintro e1 _ _ ⟨rfl, rfl, he307⟩
         refine shW_env _ he307 ?_; clear he307
         refine shW_cond rfl (fun c308 => ?_) (fun c308 => ?_)
         · have r309 := bt r296 c308; clear r296
           refine shW_drawM [(.still, 0), (.still, 1), (.still, 2), (.still, 3), (.seq, 4)] (by kernel_rfl) (by kernel_rfl) (trivial) (by rfl) (by kernel_rfl) ?_
           refine shM_v (v := .int .i64 met4) (ek := [(22, .pointer (some ⟨b260, 0, none⟩))]) (Ls := [(b260, .cells #[.int .i64 met4] 3 (0, 0))]) rfl rfl rfl rfl ((sc rfl (sn _))) (by kernel_rfl) (s0 (s2 (s1 (s3 (s3 sr))))) (fun H F' L' hF' hL' => v_load Try.isAgg3 rfl ((Has.own 0 rfl).ext hF' hL') rfl) ?_
           refine shM_v (v := .int .i64 k9) (ek := [(23, .int .i64 k9)]) (Ls := []) rfl rfl rfl rfl ((sc rfl (sn _))) (by kernel_rfl) sm (fun H F' L' hF' hL' => v_move rfl) ?_
           obtain ⟨g310, r311⟩ := gd_ok r309; clear r309
           refine shM_v (v := .int .i64 (shl 1 k9)) (ek := [(160, .int .i64 k9)]) (Ls := []) rfl rfl rfl rfl ((sc rfl (sn _))) (by kernel_rfl) sm (fun H F' L' hF' hL' => v_shl rfl rfl g310) ?_
           refine shM_v (v := .int .i64 (bor met4 (shl 1 k9))) (ek := [(159, .int .i64 met4), (161, .int .i64 (shl 1 k9))]) (Ls := []) rfl rfl rfl rfl ((sc rfl (sc rfl (sn _)))) (by kernel_rfl) sm (fun H F' L' hF' hL' => v_or rfl rfl) ?_
           refine ⟨_, [(22, .pointer (some ⟨b260, 0, none⟩)), (162, .int .i64 (bor met4 (shl 1 k9)))], rfl, rfl, (sc rfl (sc rfl (sn _))), by kernel_rfl, ?_⟩; intro H
           refine o_store (i := 0) Try.sizeOf3 rfl rfl rfl rfl (Nat.le_of_ble_eq_true rfl) ?_
           refine shO_L (L' := (b260, .cells #[.int .i64 (bor met4 (shl 1 k9))] 3 (0, 0)) :: ((b94, .cells #[.slice a104 n108 c105, .slice (some ⟨b93, 0, none⟩) 1 1] 26 (0, 0)) :: (Lb106 ++ (Lb98 ++ [])))) rfl ?_
           refine shO_nil ⟨undef, rfl, FExt.refl _, [], by kernel_rfl, .inl (.inl rfl), (fun _ h => absurd h List.not_mem_nil), ?_⟩
           refine shM_nil ?_
           refine inBlock_n (id := 9) (shW_region ?_)
           refine ov (v_add rfl rfl (Lst.r64 hk274 c279 (SlR.llt hz107))) rfl ?_
           refine om rfl rfl (shO_nil ?_)
           subst hn275; exact le kr ⟨_, _, rfl, hk280, bor met4 (shl 1 k9), r311, rfl, rfl, (sc rfl (sc rfl (sc rfl (sc rfl (sc rfl (sc rfl (sc rfl (sc rfl (sc rfl (sn _))))))))))⟩
         have r312 := bf r296 c308; clear r296
         refine shW_skip (inBlock_n (id := 9) (shW_region ?_))
         refine ov (v_add rfl rfl (Lst.r64 hk274 c279 (SlR.llt hz107))) rfl ?_
         refine om rfl rfl (shO_nil ?_)
         subst hn275; exact le kr ⟨_, _, rfl, hk280, met4, r312, rfl, rfl, (sc rfl (sc rfl (sc rfl (sc rfl (sc rfl (sc rfl (sc rfl (sc rfl (sc rfl (sn _))))))))))⟩
       obtain rfl := Lst.zero hk274 c279
       rw [oyezlaw05_NightChained_l8] at r276
       refine shW_exit (andThen_exit (andThen_exit ?_))
       refine inBlock_exit ?_
       refine inBlock_n (id := 7) ?_
       obtain rfl := inj1 r276
       exact mi kr ⟨rfl, rfl, (sc rfl (sc rfl (sc rfl (sc rfl (sc rfl (sc rfl (sn _)))))))⟩
     rintro e1 _ _ ⟨rfl, rfl, he313⟩
     refine shW_env _ he313 ?_; clear he313
     refine shW_region ?_
     refine ov (v_add rfl rfl (Ctr.r64 hk265 c270 g263)) rfl ?_
     refine om rfl rfl (shO_nil ?_)
     exact le kr ⟨_, hk271, met3, r273, rfl, rfl, (sc rfl (sc rfl (sc rfl (sc rfl (sc rfl (sc rfl (sn _)))))))⟩
   obtain rfl := Ctr.zero hk265 c270
   rw [oyezlaw05_NightChained_l7] at r267
   refine shW_exit (andThen_exit (andThen_exit ?_))
   refine inBlock_exit ?_
   obtain rfl := inj1 r267
   exact mi (kc kn) ⟨rfl, rfl, (sc rfl (sc rfl (sn _)))⟩
 rintro e1 _ _ ⟨rfl, rfl, he314⟩
 refine shW_env _ he314 ?_; clear he314
 refine wsr (om rfl rfl ?_)
 refine ov (v_load Try.isAgg3 rfl (Has.own 0 rfl) rfl) rfl ?_
 refine ov (v_eql rfl rfl) rfl ?_
 refine om rfl rfl ?_
 by_cases c315 : n6 = met
 · have r316 := ite_t r262 c315; clear r262
   refine shO_on (b := true) 168 rfl (Env.isT rfl c315) ?_
   obtain ⟨ok2, h317, r318⟩ := b1_ok r316; clear r316
   refine o_callV rfl Try.call18 rfl rfl rfl (oyezlaw05_awake_w h317) ?_
   refine ov (v_pick_t (evD_true rfl c315) rfl) rfl ?_
   refine oa rfl rfl (shO_nil ?_)
   refine kW kn ?_
   refine shW_ret ?_
   refine q_res1 Try.results11 (res_tmp rfl) (sr) ?_
   obtain rfl := inj1 r318
   exact rfl
 have r319 := ite_f r262 c315; clear r262
 refine shO_off (b' := false) 168 rfl (Env.isF rfl c315) rfl rfl ?_
 refine ov (v_pick_f (evD_false rfl c315) rfl) rfl ?_
 refine oa rfl rfl (shO_nil ?_)
 refine kW kn ?_
 refine shW_ret ?_
 refine q_res1 Try.results11 (res_tmp rfl) (sr) ?_
 obtain rfl := inj1 r319
 exact rfl
end Go.Proofs.Ytjgeaaganpkceaa
