/- The walks that this claim needs, printed by a program of mine; part 3. -/
import Derived.Test.YtodhcoakjlmcdaaZCNC2
namespace Go.Proofs.Ytodhcoakjlmcdaa
open Go.SH Go.PL
set_option maxHeartbeats 1000000 in
theorem oyezlaw07_awake_w {F : FS} {r : Bool} (hr : oyezlaw07_awake = some r) :
    SpecV Try.prog 16 #[] F (.bool r) := by
 refine spec_of_shW (args := []) Try.func16 rfl Try.ntmps16 (Nat.le_of_ble_eq_true rfl) ?_
 intro K _ _; rw [oyezlaw07_awake] at hr
 refine wsr (oa rfl rfl (nsr ?_))
 obtain ⟨n, n2, l, l2, l3, h1, r2⟩ := b5_ok hr; clear hr
 refine o_call0 rfl Try.call45 rfl rfl rfl (oyezlaw07_Bell_w h1) ?_; rintro _ F3 _ hF4 hn5 ⟨a7, n11, c8, Lb9, a13, n17, c14, Lb15, a19, n23, c20, Lb21, rfl, rfl, hz10, hz16, hz22⟩
 replace hz10 := hz10.new fun p hp => hn5 p (by simp [hp])
 replace hz16 := hz16.new fun p hp => hn5 p (by simp [hp])
 replace hz22 := hz22.new fun p hp => hn5 p (by simp [hp])
 refine shO_L (lp (lp (lp (ln rfl)))) ?_
 obtain ⟨n3, n4, h25, r26⟩ := b2_ok r2; clear r2
 refine o_callT (Lt := Lb9 ++ (Lb15 ++ (Lb21 ++ []))) (Lr := []) rfl Try.call14 rfl rfl rfl (pT pR (lp (lp (lp (ln rfl))))) (fun F2 h2 h3 => by rw [(SlR.caps hz10).1]; rw [(SlR.caps hz16).1]; rw [(SlR.caps hz22).1]; exact book_Count_w (hz10.row (slE_ok (slE_ok (iE_ok _))) h2 (fun p hp => h3 p (List.mem_append_left _ hp))) (hz16.row (iE_ok _) h2 (fun p hp => h3 p (List.mem_append_right _ (List.mem_append_left _ hp)))) (hz22.row (prE_ok (iE_ok _) (prE_ok (iE_ok _) (iE_ok _))) h2 (fun p hp => h3 p (List.mem_append_right _ (List.mem_append_right _ (List.mem_append_left _ hp))))) h25) ?_
 refine om rfl rfl (ox rfl rfl rfl (ox rfl rfl rfl (oa rfl rfl (oa rfl rfl (nsr ?_)))))
 obtain ⟨n5, n6, l4, l5, l6, h27, r28⟩ := b5_ok r26; clear r26
 refine o_call0 rfl Try.call45 rfl rfl rfl (oyezlaw07_Bell_w h27) ?_; rintro _ F29 _ hF30 hn31 ⟨a33, n37, c34, Lb35, a39, n43, c40, Lb41, a45, n49, c46, Lb47, rfl, rfl, hz36, hz42, hz48⟩
 replace hz36 := hz36.new fun p hp => hn31 p (by simp [hp])
 replace hz42 := hz42.new fun p hp => hn31 p (by simp [hp])
 replace hz48 := hz48.new fun p hp => hn31 p (by simp [hp])
 refine shO_L (lp (lp (lp (ln rfl)))) ?_
 obtain ⟨l7, n7, h51, r52⟩ := b2_ok r28; clear r28
 refine o_callTO (Lb := []) (Lt := Lb35 ++ (Lb41 ++ (Lb47 ++ []))) (Lr := Lb9 ++ (Lb15 ++ (Lb21 ++ []))) rfl Try.call17 rfl rfl rfl (pT pR (ln (lp (lp (lp (ln rfl)))))) (fun F2 h2 h3 => by rw [(SlR.caps hz36).1]; rw [(SlR.caps hz42).1]; rw [(SlR.caps hz48).1]; exact book_First_w (hz36.row (slE_ok (slE_ok (iE_ok _))) h2 (fun p hp => h3 p (List.mem_append_left _ hp))) (hz42.row (iE_ok _) h2 (fun p hp => h3 p (List.mem_append_right _ (List.mem_append_left _ hp)))) (hz48.row (prE_ok (iE_ok _) (prE_ok (iE_ok _) (iE_ok _))) h2 (fun p hp => h3 p (List.mem_append_right _ (List.mem_append_right _ (List.mem_append_left _ hp))))) h51) (fun _ _ _ _ hq => by obtain ⟨a57, n61, c58, Lb59, rfl, rfl, hz60⟩ := hq; exact ⟨_, _, _, _, rfl, rfl, hz60.flat (fun _ _ h => h)⟩) ?_; rintro _ F53 _ hF54 hd56 hn55 ⟨a57, n61, c58, Lb59, rfl, rfl, hz60⟩
 have hn63 := newp (Lb' := []) (by rfl) hd56 hn55
 replace hz60 := hz60.new fun p hp => hn63 p (by simp [hp])
 refine shO_L (lp (ln (lp (lp (lp (ln rfl)))))) ?_
 refine om rfl rfl (ox rfl rfl rfl (ox rfl rfl rfl (oa rfl rfl (oa rfl rfl (nsr ?_)))))
 obtain ⟨n8, n9, l8, l9, l10, h64, r65⟩ := b5_ok r52; clear r52
 refine o_call0 rfl Try.call45 rfl rfl rfl (oyezlaw07_Bell_w h64) ?_; rintro _ F66 _ hF67 hn68 ⟨a70, n74, c71, Lb72, a76, n80, c77, Lb78, a82, n86, c83, Lb84, rfl, rfl, hz73, hz79, hz85⟩
 replace hz60 := hz60.mono (iE_ok _) hF67
 replace hz73 := hz73.new fun p hp => hn68 p (by simp [hp])
 replace hz79 := hz79.new fun p hp => hn68 p (by simp [hp])
 replace hz85 := hz85.new fun p hp => hn68 p (by simp [hp])
 refine shO_L (lp (lp (lp (ln rfl)))) ?_
 obtain rfl := (SlR.caps hz73).1
 refine shO_freezeR (Nat.le_refl _) (slE_ok (slE_ok (iE_ok _))) fP hz73 ?_; intro F88 hF89 h90
 replace hz60 := hz60.mono (iE_ok _) hF89
 replace hz79 := hz79.mono (iE_ok _) hF89
 replace hz85 := hz85.mono (prE_ok (iE_ok _) (prE_ok (iE_ok _) (iE_ok _))) hF89
 obtain rfl := (SlR.caps hz79).1
 refine shO_freezeR (Nat.le_refl _) (iE_ok _) fP hz79 ?_; intro F91 hF92 h93
 replace h90 := h90.mono (slE_ok (slE_ok (iE_ok _))) hF92
 replace hz60 := hz60.mono (iE_ok _) hF92
 replace hz85 := hz85.mono (prE_ok (iE_ok _) (prE_ok (iE_ok _) (iE_ok _))) hF92
 obtain rfl := (SlR.caps hz85).1
 refine shO_freezeR (Nat.le_refl _) (prE_ok (iE_ok _) (prE_ok (iE_ok _) (iE_ok _))) fP hz85 ?_; intro F94 hF95 h96
 replace h90 := h90.mono (slE_ok (slE_ok (iE_ok _))) hF95
 replace h93 := h93.mono (iE_ok _) hF95
 replace hz60 := hz60.mono (iE_ok _) hF95
 obtain ⟨l11, n10, h97, r98⟩ := b2_ok r65; clear r65
 refine o_call0 rfl Try.call13 rfl rfl rfl (book_Verdicts_w h90 h93 h96 h97) ?_; rintro _ F99 _ hF100 hn101 ⟨a103, c104, rfl, rfl, h105⟩
 replace hz60 := hz60.mono (iE_ok _) hF100
 refine shO_L (ln rfl) ?_
 refine om rfl rfl (ox rfl rfl rfl (ox rfl rfl rfl (oa rfl rfl (oa rfl rfl (nsr ?_)))))
 obtain ⟨n11, n12, l12, l13, l14, h106, r107⟩ := b5_ok r98; clear r98
 refine o_call0 rfl Try.call45 rfl rfl rfl (oyezlaw07_Bell_w h106) ?_; rintro _ F108 _ hF109 hn110 ⟨a112, n116, c113, Lb114, a118, n122, c119, Lb120, a124, n128, c125, Lb126, rfl, rfl, hz115, hz121, hz127⟩
 replace h105 := h105.mono (slE_ok (iE_ok _)) hF109
 replace hz60 := hz60.mono (iE_ok _) hF109
 replace hz115 := hz115.new fun p hp => hn110 p (by simp [hp])
 replace hz121 := hz121.new fun p hp => hn110 p (by simp [hp])
 replace hz127 := hz127.new fun p hp => hn110 p (by simp [hp])
 refine shO_L (lp (lp (lp (ln rfl)))) ?_
 obtain rfl := (SlR.caps hz115).1
 refine shO_freezeR (Nat.le_refl _) (slE_ok (slE_ok (iE_ok _))) fP hz115 ?_; intro F130 hF131 h132
 replace h105 := h105.mono (slE_ok (iE_ok _)) hF131
 replace hz60 := hz60.mono (iE_ok _) hF131
 replace hz121 := hz121.mono (iE_ok _) hF131
 replace hz127 := hz127.mono (prE_ok (iE_ok _) (prE_ok (iE_ok _) (iE_ok _))) hF131
 obtain rfl := (SlR.caps hz121).1
 refine shO_freezeR (Nat.le_refl _) (iE_ok _) fP hz121 ?_; intro F133 hF134 h135
 replace h105 := h105.mono (slE_ok (iE_ok _)) hF134
 replace h132 := h132.mono (slE_ok (slE_ok (iE_ok _))) hF134
 replace hz60 := hz60.mono (iE_ok _) hF134
 replace hz127 := hz127.mono (prE_ok (iE_ok _) (prE_ok (iE_ok _) (iE_ok _))) hF134
 obtain rfl := (SlR.caps hz127).1
 refine shO_freezeR (Nat.le_refl _) (prE_ok (iE_ok _) (prE_ok (iE_ok _) (iE_ok _))) fP hz127 ?_; intro F136 hF137 h138
 replace h105 := h105.mono (slE_ok (iE_ok _)) hF137
 replace h132 := h132.mono (slE_ok (slE_ok (iE_ok _))) hF137
 replace h135 := h135.mono (iE_ok _) hF137
 replace hz60 := hz60.mono (iE_ok _) hF137
 obtain ⟨l15, n13, h139, r140⟩ := b2_ok r107; clear r107
 refine o_call0 rfl Try.call15 rfl rfl rfl (book_Winds_w h132 h135 h138 h139) ?_; rintro _ F141 _ hF142 hn143 ⟨a145, n149, c146, Lb147, rfl, rfl, hz148⟩
 replace h105 := h105.mono (slE_ok (iE_ok _)) hF142
 replace hz60 := hz60.mono (iE_ok _) hF142
 replace hz148 := hz148.new fun p hp => hn143 p (by simp [hp])
 refine shO_L (lp (ln rfl)) ?_
 refine om rfl rfl (ox rfl rfl rfl (ox rfl rfl rfl (oa rfl rfl (oa rfl rfl (shO_nil (shW_seq ?_))))))
 obtain ⟨k, h151, r152⟩ := b1_ok r140; clear r140
 refine shW_join (fun e1 F1 L1 => FExt F141 F1 ∧ L1 = [] ∧ e1.sub [(73, .bool k)]) ?_ ?_
 · clear r152
   refine shW_region (om rfl rfl ?_)
   refine ov (v_neq rfl rfl) rfl ?_
   refine om rfl rfl ?_
   by_cases c153 : n4 ≠ 0
   · have r154 := ite_t h151 c153; clear h151
     refine shO_off (b' := true) 35 rfl (Env.isT rfl c153) rfl rfl (shO_off (b' := true) 35 rfl (Env.isT rfl c153) rfl rfl ?_)
     refine ov (v_pick_t (evD_true rfl c153) rfl) rfl ?_
     refine om rfl rfl (shO_off (b' := true) 39 rfl rfl rfl rfl (shO_off (b' := true) 39 rfl rfl rfl rfl ?_))
     refine ov (v_pick_t rfl rfl) rfl ?_
     refine om rfl rfl (shO_off (b' := true) 43 rfl rfl rfl rfl (shO_off (b' := true) 43 rfl rfl rfl rfl ?_))
     refine ov (v_pick_t rfl rfl) rfl ?_
     refine om rfl rfl (shO_off (b' := true) 47 rfl rfl rfl rfl (shO_off (b' := true) 47 rfl rfl rfl rfl ?_))
     refine ov (v_pick_t rfl rfl) rfl ?_
     refine om rfl rfl (shO_off (b' := true) 51 rfl rfl rfl rfl (shO_off (b' := true) 51 rfl rfl rfl rfl (shO_off (b' := true) 51 rfl rfl rfl rfl (shO_off (b' := true) 51 rfl rfl rfl rfl ?_))))
     refine ov (v_pick_t rfl rfl) rfl ?_
     refine om rfl rfl (shO_off (b' := true) 57 rfl rfl rfl rfl (shO_off (b' := true) 57 rfl rfl rfl rfl (shO_off (b' := true) 57 rfl rfl rfl rfl (shO_off (b' := true) 57 rfl rfl rfl rfl (shO_off (b' := true) 57 rfl rfl rfl rfl (shO_off (b' := true) 57 rfl rfl rfl rfl ?_))))))
     refine ov (v_pick_t rfl rfl) rfl ?_
     refine om rfl rfl (shO_off (b' := true) 65 rfl rfl rfl rfl (shO_off (b' := true) 65 rfl rfl rfl rfl (shO_off (b' := true) 65 rfl rfl rfl rfl (shO_off (b' := true) 65 rfl rfl rfl rfl (shO_off (b' := true) 65 rfl rfl rfl rfl (shO_off (b' := true) 65 rfl rfl rfl rfl (shO_off (b' := true) 65 rfl rfl rfl rfl ?_)))))))
     refine ov (v_pick_t rfl rfl) rfl ?_
     refine shO_nil ?_
     obtain rfl := inj1 r154
     exact mi kn ⟨FExt.refl _, rfl, (sc rfl (sn _))⟩
   have r155 := ite_f h151 c153; clear h151
   refine shO_on (b := false) 35 rfl (Env.isF rfl c153) (om rfl rfl (shO_on (b := false) 35 rfl (Env.isF rfl c153) ?_))
   refine ov (v_neq rfl rfl) rfl ?_
   refine ov (v_pick_f (evD_false rfl c153) rfl) rfl ?_
   refine om rfl rfl ?_
   by_cases c156 : n7 ≠ 0
   · have r157 := ite_t r155 c156; clear r155
     refine shO_off (b' := true) 39 rfl (Env.isT rfl c156) rfl rfl (shO_off (b' := true) 39 rfl (Env.isT rfl c156) rfl rfl ?_)
     refine ov (v_pick_t (evD_true rfl c156) rfl) rfl ?_
     refine om rfl rfl (shO_off (b' := true) 43 rfl rfl rfl rfl (shO_off (b' := true) 43 rfl rfl rfl rfl ?_))
     refine ov (v_pick_t rfl rfl) rfl ?_
     refine om rfl rfl (shO_off (b' := true) 47 rfl rfl rfl rfl (shO_off (b' := true) 47 rfl rfl rfl rfl ?_))
     refine ov (v_pick_t rfl rfl) rfl ?_
     refine om rfl rfl (shO_off (b' := true) 51 rfl rfl rfl rfl (shO_off (b' := true) 51 rfl rfl rfl rfl (shO_off (b' := true) 51 rfl rfl rfl rfl (shO_off (b' := true) 51 rfl rfl rfl rfl ?_))))
     refine ov (v_pick_t rfl rfl) rfl ?_
     refine om rfl rfl (shO_off (b' := true) 57 rfl rfl rfl rfl (shO_off (b' := true) 57 rfl rfl rfl rfl (shO_off (b' := true) 57 rfl rfl rfl rfl (shO_off (b' := true) 57 rfl rfl rfl rfl (shO_off (b' := true) 57 rfl rfl rfl rfl (shO_off (b' := true) 57 rfl rfl rfl rfl ?_))))))
     refine ov (v_pick_t rfl rfl) rfl ?_
     refine om rfl rfl (shO_off (b' := true) 65 rfl rfl rfl rfl (shO_off (b' := true) 65 rfl rfl rfl rfl (shO_off (b' := true) 65 rfl rfl rfl rfl (shO_off (b' := true) 65 rfl rfl rfl rfl (shO_off (b' := true) 65 rfl rfl rfl rfl (shO_off (b' := true) 65 rfl rfl rfl rfl (shO_off (b' := true) 65 rfl rfl rfl rfl ?_)))))))
     refine ov (v_pick_t rfl rfl) rfl ?_
     refine shO_nil ?_
     obtain rfl := inj1 r157
     exact mi kn ⟨FExt.refl _, rfl, (sc rfl (sn _))⟩
   have r158 := ite_f r155 c156; clear r155
   refine shO_on (b := false) 39 rfl (Env.isF rfl c156) (om rfl rfl (shO_on (b := false) 39 rfl (Env.isF rfl c156) ?_))
   refine ov (v_neq rfl rfl) rfl ?_
   refine ov (v_pick_f (evD_false rfl c156) rfl) rfl ?_
   refine om rfl rfl ?_
   by_cases c159 : n10 ≠ 0
   · have r160 := ite_t r158 c159; clear r158
     refine shO_off (b' := true) 43 rfl (Env.isT rfl c159) rfl rfl (shO_off (b' := true) 43 rfl (Env.isT rfl c159) rfl rfl ?_)
     refine ov (v_pick_t (evD_true rfl c159) rfl) rfl ?_
     refine om rfl rfl (shO_off (b' := true) 47 rfl rfl rfl rfl (shO_off (b' := true) 47 rfl rfl rfl rfl ?_))
     refine ov (v_pick_t rfl rfl) rfl ?_
     refine om rfl rfl (shO_off (b' := true) 51 rfl rfl rfl rfl (shO_off (b' := true) 51 rfl rfl rfl rfl (shO_off (b' := true) 51 rfl rfl rfl rfl (shO_off (b' := true) 51 rfl rfl rfl rfl ?_))))
     refine ov (v_pick_t rfl rfl) rfl ?_
     refine om rfl rfl (shO_off (b' := true) 57 rfl rfl rfl rfl (shO_off (b' := true) 57 rfl rfl rfl rfl (shO_off (b' := true) 57 rfl rfl rfl rfl (shO_off (b' := true) 57 rfl rfl rfl rfl (shO_off (b' := true) 57 rfl rfl rfl rfl (shO_off (b' := true) 57 rfl rfl rfl rfl ?_))))))
     refine ov (v_pick_t rfl rfl) rfl ?_
     refine om rfl rfl (shO_off (b' := true) 65 rfl rfl rfl rfl (shO_off (b' := true) 65 rfl rfl rfl rfl (shO_off (b' := true) 65 rfl rfl rfl rfl (shO_off (b' := true) 65 rfl rfl rfl rfl (shO_off (b' := true) 65 rfl rfl rfl rfl (shO_off (b' := true) 65 rfl rfl rfl rfl (shO_off (b' := true) 65 rfl rfl rfl rfl ?_)))))))
     refine ov (v_pick_t rfl rfl) rfl ?_
     refine shO_nil ?_
     obtain rfl := inj1 r160
     exact mi kn ⟨FExt.refl _, rfl, (sc rfl (sn _))⟩
   have r161 := ite_f r158 c159; clear r158
   refine shO_on (b := false) 43 rfl (Env.isF rfl c159) (om rfl rfl (shO_on (b := false) 43 rfl (Env.isF rfl c159) ?_))
   refine ov (v_neq rfl rfl) rfl ?_
   refine ov (v_pick_f (evD_false rfl c159) rfl) rfl ?_
   refine om rfl rfl ?_
   by_cases c162 : n13 ≠ 0
   · have r163 := ite_t r161 c162; clear r161
     refine shO_off (b' := true) 47 rfl (Env.isT rfl c162) rfl rfl (shO_off (b' := true) 47 rfl (Env.isT rfl c162) rfl rfl ?_)
     refine ov (v_pick_t (evD_true rfl c162) rfl) rfl ?_
     refine om rfl rfl (shO_off (b' := true) 51 rfl rfl rfl rfl (shO_off (b' := true) 51 rfl rfl rfl rfl (shO_off (b' := true) 51 rfl rfl rfl rfl (shO_off (b' := true) 51 rfl rfl rfl rfl ?_))))
     refine ov (v_pick_t rfl rfl) rfl ?_
     refine om rfl rfl (shO_off (b' := true) 57 rfl rfl rfl rfl (shO_off (b' := true) 57 rfl rfl rfl rfl (shO_off (b' := true) 57 rfl rfl rfl rfl (shO_off (b' := true) 57 rfl rfl rfl rfl (shO_off (b' := true) 57 rfl rfl rfl rfl (shO_off (b' := true) 57 rfl rfl rfl rfl ?_))))))
     refine ov (v_pick_t rfl rfl) rfl ?_
     refine om rfl rfl (shO_off (b' := true) 65 rfl rfl rfl rfl (shO_off (b' := true) 65 rfl rfl rfl rfl (shO_off (b' := true) 65 rfl rfl rfl rfl (shO_off (b' := true) 65 rfl rfl rfl rfl (shO_off (b' := true) 65 rfl rfl rfl rfl (shO_off (b' := true) 65 rfl rfl rfl rfl (shO_off (b' := true) 65 rfl rfl rfl rfl ?_)))))))
     refine ov (v_pick_t rfl rfl) rfl ?_
     refine shO_nil ?_
     obtain rfl := inj1 r163
     exact mi kn ⟨FExt.refl _, rfl, (sc rfl (sn _))⟩
   have r164 := ite_f r161 c162; clear r161
   refine shO_on (b := false) 47 rfl (Env.isF rfl c162) (om rfl rfl (shO_on (b := false) 47 rfl (Env.isF rfl c162) ?_))
   refine ov (v_neq rfl rfl) rfl ?_
   refine ov (v_pick_f (evD_false rfl c162) rfl) rfl ?_
   refine om rfl rfl ?_
   by_cases c165 : n3 ≠ 4
   · have r166 := ite_t r164 c165; clear r164
     refine shO_off (b' := true) 51 rfl (Env.isT rfl c165) rfl rfl (shO_off (b' := true) 51 rfl (Env.isT rfl c165) rfl rfl (shO_off (b' := true) 51 rfl (Env.isT rfl c165) rfl rfl (shO_off (b' := true) 51 rfl (Env.isT rfl c165) rfl rfl ?_)))
     refine ov (v_pick_t (evD_true rfl c165) rfl) rfl ?_
     refine om rfl rfl (shO_off (b' := true) 57 rfl rfl rfl rfl (shO_off (b' := true) 57 rfl rfl rfl rfl (shO_off (b' := true) 57 rfl rfl rfl rfl (shO_off (b' := true) 57 rfl rfl rfl rfl (shO_off (b' := true) 57 rfl rfl rfl rfl (shO_off (b' := true) 57 rfl rfl rfl rfl ?_))))))
     refine ov (v_pick_t rfl rfl) rfl ?_
     refine om rfl rfl (shO_off (b' := true) 65 rfl rfl rfl rfl (shO_off (b' := true) 65 rfl rfl rfl rfl (shO_off (b' := true) 65 rfl rfl rfl rfl (shO_off (b' := true) 65 rfl rfl rfl rfl (shO_off (b' := true) 65 rfl rfl rfl rfl (shO_off (b' := true) 65 rfl rfl rfl rfl (shO_off (b' := true) 65 rfl rfl rfl rfl ?_)))))))
     refine ov (v_pick_t rfl rfl) rfl ?_
     refine shO_nil ?_
     obtain rfl := inj1 r166
     exact mi kn ⟨FExt.refl _, rfl, (sc rfl (sn _))⟩
   have r167 := ite_f r164 c165; clear r164
   refine shO_on (b := false) 51 rfl (Env.isF rfl c165) (om rfl rfl (shO_on (b := false) 51 rfl (Env.isF rfl c165) ?_))
   refine o_buildSlice (cs := #[.int .i64 1, .int .i64 2, .int .i64 3]) rfl rfl (buildSlice_all slt_24 [.int .i64 1, .int .i64 2, .int .i64 3] rfl (by decide) (by simp [Value.cells]) (by decide)) ?_; intro b168 hb168
   refine shO_on (b := false) 51 rfl (Env.isF rfl c165) ?_
   refine shO_freeze 0 rfl hb168 ?_; intro F169 hF170 hz171
   refine shO_L (L' := Lb147 ++ (Lb59 ++ (Lb35 ++ (Lb41 ++ (Lb47 ++ (Lb9 ++ (Lb15 ++ (Lb21 ++ [])))))))) rfl ?_
   replace h105 := h105.mono (slE_ok (iE_ok _)) hF170
   replace hz60 := hz60.mono (iE_ok _) hF170
   replace hz148 := hz148.mono (slE_ok (iE_ok _)) hF170
   have h172 : RowR 1 (iE .i64) F169 (some ⟨b168, 0, none⟩) 3 [1, 2, 3] := RowR.of_block (iE_ok _) (vss := [[.int .i64 1], [.int .i64 2], [.int .i64 3]]) (xs := [1, 2, 3]) hz171 (.cons rfl (.cons rfl (.cons rfl .nil))) rfl (by simp [maxLen])
   obtain ⟨ok, h173, r174⟩ := b1_ok r167; clear r167
   refine o_callT (Lt := Lb59 ++ []) (Lr := Lb147 ++ (Lb35 ++ (Lb41 ++ (Lb47 ++ (Lb9 ++ (Lb15 ++ (Lb21 ++ []))))))) rfl Try.call46 rfl rfl rfl (pT ((fS fP).trans (pA pR)) (lp (ln rfl))) (fun F2 h2 h3 => by rw [(SlR.caps hz60).1]; exact oyezkit_Like_int_w (hz60.row (iE_ok _) h2 (fun p hp => h3 p (List.mem_append_left _ hp))) (h172.mono (iE_ok _) h2) h173) ?_
   refine shO_on (b := false) 51 rfl (Env.isF rfl c165) ?_
   refine ov (v_notB rfl) rfl ?_
   refine ov (v_pick_f (evD_false rfl c165) rfl) rfl ?_
   refine om rfl rfl ?_
   rcases bool_two (!ok) with c175 | c175
   · have r176 := bt r174 c175; clear r174
     refine shO_off (b' := true) 57 rfl (EnvB rfl c175) rfl rfl (shO_off (b' := true) 57 rfl (EnvB rfl c175) rfl rfl (shO_off (b' := true) 57 rfl (EnvB rfl c175) rfl rfl (shO_off (b' := true) 57 rfl (EnvB rfl c175) rfl rfl (shO_off (b' := true) 57 rfl (EnvB rfl c175) rfl rfl (shO_off (b' := true) 57 rfl (EnvB rfl c175) rfl rfl ?_)))))
     refine ov (v_pick_t (evB rfl c175) rfl) rfl ?_
     refine om rfl rfl (shO_off (b' := true) 65 rfl rfl rfl rfl (shO_off (b' := true) 65 rfl rfl rfl rfl (shO_off (b' := true) 65 rfl rfl rfl rfl (shO_off (b' := true) 65 rfl rfl rfl rfl (shO_off (b' := true) 65 rfl rfl rfl rfl (shO_off (b' := true) 65 rfl rfl rfl rfl (shO_off (b' := true) 65 rfl rfl rfl rfl ?_)))))))
     refine ov (v_pick_t rfl rfl) rfl ?_
     refine shO_nil ?_
     obtain rfl := inj1 r176
     exact mi kn ⟨hF170, rfl, (sc rfl (sn _))⟩
   have r177 := bf r174 c175; clear r174
   refine shO_on (b := false) 57 rfl (EnvB rfl c175) (om rfl rfl (shO_on (b := false) 57 rfl (EnvB rfl c175) ?_))
   refine o_buildSlice (cs := #[.int .i64 0]) rfl rfl (buildSlice_all slt_47 [.int .i64 0] rfl (by decide) (by simp [Value.cells]) (by decide)) ?_; intro b178 hb178
   refine shO_on (b := false) 57 rfl (EnvB rfl c175) ?_
   refine o_buildSlice (cs := #[.int .i64 1]) rfl rfl (buildSlice_all slt_47 [.int .i64 1] rfl (by decide) (by simp [Value.cells]) (by decide)) ?_; intro b179 hb179
   refine shO_on (b := false) 57 rfl (EnvB rfl c175) ?_
   refine o_buildSlice (cs := #[.slice (some ⟨b178, 0, none⟩) 1 1, .slice (some ⟨b179, 0, none⟩) 1 1]) rfl rfl (buildSlice_all slt_36 [.slice (some ⟨b178, 0, none⟩) 1 1, .slice (some ⟨b179, 0, none⟩) 1 1] rfl (by decide) (by simp [Value.cells]) (by decide)) ?_; intro b180 hb180
   refine shO_on (b := false) 57 rfl (EnvB rfl c175) ?_
   refine shO_freeze 2 rfl hb178 ?_; intro F181 hF182 hz183
   refine shO_L (L' := (b180, .cells #[.slice (some ⟨b178, 0, none⟩) 1 1, .slice (some ⟨b179, 0, none⟩) 1 1] 47 (0, 0)) :: ((b179, .cells #[.int .i64 1] 48 (0, 0)) :: (Lb147 ++ (Lb59 ++ (Lb35 ++ (Lb41 ++ (Lb47 ++ (Lb9 ++ (Lb15 ++ (Lb21 ++ [])))))))))) rfl ?_
   replace h105 := h105.mono (slE_ok (iE_ok _)) hF182
   replace hz148 := hz148.mono (slE_ok (iE_ok _)) hF182
   have h184 : RowR 1 (iE .i64) F181 (some ⟨b178, 0, none⟩) 1 [0] := RowR.of_block (iE_ok _) (vss := [[.int .i64 0]]) (xs := [0]) hz183 (.cons rfl .nil) rfl (by simp [maxLen])
   refine shO_freeze 1 rfl hb179 ?_; intro F185 hF186 hz187
   refine shO_L (L' := (b180, .cells (#[.slice (some ⟨b178, 0, none⟩) [0].length 1, .slice (some ⟨b179, 0, none⟩) 1 1]) 47 (0, 0)) :: (Lb147 ++ (Lb59 ++ (Lb35 ++ (Lb41 ++ (Lb47 ++ (Lb9 ++ (Lb15 ++ (Lb21 ++ []))))))))) rfl ?_
   replace h105 := h105.mono (slE_ok (iE_ok _)) hF186
   replace h184 := h184.mono (iE_ok _) hF186
   replace hz148 := hz148.mono (slE_ok (iE_ok _)) hF186
   have h188 : RowR 1 (iE .i64) F185 (some ⟨b179, 0, none⟩) 1 [1] := RowR.of_block (iE_ok _) (vss := [[.int .i64 1]]) (xs := [1]) hz187 (.cons rfl .nil) rfl (by simp [maxLen])
   refine shO_freeze 0 rfl hb180 ?_; intro F189 hF190 hz191
   refine shO_L (L' := Lb147 ++ (Lb59 ++ (Lb35 ++ (Lb41 ++ (Lb47 ++ (Lb9 ++ (Lb15 ++ (Lb21 ++ [])))))))) rfl ?_
   replace h105 := h105.mono (slE_ok (iE_ok _)) hF190
   replace h184 := h184.mono (iE_ok _) hF190
   replace h188 := h188.mono (iE_ok _) hF190
   replace hz148 := hz148.mono (slE_ok (iE_ok _)) hF190
   have h192 : RowR 1 (slE 1 (iE .i64)) F189 (some ⟨b180, 0, none⟩) 2 [[0], [1]] := RowR.of_block (slE_ok (iE_ok _)) (vss := [[.slice (some ⟨b178, 0, none⟩) [0].length 1], [.slice (some ⟨b179, 0, none⟩) [1].length 1]]) (xs := [[0], [1]]) hz191 (.cons ⟨_, _, rfl, h184⟩ (.cons ⟨_, _, rfl, h188⟩ .nil)) rfl (by simp [maxLen])
   obtain ⟨ok2, h193, r194⟩ := b1_ok r177; clear r177
   refine o_callV rfl Try.call33 rfl rfl rfl (oyezkit_LikeRows_Verdict_w h105 h192 h193) ?_
   refine shO_on (b := false) 57 rfl (EnvB rfl c175) ?_
   refine ov (v_notB rfl) rfl ?_
   refine ov (v_pick_f (evB rfl c175) rfl) rfl ?_
   refine om rfl rfl ?_
   rcases bool_two (!ok2) with c195 | c195
   · have r196 := bt r194 c195; clear r194
     refine shO_off (b' := true) 65 rfl (EnvB rfl c195) rfl rfl (shO_off (b' := true) 65 rfl (EnvB rfl c195) rfl rfl (shO_off (b' := true) 65 rfl (EnvB rfl c195) rfl rfl (shO_off (b' := true) 65 rfl (EnvB rfl c195) rfl rfl (shO_off (b' := true) 65 rfl (EnvB rfl c195) rfl rfl (shO_off (b' := true) 65 rfl (EnvB rfl c195) rfl rfl (shO_off (b' := true) 65 rfl (EnvB rfl c195) rfl rfl ?_))))))
     refine ov (v_pick_t (evB rfl c195) rfl) rfl ?_
     refine shO_nil ?_
     obtain rfl := inj1 r196
     exact mi kn ⟨(((hF170.trans hF182).trans hF186).trans hF190), rfl, (sc rfl (sn _))⟩
   have r197 := bf r194 c195; clear r194
   refine shO_on (b := false) 65 rfl (EnvB rfl c195) (om rfl rfl (shO_on (b := false) 65 rfl (EnvB rfl c195) ?_))
   refine o_buildSlice (cs := #[.int .i64 1, .int .i64 2]) rfl rfl (buildSlice_all slt_24 [.int .i64 1, .int .i64 2] rfl (by decide) (by simp [Value.cells]) (by decide)) ?_; intro b198 hb198
   refine shO_on (b := false) 65 rfl (EnvB rfl c195) ?_
   refine o_buildSlice (cs := #[.int .i64 2, .int .i64 3]) rfl rfl (buildSlice_all slt_24 [.int .i64 2, .int .i64 3] rfl (by decide) (by simp [Value.cells]) (by decide)) ?_; intro b199 hb199
   refine shO_on (b := false) 65 rfl (EnvB rfl c195) ?_
   refine o_buildSlice (cs := #[.int .i64 3, .int .i64 4]) rfl rfl (buildSlice_all slt_24 [.int .i64 3, .int .i64 4] rfl (by decide) (by simp [Value.cells]) (by decide)) ?_; intro b200 hb200
   refine shO_on (b := false) 65 rfl (EnvB rfl c195) ?_
   refine o_buildSlice (cs := #[.slice (some ⟨b198, 0, none⟩) 2 2, .slice (some ⟨b199, 0, none⟩) 2 2, .slice (some ⟨b200, 0, none⟩) 2 2]) rfl rfl (buildSlice_all slt_42 [.slice (some ⟨b198, 0, none⟩) 2 2, .slice (some ⟨b199, 0, none⟩) 2 2, .slice (some ⟨b200, 0, none⟩) 2 2] rfl (by decide) (by simp [Value.cells]) (by decide)) ?_; intro b201 hb201
   refine shO_on (b := false) 65 rfl (EnvB rfl c195) ?_
   refine shO_freeze 3 rfl hb198 ?_; intro F202 hF203 hz204
   refine shO_L (L' := (b201, .cells #[.slice (some ⟨b198, 0, none⟩) 2 2, .slice (some ⟨b199, 0, none⟩) 2 2, .slice (some ⟨b200, 0, none⟩) 2 2] 24 (0, 0)) :: ((b200, .cells #[.int .i64 3, .int .i64 4] 3 (0, 0)) :: ((b199, .cells #[.int .i64 2, .int .i64 3] 3 (0, 0)) :: (Lb147 ++ (Lb59 ++ (Lb35 ++ (Lb41 ++ (Lb47 ++ (Lb9 ++ (Lb15 ++ (Lb21 ++ []))))))))))) rfl ?_
   replace hz148 := hz148.mono (slE_ok (iE_ok _)) hF203
   have h205 : RowR 1 (iE .i64) F202 (some ⟨b198, 0, none⟩) 2 [1, 2] := RowR.of_block (iE_ok _) (vss := [[.int .i64 1], [.int .i64 2]]) (xs := [1, 2]) hz204 (.cons rfl (.cons rfl .nil)) rfl (by simp [maxLen])
   refine shO_freeze 2 rfl hb199 ?_; intro F206 hF207 hz208
   refine shO_L (L' := (b201, .cells (#[.slice (some ⟨b198, 0, none⟩) [1, 2].length 2, .slice (some ⟨b199, 0, none⟩) 2 2, .slice (some ⟨b200, 0, none⟩) 2 2]) 24 (0, 0)) :: ((b200, .cells #[.int .i64 3, .int .i64 4] 3 (0, 0)) :: (Lb147 ++ (Lb59 ++ (Lb35 ++ (Lb41 ++ (Lb47 ++ (Lb9 ++ (Lb15 ++ (Lb21 ++ [])))))))))) rfl ?_
   replace h205 := h205.mono (iE_ok _) hF207
   replace hz148 := hz148.mono (slE_ok (iE_ok _)) hF207
   have h209 : RowR 1 (iE .i64) F206 (some ⟨b199, 0, none⟩) 2 [2, 3] := RowR.of_block (iE_ok _) (vss := [[.int .i64 2], [.int .i64 3]]) (xs := [2, 3]) hz208 (.cons rfl (.cons rfl .nil)) rfl (by simp [maxLen])
   refine shO_freeze 1 rfl hb200 ?_; intro F210 hF211 hz212
   refine shO_L (L' := (b201, .cells (#[.slice (some ⟨b198, 0, none⟩) [1, 2].length 2, .slice (some ⟨b199, 0, none⟩) [2, 3].length 2, .slice (some ⟨b200, 0, none⟩) 2 2]) 24 (0, 0)) :: (Lb147 ++ (Lb59 ++ (Lb35 ++ (Lb41 ++ (Lb47 ++ (Lb9 ++ (Lb15 ++ (Lb21 ++ []))))))))) rfl ?_
   replace h205 := h205.mono (iE_ok _) hF211
   replace h209 := h209.mono (iE_ok _) hF211
   replace hz148 := hz148.mono (slE_ok (iE_ok _)) hF211
   have h213 : RowR 1 (iE .i64) F210 (some ⟨b200, 0, none⟩) 2 [3, 4] := RowR.of_block (iE_ok _) (vss := [[.int .i64 3], [.int .i64 4]]) (xs := [3, 4]) hz212 (.cons rfl (.cons rfl .nil)) rfl (by simp [maxLen])
   refine shO_freeze 0 rfl hb201 ?_; intro F214 hF215 hz216
   refine shO_L (L' := Lb147 ++ (Lb59 ++ (Lb35 ++ (Lb41 ++ (Lb47 ++ (Lb9 ++ (Lb15 ++ (Lb21 ++ [])))))))) rfl ?_
   replace h205 := h205.mono (iE_ok _) hF215
   replace h209 := h209.mono (iE_ok _) hF215
   replace h213 := h213.mono (iE_ok _) hF215
   replace hz148 := hz148.mono (slE_ok (iE_ok _)) hF215
   have h217 : RowR 1 (slE 1 (iE .i64)) F214 (some ⟨b201, 0, none⟩) 3 [[1, 2], [2, 3], [3, 4]] := RowR.of_block (slE_ok (iE_ok _)) (vss := [[.slice (some ⟨b198, 0, none⟩) [1, 2].length 2], [.slice (some ⟨b199, 0, none⟩) [2, 3].length 2], [.slice (some ⟨b200, 0, none⟩) [3, 4].length 2]]) (xs := [[1, 2], [2, 3], [3, 4]]) hz216 (.cons ⟨_, _, rfl, h205⟩ (.cons ⟨_, _, rfl, h209⟩ (.cons ⟨_, _, rfl, h213⟩ .nil))) rfl (by simp [maxLen])
   obtain ⟨ok3, h218, r219⟩ := b1_ok r197; clear r197
   refine o_callT (Lt := Lb147 ++ []) (Lr := Lb59 ++ (Lb35 ++ (Lb41 ++ (Lb47 ++ (Lb9 ++ (Lb15 ++ (Lb21 ++ []))))))) rfl Try.call47 rfl rfl rfl (pT pR (lp (ln rfl))) (fun F2 h2 h3 => by rw [(SlR.caps hz148).1]; exact oyezkit_LikeRows_int_w (hz148.row (slE_ok (iE_ok _)) h2 (fun p hp => h3 p (List.mem_append_left _ hp))) (h217.mono (slE_ok (iE_ok _)) h2) h218) ?_
   refine shO_on (b := false) 65 rfl (EnvB rfl c195) ?_
   refine ov (v_notB rfl) rfl ?_
   refine ov (v_pick_f (evB rfl c195) rfl) rfl ?_
   refine shO_nil ?_
   obtain rfl := inj1 r219
   exact mi kn ⟨(((((((hF170.trans hF182).trans hF186).trans hF190).trans hF203).trans hF207).trans hF211).trans hF215), rfl, (sc rfl (sn _))⟩
 rintro e1 F221 _ ⟨hF222, rfl, he220⟩
 refine shW_env _ he220 ?_; clear he220
 refine shW_cond rfl (fun c223 => ?_) (fun c223 => ?_)
 · have r224 := bt r152 c223; clear r152
   refine wsr (oa rfl rfl (shO_nil (shW_ret (andThen_ret ?_))))
   refine q_res1 Try.results16 (res_tmp rfl) (sr) ?_
   obtain rfl := inj1 r224
   exact rfl
 have r225 := bf r152 c223; clear r152
 refine shW_skip (wsr ?_)
 refine ov (v_build (v := .agg #[.int .i64 0, .int .i64 0, .bool true]) rfl (by intro w; kernel_rfl)) rfl ?_
 refine ov (v_build (v := .agg #[.int .i64 0, .int .i64 0, .bool false]) rfl (by intro w; kernel_rfl)) rfl ?_
 refine o_buildSlice (cs := #[.int .i64 0, .int .i64 0, .bool true, .int .i64 0, .int .i64 0, .bool false]) rfl rfl (buildSlice_all slt_105 [.agg #[.int .i64 0, .int .i64 0, .bool true], .agg #[.int .i64 0, .int .i64 0, .bool false]] rfl (by decide) (by simp [Value.cells]) (by decide)) ?_; intro b226 hb226
 have hz228 : SlR K.w0.heap.size 77 3 (prE (iE .i64) (prE (iE .i64) bE)) F221 (some ⟨b226, 0, none⟩) 2 2 [(0, 0, true), (0, 0, false)] [(b226, .cells #[.int .i64 0, .int .i64 0, .bool true, .int .i64 0, .int .i64 0, .bool false] 77 (0, 0))] := SlR.of_block (vss := [[.int .i64 0, .int .i64 0, .bool true], [.int .i64 0, .int .i64 0, .bool false]]) (prE_ok (iE_ok _) (prE_ok (iE_ok _) bE_ok)) hb226 (.cons ⟨_, _, rfl, rfl, ⟨_, _, rfl, rfl, rfl⟩⟩ (.cons ⟨_, _, rfl, rfl, ⟨_, _, rfl, rfl, rfl⟩⟩ .nil)) rfl rfl (by simp [maxLen])
 generalize hLLb227 : ([(b226, .cells #[.int .i64 0, .int .i64 0, .bool true, .int .i64 0, .int .i64 0, .bool false] 77 (0, 0))] : LH) = Lb227 at hz228
 refine shO_perm (L' := Lb227 ++ []) (by rw [← hLLb227]; exact fO) ?_
 refine oa rfl rfl (nsr ?_)
 obtain ⟨n14, n15, l16, l17, l18, h230, r231⟩ := b5_ok r225; clear r225
 refine o_call0 rfl Try.call45 rfl rfl rfl (oyezlaw07_Bell_w h230) ?_; rintro _ F232 _ hF233 hn234 ⟨a236, n240, c237, Lb238, a242, n246, c243, Lb244, a248, n252, c249, Lb250, rfl, rfl, hz239, hz245, hz251⟩
 replace hz228 := hz228.mono (prE_ok (iE_ok _) (prE_ok (iE_ok _) bE_ok)) hF233
 replace hz239 := hz239.new fun p hp => hn234 p (by simp [hp])
 replace hz245 := hz245.new fun p hp => hn234 p (by simp [hp])
 replace hz251 := hz251.new fun p hp => hn234 p (by simp [hp])
 refine shO_L (lp (lp (lp (ln rfl)))) ?_
 refine om rfl rfl ?_
 obtain ⟨l19, n16, h254, r255⟩ := b2_ok r231; clear r231
 refine o_callTO (Lb := []) (Lt := Lb238 ++ (Lb244 ++ (Lb250 ++ (Lb227 ++ [])))) (Lr := []) rfl Try.call48 rfl rfl rfl (pT pR (ln (lp (lp (lp (lp (ln rfl))))))) (fun F2 h2 h3 => by rw [(SlR.caps hz239).1]; rw [(SlR.caps hz245).1]; rw [(SlR.caps hz251).1]; rw [(SlR.caps hz228).1]; exact book_Fewest_w (hz239.row (slE_ok (slE_ok (iE_ok _))) h2 (fun p hp => h3 p (List.mem_append_left _ hp))) (hz245.row (iE_ok _) h2 (fun p hp => h3 p (List.mem_append_right _ (List.mem_append_left _ hp)))) (hz251.row (prE_ok (iE_ok _) (prE_ok (iE_ok _) (iE_ok _))) h2 (fun p hp => h3 p (List.mem_append_right _ (List.mem_append_right _ (List.mem_append_left _ hp))))) (hz228.row (prE_ok (iE_ok _) (prE_ok (iE_ok _) bE_ok)) h2 (fun p hp => h3 p (List.mem_append_right _ (List.mem_append_right _ (List.mem_append_right _ (List.mem_append_left _ hp)))))) h254) (fun _ _ _ _ hq => by obtain ⟨a260, n264, c261, Lb262, rfl, rfl, hz263⟩ := hq; exact ⟨_, _, _, _, rfl, rfl, hz263.flat (fun _ _ h => h)⟩) ?_; rintro _ F256 _ hF257 hd259 hn258 ⟨a260, n264, c261, Lb262, rfl, rfl, hz263⟩
 replace hz228 := hz228.mono (prE_ok (iE_ok _) (prE_ok (iE_ok _) bE_ok)) hF257
 have hn266 := newp (Lb' := []) (by rfl) hd259 hn258
 replace hz263 := hz263.new fun p hp => hn266 p (by simp [hp])
 refine shO_L (lp (ln (lp (lp (lp (lp (ln rfl))))))) ?_
 refine om rfl rfl (ox rfl rfl rfl (ox rfl rfl rfl (oa rfl rfl (oa rfl rfl (nsr ?_)))))
 obtain ⟨n17, n18, l20, l21, l22, h267, r268⟩ := b5_ok r255; clear r255
 refine o_call0 rfl Try.call45 rfl rfl rfl (oyezlaw07_Bell_w h267) ?_; rintro _ F269 _ hF270 hn271 ⟨a273, n277, c274, Lb275, a279, n283, c280, Lb281, a285, n289, c286, Lb287, rfl, rfl, hz276, hz282, hz288⟩
 replace hz228 := hz228.mono (prE_ok (iE_ok _) (prE_ok (iE_ok _) bE_ok)) hF270
 replace hz263 := hz263.mono (iE_ok _) hF270
 replace hz276 := hz276.new fun p hp => hn271 p (by simp [hp])
 replace hz282 := hz282.new fun p hp => hn271 p (by simp [hp])
 replace hz288 := hz288.new fun p hp => hn271 p (by simp [hp])
 refine shO_L (lp (lp (lp (ln rfl)))) ?_
 refine ov (v_build (v := .agg #[.int .i64 1, .int .i64 0, .bool false]) rfl (by intro w; kernel_rfl)) rfl ?_
 obtain ⟨ok4, n19, h291, r292⟩ := b2_ok r268; clear r268
 refine o_callT (Lt := Lb275 ++ (Lb281 ++ (Lb287 ++ []))) (Lr := Lb262 ++ (Lb238 ++ (Lb244 ++ (Lb250 ++ (Lb227 ++ []))))) rfl Try.call35 rfl rfl rfl (pT pR (lp (lp (lp (ln rfl))))) (fun F2 h2 h3 => by rw [(SlR.caps hz276).1]; rw [(SlR.caps hz282).1]; rw [(SlR.caps hz288).1]; exact book_Refuted_w (hz276.row (slE_ok (slE_ok (iE_ok _))) h2 (fun p hp => h3 p (List.mem_append_left _ hp))) (hz282.row (iE_ok _) h2 (fun p hp => h3 p (List.mem_append_right _ (List.mem_append_left _ hp)))) (hz288.row (prE_ok (iE_ok _) (prE_ok (iE_ok _) (iE_ok _))) h2 (fun p hp => h3 p (List.mem_append_right _ (List.mem_append_right _ (List.mem_append_left _ hp))))) h291) ?_
 refine om rfl rfl (ox rfl rfl rfl (ox rfl rfl rfl (oa rfl rfl (oa rfl rfl (shO_nil (shW_seq ?_))))))
 refine shW_drawM [(.still, 1), (.still, 2), (.still, 3), (.seq, 0), (.seq, 4), (.still, 5), (.still, 6), (.still, 7), (.still, 8), (.still, 9)] (by kernel_rfl) (by kernel_rfl) (trivial) (by rfl) (by kernel_rfl) ?_
 refine shM_v (v := .slice (some ⟨b226, 0, none⟩) 2 2) (ek := [(9, .slice (some ⟨b226, 0, none⟩) 2 2)]) (Ls := []) rfl rfl rfl rfl ((sc rfl (sn _))) (by kernel_rfl) sm (fun H F' L' hF' hL' => v_move rfl) ?_
 obtain ⟨x, g293, hx294, r295⟩ := ix_ok r292; clear r292
 obtain ⟨b296, o297, c298, vs299, ha300, hs301, hle302, ⟨_, _, rfl, rfl, ⟨_, _, rfl, rfl, rfl⟩⟩, hl303, hc304⟩ := SlR.at (prE_ok (iE_ok _) (prE_ok (iE_ok _) bE_ok)) hz228 (L := Lb227 ++ []) fP g293.1 hx294
 refine shM_v (v := .pointer (some ⟨b296, o297 + (0 : Int).toNat * 3, none⟩)) (ek := [(91, .slice (some ⟨b226, 0, none⟩) 2 2)]) (Ls := []) rfl rfl rfl rfl ((sc rfl (sn _))) (by kernel_rfl) sm (fun H F' L' hF' hL' => v_indexO Try.underlying105 Try.sizeOf77 rfl ha300 rfl (SlR.idx hz228 g293)) ?_
 refine shM_v (v := .agg #[.int .i64 x.1, .int .i64 x.2.1, .bool x.2.2]) (ek := [(92, .pointer (some ⟨b296, o297 + (0 : Int).toNat * 3, none⟩))]) (Ls := Lb227 ++ []) rfl rfl rfl rfl ((sc rfl (sn _))) (by kernel_rfl) (s0 (s3 (s3 (s3 (s3 (s3 (s3 (s3 (s4 sr))))))))) (fun H F' L' hF' hL' => v_loadA (cs := #[.int .i64 x.1, .int .i64 x.2.1, .bool x.2.2]) Try.isAgg77 Try.sizeOf77 rfl (hs301.ext hF' hL') hle302 (extract_cells hle302 hl303 hc304)) ?_
 refine ⟨_, [], rfl, rfl, (sn _), by kernel_rfl, ?_⟩; intro H
 obtain ⟨n20, n21, l23, l24, l25, h305, r306⟩ := b5_ok r295; clear r295
 refine o_call0 rfl Try.call45 rfl rfl rfl (oyezlaw07_Bell_w h305) ?_; rintro _ F307 _ hF308 hn309 ⟨a311, n315, c312, Lb313, a317, n321, c318, Lb319, a323, n327, c324, Lb325, rfl, rfl, hz314, hz320, hz326⟩
 replace hz263 := hz263.mono (iE_ok _) hF308
 replace hz314 := hz314.new fun p hp => hn309 p (by simp [hp])
 replace hz320 := hz320.new fun p hp => hn309 p (by simp [hp])
 replace hz326 := hz326.new fun p hp => hn309 p (by simp [hp])
 refine shO_L (lp (lp (lp (ln rfl)))) ?_
 refine shO_nil ⟨_, rfl, hF308, [3, 2, 1], by kernel_rfl, .inl (.inr (fun d h => by cases h; rfl)), (List.forall_mem_cons.2 ⟨s0 (s3 (s3 (s3 (s3 (s3 (s3 (s3 (s3 (s3 (s3 (s4 sr))))))))))), (List.forall_mem_cons.2 ⟨sm, (List.forall_mem_cons.2 ⟨sm, (fun _ h => absurd h List.not_mem_nil)⟩)⟩)⟩), ?_⟩
 refine ⟨_, [(90, .agg #[.int .i64 n20, .int .i64 n21, .slice a311 n315 c312, .slice a317 n321 c318, .slice a323 n327 c324]), (93, .agg #[.int .i64 x.1, .int .i64 x.2.1, .bool x.2.2])], rfl, rfl, (sc rfl (sc rfl (sn _))), by kernel_rfl, ?_⟩; intro H
 obtain rfl := (SlR.caps hz314).1
 refine shO_freezeR (Nat.le_refl _) (slE_ok (slE_ok (iE_ok _))) fP hz314 ?_; intro F329 hF330 h331
 replace hz263 := hz263.mono (iE_ok _) hF330
 replace hz320 := hz320.mono (iE_ok _) hF330
 replace hz326 := hz326.mono (prE_ok (iE_ok _) (prE_ok (iE_ok _) (iE_ok _))) hF330
 obtain rfl := (SlR.caps hz320).1
 refine shO_freezeR (Nat.le_refl _) (iE_ok _) fP hz320 ?_; intro F332 hF333 h334
 replace h331 := h331.mono (slE_ok (slE_ok (iE_ok _))) hF333
 replace hz263 := hz263.mono (iE_ok _) hF333
 replace hz326 := hz326.mono (prE_ok (iE_ok _) (prE_ok (iE_ok _) (iE_ok _))) hF333
 obtain rfl := (SlR.caps hz326).1
 refine shO_freezeR (Nat.le_refl _) (prE_ok (iE_ok _) (prE_ok (iE_ok _) (iE_ok _))) fP hz326 ?_; intro F335 hF336 h337
 replace h331 := h331.mono (slE_ok (slE_ok (iE_ok _))) hF336
 replace h334 := h334.mono (iE_ok _) hF336
 replace hz263 := hz263.mono (iE_ok _) hF336
 obtain ⟨l26, n22, h338, r339⟩ := b2_ok r306; clear r306
 refine o_call0 rfl Try.call36 rfl rfl rfl (book_Witness_w h331 h334 h337 h338) ?_; rintro _ F340 _ hF341 hn342 ⟨a344, c345, rfl, rfl, h346⟩
 replace hz263 := hz263.mono (iE_ok _) hF341
 refine shO_L (ln rfl) ?_
 refine shO_nil ⟨_, rfl, (((hF330.trans hF333).trans hF336).trans hF341), [], by kernel_rfl, .inl (.inl rfl), (fun _ h => absurd h List.not_mem_nil), ?_⟩
 refine shM_v (v := .tuple #[.slice a344 l26.length c345, .int .i64 n22]) (ek := [(94, .tuple #[.slice a344 l26.length c345, .int .i64 n22])]) (Ls := []) rfl rfl rfl rfl ((sc rfl (sn _))) (by kernel_rfl) sm (fun H F' L' hF' hL' => v_move rfl) ?_
 refine shM_v (v := .slice a344 l26.length c345) (ek := [(89, .tuple #[.slice a344 l26.length c345, .int .i64 n22])]) (Ls := []) rfl rfl rfl rfl ((sc rfl (sn _))) (by kernel_rfl) sm (fun H F' L' hF' hL' => v_extract rfl rfl) ?_
 refine shM_v (v := .int .i64 n22) (ek := [(89, .tuple #[.slice a344 l26.length c345, .int .i64 n22])]) (Ls := []) rfl rfl rfl rfl ((sc rfl (sn _))) (by kernel_rfl) sm (fun H F' L' hF' hL' => v_extract rfl rfl) ?_
 refine shM_v (v := .slice a344 l26.length c345) (ek := [(95, .slice a344 l26.length c345)]) (Ls := []) rfl rfl rfl rfl ((sc rfl (sn _))) (by kernel_rfl) sm (fun H F' L' hF' hL' => v_assign rfl) ?_
 refine shM_v (v := .int .i64 n22) (ek := [(96, .int .i64 n22)]) (Ls := []) rfl rfl rfl rfl ((sc rfl (sn _))) (by kernel_rfl) sm (fun H F' L' hF' hL' => v_assign rfl) ?_
 refine shM_nil ?_
 refine wsr ?_
 obtain ⟨n23, n24, l27, l28, l29, h347, r348⟩ := b5_ok r339; clear r339
 refine o_call0 rfl Try.call45 rfl rfl rfl (oyezlaw07_Bell_w h347) ?_; rintro _ F349 _ hF350 hn351 ⟨a353, n357, c354, Lb355, a359, n363, c360, Lb361, a365, n369, c366, Lb367, rfl, rfl, hz356, hz362, hz368⟩
 replace h346 := h346.mono (iE_ok _) hF350
 replace hz263 := hz263.mono (iE_ok _) hF350
 replace hz356 := hz356.new fun p hp => hn351 p (by simp [hp])
 replace hz362 := hz362.new fun p hp => hn351 p (by simp [hp])
 replace hz368 := hz368.new fun p hp => hn351 p (by simp [hp])
 refine shO_L (lp (lp (lp (ln rfl)))) ?_
 refine o_buildSlice (cs := #[.int .i64 0]) rfl rfl (buildSlice_all slt_24 [.int .i64 0] rfl (by decide) (by simp [Value.cells]) (by decide)) ?_; intro b371 hb371
 obtain rfl := (SlR.caps hz356).1
 refine shO_freezeR (Nat.le_refl _) (slE_ok (slE_ok (iE_ok _))) (fC fP) hz356 ?_; intro F372 hF373 h374
 replace h346 := h346.mono (iE_ok _) hF373
 replace hz263 := hz263.mono (iE_ok _) hF373
 replace hz362 := hz362.mono (iE_ok _) hF373
 replace hz368 := hz368.mono (prE_ok (iE_ok _) (prE_ok (iE_ok _) (iE_ok _))) hF373
 obtain rfl := (SlR.caps hz362).1
 refine shO_freezeR (Nat.le_refl _) (iE_ok _) (fC fP) hz362 ?_; intro F375 hF376 h377
 replace h346 := h346.mono (iE_ok _) hF376
 replace h374 := h374.mono (slE_ok (slE_ok (iE_ok _))) hF376
 replace hz263 := hz263.mono (iE_ok _) hF376
 replace hz368 := hz368.mono (prE_ok (iE_ok _) (prE_ok (iE_ok _) (iE_ok _))) hF376
 obtain rfl := (SlR.caps hz368).1
 refine shO_freezeR (Nat.le_refl _) (prE_ok (iE_ok _) (prE_ok (iE_ok _) (iE_ok _))) (fC fP) hz368 ?_; intro F378 hF379 h380
 replace h346 := h346.mono (iE_ok _) hF379
 replace h374 := h374.mono (slE_ok (slE_ok (iE_ok _))) hF379
 replace h377 := h377.mono (iE_ok _) hF379
 replace hz263 := hz263.mono (iE_ok _) hF379
 refine shO_freeze 0 rfl hb371 ?_; intro F381 hF382 hz383
 refine shO_L (L' := Lb275 ++ (Lb281 ++ (Lb287 ++ (Lb262 ++ (Lb238 ++ (Lb244 ++ (Lb250 ++ (Lb227 ++ [])))))))) rfl ?_
 replace h346 := h346.mono (iE_ok _) hF382
 replace h374 := h374.mono (slE_ok (slE_ok (iE_ok _))) hF382
 replace h377 := h377.mono (iE_ok _) hF382
 replace h380 := h380.mono (prE_ok (iE_ok _) (prE_ok (iE_ok _) (iE_ok _))) hF382
 replace hz263 := hz263.mono (iE_ok _) hF382
 have h384 : RowR 1 (iE .i64) F381 (some ⟨b371, 0, none⟩) 1 [0] := RowR.of_block (iE_ok _) (vss := [[.int .i64 0]]) (xs := [0]) hz383 (.cons rfl .nil) rfl (by simp [maxLen])
 obtain ⟨l30, n25, h385, r386⟩ := b2_ok r348; clear r348
 refine o_call0 rfl Try.call24 rfl rfl rfl (book_Again_w h374 h377 h380 h384 h385) ?_; rintro _ F387 _ hF388 hn389 ⟨a391, c392, rfl, rfl, h393⟩
 replace h346 := h346.mono (iE_ok _) hF388
 replace hz263 := hz263.mono (iE_ok _) hF388
 refine shO_L (ln rfl) ?_
 refine om rfl rfl (ox rfl rfl rfl (ox rfl rfl rfl (oa rfl rfl (nsr (om rfl rfl ?_)))))
 refine ov (v_eql rfl rfl) rfl ?_
 refine om rfl rfl ?_
 by_cases c394 : n16 = 0
 · have r395 := ite_t r386 c394; clear r386
   refine shO_on (b := true) 105 rfl (Env.isT rfl c394) (om rfl rfl (shO_on (b := true) 105 rfl (Env.isT rfl c394) ?_))
   refine ov (v_eql rfl rfl) rfl ?_
   refine ov (v_pick_t (evD_true rfl c394) rfl) rfl ?_
   refine om rfl rfl ?_
   by_cases c396 : n19 = 0
   · have r397 := ite_t r395 c396; clear r395
     refine shO_on (b := true) 109 rfl (Env.isT rfl c396) (om rfl rfl (shO_on (b := true) 109 rfl (Env.isT rfl c396) ?_))
     refine ov (v_eql rfl rfl) rfl ?_
     refine ov (v_pick_t (evD_true rfl c396) rfl) rfl ?_
     refine om rfl rfl ?_
     by_cases c398 : n22 = 0
     · have r399 := ite_t r397 c398; clear r397
       refine shO_on (b := true) 113 rfl (Env.isT rfl c398) (om rfl rfl (shO_on (b := true) 113 rfl (Env.isT rfl c398) ?_))
       refine ov (v_eql rfl rfl) rfl ?_
       refine ov (v_pick_t (evD_true rfl c398) rfl) rfl ?_
       refine om rfl rfl ?_
       by_cases c400 : n25 = 6
       · have r401 := ite_t r399 c400; clear r399
         refine shO_on (b := true) 117 rfl (Env.isT rfl c400) (om rfl rfl ?_)
         refine ov (v_pick_t (evD_true rfl c400) rfl) rfl ?_
         refine om rfl rfl ?_
         rcases bool_two ok4 with c402 | c402
         · have r403 := bt r401 c402; clear r401
           refine shO_on (b := true) 120 rfl (EnvB rfl c402) (om rfl rfl (shO_on (b := true) 120 rfl (EnvB rfl c402) ?_))
           refine o_buildSlice (cs := #[.int .i64 0]) rfl rfl (buildSlice_all slt_24 [.int .i64 0] rfl (by decide) (by simp [Value.cells]) (by decide)) ?_; intro b404 hb404
           refine shO_on (b := true) 120 rfl (EnvB rfl c402) ?_
           refine shO_freeze 0 rfl hb404 ?_; intro F405 hF406 hz407
           refine shO_L (L' := Lb275 ++ (Lb281 ++ (Lb287 ++ (Lb262 ++ (Lb238 ++ (Lb244 ++ (Lb250 ++ (Lb227 ++ [])))))))) rfl ?_
           replace h346 := h346.mono (iE_ok _) hF406
           replace hz263 := hz263.mono (iE_ok _) hF406
           have h408 : RowR 1 (iE .i64) F405 (some ⟨b404, 0, none⟩) 1 [0] := RowR.of_block (iE_ok _) (vss := [[.int .i64 0]]) (xs := [0]) hz407 (.cons rfl .nil) rfl (by simp [maxLen])
           obtain ⟨ok5, h409, r410⟩ := b1_ok r403; clear r403
           refine o_callT (Lt := Lb262 ++ []) (Lr := Lb275 ++ (Lb281 ++ (Lb287 ++ (Lb238 ++ (Lb244 ++ (Lb250 ++ (Lb227 ++ []))))))) rfl Try.call46 rfl rfl rfl (pT ((fS (fS (fS fP))).trans (pA pR)) (lp (ln rfl))) (fun F2 h2 h3 => by rw [(SlR.caps hz263).1]; exact oyezkit_Like_int_w (hz263.row (iE_ok _) h2 (fun p hp => h3 p (List.mem_append_left _ hp))) (h408.mono (iE_ok _) h2) h409) ?_
           refine ov (v_pick_t (evB rfl c402) rfl) rfl ?_
           refine om rfl rfl ?_
           rcases bool_two ok5 with c411 | c411
           · have r412 := bt r410 c411; clear r410
             refine shO_on (b := true) 125 rfl (EnvB rfl c411) (om rfl rfl (shO_on (b := true) 125 rfl (EnvB rfl c411) ?_))
             refine o_buildSlice (cs := #[.int .i64 1, .int .i64 2, .int .i64 3]) rfl rfl (buildSlice_all slt_24 [.int .i64 1, .int .i64 2, .int .i64 3] rfl (by decide) (by simp [Value.cells]) (by decide)) ?_; intro b413 hb413
             refine shO_on (b := true) 125 rfl (EnvB rfl c411) ?_
             refine shO_freeze 0 rfl hb413 ?_; intro F414 hF415 hz416
             refine shO_L (L' := Lb275 ++ (Lb281 ++ (Lb287 ++ (Lb262 ++ (Lb238 ++ (Lb244 ++ (Lb250 ++ (Lb227 ++ [])))))))) rfl ?_
             replace h346 := h346.mono (iE_ok _) hF415
             have h417 : RowR 1 (iE .i64) F414 (some ⟨b413, 0, none⟩) 3 [1, 2, 3] := RowR.of_block (iE_ok _) (vss := [[.int .i64 1], [.int .i64 2], [.int .i64 3]]) (xs := [1, 2, 3]) hz416 (.cons rfl (.cons rfl (.cons rfl .nil))) rfl (by simp [maxLen])
             obtain ⟨ok6, h418, r419⟩ := b1_ok r412; clear r412
             refine o_callV rfl Try.call46 rfl rfl rfl (oyezkit_Like_int_w h346 h417 h418) ?_
             refine ov (v_pick_t (evB rfl c411) rfl) rfl ?_
             refine oa rfl rfl (shO_nil ?_)
             refine kW kn ?_
             refine shW_ret ?_
             refine q_res1 Try.results16 (res_tmp rfl) (sr) ?_
             obtain rfl := inj1 r419
             exact rfl
           have r420 := bf r410 c411; clear r410
           refine shO_off (b' := false) 125 rfl (EnvB rfl c411) rfl rfl (shO_off (b' := false) 125 rfl (EnvB rfl c411) rfl rfl (shO_off (b' := false) 125 rfl (EnvB rfl c411) rfl rfl ?_))
           refine ov (v_pick_f (evB rfl c411) rfl) rfl ?_
           refine oa rfl rfl (shO_nil ?_)
           refine kW kn ?_
           refine shW_ret ?_
           refine q_res1 Try.results16 (res_tmp rfl) (sr) ?_
           obtain rfl := inj1 r420
           exact rfl
         have r421 := bf r401 c402; clear r401
         refine shO_off (b' := false) 120 rfl (EnvB rfl c402) rfl rfl (shO_off (b' := false) 120 rfl (EnvB rfl c402) rfl rfl (shO_off (b' := false) 120 rfl (EnvB rfl c402) rfl rfl ?_))
         refine ov (v_pick_f (evB rfl c402) rfl) rfl ?_
         refine om rfl rfl (shO_off (b' := false) 125 rfl rfl rfl rfl (shO_off (b' := false) 125 rfl rfl rfl rfl (shO_off (b' := false) 125 rfl rfl rfl rfl ?_)))
         refine ov (v_pick_f rfl rfl) rfl ?_
         refine oa rfl rfl (shO_nil ?_)
         refine kW kn ?_
         refine shW_ret ?_
         refine q_res1 Try.results16 (res_tmp rfl) (sr) ?_
         obtain rfl := inj1 r421
         exact rfl
       have r422 := ite_f r399 c400; clear r399
       refine shO_off (b' := false) 117 rfl (Env.isF rfl c400) rfl rfl ?_
       refine ov (v_pick_f (evD_false rfl c400) rfl) rfl ?_
       refine om rfl rfl (shO_off (b' := false) 120 rfl rfl rfl rfl (shO_off (b' := false) 120 rfl rfl rfl rfl (shO_off (b' := false) 120 rfl rfl rfl rfl ?_)))
       refine ov (v_pick_f rfl rfl) rfl ?_
       refine om rfl rfl (shO_off (b' := false) 125 rfl rfl rfl rfl (shO_off (b' := false) 125 rfl rfl rfl rfl (shO_off (b' := false) 125 rfl rfl rfl rfl ?_)))
       refine ov (v_pick_f rfl rfl) rfl ?_
       refine oa rfl rfl (shO_nil ?_)
       refine kW kn ?_
       refine shW_ret ?_
       refine q_res1 Try.results16 (res_tmp rfl) (sr) ?_
       obtain rfl := inj1 r422
       exact rfl
     have r423 := ite_f r397 c398; clear r397
     refine shO_off (b' := false) 113 rfl (Env.isF rfl c398) rfl rfl (shO_off (b' := false) 113 rfl (Env.isF rfl c398) rfl rfl ?_)
     refine ov (v_pick_f (evD_false rfl c398) rfl) rfl ?_
     refine om rfl rfl (shO_off (b' := false) 117 rfl rfl rfl rfl ?_)
     refine ov (v_pick_f rfl rfl) rfl ?_
     refine om rfl rfl (shO_off (b' := false) 120 rfl rfl rfl rfl (shO_off (b' := false) 120 rfl rfl rfl rfl (shO_off (b' := false) 120 rfl rfl rfl rfl ?_)))
     refine ov (v_pick_f rfl rfl) rfl ?_
     refine om rfl rfl (shO_off (b' := false) 125 rfl rfl rfl rfl (shO_off (b' := false) 125 rfl rfl rfl rfl (shO_off (b' := false) 125 rfl rfl rfl rfl ?_)))
     refine ov (v_pick_f rfl rfl) rfl ?_
     refine oa rfl rfl (shO_nil ?_)
     refine kW kn ?_
     refine shW_ret ?_
     refine q_res1 Try.results16 (res_tmp rfl) (sr) ?_
     obtain rfl := inj1 r423
     exact rfl
   have r424 := ite_f r395 c396; clear r395
   refine shO_off (b' := false) 109 rfl (Env.isF rfl c396) rfl rfl (shO_off (b' := false) 109 rfl (Env.isF rfl c396) rfl rfl ?_)
   refine ov (v_pick_f (evD_false rfl c396) rfl) rfl ?_
   refine om rfl rfl (shO_off (b' := false) 113 rfl rfl rfl rfl (shO_off (b' := false) 113 rfl rfl rfl rfl ?_))
   refine ov (v_pick_f rfl rfl) rfl ?_
   refine om rfl rfl (shO_off (b' := false) 117 rfl rfl rfl rfl ?_)
   refine ov (v_pick_f rfl rfl) rfl ?_
   refine om rfl rfl (shO_off (b' := false) 120 rfl rfl rfl rfl (shO_off (b' := false) 120 rfl rfl rfl rfl (shO_off (b' := false) 120 rfl rfl rfl rfl ?_)))
   refine ov (v_pick_f rfl rfl) rfl ?_
   refine om rfl rfl (shO_off (b' := false) 125 rfl rfl rfl rfl (shO_off (b' := false) 125 rfl rfl rfl rfl (shO_off (b' := false) 125 rfl rfl rfl rfl ?_)))
   refine ov (v_pick_f rfl rfl) rfl ?_
   refine oa rfl rfl (shO_nil ?_)
   refine kW kn ?_
   refine shW_ret ?_
   refine q_res1 Try.results16 (res_tmp rfl) (sr) ?_
   obtain rfl := inj1 r424
   exact rfl
 have r425 := ite_f r386 c394; clear r386
 refine shO_off (b' := false) 105 rfl (Env.isF rfl c394) rfl rfl (shO_off (b' := false) 105 rfl (Env.isF rfl c394) rfl rfl ?_)
 refine ov (v_pick_f (evD_false rfl c394) rfl) rfl ?_
 refine om rfl rfl (shO_off (b' := false) 109 rfl rfl rfl rfl (shO_off (b' := false) 109 rfl rfl rfl rfl ?_))
 refine ov (v_pick_f rfl rfl) rfl ?_
 refine om rfl rfl (shO_off (b' := false) 113 rfl rfl rfl rfl (shO_off (b' := false) 113 rfl rfl rfl rfl ?_))
 refine ov (v_pick_f rfl rfl) rfl ?_
 refine om rfl rfl (shO_off (b' := false) 117 rfl rfl rfl rfl ?_)
 refine ov (v_pick_f rfl rfl) rfl ?_
 refine om rfl rfl (shO_off (b' := false) 120 rfl rfl rfl rfl (shO_off (b' := false) 120 rfl rfl rfl rfl (shO_off (b' := false) 120 rfl rfl rfl rfl ?_)))
 refine ov (v_pick_f rfl rfl) rfl ?_
 refine om rfl rfl (shO_off (b' := false) 125 rfl rfl rfl rfl (shO_off (b' := false) 125 rfl rfl rfl rfl (shO_off (b' := false) 125 rfl rfl rfl rfl ?_)))
 refine ov (v_pick_f rfl rfl) rfl ?_
 refine oa rfl rfl (shO_nil ?_)
 refine kW kn ?_
 refine shW_ret ?_
 refine q_res1 Try.results16 (res_tmp rfl) (sr) ?_
 obtain rfl := inj1 r425
 exact rfl
set_option maxHeartbeats 1000000 in
theorem book_Read_w {houses : Int} {notices : Int} {hears_a : Option Addr} {hears_c : Nat} {hears : List (List (List Int))} {readings_a : Option Addr} {readings_c : Nat} {readings : List Int} {cries_a : Option Addr} {cries_c : Nat} {cries : List (Int × Int × Int)} {hour : Int} {point : Int} {F : FS} (h_hears : RowR 1 (slE 1 (slE 1 (iE .i64))) F hears_a hears_c hears) (h_readings : RowR 1 (iE .i64) F readings_a readings_c readings) (h_cries : RowR 3 (prE (iE .i64) (prE (iE .i64) (iE .i64))) F cries_a cries_c cries) {r : Int} {r2 : Int} {r3 : List (List (List Int))} {r4 : List Int} {r5 : List (Int × Int × Int)} {r6 : Int} (hr : book_Read houses notices hears readings cries hour point = some (r, r2, r3, r4, r5, r6)) :
    SH.Spec Try.prog 28 #[.agg #[.int .i64 houses, .int .i64 notices, .slice hears_a hears.length hears_c, .slice readings_a readings.length readings_c, .slice cries_a cries.length cries_c], .int .i64 hour, .int .i64 point] F [] fun F' L' v => ∃ (r3a : Option Addr) (r3n : Nat) (r3c : Nat) (r3L : LH) (r4a : Option Addr) (r4n : Nat) (r4c : Nat) (r4L : LH) (r5a : Option Addr) (r5n : Nat) (r5c : Nat) (r5L : LH), v = .tuple #[.agg #[.int .i64 r, .int .i64 r2, .slice r3a r3n r3c, .slice r4a r4n r4c, .slice r5a r5n r5c], .int .i64 r6] ∧ L' = r3L ++ (r4L ++ (r5L ++ [])) ∧ SlR 0 42 1 (slE 1 (slE 1 (iE .i64))) F' r3a r3n r3c r3 r3L ∧ SlR 0 3 1 (iE .i64) F' r4a r4n r4c r4 r4L ∧ SlR 0 34 3 (prE (iE .i64) (prE (iE .i64) (iE .i64))) F' r5a r5n r5c r5 r5L := by
 refine spec_of_shW (args := [.agg #[.int .i64 houses, .int .i64 notices, .slice hears_a hears.length hears_c, .slice readings_a readings.length readings_c, .slice cries_a cries.length cries_c], .int .i64 hour, .int .i64 point]) Try.func28 rfl Try.ntmps28 (Nat.le_of_ble_eq_true rfl) ?_
 intro K _ _; rw [book_Read] at hr
 refine wsr ?_
 refine o_box rfl rfl ?_; intro b1 hb1
 refine o_alloc rfl Try.zeroValue27 ?_; intro b2 hb2
 refine oa rfl rfl (nsr ?_)
 refine ov (v_loadA (cs := #[.int .i64 houses, .int .i64 notices, .slice hears_a hears.length hears_c, .slice readings_a readings.length readings_c, .slice cries_a cries.length cries_c]) Try.isAgg27 Try.sizeOf27 rfl (Has.own 1 rfl) (Nat.le_of_ble_eq_true rfl) rfl) rfl ?_
 obtain ⟨n, h3, r7⟩ := b1_ok hr; clear hr
 refine o_callV rfl Try.call57 rfl rfl rfl (book_Check_w h_hears h_readings h_cries h3) ?_
 refine oa rfl rfl (shO_nil (shW_seq ?_))
 refine shW_block ?_
 refine wsr (om rfl rfl ?_)
 refine ov (v_neq rfl rfl) rfl ?_
 refine oa rfl rfl (shO_nil ?_)
 refine shW_condP rfl (fun c8 => ?_) (fun c8 => ?_)
 · have r9 := ite_t r7 c8; clear r7
   refine wsr ?_
   refine ov (v_build (v := .agg #[.int .i64 0, .int .i64 0, .slice none 0 0, .slice none 0 0, .slice none 0 0]) rfl (by intro w; kernel_rfl)) rfl ?_
   refine om rfl rfl ?_
   refine o_storeA (i := 0) Try.sizeOf27 rfl rfl rfl (by simp [Value.oneCell']) rfl (Nat.le_of_ble_eq_true rfl) ?_
   refine shO_L (L' := [(b2, .cells #[.int .i64 0, .int .i64 0, .slice none 0 0, .slice none 0 0, .slice none 0 0] 27 (0, 0)), (b1, .cells #[.int .i64 houses, .int .i64 notices, .slice hears_a hears.length hears_c, .slice readings_a readings.length readings_c, .slice cries_a cries.length cries_c] 27 (0, 0))]) rfl ?_
   refine oa rfl rfl (shO_nil ?_)
   refine kW (kc kn) ?_
   refine shW_ret (inBlock_ret (andThen_ret ?_))
   refine q_res2 Try.results28 (res_cellA (cs := #[.int .i64 0, .int .i64 0, .slice none 0 0, .slice none 0 0, .slice none 0 0]) Try.isAgg27 Try.sizeOf27 rfl (Has.own 0 rfl) (Nat.le_of_ble_eq_true rfl) rfl) (res_tmp rfl) (s1 sr) ?_
   obtain ⟨rfl, rfl, rfl, rfl, rfl, rfl⟩ := inj6 r9
   exact ⟨_, _, _, [], _, _, _, [], _, _, _, [], rfl, rfl, SlR.nil _ _ _ _ _, SlR.nil _ _ _ _ _, SlR.nil _ _ _ _ _⟩
 have r10 := ite_f r7 c8; clear r7
 refine wsr ?_
 refine ov (v_loadA (cs := #[.int .i64 houses, .int .i64 notices, .slice hears_a hears.length hears_c, .slice readings_a readings.length readings_c, .slice cries_a cries.length cries_c]) Try.isAgg27 Try.sizeOf27 rfl (Has.own 1 rfl) (Nat.le_of_ble_eq_true rfl) rfl) rfl ?_
 refine om rfl rfl ?_
 obtain ⟨ok, h11, r12⟩ := b1_ok r10; clear r10
 refine o_callV rfl Try.call53 rfl rfl rfl (book_Book_hour_w h_hears h_readings h_cries h11) ?_
 refine ov (v_notB rfl) rfl ?_
 refine oa rfl rfl (shO_nil ?_)
 refine shW_cond rfl (fun c13 => ?_) (fun c13 => ?_)
 · have r14 := bt r12 c13; clear r12
   refine wsr ?_
   refine ov (v_build (v := .agg #[.int .i64 0, .int .i64 0, .slice none 0 0, .slice none 0 0, .slice none 0 0]) rfl (by intro w; kernel_rfl)) rfl ?_
   refine o_storeA (i := 0) Try.sizeOf27 rfl rfl rfl (by simp [Value.oneCell']) rfl (Nat.le_of_ble_eq_true rfl) ?_
   refine shO_L (L' := [(b2, .cells #[.int .i64 0, .int .i64 0, .slice none 0 0, .slice none 0 0, .slice none 0 0] 27 (0, 0)), (b1, .cells #[.int .i64 houses, .int .i64 notices, .slice hears_a hears.length hears_c, .slice readings_a readings.length readings_c, .slice cries_a cries.length cries_c] 27 (0, 0))]) rfl ?_
   refine oa rfl rfl (shO_nil ?_)
   refine kW (kc kn) ?_
   refine shW_ret (inBlock_ret (andThen_ret ?_))
   refine q_res2 Try.results28 (res_cellA (cs := #[.int .i64 0, .int .i64 0, .slice none 0 0, .slice none 0 0, .slice none 0 0]) Try.isAgg27 Try.sizeOf27 rfl (Has.own 0 rfl) (Nat.le_of_ble_eq_true rfl) rfl) (res_tmp rfl) (s1 sr) ?_
   obtain ⟨rfl, rfl, rfl, rfl, rfl, rfl⟩ := inj6 r14
   exact ⟨_, _, _, [], _, _, _, [], _, _, _, [], rfl, rfl, SlR.nil _ _ _ _ _, SlR.nil _ _ _ _ _, SlR.nil _ _ _ _ _⟩
 have r15 := bf r12 c13; clear r12
 refine wsr (om rfl rfl ?_)
 obtain ⟨ok2, h16, r17⟩ := b1_ok r15; clear r15
 refine o_callV rfl Try.call68 rfl rfl rfl (book_read_w h16) ?_
 refine ov (v_notB rfl) rfl ?_
 refine oa rfl rfl (shO_nil ?_)
 refine shW_cond rfl (fun c18 => ?_) (fun c18 => ?_)
 · have r19 := bt r17 c18; clear r17
   refine wsr ?_
   refine ov (v_build (v := .agg #[.int .i64 0, .int .i64 0, .slice none 0 0, .slice none 0 0, .slice none 0 0]) rfl (by intro w; kernel_rfl)) rfl ?_
   refine o_storeA (i := 0) Try.sizeOf27 rfl rfl rfl (by simp [Value.oneCell']) rfl (Nat.le_of_ble_eq_true rfl) ?_
   refine shO_L (L' := [(b2, .cells #[.int .i64 0, .int .i64 0, .slice none 0 0, .slice none 0 0, .slice none 0 0] 27 (0, 0)), (b1, .cells #[.int .i64 houses, .int .i64 notices, .slice hears_a hears.length hears_c, .slice readings_a readings.length readings_c, .slice cries_a cries.length cries_c] 27 (0, 0))]) rfl ?_
   refine oa rfl rfl (shO_nil ?_)
   refine kW (kc kn) ?_
   refine shW_ret (inBlock_ret (andThen_ret ?_))
   refine q_res2 Try.results28 (res_cellA (cs := #[.int .i64 0, .int .i64 0, .slice none 0 0, .slice none 0 0, .slice none 0 0]) Try.isAgg27 Try.sizeOf27 rfl (Has.own 0 rfl) (Nat.le_of_ble_eq_true rfl) rfl) (res_tmp rfl) (s1 sr) ?_
   obtain ⟨rfl, rfl, rfl, rfl, rfl, rfl⟩ := inj6 r19
   exact ⟨_, _, _, [], _, _, _, [], _, _, _, [], rfl, rfl, SlR.nil _ _ _ _ _, SlR.nil _ _ _ _ _, SlR.nil _ _ _ _ _⟩
 have r20 := bf r17 c18; clear r17
 refine shW_skip (inBlock_n (id := 0) (shW_seq ?_))
 obtain ⟨g21, r22⟩ := gd_ok r20; clear r20
 refine shW_drawM [(.pre, 12), (.still, 0), (.still, 1), (.still, 2), (.still, 3), (.still, 4), (.still, 5), (.still, 6), (.pre, 7), (.still, 8), (.still, 9), (.seq, 10), (.alloc (.cells (madeCells (.int .i64 0 : Value).cells (Int.toNat (readings.length : Int) * 1)) 3 (0, 0)) (fun b => .slice (some ⟨b, 0, none⟩) (Int.toNat (readings.length : Int)) (Int.toNat (readings.length : Int))) [(39, .int .i64 (readings.length : Int))], 7), (.still, 11), (.alloc (.cells (.agg #[.int .i64 0, .int .i64 0, .slice none 0 0, .slice none 0 0, .slice none 0 0] : Value).cells 27 (0, 0)) (fun b => .pointer (some ⟨b, 0, none⟩)) [], 12), (.seq, 13)] (by kernel_rfl) (by kernel_rfl) (⟨⟨_, _, rfl, rfl, rfl, rfl, rfl, mk_made slt_24 (by decide) rfl g21⟩, ⟨⟨_, _, rfl, rfl, rfl, rfl, rfl, mk_alloc Try.zeroValue27⟩, trivial⟩⟩) (by rfl) (by kernel_rfl) ?_
 refine ⟨⟨[], rfl, sn _, by kernel_rfl⟩, ?_⟩
 refine shM_v (v := .pointer (some ⟨b1, 0, none⟩)) (ek := [(3, .pointer (some ⟨b1, 0, none⟩))]) (Ls := []) rfl rfl rfl rfl ((sc rfl (sn _))) (by kernel_rfl) sm (fun H F' L' hF' hL' => v_fieldAddr fa_27_0 rfl) ?_
 refine shM_v (v := .int .i64 houses) (ek := [(33, .pointer (some ⟨b1, 0, none⟩))]) (Ls := [(b1, .cells #[.int .i64 houses, .int .i64 notices, .slice hears_a hears.length hears_c, .slice readings_a readings.length readings_c, .slice cries_a cries.length cries_c] 27 (0, 0))]) rfl rfl rfl rfl ((sc rfl (sn _))) (by kernel_rfl) (s0 (s1 (s2 sr))) (fun H F' L' hF' hL' => v_load Try.isAgg3 rfl ((Has.own 0 rfl).ext hF' hL') rfl) ?_
 refine shM_v (v := .pointer (some ⟨b1, 1, none⟩)) (ek := [(3, .pointer (some ⟨b1, 0, none⟩))]) (Ls := []) rfl rfl rfl rfl ((sc rfl (sn _))) (by kernel_rfl) sm (fun H F' L' hF' hL' => v_fieldAddr fa_27_1 rfl) ?_
 refine shM_v (v := .int .i64 notices) (ek := [(35, .pointer (some ⟨b1, 1, none⟩))]) (Ls := [(b1, .cells #[.int .i64 houses, .int .i64 notices, .slice hears_a hears.length hears_c, .slice readings_a readings.length readings_c, .slice cries_a cries.length cries_c] 27 (0, 0))]) rfl rfl rfl rfl ((sc rfl (sn _))) (by kernel_rfl) (s0 (s1 (s2 sr))) (fun H F' L' hF' hL' => v_load Try.isAgg3 rfl ((Has.own 0 rfl).ext hF' hL') rfl) ?_
 refine shM_v (v := .pointer (some ⟨b1, 3, none⟩)) (ek := [(3, .pointer (some ⟨b1, 0, none⟩))]) (Ls := []) rfl rfl rfl rfl ((sc rfl (sn _))) (by kernel_rfl) sm (fun H F' L' hF' hL' => v_fieldAddr fa_27_3 rfl) ?_
 refine shM_v (v := .slice readings_a readings.length readings_c) (ek := [(37, .pointer (some ⟨b1, 3, none⟩))]) (Ls := [(b1, .cells #[.int .i64 houses, .int .i64 notices, .slice hears_a hears.length hears_c, .slice readings_a readings.length readings_c, .slice cries_a cries.length cries_c] 27 (0, 0))]) rfl rfl rfl rfl ((sc rfl (sn _))) (by kernel_rfl) (s0 (s1 (s2 sr))) (fun H F' L' hF' hL' => v_load Try.isAgg24 rfl ((Has.own 0 rfl).ext hF' hL') rfl) ?_
 refine shM_v (v := .int .i64 (readings.length : Int)) (ek := [(38, .slice readings_a readings.length readings_c)]) (Ls := []) rfl rfl rfl rfl ((sc rfl (sn _))) (by kernel_rfl) sm (fun H F' L' hF' hL' => v_lenS Try.underlying24 rfl) ?_
 refine ⟨⟨_, rfl, (sc rfl (sn _)), by kernel_rfl⟩, ?_⟩
 refine shM_v (v := .pointer (some ⟨b1, 4, none⟩)) (ek := [(3, .pointer (some ⟨b1, 0, none⟩))]) (Ls := []) rfl rfl rfl rfl ((sc rfl (sn _))) (by kernel_rfl) sm (fun H F' L' hF' hL' => v_fieldAddr fa_27_4 rfl) ?_
 refine shM_v (v := .slice cries_a cries.length cries_c) (ek := [(41, .pointer (some ⟨b1, 4, none⟩))]) (Ls := [(b1, .cells #[.int .i64 houses, .int .i64 notices, .slice hears_a hears.length hears_c, .slice readings_a readings.length readings_c, .slice cries_a cries.length cries_c] 27 (0, 0))]) rfl rfl rfl rfl ((sc rfl (sn _))) (by kernel_rfl) (s0 (s1 (s2 sr))) (fun H F' L' hF' hL' => v_load Try.isAgg25 rfl ((Has.own 0 rfl).ext hF' hL') rfl) ?_
 refine ⟨_, [(42, .slice cries_a cries.length cries_c)], rfl, rfl, (sc rfl (sn _)), by kernel_rfl, ?_⟩; intro H
 obtain ⟨l, h23, r24⟩ := b1_ok r22; clear r22
 refine o_call0 rfl Try.call61 rfl rfl rfl (slices_Clone_book_Cry_book_Cry_w h_cries h23) ?_; rintro _ F25 _ hF26 hn27 ⟨a29, n33, c30, Lb31, rfl, rfl, hz32⟩
 replace h_hears := h_hears.mono (slE_ok (slE_ok (iE_ok _))) hF26
 replace h_readings := h_readings.mono (iE_ok _) hF26
 replace hz32 := hz32.new fun p hp => hn27 p (by simp [hp])
 refine shO_L (lp (ln rfl)) ?_
 refine kO (kf (fS fO) (kf (fS fO) kr)) ?_
 refine shO_nil ⟨_, rfl, hF26, [6, 5, 4, 3, 2, 1, 0], by kernel_rfl, .inl (.inr (fun d h => by cases h; rfl)), (List.forall_mem_cons.2 ⟨sm, (List.forall_mem_cons.2 ⟨s0 (s1 (s2 (s3 sr))), (List.forall_mem_cons.2 ⟨sm, (List.forall_mem_cons.2 ⟨s0 (s1 (s2 (s3 sr))), (List.forall_mem_cons.2 ⟨sm, (List.forall_mem_cons.2 ⟨s0 (s1 (s2 (s3 sr))), (List.forall_mem_cons.2 ⟨sm, (fun _ h => absurd h List.not_mem_nil)⟩)⟩)⟩)⟩)⟩)⟩)⟩), ?_⟩
 refine shM_bs rfl ?_; intro b35 hb35
 refine shM_L (L' := (b35, .cells (madeCells (.int .i64 0 : Value).cells ((Int.toNat (readings.length : Int)) * 1)) 3 (0, 0)) :: ((b2, .cells #[.int .i64 0, .int .i64 0, .slice none 0 0, .slice none 0 0, .slice none 0 0] 27 (0, 0)) :: ((b1, .cells #[.int .i64 houses, .int .i64 notices, .slice hears_a hears.length hears_c, .slice readings_a readings.length readings_c, .slice cries_a cries.length cries_c] 27 (0, 0)) :: (Lb31 ++ [])))) rfl ?_
 refine shM_v (v := .agg #[.int .i64 houses, .int .i64 notices, .slice none 0 0, .slice (some ⟨b35, 0, none⟩) (Int.toNat (readings.length : Int)) (Int.toNat (readings.length : Int)), .slice a29 n33 c30]) (ek := [(34, .int .i64 houses), (36, .int .i64 notices), (40, .slice (some ⟨b35, 0, none⟩) (Int.toNat (readings.length : Int)) (Int.toNat (readings.length : Int))), (43, .slice a29 n33 c30)]) (Ls := []) rfl rfl rfl rfl ((sc rfl (sc rfl (sc rfl (sc rfl (sn _)))))) (by kernel_rfl) sm (fun H F' L' hF' hL' => v_build (v := .agg #[.int .i64 houses, .int .i64 notices, .slice none 0 0, .slice (some ⟨b35, 0, none⟩) (Int.toNat (readings.length : Int)) (Int.toNat (readings.length : Int)), .slice a29 n33 c30]) rfl (by intro w; kernel_rfl)) ?_
 refine shM_ptr rfl ?_; intro b36 hb36
 refine shM_L (L' := (b36, .cells #[.int .i64 0, .int .i64 0, .slice none 0 0, .slice none 0 0, .slice none 0 0] 27 (0, 0)) :: ((b35, .cells (madeCells (.int .i64 0 : Value).cells ((Int.toNat (readings.length : Int)) * 1)) 3 (0, 0)) :: ((b2, .cells #[.int .i64 0, .int .i64 0, .slice none 0 0, .slice none 0 0, .slice none 0 0] 27 (0, 0)) :: ((b1, .cells #[.int .i64 houses, .int .i64 notices, .slice hears_a hears.length hears_c, .slice readings_a readings.length readings_c, .slice cries_a cries.length cries_c] 27 (0, 0)) :: (Lb31 ++ []))))) rfl ?_
 refine ⟨_, [(9, .pointer (some ⟨b36, 0, none⟩)), (44, .agg #[.int .i64 houses, .int .i64 notices, .slice none 0 0, .slice (some ⟨b35, 0, none⟩) (Int.toNat (readings.length : Int)) (Int.toNat (readings.length : Int)), .slice a29 n33 c30])], rfl, rfl, (sc rfl (sc rfl (sn _))), by kernel_rfl, ?_⟩; intro H
 obtain ⟨l2, h37, r38⟩ := bv_ok r24; clear r24
 have hz40 : SlR K.w0.heap.size 3 1 (iE .i64) F25 (some ⟨b35, 0, none⟩) (Int.toNat (readings.length : Int)) (Int.toNat (readings.length : Int)) l2 [(b35, .cells (madeCells (.int .i64 0 : Value).cells ((Int.toNat (readings.length : Int)) * 1)) 3 (0, 0))] := by rw [h37]; exact SlR.made (iE_ok _) (by decide) (fun _ => rfl) hb35 (mz_cap g21)
 generalize hLLb39 : ([(b35, .cells (madeCells (.int .i64 0 : Value).cells ((Int.toNat (readings.length : Int)) * 1)) 3 (0, 0))] : LH) = Lb39 at hz40
 refine shO_perm (L' := Lb39 ++ ((b36, .cells #[.int .i64 0, .int .i64 0, .slice none 0 0, .slice none 0 0, .slice none 0 0] 27 (0, 0)) :: ((b2, .cells #[.int .i64 0, .int .i64 0, .slice none 0 0, .slice none 0 0, .slice none 0 0] 27 (0, 0)) :: ((b1, .cells #[.int .i64 houses, .int .i64 notices, .slice hears_a hears.length hears_c, .slice readings_a readings.length readings_c, .slice cries_a cries.length cries_c] 27 (0, 0)) :: (Lb31 ++ []))))) (by rw [← hLLb39]; exact (fC fO)) ?_
 refine shO_perm (L' := (b36, .cells #[.int .i64 0, .int .i64 0, .slice none 0 0, .slice none 0 0, .slice none 0 0] 27 (0, 0)) :: ((b2, .cells #[.int .i64 0, .int .i64 0, .slice none 0 0, .slice none 0 0, .slice none 0 0] 27 (0, 0)) :: ((b1, .cells #[.int .i64 houses, .int .i64 notices, .slice hears_a hears.length hears_c, .slice readings_a readings.length readings_c, .slice cries_a cries.length cries_c] 27 (0, 0)) :: (Lb39 ++ (Lb31 ++ []))))) (List.Perm.symm (fC (fC (fC fP)))) ?_
 refine o_storeA (i := 0) Try.sizeOf27 rfl rfl rfl (by simp [Value.oneCell']) rfl (Nat.le_of_ble_eq_true rfl) ?_
 refine shO_L (L' := (b36, .cells #[.int .i64 houses, .int .i64 notices, .slice none 0 0, .slice (some ⟨b35, 0, none⟩) (Int.toNat (readings.length : Int)) (Int.toNat (readings.length : Int)), .slice a29 n33 c30] 27 (0, 0)) :: ((b2, .cells #[.int .i64 0, .int .i64 0, .slice none 0 0, .slice none 0 0, .slice none 0 0] 27 (0, 0)) :: ((b1, .cells #[.int .i64 houses, .int .i64 notices, .slice hears_a hears.length hears_c, .slice readings_a readings.length readings_c, .slice cries_a cries.length cries_c] 27 (0, 0)) :: (Lb39 ++ (Lb31 ++ []))))) rfl ?_
 refine shO_nil ⟨undef, rfl, FExt.refl _, [], by kernel_rfl, .inl (.inl rfl), (fun _ h => absurd h List.not_mem_nil), ?_⟩
 refine shM_nil ?_
 obtain ⟨out_hears, h48, r49⟩ := b1_ok r38; clear r38
 refine shW_join (fun e1 F1 L1 => ∃ (a42 : Option Addr) (n46 : Nat) (c43 : Nat) (Lb44 : LH), FExt F25 F1 ∧ L1 = ((b36, .cells #[.int .i64 houses, .int .i64 notices, .slice a42 n46 c43, .slice (some ⟨b35, 0, none⟩) (Int.toNat (readings.length : Int)) (Int.toNat (readings.length : Int)), .slice a29 n33 c30] 27 (0, 0)) :: ((b2, .cells #[.int .i64 0, .int .i64 0, .slice none 0 0, .slice none 0 0, .slice none 0 0] 27 (0, 0)) :: ((b1, .cells #[.int .i64 houses, .int .i64 notices, .slice hears_a hears.length hears_c, .slice readings_a readings.length readings_c, .slice cries_a cries.length cries_c] 27 (0, 0)) :: (Lb44 ++ (Lb39 ++ (Lb31 ++ [])))))) ∧ e1.sub [(1, .int .i64 hour), (2, .int .i64 point), (3, .pointer (some ⟨b1, 0, none⟩)), (6, .pointer (some ⟨b2, 0, none⟩)), (9, .pointer (some ⟨b36, 0, none⟩))] ∧ SlR K.w0.heap.size 42 1 (slE 1 (slE 1 (iE .i64))) F1 a42 n46 c43 out_hears Lb44) ?_ ?_
 · clear r49
   refine wsr ?_
   refine ov (v_fieldAddr fa_27_2 rfl) rfl ?_
   refine ov (v_load Try.isAgg23 rfl (Has.own 2 rfl) rfl) rfl ?_
   refine ov (v_lenS Try.underlying23 rfl) rfl ?_
   refine om rfl rfl (shO_nil ?_)
   refine shW_block ?_
   refine shW_lp (fun fu1 e1 F1 L1 => ∃ (tl : List (List (List Int))) (k : Int), tl.length = fu1 ∧ Lst hears k tl ∧ ∃ (out_hears2 : List (List (List Int))) (a50 : Option Addr) (n54 : Nat) (c51 : Nat) (Lb52 : LH), book_Read_l1 tl out_hears2 = some out_hears ∧ FExt F25 F1 ∧ L1 = ((b36, .cells #[.int .i64 houses, .int .i64 notices, .slice a50 n54 c51, .slice (some ⟨b35, 0, none⟩) (Int.toNat (readings.length : Int)) (Int.toNat (readings.length : Int)), .slice a29 n33 c30] 27 (0, 0)) :: ((b2, .cells #[.int .i64 0, .int .i64 0, .slice none 0 0, .slice none 0 0, .slice none 0 0] 27 (0, 0)) :: ((b1, .cells #[.int .i64 houses, .int .i64 notices, .slice hears_a hears.length hears_c, .slice readings_a readings.length readings_c, .slice cries_a cries.length cries_c] 27 (0, 0)) :: (Lb52 ++ (Lb39 ++ (Lb31 ++ [])))))) ∧ e1.sub [(1, .int .i64 hour), (2, .int .i64 point), (3, .pointer (some ⟨b1, 0, none⟩)), (6, .pointer (some ⟨b2, 0, none⟩)), (9, .pointer (some ⟨b36, 0, none⟩)), (46, .slice hears_a hears.length hears_c), (47, .int .i64 (hears.length : Int)), (48, .int .i64 k)] ∧ SlR K.w0.heap.size 42 1 (slE 1 (slE 1 (iE .i64))) F1 a50 n54 c51 out_hears2 Lb52) _ (m0 (kc (kc (kc (ke kr)))) ⟨_, _, rfl, Lst.start _, [], none, 0, 0, [], h48, FExt.refl _, rfl, (sc rfl (sc rfl (sc rfl (sc rfl (sc rfl (sc rfl (sc rfl (sc rfl (sn _))))))))), SlR.nil _ _ _ _ _⟩) ?_
   rintro fu1 e1 F60 _ ⟨tl, k, hn57, hk56, out_hears2, a50, n54, c51, Lb52, r58, hF61, rfl, he59, hz53⟩
   refine shW_env _ he59 ?_; clear he59
   replace h_hears := h_hears.mono (slE_ok (slE_ok (iE_ok _))) hF61
   refine wsr ?_
   refine ov (v_lssK rfl rfl) rfl ?_
   refine shO_nil (shW_seq ?_)
   refine shW_condP rfl (fun c63 => ?_) (fun c63 => ?_)
   · obtain ⟨x, tl2, rfl, hx65, g66, hk64⟩ := Lst.succ hk56 c63
     rw [book_Read_l1] at r58
     refine shW_skip ?_
     obtain ⟨out_hears3, h73, r74⟩ := b1_ok r58; clear r58
     refine shW_join (fun e1 F1 L1 => ∃ (a67 : Option Addr) (n71 : Nat) (c68 : Nat) (Lb69 : LH), FExt F60 F1 ∧ L1 = ((b36, .cells #[.int .i64 houses, .int .i64 notices, .slice a67 n71 c68, .slice (some ⟨b35, 0, none⟩) (Int.toNat (readings.length : Int)) (Int.toNat (readings.length : Int)), .slice a29 n33 c30] 27 (0, 0)) :: ((b2, .cells #[.int .i64 0, .int .i64 0, .slice none 0 0, .slice none 0 0, .slice none 0 0] 27 (0, 0)) :: ((b1, .cells #[.int .i64 houses, .int .i64 notices, .slice hears_a hears.length hears_c, .slice readings_a readings.length readings_c, .slice cries_a cries.length cries_c] 27 (0, 0)) :: (Lb69 ++ (Lb39 ++ (Lb31 ++ [])))))) ∧ e1.sub [(1, .int .i64 hour), (2, .int .i64 point), (3, .pointer (some ⟨b1, 0, none⟩)), (6, .pointer (some ⟨b2, 0, none⟩)), (9, .pointer (some ⟨b36, 0, none⟩)), (46, .slice hears_a hears.length hears_c), (47, .int .i64 (hears.length : Int)), (48, .int .i64 k)] ∧ SlR K.w0.heap.size 42 1 (slE 1 (slE 1 (iE .i64))) F1 a67 n71 c68 out_hears3 Lb69) ?_ ?_
     · clear r74
       refine shW_block ?_
       refine wsr ?_
       obtain ⟨b75, o76, c77, vs78, ha79, hs80, hle81, ⟨a84, c85, rfl, h86⟩, hl82, hc83⟩ := RowR.at (slE_ok (slE_ok (iE_ok _))) h_hears ((b36, .cells #[.int .i64 houses, .int .i64 notices, .slice a50 n54 c51, .slice (some ⟨b35, 0, none⟩) (Int.toNat (readings.length : Int)) (Int.toNat (readings.length : Int)), .slice a29 n33 c30] 27 (0, 0)) :: ((b2, .cells #[.int .i64 0, .int .i64 0, .slice none 0 0, .slice none 0 0, .slice none 0 0] 27 (0, 0)) :: ((b1, .cells #[.int .i64 houses, .int .i64 notices, .slice hears_a hears.length hears_c, .slice readings_a readings.length readings_c, .slice cries_a cries.length cries_c] 27 (0, 0)) :: (Lb52 ++ (Lb39 ++ (Lb31 ++ [])))))) g66.1 hx65
       refine ov (v_indexO Try.underlying23 Try.sizeOf42 rfl ha79 rfl g66) rfl ?_
       refine ov (v_load Try.isAgg42 rfl hs80 (hc83 0 (by decide))) rfl ?_
       refine oa rfl rfl (nsr (oa rfl rfl (shO_nil ?_)))
       obtain ⟨own, h93, r94⟩ := b1_ok h73; clear h73
       refine shW_join (fun e1 F1 L1 => ∃ (a87 : Option Addr) (n91 : Nat) (c88 : Nat) (Lb89 : LH), FExt F60 F1 ∧ L1 = ((b36, .cells #[.int .i64 houses, .int .i64 notices, .slice a50 n54 c51, .slice (some ⟨b35, 0, none⟩) (Int.toNat (readings.length : Int)) (Int.toNat (readings.length : Int)), .slice a29 n33 c30] 27 (0, 0)) :: ((b2, .cells #[.int .i64 0, .int .i64 0, .slice none 0 0, .slice none 0 0, .slice none 0 0] 27 (0, 0)) :: ((b1, .cells #[.int .i64 houses, .int .i64 notices, .slice hears_a hears.length hears_c, .slice readings_a readings.length readings_c, .slice cries_a cries.length cries_c] 27 (0, 0)) :: (Lb52 ++ (Lb39 ++ (Lb31 ++ (Lb89 ++ []))))))) ∧ e1.sub [(1, .int .i64 hour), (2, .int .i64 point), (3, .pointer (some ⟨b1, 0, none⟩)), (6, .pointer (some ⟨b2, 0, none⟩)), (9, .pointer (some ⟨b36, 0, none⟩)), (12, .slice a87 n91 c88), (46, .slice hears_a hears.length hears_c), (47, .int .i64 (hears.length : Int)), (48, .int .i64 k)] ∧ SlR K.w0.heap.size 24 1 (slE 1 (iE .i64)) F1 a87 n91 c88 own Lb89) ?_ ?_
       · clear r94
         refine wsr (om rfl rfl ?_)
         refine ov (v_lenS Try.underlying42 rfl) rfl ?_
         refine om rfl rfl (shO_nil ?_)
         refine shW_block ?_
         refine shW_lp (fun fu2 e1 F1 L1 => ∃ (tl3 : List (List Int)) (k2 : Int), tl3.length = fu2 ∧ Lst x k2 tl3 ∧ ∃ (own2 : List (List Int)) (a95 : Option Addr) (n99 : Nat) (c96 : Nat) (Lb97 : LH), book_Read_l2 tl3 own2 = some own ∧ FExt F60 F1 ∧ L1 = ((b36, .cells #[.int .i64 houses, .int .i64 notices, .slice a50 n54 c51, .slice (some ⟨b35, 0, none⟩) (Int.toNat (readings.length : Int)) (Int.toNat (readings.length : Int)), .slice a29 n33 c30] 27 (0, 0)) :: ((b2, .cells #[.int .i64 0, .int .i64 0, .slice none 0 0, .slice none 0 0, .slice none 0 0] 27 (0, 0)) :: ((b1, .cells #[.int .i64 houses, .int .i64 notices, .slice hears_a hears.length hears_c, .slice readings_a readings.length readings_c, .slice cries_a cries.length cries_c] 27 (0, 0)) :: (Lb52 ++ (Lb39 ++ (Lb31 ++ (Lb97 ++ []))))))) ∧ e1.sub [(1, .int .i64 hour), (2, .int .i64 point), (3, .pointer (some ⟨b1, 0, none⟩)), (6, .pointer (some ⟨b2, 0, none⟩)), (9, .pointer (some ⟨b36, 0, none⟩)), (12, .slice a95 n99 c96), (46, .slice hears_a hears.length hears_c), (47, .int .i64 (hears.length : Int)), (48, .int .i64 k), (52, .slice a84 x.length c85), (53, .int .i64 (x.length : Int)), (54, .int .i64 k2)] ∧ SlR K.w0.heap.size 24 1 (slE 1 (iE .i64)) F1 a95 n99 c96 own2 Lb97) _ (m0 (kc (kc (kc (ka (ka (ka (ke kr))))))) ⟨_, _, rfl, Lst.start _, [], none, 0, 0, [], h93, FExt.refl _, rfl, (sc rfl (sc rfl (sc rfl (sc rfl (sc rfl (sc rfl (sc rfl (sc rfl (sc rfl (sc rfl (sc rfl (sc rfl (sn _))))))))))))), SlR.nil _ _ _ _ _⟩) ?_
         rintro fu2 e1 F105 _ ⟨tl3, k2, hn102, hk101, own2, a95, n99, c96, Lb97, r103, hF106, rfl, he104, hz98⟩
         refine shW_env _ he104 ?_; clear he104
         replace h86 := h86.mono (slE_ok (iE_ok _)) hF106
         refine wsr ?_
         refine ov (v_lssK rfl rfl) rfl ?_
         refine shO_nil (shW_seq ?_)
         refine shW_condP rfl (fun c108 => ?_) (fun c108 => ?_)
         · obtain ⟨x2, tl4, rfl, hx110, g111, hk109⟩ := Lst.succ hk101 c108
           rw [book_Read_l2] at r103
           refine shW_skip (shW_seq ?_)
           refine shW_block ?_
           refine wsr ?_
           obtain ⟨b112, o113, c114, vs115, ha116, hs117, hle118, ⟨a121, c122, rfl, h123⟩, hl119, hc120⟩ := RowR.at (slE_ok (iE_ok _)) h86 ((b36, .cells #[.int .i64 houses, .int .i64 notices, .slice a50 n54 c51, .slice (some ⟨b35, 0, none⟩) (Int.toNat (readings.length : Int)) (Int.toNat (readings.length : Int)), .slice a29 n33 c30] 27 (0, 0)) :: ((b2, .cells #[.int .i64 0, .int .i64 0, .slice none 0 0, .slice none 0 0, .slice none 0 0] 27 (0, 0)) :: ((b1, .cells #[.int .i64 houses, .int .i64 notices, .slice hears_a hears.length hears_c, .slice readings_a readings.length readings_c, .slice cries_a cries.length cries_c] 27 (0, 0)) :: (Lb52 ++ (Lb39 ++ (Lb31 ++ (Lb97 ++ []))))))) g111.1 hx110
           refine ov (v_indexO Try.underlying42 Try.sizeOf24 rfl ha116 rfl g111) rfl ?_
           refine ov (v_load Try.isAgg24 rfl hs117 (hc120 0 (by decide))) rfl ?_
           refine oa rfl rfl (shO_nil (shW_region (om rfl rfl (om rfl rfl ?_))))
           obtain ⟨l3, h124, r125⟩ := b1_ok r103; clear r103
           refine o_call0 rfl Try.call54 rfl rfl rfl (slices_Clone_int_int_w h123 h124) ?_; rintro _ F126 _ hF127 hn128 ⟨a130, n134, c131, Lb132, rfl, rfl, hz133⟩
           replace h86 := h86.mono (slE_ok (iE_ok _)) hF127
           replace hz98 := hz98.mono (slE_ok (iE_ok _)) hF127
           replace hz133 := hz133.new fun p hp => hn128 p (by simp [hp])
           refine shO_L (lp (ln rfl)) ?_
           refine kO (kf (fS fO) (kf (fS fO) (kf (fS fO) kr))) ?_
           refine o_buildSlice (cs := #[.slice a130 n134 c131]) rfl rfl (buildSlice_all slt_42 [.slice a130 n134 c131] rfl (by decide) (by simp [Value.cells]) (by decide)) ?_; intro b136 hb136
           obtain rfl := (SlR.caps hz133).1
           refine shO_freezeR (Nat.le_refl _) (iE_ok _) (fC (fC (fC (fC fP)))) hz133 ?_; intro F137 hF138 h139
           replace h86 := h86.mono (slE_ok (iE_ok _)) hF138
           replace hz98 := hz98.mono (slE_ok (iE_ok _)) hF138
           obtain ⟨own3, h140, g141, r142⟩ := ap_ok r125; clear r125
           refine o_appZ (xs := own2) (ys := [l3]) (zs := own3) rfl slt_42 rfl rfl (Nat.le_refl _) (fun _ => .c (.c (.c (.c (.s (.s (.s .h))))))) hz98 (SrcR.box (vss := [[.slice a130 l3.length c131]]) (ys := [l3]) 0 rfl (slE_ok (iE_ok _)) (.cons ⟨_, _, rfl, h139⟩ .nil) rfl rfl) h140 g141 (by decide) ?_; intro a143 n147 c144 Lb145 hz146
           refine kO (kd kr) ?_
           refine oa rfl rfl (shO_nil (inBlock_n (id := 4) (shW_region ?_)))
           refine ov (v_add rfl rfl (Lst.r64 hk101 c108 (RowR.lt h86))) rfl ?_
           refine om rfl rfl (shO_nil ?_)
           subst hn102; exact le kr ⟨_, _, rfl, hk109, own3, a143, n147, c144, Lb145, r142, ((hF106.trans hF127).trans hF138), rfl, (sc rfl (sc rfl (sc rfl (sc rfl (sc rfl (sc rfl (sc rfl (sc rfl (sc rfl (sc rfl (sc rfl (sc rfl (sn _))))))))))))), hz146⟩
         obtain rfl := Lst.zero hk101 c108
         rw [book_Read_l2] at r103
         refine shW_exit (andThen_exit (andThen_exit ?_))
         refine inBlock_exit ?_
         obtain rfl := inj1 r103
         exact mi kr ⟨a95, n99, c96, Lb97, hF106, rfl, (sc rfl (sc rfl (sc rfl (sc rfl (sc rfl (sc rfl (sc rfl (sc rfl (sc rfl (sn _)))))))))), hz98⟩
       rintro e1 F150 _ ⟨a87, n91, c88, Lb89, hF151, rfl, he149, hz90⟩
       refine shW_env _ he149 ?_; clear he149
       replace hz53 := hz53.mono (slE_ok (slE_ok (iE_ok _))) hF151
       refine shW_region ?_
       refine ov (v_fieldAddr fa_27_2 rfl) rfl ?_
       refine ov (v_load Try.isAgg23 rfl (Has.own 0 rfl) rfl) rfl ?_
       refine om rfl rfl ?_
       refine o_buildSlice (cs := #[.slice a87 n91 c88]) rfl rfl (buildSlice_all slt_23 [.slice a87 n91 c88] rfl (by decide) (by simp [Value.cells]) (by decide)) ?_; intro b152 hb152
       obtain rfl := (SlR.caps hz90).1
       refine shO_freezeR (Nat.le_refl _) (slE_ok (iE_ok _)) (fC (fC (fC (fC (fS (fS (fS fP))))))) hz90 ?_; intro F153 hF154 h155
       replace hz53 := hz53.mono (slE_ok (slE_ok (iE_ok _))) hF154
       obtain ⟨out, h156, g157, r158⟩ := ap_ok r94; clear r94
       refine o_appZ (xs := out_hears2) (ys := [own]) (zs := out) rfl slt_23 rfl rfl (Nat.le_refl _) (fun _ => .c (.c (.c (.c .h)))) hz53 (SrcR.box (vss := [[.slice a87 own.length c88]]) (ys := [own]) 0 rfl (slE_ok (slE_ok (iE_ok _))) (.cons ⟨_, _, rfl, h155⟩ .nil) rfl rfl) h156 g157 (by decide) ?_; intro a159 n163 c160 Lb161 hz162
       refine kO (kd kr) ?_
       refine ov (v_fieldAddr fa_27_2 rfl) rfl ?_
       refine o_store (i := 0) Try.sizeOf23 rfl rfl rfl rfl (Nat.le_of_ble_eq_true rfl) ?_
       refine shO_L (L' := (b36, .cells #[.int .i64 houses, .int .i64 notices, .slice a159 n163 c160, .slice (some ⟨b35, 0, none⟩) (Int.toNat (readings.length : Int)) (Int.toNat (readings.length : Int)), .slice a29 n33 c30] 27 (0, 0)) :: ((b2, .cells #[.int .i64 0, .int .i64 0, .slice none 0 0, .slice none 0 0, .slice none 0 0] 27 (0, 0)) :: ((b1, .cells #[.int .i64 houses, .int .i64 notices, .slice hears_a hears.length hears_c, .slice readings_a readings.length readings_c, .slice cries_a cries.length cries_c] 27 (0, 0)) :: (Lb161 ++ (Lb39 ++ (Lb31 ++ [])))))) rfl ?_
       refine shO_nil (inBlock_n (id := 2) ?_)
       obtain rfl := inj1 r158
       exact mi kr ⟨a159, n163, c160, Lb161, (hF151.trans hF154), rfl, (sc rfl (sc rfl (sc rfl (sc rfl (sc rfl (sc rfl (sc rfl (sc rfl (sn _))))))))), hz162⟩
     rintro e1 F166 _ ⟨a67, n71, c68, Lb69, hF167, rfl, he165, hz70⟩
     refine shW_env _ he165 ?_; clear he165
     replace h_hears := h_hears.mono (slE_ok (slE_ok (iE_ok _))) hF167
     refine shW_region ?_
     refine ov (v_add rfl rfl (Lst.r64 hk56 c63 (RowR.lt h_hears))) rfl ?_
     refine om rfl rfl (shO_nil ?_)
     subst hn57; exact le kr ⟨_, _, rfl, hk64, out_hears3, a67, n71, c68, Lb69, r74, (hF61.trans hF167), rfl, (sc rfl (sc rfl (sc rfl (sc rfl (sc rfl (sc rfl (sc rfl (sc rfl (sn _))))))))), hz70⟩
   obtain rfl := Lst.zero hk56 c63
   rw [book_Read_l1] at r58
   refine shW_exit (andThen_exit (andThen_exit ?_))
   refine inBlock_exit ?_
   obtain rfl := inj1 r58
   exact mi kr ⟨a50, n54, c51, Lb52, hF61, rfl, (sc rfl (sc rfl (sc rfl (sc rfl (sc rfl (sn _)))))), hz53⟩
 rintro e1 F169 _ ⟨a42, n46, c43, Lb44, hF170, rfl, he168, hz45⟩
 refine shW_env _ he168 ?_; clear he168
 replace h_readings := h_readings.mono (iE_ok _) hF170
 replace hz40 := hz40.mono (iE_ok _) hF170
 replace hz32 := hz32.mono (prE_ok (iE_ok _) (prE_ok (iE_ok _) (iE_ok _))) hF170
 refine wsr ?_
 refine ov (v_fieldAddr fa_27_3 rfl) rfl ?_
 refine ov (v_load Try.isAgg24 rfl (Has.own 0 rfl) rfl) rfl ?_
 refine ov (v_fieldAddr fa_27_3 rfl) rfl ?_
 refine ov (v_load Try.isAgg24 rfl (Has.own 2 rfl) rfl) rfl ?_
 obtain ⟨out2, h171, r172⟩ := bv_ok r49; clear r49
 refine o_copyZ (ys := readings) (zs := out2) rfl slt_24 (iE_ok _) rfl rfl (fun _ => .c (.c (.c (.s .h)))) hz40 (RowR.src h_readings) h171 ?_; intro Lb173 hz174
 refine nsr ?_
 refine ov (v_fieldAddr fa_27_3 rfl) rfl ?_
 refine ov (v_load Try.isAgg24 rfl (Has.own 0 rfl) rfl) rfl ?_
 refine om rfl rfl (om rfl rfl ?_)
 obtain ⟨x3, g175, hx176, r177⟩ := ix_ok r172; clear r172
 obtain ⟨b178, o179, c180, vs181, ha182, hs183, hle184, rfl, hl185, hc186⟩ := SlR.at (iE_ok _) hz174 (L := (b36, .cells #[.int .i64 houses, .int .i64 notices, .slice a42 n46 c43, .slice (some ⟨b35, 0, none⟩) (Int.toNat (readings.length : Int)) (Int.toNat (readings.length : Int)), .slice a29 n33 c30] 27 (0, 0)) :: ((b2, .cells #[.int .i64 0, .int .i64 0, .slice none 0 0, .slice none 0 0, .slice none 0 0] 27 (0, 0)) :: ((b1, .cells #[.int .i64 houses, .int .i64 notices, .slice hears_a hears.length hears_c, .slice readings_a readings.length readings_c, .slice cries_a cries.length cries_c] 27 (0, 0)) :: (Lb44 ++ (Lb173 ++ (Lb31 ++ [])))))) (fC (fC (fC (fS fP)))) g175.1 hx176
 refine ov (v_indexO Try.underlying24 Try.sizeOf3 rfl ha182 rfl (SlR.idx hz174 g175)) rfl ?_
 obtain ⟨out3, h187, r188⟩ := bv_ok r177; clear r177
 refine o_storeZ (u := point) Try.sizeOf3 (iE_ok _) rfl ha182 rfl rfl (fun _ => .c (.c (.c (.s .h)))) hz174 h187 g175 ?_; intro Lb189 hz190
 refine nsr ?_
 refine ov (v_loadA (cs := #[.int .i64 houses, .int .i64 notices, .slice a42 n46 c43, .slice (some ⟨b35, 0, none⟩) (Int.toNat (readings.length : Int)) (Int.toNat (readings.length : Int)), .slice a29 n33 c30]) Try.isAgg27 Try.sizeOf27 rfl (Has.own 0 rfl) (Nat.le_of_ble_eq_true rfl) rfl) rfl ?_
 refine o_storeA (i := 1) Try.sizeOf27 rfl rfl rfl (by simp [Value.oneCell']) rfl (Nat.le_of_ble_eq_true rfl) ?_
 refine shO_L (L' := (b36, .cells #[.int .i64 houses, .int .i64 notices, .slice a42 n46 c43, .slice (some ⟨b35, 0, none⟩) (Int.toNat (readings.length : Int)) (Int.toNat (readings.length : Int)), .slice a29 n33 c30] 27 (0, 0)) :: ((b2, .cells #[.int .i64 houses, .int .i64 notices, .slice a42 n46 c43, .slice (some ⟨b35, 0, none⟩) (Int.toNat (readings.length : Int)) (Int.toNat (readings.length : Int)), .slice a29 n33 c30] 27 (0, 0)) :: ((b1, .cells #[.int .i64 houses, .int .i64 notices, .slice hears_a hears.length hears_c, .slice readings_a readings.length readings_c, .slice cries_a cries.length cries_c] 27 (0, 0)) :: (Lb44 ++ (Lb189 ++ (Lb31 ++ [])))))) rfl ?_
 refine oa rfl rfl (shO_nil ?_)
 refine kW (kd (kc (kd kr))) ?_
 refine shW_ret ?_
 refine q_res2 Try.results28 (res_cellA (cs := #[.int .i64 houses, .int .i64 notices, .slice a42 n46 c43, .slice (some ⟨b35, 0, none⟩) (Int.toNat (readings.length : Int)) (Int.toNat (readings.length : Int)), .slice a29 n33 c30]) Try.isAgg27 Try.sizeOf27 rfl (Has.own 0 rfl) (Nat.le_of_ble_eq_true rfl) rfl) (res_tmp rfl) (s1 (s4 (s4 (s4 sr)))) ?_
 obtain ⟨rfl, rfl, rfl, rfl, rfl, rfl⟩ := inj6 r188
 exact ⟨_, _, _, _, _, _, _, _, _, _, _, _, rfl, rfl, hz45.any, hz190.any, hz32.any⟩
set_option maxHeartbeats 1000000 in
theorem oyezlaw07_BookRead_w {numbers_a : Option Addr} {numbers_c : Nat} {numbers : List Int} {which : Int} {F : FS} (h_numbers : RowR 1 (iE .u8) F numbers_a numbers_c numbers) {r : Bool} (hr : oyezlaw07_BookRead numbers which = some r) :
    SpecV Try.prog 6 #[.slice numbers_a numbers.length numbers_c, .int .u8 which] F (.bool r) := by
 refine spec_of_shW (args := [.slice numbers_a numbers.length numbers_c, .int .u8 which]) Try.func6 rfl Try.ntmps6 (Nat.le_of_ble_eq_true rfl) ?_
 intro K _ _; rw [oyezlaw07_BookRead] at hr
 refine wsr (oa rfl rfl (nsr (om rfl rfl ?_)))
 obtain ⟨metal, at_, turn, h1, r2⟩ := b3_ok hr; clear hr
 refine o_call0 rfl Try.call10 rfl rfl rfl (oyezkit_Hang_w h_numbers h1) ?_; rintro _ F3 _ hF4 hn5 ⟨b7, a8, c9, rfl, rfl, h10⟩
 refine shO_L (lb (ln rfl)) ?_
 obtain ⟨n, n2, l, l2, l3, l4, at_2, turn2, h11, r12⟩ := b8_ok r2; clear r2
 refine o_callG (Lb := [(b7, .cells #[.slice a8 metal.length c9, .int .i64 at_, .int .u32 turn] 83 (0, 0))]) (Lr := []) rfl Try.call9 rfl rfl rfl (pR) (oyezlaw07_Made_w h10 h11) ?_; rintro _ F13 _ hF14 hd16 hn15 ⟨a17, n21, c18, Lb19, a23, n27, c24, Lb25, a29, n33, c30, Lb31, a35, n39, c36, Lb37, rfl, rfl, hz20, hz26, hz32, hz38⟩
 have hn41 := newp (Lb' := [(b7, .cells #[.slice a8 metal.length c9, .int .i64 at_2, .int .u32 turn2] 83 (0, 0))]) (by rfl) hd16 hn15
 replace hz20 := hz20.new fun p hp => hn41 p (by simp [hp])
 replace hz26 := hz26.new fun p hp => hn41 p (by simp [hp])
 replace hz32 := hz32.new fun p hp => hn41 p (by simp [hp])
 refine shO_L (lb (lp (lp (lp (lp (ln rfl)))))) ?_
 refine om rfl rfl (ox rfl rfl rfl (ox rfl rfl rfl ?_))
 refine o_alloc rfl Try.zeroValue27 ?_; intro b42 hb42
 refine o_storeA (i := 0) Try.sizeOf27 rfl rfl rfl (by simp [Value.oneCell']) rfl (Nat.le_of_ble_eq_true rfl) ?_
 refine shO_L (L' := (b42, .cells #[.int .i64 n, .int .i64 n2, .slice a17 n21 c18, .slice a23 n27 c24, .slice a29 n33 c30] 27 (0, 0)) :: ((b7, .cells #[.slice a8 metal.length c9, .int .i64 at_2, .int .u32 turn2] 83 (0, 0)) :: (Lb19 ++ (Lb25 ++ (Lb31 ++ (Lb37 ++ [])))))) rfl ?_
 refine oa rfl rfl (nsr (om rfl rfl ?_))
 obtain ⟨g43, r44⟩ := gd_ok r12; clear r12
 refine ov (i_conv Try.underlying5 Try.underlying3 rfl g43) rfl ?_
 refine ov (v_fieldAddr fa_27_3 rfl) rfl ?_
 refine ov (v_load Try.isAgg24 rfl (Has.own 0 rfl) rfl) rfl ?_
 refine ov ((v_lenS Try.underlying24 rfl).i (SlR.lenI hz26)) rfl ?_
 obtain ⟨g45, r46⟩ := gd_ok r44; clear r44
 refine ov (v_remT rfl rfl g45) rfl ?_
 obtain ⟨hour, h47, r48⟩ := bv_ok r46; clear r46
 refine ov ((v_assign rfl).i h47) rfl ?_
 refine nsr ?_
 refine ov (v_loadA (cs := #[.int .i64 n, .int .i64 n2, .slice a17 n21 c18, .slice a23 n27 c24, .slice a29 n33 c30]) Try.isAgg27 Try.sizeOf27 rfl (Has.own 0 rfl) (Nat.le_of_ble_eq_true rfl) rfl) rfl ?_
 refine om rfl rfl ?_
 obtain rfl := (SlR.caps hz20).1
 refine shO_freezeR (Nat.le_refl _) (slE_ok (slE_ok (iE_ok _))) (fC (fC fP)) hz20 ?_; intro F49 hF50 h51
 replace hz26 := hz26.mono (iE_ok _) hF50
 replace hz32 := hz32.mono (prE_ok (iE_ok _) (prE_ok (iE_ok _) (iE_ok _))) hF50
 obtain rfl := (SlR.caps hz26).1
 refine shO_freezeR (Nat.le_refl _) (iE_ok _) (fC (fC fP)) hz26 ?_; intro F52 hF53 h54
 replace h51 := h51.mono (slE_ok (slE_ok (iE_ok _))) hF53
 replace hz32 := hz32.mono (prE_ok (iE_ok _) (prE_ok (iE_ok _) (iE_ok _))) hF53
 obtain rfl := (SlR.caps hz32).1
 refine shO_freezeR (Nat.le_refl _) (prE_ok (iE_ok _) (prE_ok (iE_ok _) (iE_ok _))) (fC (fC fP)) hz32 ?_; intro F55 hF56 h57
 replace h51 := h51.mono (slE_ok (slE_ok (iE_ok _))) hF56
 replace h54 := h54.mono (iE_ok _) hF56
 obtain ⟨n3, n4, l5, l6, l7, n5, h58, r59⟩ := b6_ok r48; clear r48
 refine o_call0 rfl Try.call28 rfl rfl rfl (book_Read_w h51 h54 h57 h58) ?_; rintro _ F60 _ hF61 hn62 ⟨a64, n68, c65, Lb66, a70, n74, c71, Lb72, a76, n80, c77, Lb78, rfl, rfl, hz67, hz73, hz79⟩
 replace hz67 := hz67.new fun p hp => hn62 p (by simp [hp])
 replace hz73 := hz73.new fun p hp => hn62 p (by simp [hp])
 replace hz79 := hz79.new fun p hp => hn62 p (by simp [hp])
 refine shO_L (lp (lp (lp (ln rfl)))) ?_
 refine kO (kf (fS (fS (fS fO))) (kf (fS (fS (fS fO))) kr)) ?_
 refine om rfl rfl (ox rfl rfl rfl (ox rfl rfl rfl ?_))
 refine o_alloc rfl Try.zeroValue27 ?_; intro b82 hb82
 refine o_storeA (i := 0) Try.sizeOf27 rfl rfl rfl (by simp [Value.oneCell']) rfl (Nat.le_of_ble_eq_true rfl) ?_
 refine shO_L (L' := (b82, .cells #[.int .i64 n3, .int .i64 n4, .slice a64 n68 c65, .slice a70 n74 c71, .slice a76 n80 c77] 27 (0, 0)) :: ((b42, .cells #[.int .i64 n, .int .i64 n2, .slice a17 l.length c18, .slice a23 l2.length c24, .slice a29 l3.length c30] 27 (0, 0)) :: ((b7, .cells #[.slice a8 metal.length c9, .int .i64 at_2, .int .u32 turn2] 83 (0, 0)) :: (Lb66 ++ (Lb72 ++ (Lb78 ++ (Lb37 ++ []))))))) rfl ?_
 refine oa rfl rfl (nsr ?_)
 refine ov (v_loadA (cs := #[.int .i64 n3, .int .i64 n4, .slice a64 n68 c65, .slice a70 n74 c71, .slice a76 n80 c77]) Try.isAgg27 Try.sizeOf27 rfl (Has.own 0 rfl) (Nat.le_of_ble_eq_true rfl) rfl) rfl ?_
 obtain ⟨n6, n7, h83, r84⟩ := b2_ok r59; clear r59
 refine o_callT (Lt := Lb66 ++ (Lb72 ++ (Lb78 ++ []))) (Lr := (b82, .cells #[.int .i64 n3, .int .i64 n4, .slice a64 n68 c65, .slice a70 n74 c71, .slice a76 n80 c77] 27 (0, 0)) :: ((b42, .cells #[.int .i64 n, .int .i64 n2, .slice a17 l.length c18, .slice a23 l2.length c24, .slice a29 l3.length c30] 27 (0, 0)) :: ((b7, .cells #[.slice a8 metal.length c9, .int .i64 at_2, .int .u32 turn2] 83 (0, 0)) :: (Lb37 ++ [])))) rfl Try.call14 rfl rfl rfl (pT ((fC (fC (fC fP))).trans (pA ((fC (fC (fC fP))).trans (pA ((fC (fC (fC fP))).trans (pA pR)))))) (lp (lp (lp (ln rfl))))) (fun F2 h2 h3 => by rw [(SlR.caps hz67).1]; rw [(SlR.caps hz73).1]; rw [(SlR.caps hz79).1]; exact book_Count_w (hz67.row (slE_ok (slE_ok (iE_ok _))) h2 (fun p hp => h3 p (List.mem_append_left _ hp))) (hz73.row (iE_ok _) h2 (fun p hp => h3 p (List.mem_append_right _ (List.mem_append_left _ hp)))) (hz79.row (prE_ok (iE_ok _) (prE_ok (iE_ok _) (iE_ok _))) h2 (fun p hp => h3 p (List.mem_append_right _ (List.mem_append_right _ (List.mem_append_left _ hp))))) h83) ?_
 refine om rfl rfl (ox rfl rfl rfl (ox rfl rfl rfl (oa rfl rfl (oa rfl rfl (nsr ?_)))))
 refine ov (v_loadA (cs := #[.int .i64 n3, .int .i64 n4, .slice a64 n68 c65, .slice a70 n74 c71, .slice a76 n80 c77]) Try.isAgg27 Try.sizeOf27 rfl (Has.own 0 rfl) (Nat.le_of_ble_eq_true rfl) rfl) rfl ?_
 obtain rfl := (SlR.caps hz67).1
 refine shO_freezeR (Nat.le_refl _) (slE_ok (slE_ok (iE_ok _))) (fC (fC (fC fP))) hz67 ?_; intro F85 hF86 h87
 replace hz73 := hz73.mono (iE_ok _) hF86
 replace hz79 := hz79.mono (prE_ok (iE_ok _) (prE_ok (iE_ok _) (iE_ok _))) hF86
 obtain rfl := (SlR.caps hz73).1
 refine shO_freezeR (Nat.le_refl _) (iE_ok _) (fC (fC (fC fP))) hz73 ?_; intro F88 hF89 h90
 replace h87 := h87.mono (slE_ok (slE_ok (iE_ok _))) hF89
 replace hz79 := hz79.mono (prE_ok (iE_ok _) (prE_ok (iE_ok _) (iE_ok _))) hF89
 obtain rfl := (SlR.caps hz79).1
 refine shO_freezeR (Nat.le_refl _) (prE_ok (iE_ok _) (prE_ok (iE_ok _) (iE_ok _))) (fC (fC (fC fP))) hz79 ?_; intro F91 hF92 h93
 replace h87 := h87.mono (slE_ok (slE_ok (iE_ok _))) hF92
 replace h90 := h90.mono (iE_ok _) hF92
 obtain ⟨l8, n8, h94, r95⟩ := b2_ok r84; clear r84
 refine o_call0 rfl Try.call13 rfl rfl rfl (book_Verdicts_w h87 h90 h93 h94) ?_; rintro _ F96 _ hF97 hn98 ⟨a100, c101, rfl, rfl, h102⟩
 replace h87 := h87.mono (slE_ok (slE_ok (iE_ok _))) hF97
 replace h90 := h90.mono (iE_ok _) hF97
 replace h93 := h93.mono (prE_ok (iE_ok _) (prE_ok (iE_ok _) (iE_ok _))) hF97
 refine shO_L (ln rfl) ?_
 refine om rfl rfl (ox rfl rfl rfl (ox rfl rfl rfl (oa rfl rfl (oa rfl rfl (shO_nil (shW_seq ?_))))))
 obtain ⟨k, h103, r104⟩ := b1_ok r95; clear r95
 refine shW_join (fun e1 F1 L1 => F96 = F1 ∧ L1 = [(b82, .cells #[.int .i64 n3, .int .i64 n4, .slice a64 l5.length c65, .slice a70 l6.length c71, .slice a76 l7.length c77] 27 (0, 0)), (b42, .cells #[.int .i64 n, .int .i64 n2, .slice a17 l.length c18, .slice a23 l2.length c24, .slice a29 l3.length c30] 27 (0, 0))] ∧ e1.sub [(5, .pointer (some ⟨b42, 0, none⟩)), (7, .int .i64 hour), (8, .pointer (some ⟨b82, 0, none⟩)), (10, .int .i64 n6), (12, .slice a100 l8.length c101), (70, .bool k)]) ?_ ?_
 · clear r104
   refine shW_region (om rfl rfl ?_)
   refine ov (v_neq rfl rfl) rfl ?_
   refine om rfl rfl ?_
   by_cases c105 : n5 ≠ 0
   · have r106 := ite_t h103 c105; clear h103
     refine shO_off (b' := true) 56 rfl (Env.isT rfl c105) rfl rfl (shO_off (b' := true) 56 rfl (Env.isT rfl c105) rfl rfl ?_)
     refine ov (v_pick_t (evD_true rfl c105) rfl) rfl ?_
     refine om rfl rfl (shO_off (b' := true) 60 rfl rfl rfl rfl (shO_off (b' := true) 60 rfl rfl rfl rfl ?_))
     refine ov (v_pick_t rfl rfl) rfl ?_
     refine om rfl rfl (shO_off (b' := true) 64 rfl rfl rfl rfl (shO_off (b' := true) 64 rfl rfl rfl rfl (shO_off (b' := true) 64 rfl rfl rfl rfl (shO_off (b' := true) 64 rfl rfl rfl rfl (shO_off (b' := true) 64 rfl rfl rfl rfl ?_)))))
     refine ov (v_pick_t rfl rfl) rfl ?_
     refine shO_nil ?_
     obtain rfl := inj1 r106
     exact mi (kc (kc kn)) ⟨rfl, rfl, (sc rfl (sc rfl (sc rfl (sc rfl (sc rfl (sc rfl (sn _)))))))⟩
   have r107 := ite_f h103 c105; clear h103
   refine shO_on (b := false) 56 rfl (Env.isF rfl c105) (om rfl rfl (shO_on (b := false) 56 rfl (Env.isF rfl c105) ?_))
   refine ov (v_neq rfl rfl) rfl ?_
   refine ov (v_pick_f (evD_false rfl c105) rfl) rfl ?_
   refine om rfl rfl ?_
   by_cases c108 : n7 ≠ 0
   · have r109 := ite_t r107 c108; clear r107
     refine shO_off (b' := true) 60 rfl (Env.isT rfl c108) rfl rfl (shO_off (b' := true) 60 rfl (Env.isT rfl c108) rfl rfl ?_)
     refine ov (v_pick_t (evD_true rfl c108) rfl) rfl ?_
     refine om rfl rfl (shO_off (b' := true) 64 rfl rfl rfl rfl (shO_off (b' := true) 64 rfl rfl rfl rfl (shO_off (b' := true) 64 rfl rfl rfl rfl (shO_off (b' := true) 64 rfl rfl rfl rfl (shO_off (b' := true) 64 rfl rfl rfl rfl ?_)))))
     refine ov (v_pick_t rfl rfl) rfl ?_
     refine shO_nil ?_
     obtain rfl := inj1 r109
     exact mi (kc (kc kn)) ⟨rfl, rfl, (sc rfl (sc rfl (sc rfl (sc rfl (sc rfl (sc rfl (sn _)))))))⟩
   have r110 := ite_f r107 c108; clear r107
   refine shO_on (b := false) 60 rfl (Env.isF rfl c108) (om rfl rfl (shO_on (b := false) 60 rfl (Env.isF rfl c108) ?_))
   refine ov (v_neq rfl rfl) rfl ?_
   refine ov (v_pick_f (evD_false rfl c108) rfl) rfl ?_
   refine om rfl rfl ?_
   by_cases c111 : n8 ≠ 0
   · have r112 := ite_t r110 c111; clear r110
     refine shO_off (b' := true) 64 rfl (Env.isT rfl c111) rfl rfl (shO_off (b' := true) 64 rfl (Env.isT rfl c111) rfl rfl (shO_off (b' := true) 64 rfl (Env.isT rfl c111) rfl rfl (shO_off (b' := true) 64 rfl (Env.isT rfl c111) rfl rfl (shO_off (b' := true) 64 rfl (Env.isT rfl c111) rfl rfl ?_))))
     refine ov (v_pick_t (evD_true rfl c111) rfl) rfl ?_
     refine shO_nil ?_
     obtain rfl := inj1 r112
     exact mi (kc (kc kn)) ⟨rfl, rfl, (sc rfl (sc rfl (sc rfl (sc rfl (sc rfl (sc rfl (sn _)))))))⟩
   have r113 := ite_f r110 c111; clear r110
   refine shO_on (b := false) 64 rfl (Env.isF rfl c111) (om rfl rfl (shO_on (b := false) 64 rfl (Env.isF rfl c111) ?_))
   refine ov (v_lenS Try.underlying36 rfl) rfl ?_
   refine shO_on (b := false) 64 rfl (Env.isF rfl c111) ?_
   refine ov (v_fieldAddr fa_27_0 rfl) rfl ?_
   refine shO_on (b := false) 64 rfl (Env.isF rfl c111) ?_
   refine ov (v_load Try.isAgg3 rfl (Has.own 1 rfl) rfl) rfl ?_
   refine shO_on (b := false) 64 rfl (Env.isF rfl c111) ?_
   refine ov (v_neq rfl rfl) rfl ?_
   refine ov (v_pick_f (evD_false rfl c111) rfl) rfl ?_
   refine shO_nil ?_
   obtain rfl := inj1 r113
   exact mi (kc (kc kn)) ⟨rfl, rfl, (sc rfl (sc rfl (sc rfl (sc rfl (sc rfl (sc rfl (sn _)))))))⟩
 rintro e1 _ _ ⟨rfl, rfl, he114⟩
 refine shW_env _ he114 ?_; clear he114
 refine shW_cond rfl (fun c115 => ?_) (fun c115 => ?_)
 · have r116 := bt r104 c115; clear r104
   refine wsr (oa rfl rfl (shO_nil ?_))
   refine kW kn ?_
   refine shW_ret (andThen_ret ?_)
   refine q_res1 Try.results6 (res_tmp rfl) (sr) ?_
   obtain rfl := inj1 r116
   exact rfl
 have r117 := bf r104 c115; clear r104
 refine shW_skip (wsr (oa rfl rfl (shO_nil ?_)))
 refine shW_join (fun e1 F1 L1 => ∃ (sum : Int), oyezlaw07_BookRead_j1 n6 sum = some r ∧ FExt F96 F1 ∧ L1 = [] ∧ e1.sub [(10, .int .i64 n6), (14, .int .i64 sum)]) ?_ ?_
 · refine wsr (om rfl rfl (shO_nil ?_))
   refine shW_block ?_
   obtain ⟨g118, r119⟩ := gd_ok r117; clear r117
   refine shW_lp (fun fu2 e1 F1 L1 => ∃ (k2 : Int), Ctr 0 8 k2 fu2 ∧ ∃ (sum2 : Int), oyezlaw07_BookRead_l2 n n2 hour n3 n4 l5 l6 l7 n6 l8 fu2 k2 sum2 = some r ∧ FExt F96 F1 ∧ L1 = [(b82, .cells #[.int .i64 n3, .int .i64 n4, .slice a64 l5.length c65, .slice a70 l6.length c71, .slice a76 l7.length c77] 27 (0, 0)), (b42, .cells #[.int .i64 n, .int .i64 n2, .slice a17 l.length c18, .slice a23 l2.length c24, .slice a29 l3.length c30] 27 (0, 0))] ∧ e1.sub [(5, .pointer (some ⟨b42, 0, none⟩)), (7, .int .i64 hour), (8, .pointer (some ⟨b82, 0, none⟩)), (10, .int .i64 n6), (12, .slice a100 l8.length c101), (14, .int .i64 sum2), (71, .int .i64 k2)]) _ (m0 kr ⟨_, Ctr.start _ _, 0, r119, FExt.refl _, rfl, (sc rfl (sc rfl (sc rfl (sc rfl (sc rfl (sc rfl (sc rfl (sn _))))))))⟩) ?_
   rintro fu2 e1 F124 _ ⟨k2, hk120, sum2, r122, hF125, rfl, he123⟩
   refine shW_env _ he123 ?_; clear he123
   replace h87 := h87.mono (slE_ok (slE_ok (iE_ok _))) hF125
   replace h90 := h90.mono (iE_ok _) hF125
   replace h93 := h93.mono (prE_ok (iE_ok _) (prE_ok (iE_ok _) (iE_ok _))) hF125
   replace h102 := h102.mono (slE_ok (iE_ok _)) hF125
   refine wsr ?_
   refine ov (v_lssK rfl rfl) rfl ?_
   refine shO_nil (shW_seq ?_)
   refine shW_condP rfl (fun c127 => ?_) (fun c127 => ?_)
   · obtain ⟨fu2, rfl, hk128⟩ := Ctr.succ hk120 c127
     rw [oyezlaw07_BookRead_l2] at r122
     refine shW_skip ?_
     refine shW_join (fun e1 F1 L1 => ∃ (sum3 : Int), oyezlaw07_BookRead_j3 k2 (oyezlaw07_BookRead_l2 n n2 hour n3 n4 l5 l6 l7 n6 l8 fu2) sum3 = some r ∧ FExt F124 F1 ∧ L1 = [(b82, .cells #[.int .i64 n3, .int .i64 n4, .slice a64 l5.length c65, .slice a70 l6.length c71, .slice a76 l7.length c77] 27 (0, 0)), (b42, .cells #[.int .i64 n, .int .i64 n2, .slice a17 l.length c18, .slice a23 l2.length c24, .slice a29 l3.length c30] 27 (0, 0))] ∧ e1.sub [(5, .pointer (some ⟨b42, 0, none⟩)), (7, .int .i64 hour), (8, .pointer (some ⟨b82, 0, none⟩)), (10, .int .i64 n6), (12, .slice a100 l8.length c101), (14, .int .i64 sum3), (71, .int .i64 k2)]) ?_ ?_
     · refine shW_block ?_
       refine wsr (om rfl rfl (oa rfl rfl (nsr ?_)))
       refine ov (v_loadA (cs := #[.int .i64 n3, .int .i64 n4, .slice a64 l5.length c65, .slice a70 l6.length c71, .slice a76 l7.length c77]) Try.isAgg27 Try.sizeOf27 rfl (Has.own 0 rfl) (Nat.le_of_ble_eq_true rfl) rfl) rfl ?_
       refine om rfl rfl (om rfl rfl ?_)
       obtain ⟨n9, n10, l9, l10, l11, n11, h129, r130⟩ := b6_ok r122; clear r122
       refine o_call0 rfl Try.call28 rfl rfl rfl (book_Read_w h87 h90 h93 h129) ?_; rintro _ F131 _ hF132 hn133 ⟨a135, n139, c136, Lb137, a141, n145, c142, Lb143, a147, n151, c148, Lb149, rfl, rfl, hz138, hz144, hz150⟩
       replace h102 := h102.mono (slE_ok (iE_ok _)) hF132
       replace hz138 := hz138.new fun p hp => hn133 p (by simp [hp])
       replace hz144 := hz144.new fun p hp => hn133 p (by simp [hp])
       replace hz150 := hz150.new fun p hp => hn133 p (by simp [hp])
       refine shO_L (lp (lp (lp (ln rfl)))) ?_
       refine kO (kf (fS (fS (fS fO))) (kf (fS (fS (fS fO))) kr)) ?_
       refine om rfl rfl (ox rfl rfl rfl (ox rfl rfl rfl ?_))
       refine o_alloc rfl Try.zeroValue27 ?_; intro b153 hb153
       refine o_storeA (i := 0) Try.sizeOf27 rfl rfl rfl (by simp [Value.oneCell']) rfl (Nat.le_of_ble_eq_true rfl) ?_
       refine shO_L (L' := (b153, .cells #[.int .i64 n9, .int .i64 n10, .slice a135 n139 c136, .slice a141 n145 c142, .slice a147 n151 c148] 27 (0, 0)) :: ((b82, .cells #[.int .i64 n3, .int .i64 n4, .slice a64 l5.length c65, .slice a70 l6.length c71, .slice a76 l7.length c77] 27 (0, 0)) :: ((b42, .cells #[.int .i64 n, .int .i64 n2, .slice a17 l.length c18, .slice a23 l2.length c24, .slice a29 l3.length c30] 27 (0, 0)) :: (Lb137 ++ (Lb143 ++ (Lb149 ++ [])))))) rfl ?_
       refine oa rfl rfl (nsr ?_)
       refine ov (v_loadA (cs := #[.int .i64 n9, .int .i64 n10, .slice a135 n139 c136, .slice a141 n145 c142, .slice a147 n151 c148]) Try.isAgg27 Try.sizeOf27 rfl (Has.own 0 rfl) (Nat.le_of_ble_eq_true rfl) rfl) rfl ?_
       obtain ⟨n12, n13, h154, r155⟩ := b2_ok r130; clear r130
       refine o_callT (Lt := Lb137 ++ (Lb143 ++ (Lb149 ++ []))) (Lr := [(b153, .cells #[.int .i64 n9, .int .i64 n10, .slice a135 n139 c136, .slice a141 n145 c142, .slice a147 n151 c148] 27 (0, 0)), (b82, .cells #[.int .i64 n3, .int .i64 n4, .slice a64 l5.length c65, .slice a70 l6.length c71, .slice a76 l7.length c77] 27 (0, 0)), (b42, .cells #[.int .i64 n, .int .i64 n2, .slice a17 l.length c18, .slice a23 l2.length c24, .slice a29 l3.length c30] 27 (0, 0))]) rfl Try.call14 rfl rfl rfl (pT ((fC (fC (fC fP))).trans (pA ((fC (fC (fC fP))).trans (pA ((fC (fC (fC fP))).trans (pA pR)))))) (lp (lp (lp (ln rfl))))) (fun F2 h2 h3 => by rw [(SlR.caps hz138).1]; rw [(SlR.caps hz144).1]; rw [(SlR.caps hz150).1]; exact book_Count_w (hz138.row (slE_ok (slE_ok (iE_ok _))) h2 (fun p hp => h3 p (List.mem_append_left _ hp))) (hz144.row (iE_ok _) h2 (fun p hp => h3 p (List.mem_append_right _ (List.mem_append_left _ hp)))) (hz150.row (prE_ok (iE_ok _) (prE_ok (iE_ok _) (iE_ok _))) h2 (fun p hp => h3 p (List.mem_append_right _ (List.mem_append_right _ (List.mem_append_left _ hp))))) h154) ?_
       refine om rfl rfl (ox rfl rfl rfl (ox rfl rfl rfl (oa rfl rfl (oa rfl rfl (nsr ?_)))))
       refine ov (v_loadA (cs := #[.int .i64 n9, .int .i64 n10, .slice a135 n139 c136, .slice a141 n145 c142, .slice a147 n151 c148]) Try.isAgg27 Try.sizeOf27 rfl (Has.own 0 rfl) (Nat.le_of_ble_eq_true rfl) rfl) rfl ?_
       obtain rfl := (SlR.caps hz138).1
       refine shO_freezeR (Nat.le_refl _) (slE_ok (slE_ok (iE_ok _))) (fC (fC (fC fP))) hz138 ?_; intro F156 hF157 h158
       replace h102 := h102.mono (slE_ok (iE_ok _)) hF157
       replace hz144 := hz144.mono (iE_ok _) hF157
       replace hz150 := hz150.mono (prE_ok (iE_ok _) (prE_ok (iE_ok _) (iE_ok _))) hF157
       obtain rfl := (SlR.caps hz144).1
       refine shO_freezeR (Nat.le_refl _) (iE_ok _) (fC (fC (fC fP))) hz144 ?_; intro F159 hF160 h161
       replace h102 := h102.mono (slE_ok (iE_ok _)) hF160
       replace h158 := h158.mono (slE_ok (slE_ok (iE_ok _))) hF160
       replace hz150 := hz150.mono (prE_ok (iE_ok _) (prE_ok (iE_ok _) (iE_ok _))) hF160
       obtain rfl := (SlR.caps hz150).1
       refine shO_freezeR (Nat.le_refl _) (prE_ok (iE_ok _) (prE_ok (iE_ok _) (iE_ok _))) (fC (fC (fC fP))) hz150 ?_; intro F162 hF163 h164
       replace h102 := h102.mono (slE_ok (iE_ok _)) hF163
       replace h158 := h158.mono (slE_ok (slE_ok (iE_ok _))) hF163
       replace h161 := h161.mono (iE_ok _) hF163
       obtain ⟨l12, n14, h165, r166⟩ := b2_ok r155; clear r155
       refine o_call0 rfl Try.call13 rfl rfl rfl (book_Verdicts_w h158 h161 h164 h165) ?_; rintro _ F167 _ hF168 hn169 ⟨a171, c172, rfl, rfl, h173⟩
       replace h102 := h102.mono (slE_ok (iE_ok _)) hF168
       refine shO_L (ln rfl) ?_
       refine om rfl rfl (ox rfl rfl rfl (ox rfl rfl rfl (oa rfl rfl (oa rfl rfl (shO_nil (shW_seq ?_))))))
       obtain ⟨k3, h174, r175⟩ := b1_ok r166; clear r166
       refine shW_join (fun e1 F1 L1 => F167 = F1 ∧ L1 = [(b82, .cells #[.int .i64 n3, .int .i64 n4, .slice a64 l5.length c65, .slice a70 l6.length c71, .slice a76 l7.length c77] 27 (0, 0)), (b42, .cells #[.int .i64 n, .int .i64 n2, .slice a17 l.length c18, .slice a23 l2.length c24, .slice a29 l3.length c30] 27 (0, 0))] ∧ e1.sub [(5, .pointer (some ⟨b42, 0, none⟩)), (7, .int .i64 hour), (8, .pointer (some ⟨b82, 0, none⟩)), (10, .int .i64 n6), (12, .slice a100 l8.length c101), (14, .int .i64 sum2), (18, .int .i64 n12), (20, .slice a171 l12.length c172), (21, .int .i64 n14), (71, .int .i64 k2), (120, .bool k3)]) ?_ ?_
       · clear r175
         refine shW_region (om rfl rfl ?_)
         refine ov (v_neq rfl rfl) rfl ?_
         refine om rfl rfl ?_
         by_cases c176 : n11 ≠ 0
         · have r177 := ite_t h174 c176; clear h174
           refine shO_off (b' := true) 93 rfl (Env.isT rfl c176) rfl rfl (shO_off (b' := true) 93 rfl (Env.isT rfl c176) rfl rfl ?_)
           refine ov (v_pick_t (evD_true rfl c176) rfl) rfl ?_
           refine om rfl rfl (shO_off (b' := true) 97 rfl rfl rfl rfl (shO_off (b' := true) 97 rfl rfl rfl rfl ?_))
           refine ov (v_pick_t rfl rfl) rfl ?_
           refine om rfl rfl (shO_off (b' := true) 101 rfl rfl rfl rfl (shO_off (b' := true) 101 rfl rfl rfl rfl (shO_off (b' := true) 101 rfl rfl rfl rfl ?_)))
           refine ov (v_pick_t rfl rfl) rfl ?_
           refine om rfl rfl (shO_off (b' := true) 106 rfl rfl rfl rfl (shO_off (b' := true) 106 rfl rfl rfl rfl (shO_off (b' := true) 106 rfl rfl rfl rfl (shO_off (b' := true) 106 rfl rfl rfl rfl (shO_off (b' := true) 106 rfl rfl rfl rfl ?_)))))
           refine ov (v_pick_t rfl rfl) rfl ?_
           refine om rfl rfl (shO_off (b' := true) 113 rfl rfl rfl rfl (shO_off (b' := true) 113 rfl rfl rfl rfl (shO_off (b' := true) 113 rfl rfl rfl rfl (shO_offU 116 rfl rfl rfl (shO_offU 116 rfl rfl rfl (shO_off (b' := true) 113 rfl rfl rfl rfl ?_))))))
           refine ov (v_pick_t rfl rfl) rfl ?_
           refine shO_nil ?_
           obtain rfl := inj1 r177
           exact mi (kd kr) ⟨rfl, rfl, (sc rfl (sc rfl (sc rfl (sc rfl (sc rfl (sc rfl (sc rfl (sc rfl (sc rfl (sc rfl (sc rfl (sn _))))))))))))⟩
         have r178 := ite_f h174 c176; clear h174
         refine shO_on (b := false) 93 rfl (Env.isF rfl c176) (om rfl rfl (shO_on (b := false) 93 rfl (Env.isF rfl c176) ?_))
         refine ov (v_neq rfl rfl) rfl ?_
         refine ov (v_pick_f (evD_false rfl c176) rfl) rfl ?_
         refine om rfl rfl ?_
         by_cases c179 : n13 ≠ 0
         · have r180 := ite_t r178 c179; clear r178
           refine shO_off (b' := true) 97 rfl (Env.isT rfl c179) rfl rfl (shO_off (b' := true) 97 rfl (Env.isT rfl c179) rfl rfl ?_)
           refine ov (v_pick_t (evD_true rfl c179) rfl) rfl ?_
           refine om rfl rfl (shO_off (b' := true) 101 rfl rfl rfl rfl (shO_off (b' := true) 101 rfl rfl rfl rfl (shO_off (b' := true) 101 rfl rfl rfl rfl ?_)))
           refine ov (v_pick_t rfl rfl) rfl ?_
           refine om rfl rfl (shO_off (b' := true) 106 rfl rfl rfl rfl (shO_off (b' := true) 106 rfl rfl rfl rfl (shO_off (b' := true) 106 rfl rfl rfl rfl (shO_off (b' := true) 106 rfl rfl rfl rfl (shO_off (b' := true) 106 rfl rfl rfl rfl ?_)))))
           refine ov (v_pick_t rfl rfl) rfl ?_
           refine om rfl rfl (shO_off (b' := true) 113 rfl rfl rfl rfl (shO_off (b' := true) 113 rfl rfl rfl rfl (shO_off (b' := true) 113 rfl rfl rfl rfl (shO_offU 116 rfl rfl rfl (shO_offU 116 rfl rfl rfl (shO_off (b' := true) 113 rfl rfl rfl rfl ?_))))))
           refine ov (v_pick_t rfl rfl) rfl ?_
           refine shO_nil ?_
           obtain rfl := inj1 r180
           exact mi (kd kr) ⟨rfl, rfl, (sc rfl (sc rfl (sc rfl (sc rfl (sc rfl (sc rfl (sc rfl (sc rfl (sc rfl (sc rfl (sc rfl (sn _))))))))))))⟩
         have r181 := ite_f r178 c179; clear r178
         refine shO_on (b := false) 97 rfl (Env.isF rfl c179) (om rfl rfl (shO_on (b := false) 97 rfl (Env.isF rfl c179) ?_))
         refine ov (v_lssK rfl rfl) rfl ?_
         refine ov (v_pick_f (evD_false rfl c179) rfl) rfl ?_
         refine om rfl rfl ?_
         by_cases c182 : n12 < 0
         · have r183 := ite_t r181 c182; clear r181
           refine shO_off (b' := true) 101 rfl (Env.isT rfl c182) rfl rfl (shO_off (b' := true) 101 rfl (Env.isT rfl c182) rfl rfl (shO_off (b' := true) 101 rfl (Env.isT rfl c182) rfl rfl ?_))
           refine ov (v_pick_t (evD_true rfl c182) rfl) rfl ?_
           refine om rfl rfl (shO_off (b' := true) 106 rfl rfl rfl rfl (shO_off (b' := true) 106 rfl rfl rfl rfl (shO_off (b' := true) 106 rfl rfl rfl rfl (shO_off (b' := true) 106 rfl rfl rfl rfl (shO_off (b' := true) 106 rfl rfl rfl rfl ?_)))))
           refine ov (v_pick_t rfl rfl) rfl ?_
           refine om rfl rfl (shO_off (b' := true) 113 rfl rfl rfl rfl (shO_off (b' := true) 113 rfl rfl rfl rfl (shO_off (b' := true) 113 rfl rfl rfl rfl (shO_offU 116 rfl rfl rfl (shO_offU 116 rfl rfl rfl (shO_off (b' := true) 113 rfl rfl rfl rfl ?_))))))
           refine ov (v_pick_t rfl rfl) rfl ?_
           refine shO_nil ?_
           obtain rfl := inj1 r183
           exact mi (kd kr) ⟨rfl, rfl, (sc rfl (sc rfl (sc rfl (sc rfl (sc rfl (sc rfl (sc rfl (sc rfl (sc rfl (sc rfl (sc rfl (sn _))))))))))))⟩
         have r184 := ite_f r181 c182; clear r181
         refine shO_on (b := false) 101 rfl (Env.isF rfl c182) (om rfl rfl (shO_on (b := false) 101 rfl (Env.isF rfl c182) (om rfl rfl (shO_on (b := false) 101 rfl (Env.isF rfl c182) ?_))))
         refine ov (v_gtrK rfl rfl) rfl ?_
         refine ov (v_pick_f (evD_false rfl c182) rfl) rfl ?_
         refine om rfl rfl ?_
         by_cases c185 : n6 < n12
         · have r186 := ite_t r184 c185; clear r184
           refine shO_off (b' := true) 106 rfl (Env.isT rfl c185) rfl rfl (shO_off (b' := true) 106 rfl (Env.isT rfl c185) rfl rfl (shO_off (b' := true) 106 rfl (Env.isT rfl c185) rfl rfl (shO_off (b' := true) 106 rfl (Env.isT rfl c185) rfl rfl (shO_off (b' := true) 106 rfl (Env.isT rfl c185) rfl rfl ?_))))
           refine ov (v_pick_t (evD_true rfl c185) rfl) rfl ?_
           refine om rfl rfl (shO_off (b' := true) 113 rfl rfl rfl rfl (shO_off (b' := true) 113 rfl rfl rfl rfl (shO_off (b' := true) 113 rfl rfl rfl rfl (shO_offU 116 rfl rfl rfl (shO_offU 116 rfl rfl rfl (shO_off (b' := true) 113 rfl rfl rfl rfl ?_))))))
           refine ov (v_pick_t rfl rfl) rfl ?_
           refine shO_nil ?_
           obtain rfl := inj1 r186
           exact mi (kd kr) ⟨rfl, rfl, (sc rfl (sc rfl (sc rfl (sc rfl (sc rfl (sc rfl (sc rfl (sc rfl (sc rfl (sc rfl (sc rfl (sn _))))))))))))⟩
         have r187 := ite_f r184 c185; clear r184
         refine shO_on (b := false) 106 rfl (Env.isF rfl c185) (om rfl rfl (shO_on (b := false) 106 rfl (Env.isF rfl c185) ?_))
         refine ov (v_gtrK rfl rfl) rfl ?_
         refine shO_on (b := false) 106 rfl (Env.isF rfl c185) (om rfl rfl (shO_on (b := false) 106 rfl (Env.isF rfl c185) ?_))
         refine ov (v_eql rfl rfl) rfl ?_
         refine shO_on (b := false) 106 rfl (Env.isF rfl c185) ?_
         refine ov (v_neqB Try.underlying4 rfl rfl) rfl ?_
         refine ov (v_pick_f (evD_false rfl c185) rfl) rfl ?_
         refine om rfl rfl ?_
         by_cases c188 : (decide (0 < n12)) ≠ (decide (n14 = 0))
         · have r189 := ite_t r187 c188; clear r187
           refine shO_off (b' := true) 113 rfl (Env.isT rfl c188) rfl rfl (shO_off (b' := true) 113 rfl (Env.isT rfl c188) rfl rfl (shO_off (b' := true) 113 rfl (Env.isT rfl c188) rfl rfl (shO_offU 116 rfl rfl rfl (shO_offU 116 rfl rfl rfl (shO_off (b' := true) 113 rfl (Env.isT rfl c188) rfl rfl ?_)))))
           refine ov (v_pick_t (evD_true rfl c188) rfl) rfl ?_
           refine shO_nil ?_
           obtain rfl := inj1 r189
           exact mi (kd kr) ⟨rfl, rfl, (sc rfl (sc rfl (sc rfl (sc rfl (sc rfl (sc rfl (sc rfl (sc rfl (sc rfl (sc rfl (sc rfl (sn _))))))))))))⟩
         have r190 := ite_f r187 c188; clear r187
         refine shO_on (b := false) 113 rfl (Env.isF rfl c188) (om rfl rfl (shO_on (b := false) 113 rfl (Env.isF rfl c188) ?_))
         refine ov (v_neq rfl rfl) rfl ?_
         refine shO_on (b := false) 113 rfl (Env.isF rfl c188) (om rfl rfl ?_)
         by_cases c191 : n14 ≠ 0
         · have r192 := ite_t r190 c191; clear r190
           refine shO_on (b := true) 116 rfl (Env.isT rfl c191) (om rfl rfl (shO_on (b := true) 116 rfl (Env.isT rfl c191) ?_))
           refine ov (v_neq rfl rfl) rfl ?_
           refine shO_on (b := false) 113 rfl (Env.isF rfl c188) ?_
           refine ov (v_pick_t (evD_true rfl c191) rfl) rfl ?_
           refine ov (v_pick_f (evD_false rfl c188) rfl) rfl ?_
           refine shO_nil ?_
           obtain rfl := inj1 r192
           exact mi (kd kr) ⟨rfl, rfl, (sc rfl (sc rfl (sc rfl (sc rfl (sc rfl (sc rfl (sc rfl (sc rfl (sc rfl (sc rfl (sc rfl (sn _))))))))))))⟩
         have r193 := ite_f r190 c191; clear r190
         refine shO_off (b' := false) 116 rfl (Env.isF rfl c191) rfl rfl (shO_off (b' := false) 116 rfl (Env.isF rfl c191) rfl rfl (shO_on (b := false) 113 rfl (Env.isF rfl c188) ?_))
         refine ov (v_pick_f (evD_false rfl c191) rfl) rfl ?_
         refine ov (v_pick_f (evD_false rfl c188) rfl) rfl ?_
         refine shO_nil ?_
         obtain rfl := inj1 r193
         exact mi (kd kr) ⟨rfl, rfl, (sc rfl (sc rfl (sc rfl (sc rfl (sc rfl (sc rfl (sc rfl (sc rfl (sc rfl (sc rfl (sc rfl (sn _))))))))))))⟩
       rintro e1 _ _ ⟨rfl, rfl, he194⟩
       refine shW_env _ he194 ?_; clear he194
       refine shW_cond rfl (fun c195 => ?_) (fun c195 => ?_)
       · have r196 := bt r175 c195; clear r175
         refine wsr (oa rfl rfl (shO_nil ?_))
         refine kW kn ?_
         refine shW_ret (andThen_ret (inBlock_ret (andThen_ret (andThen_ret (inBlock_ret (andThen_ret ?_))))))
         refine q_res1 Try.results6 (res_tmp rfl) (sr) ?_
         obtain rfl := inj1 r196
         exact rfl
       have r197 := bf r175 c195; clear r175
       refine shW_skip (shW_seq (wsr (om rfl rfl (om rfl rfl ?_))))
       obtain ⟨g198, r199⟩ := gd_ok r197; clear r197
       refine ov (v_add rfl rfl g198) rfl ?_
       refine oa rfl rfl (nsr (om rfl rfl ?_))
       refine ov (v_neq rfl rfl) rfl ?_
       refine shO_nil ?_
       refine shW_condP rfl (fun c200 => ?_) (fun c200 => ?_)
       · have r201 := ite_t r199 c200; clear r199
         refine shW_exit (andThen_exit ?_)
         refine inBlock_exit ?_
         exact mi kr ⟨sum2 + n12, r201, ((((hF132.trans hF157).trans hF160).trans hF163).trans hF168), rfl, (sc rfl (sc rfl (sc rfl (sc rfl (sc rfl (sc rfl (sc rfl (sn _))))))))⟩
       have r202 := ite_f r199 c200; clear r199
       refine shW_skip (shW_seq (wsr (om rfl rfl ?_)))
       refine ov (v_lenS Try.underlying36 rfl) rfl ?_
       refine ov (v_fieldAddr fa_27_0 rfl) rfl ?_
       refine ov (v_load Try.isAgg3 rfl (Has.own 1 rfl) rfl) rfl ?_
       refine ov (v_neq rfl rfl) rfl ?_
       refine shO_nil ?_
       refine shW_condP rfl (fun c203 => ?_) (fun c203 => ?_)
       · have r204 := ite_t r202 c203; clear r202
         refine wsr (oa rfl rfl (shO_nil ?_))
         refine kW kn ?_
         refine shW_ret (andThen_ret (inBlock_ret (andThen_ret (andThen_ret (inBlock_ret (andThen_ret ?_))))))
         refine q_res1 Try.results6 (res_tmp rfl) (sr) ?_
         obtain rfl := inj1 r204
         exact rfl
       have r205 := ite_f r202 c203; clear r202
       refine shW_skip (wsr (om rfl rfl ?_))
       refine ov (v_lenS Try.underlying36 rfl) rfl ?_
       refine om rfl rfl (shO_nil ?_)
       refine shW_block ?_
       refine shW_lp (fun fu4 e1 F1 L1 => ∃ (tl : List (List Int)) (k4 : Int), tl.length = fu4 ∧ Lst l8 k4 tl ∧ oyezlaw07_BookRead_l4 n2 sum2 k2 n12 l12 (oyezlaw07_BookRead_l2 n n2 hour n3 n4 l5 l6 l7 n6 l8 fu2) tl k4 = some r ∧ F167 = F1 ∧ L1 = [(b82, .cells #[.int .i64 n3, .int .i64 n4, .slice a64 l5.length c65, .slice a70 l6.length c71, .slice a76 l7.length c77] 27 (0, 0)), (b42, .cells #[.int .i64 n, .int .i64 n2, .slice a17 l.length c18, .slice a23 l2.length c24, .slice a29 l3.length c30] 27 (0, 0))] ∧ e1.sub [(5, .pointer (some ⟨b42, 0, none⟩)), (7, .int .i64 hour), (8, .pointer (some ⟨b82, 0, none⟩)), (10, .int .i64 n6), (12, .slice a100 l8.length c101), (14, .int .i64 (sum2 + n12)), (20, .slice a171 l12.length c172), (71, .int .i64 k2), (131, .slice a100 l8.length c101), (132, .int .i64 (l8.length : Int)), (133, .int .i64 k4)]) _ (m0 kr ⟨_, _, rfl, Lst.start _, r205, rfl, rfl, (sc rfl (sc rfl (sc rfl (sc rfl (sc rfl (sc rfl (sc rfl (sc rfl (sc rfl (sc rfl (sc rfl (sn _))))))))))))⟩) ?_
       rintro fu4 e1 _ _ ⟨tl, k4, hn207, hk206, r208, rfl, rfl, he209⟩
       refine shW_env _ he209 ?_; clear he209
       refine wsr ?_
       refine ov (v_lssK rfl rfl) rfl ?_
       refine shO_nil (shW_seq ?_)
       refine shW_condP rfl (fun c211 => ?_) (fun c211 => ?_)
       · obtain ⟨x, tl2, rfl, hx213, g214, hk212⟩ := Lst.succ hk206 c211
         rw [oyezlaw07_BookRead_l4] at r208
         refine shW_skip ?_
         refine shW_join (fun e1 F1 L1 => oyezlaw07_BookRead_j5 k4 (oyezlaw07_BookRead_l4 n2 sum2 k2 n12 l12 (oyezlaw07_BookRead_l2 n n2 hour n3 n4 l5 l6 l7 n6 l8 fu2) tl2) = some r ∧ F167 = F1 ∧ L1 = [(b82, .cells #[.int .i64 n3, .int .i64 n4, .slice a64 l5.length c65, .slice a70 l6.length c71, .slice a76 l7.length c77] 27 (0, 0)), (b42, .cells #[.int .i64 n, .int .i64 n2, .slice a17 l.length c18, .slice a23 l2.length c24, .slice a29 l3.length c30] 27 (0, 0))] ∧ e1.sub [(5, .pointer (some ⟨b42, 0, none⟩)), (7, .int .i64 hour), (8, .pointer (some ⟨b82, 0, none⟩)), (10, .int .i64 n6), (12, .slice a100 l8.length c101), (14, .int .i64 (sum2 + n12)), (20, .slice a171 l12.length c172), (71, .int .i64 k2), (131, .slice a100 l8.length c101), (132, .int .i64 (l8.length : Int)), (133, .int .i64 k4)]) ?_ ?_
         · refine shW_block ?_
           refine wsr (om rfl rfl ?_)
           obtain ⟨b215, o216, c217, vs218, ha219, hs220, hle221, ⟨a224, c225, rfl, h226⟩, hl222, hc223⟩ := RowR.at (slE_ok (iE_ok _)) h102 ([(b82, .cells #[.int .i64 n3, .int .i64 n4, .slice a64 l5.length c65, .slice a70 l6.length c71, .slice a76 l7.length c77] 27 (0, 0)), (b42, .cells #[.int .i64 n, .int .i64 n2, .slice a17 l.length c18, .slice a23 l2.length c24, .slice a29 l3.length c30] 27 (0, 0))]) g214.1 hx213
           refine ov (v_indexO Try.underlying36 Try.sizeOf47 rfl ha219 rfl g214) rfl ?_
           refine ov (v_load Try.isAgg47 rfl hs220 (hc223 0 (by decide))) rfl ?_
           refine oa rfl rfl (oa rfl rfl (shO_nil (shW_seq ?_)))
           obtain ⟨k5, h227, r228⟩ := b1_ok r208; clear r208
           refine shW_join (fun e1 F1 L1 => F167 = F1 ∧ L1 = [(b82, .cells #[.int .i64 n3, .int .i64 n4, .slice a64 l5.length c65, .slice a70 l6.length c71, .slice a76 l7.length c77] 27 (0, 0)), (b42, .cells #[.int .i64 n, .int .i64 n2, .slice a17 l.length c18, .slice a23 l2.length c24, .slice a29 l3.length c30] 27 (0, 0))] ∧ e1.sub [(5, .pointer (some ⟨b42, 0, none⟩)), (7, .int .i64 hour), (8, .pointer (some ⟨b82, 0, none⟩)), (10, .int .i64 n6), (12, .slice a100 l8.length c101), (14, .int .i64 (sum2 + n12)), (20, .slice a171 l12.length c172), (22, .int .i64 k4), (23, .slice a224 x.length c225), (71, .int .i64 k2), (131, .slice a100 l8.length c101), (132, .int .i64 (l8.length : Int)), (133, .int .i64 k4), (152, .bool k5)]) ?_ ?_
           · clear r228
             refine shW_draw (by kernel_rfl) (by kernel_rfl) (by kernel_rfl) ?_
             refine qm rfl rfl ?_
             refine qv (v_lenS Try.underlying47 rfl) rfl ?_
             refine qv (v_fieldAddr fa_27_1 rfl) rfl ?_
             refine qv (v_load Try.isAgg3 rfl (Has.own 1 rfl) rfl) rfl ?_
             refine qv (v_neq rfl rfl) rfl ?_
             refine qm rfl rfl ?_
             by_cases c229 : (x.length : Int) ≠ n2
             · have r230 := ite_t h227 c229; clear h227
               refine shQ_off (b' := true) 143 rfl (Env.isT rfl c229) rfl rfl (shQ_off (b' := true) 143 rfl (Env.isT rfl c229) rfl rfl (shQ_off (b' := true) 143 rfl (Env.isT rfl c229) rfl rfl (shQ_off (b' := true) 143 rfl (Env.isT rfl c229) rfl rfl (shQ_off (b' := true) 143 rfl (Env.isT rfl c229) rfl rfl (shQ_off (b' := true) 143 rfl (Env.isT rfl c229) rfl rfl (shQ_off (b' := true) 143 rfl (Env.isT rfl c229) rfl rfl (shQ_off (b' := true) 143 rfl (Env.isT rfl c229) rfl rfl ?_)))))))
               refine qv (v_pick_t (evD_true rfl c229) rfl) rfl ?_
               refine shQ_nil ?_
               obtain rfl := inj1 r230
               exact mi kr ⟨rfl, rfl, (sc rfl (sc rfl (sc rfl (sc rfl (sc rfl (sc rfl (sc rfl (sc rfl (sc rfl (sc rfl (sc rfl (sc rfl (sc rfl (sc rfl (sn _)))))))))))))))⟩
             have r231 := ite_f h227 c229; clear h227
             refine shQ_on (b := false) 143 rfl (Env.isF rfl c229) (qm rfl rfl (shQ_on (b := false) 143 rfl (Env.isF rfl c229) (qm rfl rfl (shQ_on (b := false) 143 rfl (Env.isF rfl c229) ?_))))
             obtain ⟨x2, g232, hx233, r234⟩ := ix_ok r231; clear r231
             obtain ⟨b235, o236, c237, vs238, ha239, hs240, hle241, ⟨a244, c245, rfl, h246⟩, hl242, hc243⟩ := RowR.at (slE_ok (iE_ok _)) h173 ([(b82, .cells #[.int .i64 n3, .int .i64 n4, .slice a64 l5.length c65, .slice a70 l6.length c71, .slice a76 l7.length c77] 27 (0, 0)), (b42, .cells #[.int .i64 n, .int .i64 n2, .slice a17 l.length c18, .slice a23 l2.length c24, .slice a29 l3.length c30] 27 (0, 0))]) g232.1 hx233
             refine qv (v_indexO Try.underlying36 Try.sizeOf47 rfl ha239 rfl g232) rfl ?_
             refine shQ_on (b := false) 143 rfl (Env.isF rfl c229) ?_
             refine qv (v_load Try.isAgg47 rfl hs240 (hc243 0 (by decide))) rfl ?_
             refine shQ_on (b := false) 143 rfl (Env.isF rfl c229) ?_
             refine qv (v_lenS Try.underlying47 rfl) rfl ?_
             refine shQ_on (b := false) 143 rfl (Env.isF rfl c229) ?_
             refine qv (v_fieldAddr fa_27_1 rfl) rfl ?_
             refine shQ_on (b := false) 143 rfl (Env.isF rfl c229) ?_
             refine qv (v_load Try.isAgg3 rfl (Has.own 1 rfl) rfl) rfl ?_
             refine shQ_on (b := false) 143 rfl (Env.isF rfl c229) ?_
             refine qv (v_neq rfl rfl) rfl ?_
             refine qv (v_pick_f (evD_false rfl c229) rfl) rfl ?_
             refine shQ_nil ?_
             obtain rfl := inj1 r234
             exact mi kr ⟨rfl, rfl, (sc rfl (sc rfl (sc rfl (sc rfl (sc rfl (sc rfl (sc rfl (sc rfl (sc rfl (sc rfl (sc rfl (sc rfl (sc rfl (sc rfl (sn _)))))))))))))))⟩
           rintro e1 _ _ ⟨rfl, rfl, he247⟩
           refine shW_env _ he247 ?_; clear he247
           refine shW_cond rfl (fun c248 => ?_) (fun c248 => ?_)
           · have r249 := bt r228 c248; clear r228
             refine wsr (oa rfl rfl (shO_nil ?_))
             refine kW kn ?_
             refine shW_ret (andThen_ret (inBlock_ret (andThen_ret (andThen_ret (inBlock_ret (inBlock_ret (andThen_ret (andThen_ret (inBlock_ret ?_)))))))))
             refine andThen_ret ?_
             refine q_res1 Try.results6 (res_tmp rfl) (sr) ?_
             obtain rfl := inj1 r249
             exact rfl
           have r250 := bf r228 c248; clear r228
           refine shW_skip (wsr (om rfl rfl ?_))
           refine ov (v_lenS Try.underlying47 rfl) rfl ?_
           refine om rfl rfl (shO_nil ?_)
           refine shW_block ?_
           refine shW_lp (fun fu6 e1 F1 L1 => ∃ (tl3 : List Int) (k6 : Int), tl3.length = fu6 ∧ Lst x k6 tl3 ∧ oyezlaw07_BookRead_l6 l12 k4 (oyezlaw07_BookRead_l4 n2 sum2 k2 n12 l12 (oyezlaw07_BookRead_l2 n n2 hour n3 n4 l5 l6 l7 n6 l8 fu2) tl2) tl3 k6 = some r ∧ F167 = F1 ∧ L1 = [(b82, .cells #[.int .i64 n3, .int .i64 n4, .slice a64 l5.length c65, .slice a70 l6.length c71, .slice a76 l7.length c77] 27 (0, 0)), (b42, .cells #[.int .i64 n, .int .i64 n2, .slice a17 l.length c18, .slice a23 l2.length c24, .slice a29 l3.length c30] 27 (0, 0))] ∧ e1.sub [(5, .pointer (some ⟨b42, 0, none⟩)), (7, .int .i64 hour), (8, .pointer (some ⟨b82, 0, none⟩)), (10, .int .i64 n6), (12, .slice a100 l8.length c101), (14, .int .i64 (sum2 + n12)), (20, .slice a171 l12.length c172), (22, .int .i64 k4), (71, .int .i64 k2), (131, .slice a100 l8.length c101), (132, .int .i64 (l8.length : Int)), (133, .int .i64 k4), (153, .slice a224 x.length c225), (154, .int .i64 (x.length : Int)), (155, .int .i64 k6)]) _ (m0 kr ⟨_, _, rfl, Lst.start _, r250, rfl, rfl, (sc rfl (sc rfl (sc rfl (sc rfl (sc rfl (sc rfl (sc rfl (sc rfl (sc rfl (sc rfl (sc rfl (sc rfl (sc rfl (sc rfl (sc rfl (sn _))))))))))))))))⟩) ?_
           rintro fu6 e1 _ _ ⟨tl3, k6, hn252, hk251, r253, rfl, rfl, he254⟩
           refine shW_env _ he254 ?_; clear he254
           refine wsr ?_
           refine ov (v_lssK rfl rfl) rfl ?_
           refine shO_nil (shW_seq ?_)
           refine shW_condP rfl (fun c256 => ?_) (fun c256 => ?_)
           · obtain ⟨x3, tl4, rfl, hx258, g259, hk257⟩ := Lst.succ hk251 c256
             rw [oyezlaw07_BookRead_l6] at r253
             refine shW_skip (shW_seq ?_)
             refine shW_block ?_
             refine wsr (om rfl rfl ?_)
             obtain ⟨b260, o261, c262, vs263, ha264, hs265, hle266, rfl, hl267, hc268⟩ := RowR.at (iE_ok _) h226 ([(b82, .cells #[.int .i64 n3, .int .i64 n4, .slice a64 l5.length c65, .slice a70 l6.length c71, .slice a76 l7.length c77] 27 (0, 0)), (b42, .cells #[.int .i64 n, .int .i64 n2, .slice a17 l.length c18, .slice a23 l2.length c24, .slice a29 l3.length c30] 27 (0, 0))]) g259.1 hx258
             refine ov (v_indexO Try.underlying47 Try.sizeOf48 rfl ha264 rfl g259) rfl ?_
             refine ov (v_load Try.isAgg48 rfl hs265 (hc268 0 (by decide))) rfl ?_
             refine oa rfl rfl (oa rfl rfl (shO_nil ?_))
             obtain ⟨k7, h269, r270⟩ := b1_ok r253; clear r253
             refine shW_join (fun e1 F1 L1 => F167 = F1 ∧ L1 = [(b82, .cells #[.int .i64 n3, .int .i64 n4, .slice a64 l5.length c65, .slice a70 l6.length c71, .slice a76 l7.length c77] 27 (0, 0)), (b42, .cells #[.int .i64 n, .int .i64 n2, .slice a17 l.length c18, .slice a23 l2.length c24, .slice a29 l3.length c30] 27 (0, 0))] ∧ e1.sub [(5, .pointer (some ⟨b42, 0, none⟩)), (7, .int .i64 hour), (8, .pointer (some ⟨b82, 0, none⟩)), (10, .int .i64 n6), (12, .slice a100 l8.length c101), (14, .int .i64 (sum2 + n12)), (20, .slice a171 l12.length c172), (22, .int .i64 k4), (71, .int .i64 k2), (131, .slice a100 l8.length c101), (132, .int .i64 (l8.length : Int)), (133, .int .i64 k4), (153, .slice a224 x.length c225), (154, .int .i64 (x.length : Int)), (155, .int .i64 k6), (172, .bool k7)]) ?_ ?_
             · clear r270
               refine shW_region (om rfl rfl ?_)
               refine ov (v_neq rfl rfl) rfl ?_
               refine om rfl rfl ?_
               by_cases c271 : x3 ≠ 0
               · have r272 := ite_t h269 c271; clear h269
                 refine shO_on (b := true) 162 rfl (Env.isT rfl c271) (om rfl rfl (shO_on (b := true) 162 rfl (Env.isT rfl c271) (om rfl rfl (shO_on (b := true) 162 rfl (Env.isT rfl c271) ?_))))
                 obtain ⟨x4, g273, hx274, r275⟩ := ix_ok r272; clear r272
                 obtain ⟨b276, o277, c278, vs279, ha280, hs281, hle282, ⟨a285, c286, rfl, h287⟩, hl283, hc284⟩ := RowR.at (slE_ok (iE_ok _)) h173 ([(b82, .cells #[.int .i64 n3, .int .i64 n4, .slice a64 l5.length c65, .slice a70 l6.length c71, .slice a76 l7.length c77] 27 (0, 0)), (b42, .cells #[.int .i64 n, .int .i64 n2, .slice a17 l.length c18, .slice a23 l2.length c24, .slice a29 l3.length c30] 27 (0, 0))]) g273.1 hx274
                 refine ov (v_indexO Try.underlying36 Try.sizeOf47 rfl ha280 rfl g273) rfl ?_
                 refine shO_on (b := true) 162 rfl (Env.isT rfl c271) ?_
                 refine ov (v_load Try.isAgg47 rfl hs281 (hc284 0 (by decide))) rfl ?_
                 refine shO_on (b := true) 162 rfl (Env.isT rfl c271) (om rfl rfl (shO_on (b := true) 162 rfl (Env.isT rfl c271) ?_))
                 obtain ⟨x5, g288, hx289, r290⟩ := ix_ok r275; clear r275
                 obtain ⟨b291, o292, c293, vs294, ha295, hs296, hle297, rfl, hl298, hc299⟩ := RowR.at (iE_ok _) h287 ([(b82, .cells #[.int .i64 n3, .int .i64 n4, .slice a64 l5.length c65, .slice a70 l6.length c71, .slice a76 l7.length c77] 27 (0, 0)), (b42, .cells #[.int .i64 n, .int .i64 n2, .slice a17 l.length c18, .slice a23 l2.length c24, .slice a29 l3.length c30] 27 (0, 0))]) g288.1 hx289
                 refine ov (v_indexO Try.underlying47 Try.sizeOf48 rfl ha295 rfl g288) rfl ?_
                 refine shO_on (b := true) 162 rfl (Env.isT rfl c271) ?_
                 refine ov (v_load Try.isAgg48 rfl hs296 (hc299 0 (by decide))) rfl ?_
                 refine shO_on (b := true) 162 rfl (Env.isT rfl c271) (om rfl rfl (shO_on (b := true) 162 rfl (Env.isT rfl c271) ?_))
                 refine ov (v_neq rfl rfl) rfl ?_
                 refine ov (v_pick_t (evD_true rfl c271) rfl) rfl ?_
                 refine shO_nil ?_
                 obtain rfl := inj1 r290
                 exact mi kr ⟨rfl, rfl, (sc rfl (sc rfl (sc rfl (sc rfl (sc rfl (sc rfl (sc rfl (sc rfl (sc rfl (sc rfl (sc rfl (sc rfl (sc rfl (sc rfl (sc rfl (sc rfl (sn _)))))))))))))))))⟩
               have r300 := ite_f h269 c271; clear h269
               refine shO_off (b' := false) 162 rfl (Env.isF rfl c271) rfl rfl (shO_off (b' := false) 162 rfl (Env.isF rfl c271) rfl rfl (shO_off (b' := false) 162 rfl (Env.isF rfl c271) rfl rfl (shO_off (b' := false) 162 rfl (Env.isF rfl c271) rfl rfl (shO_off (b' := false) 162 rfl (Env.isF rfl c271) rfl rfl (shO_off (b' := false) 162 rfl (Env.isF rfl c271) rfl rfl (shO_off (b' := false) 162 rfl (Env.isF rfl c271) rfl rfl (shO_off (b' := false) 162 rfl (Env.isF rfl c271) rfl rfl (shO_off (b' := false) 162 rfl (Env.isF rfl c271) rfl rfl ?_))))))))
               refine ov (v_pick_f (evD_false rfl c271) rfl) rfl ?_
               refine shO_nil ?_
               obtain rfl := inj1 r300
               exact mi kr ⟨rfl, rfl, (sc rfl (sc rfl (sc rfl (sc rfl (sc rfl (sc rfl (sc rfl (sc rfl (sc rfl (sc rfl (sc rfl (sc rfl (sc rfl (sc rfl (sc rfl (sc rfl (sn _)))))))))))))))))⟩
             rintro e1 _ _ ⟨rfl, rfl, he301⟩
             refine shW_env _ he301 ?_; clear he301
             refine shW_cond rfl (fun c302 => ?_) (fun c302 => ?_)
             · have r303 := bt r270 c302; clear r270
               refine wsr (oa rfl rfl (shO_nil ?_))
               refine kW kn ?_
               refine shW_ret (inBlock_ret (andThen_ret (andThen_ret (inBlock_ret (inBlock_ret (andThen_ret (andThen_ret (inBlock_ret (inBlock_ret ?_)))))))))
               refine andThen_ret (andThen_ret (inBlock_ret (andThen_ret ?_)))
               refine q_res1 Try.results6 (res_tmp rfl) (sr) ?_
               obtain rfl := inj1 r303
               exact rfl
             have r304 := bf r270 c302; clear r270
             refine shW_skip (inBlock_n (id := 5) (shW_region ?_))
             refine ov (v_add rfl rfl (Lst.r64 hk251 c256 (RowR.lt h226))) rfl ?_
             refine om rfl rfl (shO_nil ?_)
             subst hn252; exact le kr ⟨_, _, rfl, hk257, r304, rfl, rfl, (sc rfl (sc rfl (sc rfl (sc rfl (sc rfl (sc rfl (sc rfl (sc rfl (sc rfl (sc rfl (sc rfl (sc rfl (sc rfl (sc rfl (sc rfl (sn _))))))))))))))))⟩
           obtain rfl := Lst.zero hk251 c256
           rw [oyezlaw07_BookRead_l6] at r253
           refine shW_exit (andThen_exit (andThen_exit ?_))
           refine inBlock_exit ?_
           refine inBlock_n (id := 3) ?_
           exact mi kr ⟨r253, rfl, rfl, (sc rfl (sc rfl (sc rfl (sc rfl (sc rfl (sc rfl (sc rfl (sc rfl (sc rfl (sc rfl (sc rfl (sn _))))))))))))⟩
         rintro e1 _ _ ⟨r305, rfl, rfl, he306⟩
         refine shW_env _ he306 ?_; clear he306
         rw [oyezlaw07_BookRead_j5] at r305
         refine shW_region ?_
         refine ov (v_add rfl rfl (Lst.r64 hk206 c211 (RowR.lt h102))) rfl ?_
         refine om rfl rfl (shO_nil ?_)
         subst hn207; exact le kr ⟨_, _, rfl, hk212, r305, rfl, rfl, (sc rfl (sc rfl (sc rfl (sc rfl (sc rfl (sc rfl (sc rfl (sc rfl (sc rfl (sc rfl (sc rfl (sn _))))))))))))⟩
       obtain rfl := Lst.zero hk206 c211
       rw [oyezlaw07_BookRead_l4] at r208
       refine shW_exit (andThen_exit (andThen_exit ?_))
       refine inBlock_exit ?_
       refine inBlock_n (id := 1) ?_
       exact mi kr ⟨sum2 + n12, r208, ((((hF132.trans hF157).trans hF160).trans hF163).trans hF168), rfl, (sc rfl (sc rfl (sc rfl (sc rfl (sc rfl (sc rfl (sc rfl (sn _))))))))⟩
     rintro e1 F309 _ ⟨sum3, r307, hF310, rfl, he308⟩
     refine shW_env _ he308 ?_; clear he308
     rw [oyezlaw07_BookRead_j3] at r307
     refine shW_region ?_
     refine ov (v_add rfl rfl (Ctr.r64 hk120 c127 g118)) rfl ?_
     refine om rfl rfl (shO_nil ?_)
     exact le kr ⟨_, hk128, sum3, r307, (hF125.trans hF310), rfl, (sc rfl (sc rfl (sc rfl (sc rfl (sc rfl (sc rfl (sc rfl (sn _))))))))⟩
   obtain rfl := Ctr.zero hk120 c127
   rw [oyezlaw07_BookRead_l2] at r122
   refine shW_exit (andThen_exit (andThen_exit ?_))
   refine inBlock_exit ?_
   exact mi kn ⟨sum2, r122, hF125, rfl, (sc rfl (sc rfl (sn _)))⟩
 rintro e1 F313 _ ⟨sum, r311, hF314, rfl, he312⟩
 refine shW_env _ he312 ?_; clear he312
 rw [oyezlaw07_BookRead_j1] at r311
 refine wsr (om rfl rfl (om rfl rfl ?_))
 obtain ⟨g315, r316⟩ := gd_ok r311; clear r311
 refine ov (v_mul rfl rfl g315) rfl ?_
 refine ov (v_eql rfl rfl) rfl ?_
 refine om rfl rfl ?_
 by_cases c317 : sum = (3 * n6)
 · have r318 := ite_t r316 c317; clear r316
   refine shO_on (b := true) 180 rfl (Env.isT rfl c317) ?_
   obtain ⟨ok, h319, r320⟩ := b1_ok r318; clear r318
   refine o_callV rfl Try.call16 rfl rfl rfl (oyezlaw07_awake_w h319) ?_
   refine ov (v_pick_t (evD_true rfl c317) rfl) rfl ?_
   refine oa rfl rfl (shO_nil (shW_ret ?_))
   refine q_res1 Try.results6 (res_tmp rfl) (sr) ?_
   obtain rfl := inj1 r320
   exact rfl
 have r321 := ite_f r316 c317; clear r316
 refine shO_off (b' := false) 180 rfl (Env.isF rfl c317) rfl rfl ?_
 refine ov (v_pick_f (evD_false rfl c317) rfl) rfl ?_
 refine oa rfl rfl (shO_nil (shW_ret ?_))
 refine q_res1 Try.results6 (res_tmp rfl) (sr) ?_
 obtain rfl := inj1 r321
 exact rfl
end Go.Proofs.Ytodhcoakjlmcdaa
