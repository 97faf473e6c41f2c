/- The walks that this claim needs, printed by a program of mine; part 3. -/
import Derived.Test.YtodhcoakjlmcdaaZBNB2
namespace Go.Proofs.Ytodhcoakjlmcdaa
open Go.SH Go.PL
set_option maxHeartbeats 1000000 in
theorem oyezlaw07_awake_w {F : FS} {r : Bool} (hr : oyezlaw07_awake = some r) :
    SpecV Try.prog 16 #[] F (.bool r) := by
 refine spec_of_shW (args := []) Try.func16 rfl Try.ntmps16 (Nat.le_of_ble_eq_true rfl) ?_
 intro K _ _; rw [oyezlaw07_awake] at hr
 refine wsr (oa rfl rfl (nsr ?_))
 obtain ⟨n, n2, l, l2, l3, h1, r2⟩ := b5_ok hr; clear hr
 refine o_call0 rfl Try.call45 rfl rfl rfl (oyezlaw07_Bell_w h1) ?_; rintro _ F3 _ hF4 hn5 ⟨a7, n11, c8, Lb9, a13, n17, c14, Lb15, a19, n23, c20, Lb21, rfl, rfl, hz10, hz16, hz22⟩
 replace hz10 := hz10.new fun p hp => hn5 p (by simp [hp])
 replace hz16 := hz16.new fun p hp => hn5 p (by simp [hp])
 replace hz22 := hz22.new fun p hp => hn5 p (by simp [hp])
 refine shO_L (lp (lp (lp (ln rfl)))) ?_
 obtain ⟨n3, n4, h25, r26⟩ := b2_ok r2; clear r2
 refine o_callT (Lt := Lb9 ++ (Lb15 ++ (Lb21 ++ []))) (Lr := []) rfl Try.call14 rfl rfl rfl (pT pR (lp (lp (lp (ln rfl))))) (fun F2 h2 h3 => by rw [(SlR.caps hz10).1]; rw [(SlR.caps hz16).1]; rw [(SlR.caps hz22).1]; exact book_Count_w (hz10.row (slE_ok (slE_ok (iE_ok _))) h2 (fun p hp => h3 p (List.mem_append_left _ hp))) (hz16.row (iE_ok _) h2 (fun p hp => h3 p (List.mem_append_right _ (List.mem_append_left _ hp)))) (hz22.row (prE_ok (iE_ok _) (prE_ok (iE_ok _) (iE_ok _))) h2 (fun p hp => h3 p (List.mem_append_right _ (List.mem_append_right _ (List.mem_append_left _ hp))))) h25) ?_
 refine om rfl rfl (ox rfl rfl rfl (ox rfl rfl rfl (oa rfl rfl (oa rfl rfl (nsr ?_)))))
 obtain ⟨n5, n6, l4, l5, l6, h27, r28⟩ := b5_ok r26; clear r26
 refine o_call0 rfl Try.call45 rfl rfl rfl (oyezlaw07_Bell_w h27) ?_; rintro _ F29 _ hF30 hn31 ⟨a33, n37, c34, Lb35, a39, n43, c40, Lb41, a45, n49, c46, Lb47, rfl, rfl, hz36, hz42, hz48⟩
 replace hz36 := hz36.new fun p hp => hn31 p (by simp [hp])
 replace hz42 := hz42.new fun p hp => hn31 p (by simp [hp])
 replace hz48 := hz48.new fun p hp => hn31 p (by simp [hp])
 refine shO_L (lp (lp (lp (ln rfl)))) ?_
 obtain ⟨l7, n7, h51, r52⟩ := b2_ok r28; clear r28
 refine o_callTO (Lb := []) (Lt := Lb35 ++ (Lb41 ++ (Lb47 ++ []))) (Lr := Lb9 ++ (Lb15 ++ (Lb21 ++ []))) rfl Try.call17 rfl rfl rfl (pT pR (ln (lp (lp (lp (ln rfl)))))) (fun F2 h2 h3 => by rw [(SlR.caps hz36).1]; rw [(SlR.caps hz42).1]; rw [(SlR.caps hz48).1]; exact book_First_w (hz36.row (slE_ok (slE_ok (iE_ok _))) h2 (fun p hp => h3 p (List.mem_append_left _ hp))) (hz42.row (iE_ok _) h2 (fun p hp => h3 p (List.mem_append_right _ (List.mem_append_left _ hp)))) (hz48.row (prE_ok (iE_ok _) (prE_ok (iE_ok _) (iE_ok _))) h2 (fun p hp => h3 p (List.mem_append_right _ (List.mem_append_right _ (List.mem_append_left _ hp))))) h51) (fun _ _ _ _ hq => by obtain ⟨a57, n61, c58, Lb59, rfl, rfl, hz60⟩ := hq; exact ⟨_, _, _, _, rfl, rfl, hz60.flat (fun _ _ h => h)⟩) ?_; rintro _ F53 _ hF54 hd56 hn55 ⟨a57, n61, c58, Lb59, rfl, rfl, hz60⟩
 have hn63 := newp (Lb' := []) (by rfl) hd56 hn55
 replace hz60 := hz60.new fun p hp => hn63 p (by simp [hp])
 refine shO_L (lp (ln (lp (lp (lp (ln rfl)))))) ?_
 refine om rfl rfl (ox rfl rfl rfl (ox rfl rfl rfl (oa rfl rfl (oa rfl rfl (nsr ?_)))))
 obtain ⟨n8, n9, l8, l9, l10, h64, r65⟩ := b5_ok r52; clear r52
 refine o_call0 rfl Try.call45 rfl rfl rfl (oyezlaw07_Bell_w h64) ?_; rintro _ F66 _ hF67 hn68 ⟨a70, n74, c71, Lb72, a76, n80, c77, Lb78, a82, n86, c83, Lb84, rfl, rfl, hz73, hz79, hz85⟩
 replace hz60 := hz60.mono (iE_ok _) hF67
 replace hz73 := hz73.new fun p hp => hn68 p (by simp [hp])
 replace hz79 := hz79.new fun p hp => hn68 p (by simp [hp])
 replace hz85 := hz85.new fun p hp => hn68 p (by simp [hp])
 refine shO_L (lp (lp (lp (ln rfl)))) ?_
 obtain rfl := (SlR.caps hz73).1
 refine shO_freezeR (Nat.le_refl _) (slE_ok (slE_ok (iE_ok _))) fP hz73 ?_; intro F88 hF89 h90
 replace hz60 := hz60.mono (iE_ok _) hF89
 replace hz79 := hz79.mono (iE_ok _) hF89
 replace hz85 := hz85.mono (prE_ok (iE_ok _) (prE_ok (iE_ok _) (iE_ok _))) hF89
 obtain rfl := (SlR.caps hz79).1
 refine shO_freezeR (Nat.le_refl _) (iE_ok _) fP hz79 ?_; intro F91 hF92 h93
 replace h90 := h90.mono (slE_ok (slE_ok (iE_ok _))) hF92
 replace hz60 := hz60.mono (iE_ok _) hF92
 replace hz85 := hz85.mono (prE_ok (iE_ok _) (prE_ok (iE_ok _) (iE_ok _))) hF92
 obtain rfl := (SlR.caps hz85).1
 refine shO_freezeR (Nat.le_refl _) (prE_ok (iE_ok _) (prE_ok (iE_ok _) (iE_ok _))) fP hz85 ?_; intro F94 hF95 h96
 replace h90 := h90.mono (slE_ok (slE_ok (iE_ok _))) hF95
 replace h93 := h93.mono (iE_ok _) hF95
 replace hz60 := hz60.mono (iE_ok _) hF95
 obtain ⟨l11, n10, h97, r98⟩ := b2_ok r65; clear r65
 refine o_call0 rfl Try.call13 rfl rfl rfl (book_Verdicts_w h90 h93 h96 h97) ?_; rintro _ F99 _ hF100 hn101 ⟨a103, c104, rfl, rfl, h105⟩
 replace hz60 := hz60.mono (iE_ok _) hF100
 refine shO_L (ln rfl) ?_
 refine om rfl rfl (ox rfl rfl rfl (ox rfl rfl rfl (oa rfl rfl (oa rfl rfl (nsr ?_)))))
 obtain ⟨n11, n12, l12, l13, l14, h106, r107⟩ := b5_ok r98; clear r98
 refine o_call0 rfl Try.call45 rfl rfl rfl (oyezlaw07_Bell_w h106) ?_; rintro _ F108 _ hF109 hn110 ⟨a112, n116, c113, Lb114, a118, n122, c119, Lb120, a124, n128, c125, Lb126, rfl, rfl, hz115, hz121, hz127⟩
 replace h105 := h105.mono (slE_ok (iE_ok _)) hF109
 replace hz60 := hz60.mono (iE_ok _) hF109
 replace hz115 := hz115.new fun p hp => hn110 p (by simp [hp])
 replace hz121 := hz121.new fun p hp => hn110 p (by simp [hp])
 replace hz127 := hz127.new fun p hp => hn110 p (by simp [hp])
 refine shO_L (lp (lp (lp (ln rfl)))) ?_
 obtain rfl := (SlR.caps hz115).1
 refine shO_freezeR (Nat.le_refl _) (slE_ok (slE_ok (iE_ok _))) fP hz115 ?_; intro F130 hF131 h132
 replace h105 := h105.mono (slE_ok (iE_ok _)) hF131
 replace hz60 := hz60.mono (iE_ok _) hF131
 replace hz121 := hz121.mono (iE_ok _) hF131
 replace hz127 := hz127.mono (prE_ok (iE_ok _) (prE_ok (iE_ok _) (iE_ok _))) hF131
 obtain rfl := (SlR.caps hz121).1
 refine shO_freezeR (Nat.le_refl _) (iE_ok _) fP hz121 ?_; intro F133 hF134 h135
 replace h105 := h105.mono (slE_ok (iE_ok _)) hF134
 replace h132 := h132.mono (slE_ok (slE_ok (iE_ok _))) hF134
 replace hz60 := hz60.mono (iE_ok _) hF134
 replace hz127 := hz127.mono (prE_ok (iE_ok _) (prE_ok (iE_ok _) (iE_ok _))) hF134
 obtain rfl := (SlR.caps hz127).1
 refine shO_freezeR (Nat.le_refl _) (prE_ok (iE_ok _) (prE_ok (iE_ok _) (iE_ok _))) fP hz127 ?_; intro F136 hF137 h138
 replace h105 := h105.mono (slE_ok (iE_ok _)) hF137
 replace h132 := h132.mono (slE_ok (slE_ok (iE_ok _))) hF137
 replace h135 := h135.mono (iE_ok _) hF137
 replace hz60 := hz60.mono (iE_ok _) hF137
 obtain ⟨l15, n13, h139, r140⟩ := b2_ok r107; clear r107
 refine o_call0 rfl Try.call15 rfl rfl rfl (book_Winds_w h132 h135 h138 h139) ?_; rintro _ F141 _ hF142 hn143 ⟨a145, n149, c146, Lb147, rfl, rfl, hz148⟩
 replace h105 := h105.mono (slE_ok (iE_ok _)) hF142
 replace hz60 := hz60.mono (iE_ok _) hF142
 replace hz148 := hz148.new fun p hp => hn143 p (by simp [hp])
 refine shO_L (lp (ln rfl)) ?_
 refine om rfl rfl (ox rfl rfl rfl (ox rfl rfl rfl (oa rfl rfl (oa rfl rfl (shO_nil (shW_seq ?_))))))
 obtain ⟨k, h151, r152⟩ := b1_ok r140; clear r140
 refine shW_join (fun e1 F1 L1 => FExt F141 F1 ∧ L1 = [] ∧ e1.sub [(73, .bool k)]) ?_ ?_
 · clear r152
   refine shW_region (om rfl rfl ?_)
   refine ov (v_neq rfl rfl) rfl ?_
   refine om rfl rfl ?_
   by_cases c153 : n4 ≠ 0
   · have r154 := ite_t h151 c153; clear h151
     refine shO_off (b' := true) 35 rfl (Env.isT rfl c153) rfl rfl (shO_off (b' := true) 35 rfl (Env.isT rfl c153) rfl rfl ?_)
     refine ov (v_pick_t (evD_true rfl c153) rfl) rfl ?_
     refine om rfl rfl (shO_off (b' := true) 39 rfl rfl rfl rfl (shO_off (b' := true) 39 rfl rfl rfl rfl ?_))
     refine ov (v_pick_t rfl rfl) rfl ?_
     refine om rfl rfl (shO_off (b' := true) 43 rfl rfl rfl rfl (shO_off (b' := true) 43 rfl rfl rfl rfl ?_))
     refine ov (v_pick_t rfl rfl) rfl ?_
     refine om rfl rfl (shO_off (b' := true) 47 rfl rfl rfl rfl (shO_off (b' := true) 47 rfl rfl rfl rfl ?_))
     refine ov (v_pick_t rfl rfl) rfl ?_
     refine om rfl rfl (shO_off (b' := true) 51 rfl rfl rfl rfl (shO_off (b' := true) 51 rfl rfl rfl rfl (shO_off (b' := true) 51 rfl rfl rfl rfl (shO_off (b' := true) 51 rfl rfl rfl rfl ?_))))
     refine ov (v_pick_t rfl rfl) rfl ?_
     refine om rfl rfl (shO_off (b' := true) 57 rfl rfl rfl rfl (shO_off (b' := true) 57 rfl rfl rfl rfl (shO_off (b' := true) 57 rfl rfl rfl rfl (shO_off (b' := true) 57 rfl rfl rfl rfl (shO_off (b' := true) 57 rfl rfl rfl rfl (shO_off (b' := true) 57 rfl rfl rfl rfl ?_))))))
     refine ov (v_pick_t rfl rfl) rfl ?_
     refine om rfl rfl (shO_off (b' := true) 65 rfl rfl rfl rfl (shO_off (b' := true) 65 rfl rfl rfl rfl (shO_off (b' := true) 65 rfl rfl rfl rfl (shO_off (b' := true) 65 rfl rfl rfl rfl (shO_off (b' := true) 65 rfl rfl rfl rfl (shO_off (b' := true) 65 rfl rfl rfl rfl (shO_off (b' := true) 65 rfl rfl rfl rfl ?_)))))))
     refine ov (v_pick_t rfl rfl) rfl ?_
     refine shO_nil ?_
     obtain rfl := inj1 r154
     exact mi kn ⟨FExt.refl _, rfl, (sc rfl (sn _))⟩
   have r155 := ite_f h151 c153; clear h151
   refine shO_on (b := false) 35 rfl (Env.isF rfl c153) (om rfl rfl (shO_on (b := false) 35 rfl (Env.isF rfl c153) ?_))
   refine ov (v_neq rfl rfl) rfl ?_
   refine ov (v_pick_f (evD_false rfl c153) rfl) rfl ?_
   refine om rfl rfl ?_
   by_cases c156 : n7 ≠ 0
   · have r157 := ite_t r155 c156; clear r155
     refine shO_off (b' := true) 39 rfl (Env.isT rfl c156) rfl rfl (shO_off (b' := true) 39 rfl (Env.isT rfl c156) rfl rfl ?_)
     refine ov (v_pick_t (evD_true rfl c156) rfl) rfl ?_
     refine om rfl rfl (shO_off (b' := true) 43 rfl rfl rfl rfl (shO_off (b' := true) 43 rfl rfl rfl rfl ?_))
     refine ov (v_pick_t rfl rfl) rfl ?_
     refine om rfl rfl (shO_off (b' := true) 47 rfl rfl rfl rfl (shO_off (b' := true) 47 rfl rfl rfl rfl ?_))
     refine ov (v_pick_t rfl rfl) rfl ?_
     refine om rfl rfl (shO_off (b' := true) 51 rfl rfl rfl rfl (shO_off (b' := true) 51 rfl rfl rfl rfl (shO_off (b' := true) 51 rfl rfl rfl rfl (shO_off (b' := true) 51 rfl rfl rfl rfl ?_))))
     refine ov (v_pick_t rfl rfl) rfl ?_
     refine om rfl rfl (shO_off (b' := true) 57 rfl rfl rfl rfl (shO_off (b' := true) 57 rfl rfl rfl rfl (shO_off (b' := true) 57 rfl rfl rfl rfl (shO_off (b' := true) 57 rfl rfl rfl rfl (shO_off (b' := true) 57 rfl rfl rfl rfl (shO_off (b' := true) 57 rfl rfl rfl rfl ?_))))))
     refine ov (v_pick_t rfl rfl) rfl ?_
     refine om rfl rfl (shO_off (b' := true) 65 rfl rfl rfl rfl (shO_off (b' := true) 65 rfl rfl rfl rfl (shO_off (b' := true) 65 rfl rfl rfl rfl (shO_off (b' := true) 65 rfl rfl rfl rfl (shO_off (b' := true) 65 rfl rfl rfl rfl (shO_off (b' := true) 65 rfl rfl rfl rfl (shO_off (b' := true) 65 rfl rfl rfl rfl ?_)))))))
     refine ov (v_pick_t rfl rfl) rfl ?_
     refine shO_nil ?_
     obtain rfl := inj1 r157
     exact mi kn ⟨FExt.refl _, rfl, (sc rfl (sn _))⟩
   have r158 := ite_f r155 c156; clear r155
   refine shO_on (b := false) 39 rfl (Env.isF rfl c156) (om rfl rfl (shO_on (b := false) 39 rfl (Env.isF rfl c156) ?_))
   refine ov (v_neq rfl rfl) rfl ?_
   refine ov (v_pick_f (evD_false rfl c156) rfl) rfl ?_
   refine om rfl rfl ?_
   by_cases c159 : n10 ≠ 0
   · have r160 := ite_t r158 c159; clear r158
     refine shO_off (b' := true) 43 rfl (Env.isT rfl c159) rfl rfl (shO_off (b' := true) 43 rfl (Env.isT rfl c159) rfl rfl ?_)
     refine ov (v_pick_t (evD_true rfl c159) rfl) rfl ?_
     refine om rfl rfl (shO_off (b' := true) 47 rfl rfl rfl rfl (shO_off (b' := true) 47 rfl rfl rfl rfl ?_))
     refine ov (v_pick_t rfl rfl) rfl ?_
     refine om rfl rfl (shO_off (b' := true) 51 rfl rfl rfl rfl (shO_off (b' := true) 51 rfl rfl rfl rfl (shO_off (b' := true) 51 rfl rfl rfl rfl (shO_off (b' := true) 51 rfl rfl rfl rfl ?_))))
     refine ov (v_pick_t rfl rfl) rfl ?_
     refine om rfl rfl (shO_off (b' := true) 57 rfl rfl rfl rfl (shO_off (b' := true) 57 rfl rfl rfl rfl (shO_off (b' := true) 57 rfl rfl rfl rfl (shO_off (b' := true) 57 rfl rfl rfl rfl (shO_off (b' := true) 57 rfl rfl rfl rfl (shO_off (b' := true) 57 rfl rfl rfl rfl ?_))))))
     refine ov (v_pick_t rfl rfl) rfl ?_
     refine om rfl rfl (shO_off (b' := true) 65 rfl rfl rfl rfl (shO_off (b' := true) 65 rfl rfl rfl rfl (shO_off (b' := true) 65 rfl rfl rfl rfl (shO_off (b' := true) 65 rfl rfl rfl rfl (shO_off (b' := true) 65 rfl rfl rfl rfl (shO_off (b' := true) 65 rfl rfl rfl rfl (shO_off (b' := true) 65 rfl rfl rfl rfl ?_)))))))
     refine ov (v_pick_t rfl rfl) rfl ?_
     refine shO_nil ?_
     obtain rfl := inj1 r160
     exact mi kn ⟨FExt.refl _, rfl, (sc rfl (sn _))⟩
   have r161 := ite_f r158 c159; clear r158
   refine shO_on (b := false) 43 rfl (Env.isF rfl c159) (om rfl rfl (shO_on (b := false) 43 rfl (Env.isF rfl c159) ?_))
   refine ov (v_neq rfl rfl) rfl ?_
   refine ov (v_pick_f (evD_false rfl c159) rfl) rfl ?_
   refine om rfl rfl ?_
   by_cases c162 : n13 ≠ 0
   · have r163 := ite_t r161 c162; clear r161
     refine shO_off (b' := true) 47 rfl (Env.isT rfl c162) rfl rfl (shO_off (b' := true) 47 rfl (Env.isT rfl c162) rfl rfl ?_)
     refine ov (v_pick_t (evD_true rfl c162) rfl) rfl ?_
     refine om rfl rfl (shO_off (b' := true) 51 rfl rfl rfl rfl (shO_off (b' := true) 51 rfl rfl rfl rfl (shO_off (b' := true) 51 rfl rfl rfl rfl (shO_off (b' := true) 51 rfl rfl rfl rfl ?_))))
     refine ov (v_pick_t rfl rfl) rfl ?_
     refine om rfl rfl (shO_off (b' := true) 57 rfl rfl rfl rfl (shO_off (b' := true) 57 rfl rfl rfl rfl (shO_off (b' := true) 57 rfl rfl rfl rfl (shO_off (b' := true) 57 rfl rfl rfl rfl (shO_off (b' := true) 57 rfl rfl rfl rfl (shO_off (b' := true) 57 rfl rfl rfl rfl ?_))))))
     refine ov (v_pick_t rfl rfl) rfl ?_
     refine om rfl rfl (shO_off (b' := true) 65 rfl rfl rfl rfl (shO_off (b' := true) 65 rfl rfl rfl rfl (shO_off (b' := true) 65 rfl rfl rfl rfl (shO_off (b' := true) 65 rfl rfl rfl rfl (shO_off (b' := true) 65 rfl rfl rfl rfl (shO_off (b' := true) 65 rfl rfl rfl rfl (shO_off (b' := true) 65 rfl rfl rfl rfl ?_)))))))
     refine ov (v_pick_t rfl rfl) rfl ?_
     refine shO_nil ?_
     obtain rfl := inj1 r163
     exact mi kn ⟨FExt.refl _, rfl, (sc rfl (sn _))⟩
   have r164 := ite_f r161 c162; clear r161
   refine shO_on (b := false) 47 rfl (Env.isF rfl c162) (om rfl rfl (shO_on (b := false) 47 rfl (Env.isF rfl c162) ?_))
   refine ov (v_neq rfl rfl) rfl ?_
   refine ov (v_pick_f (evD_false rfl c162) rfl) rfl ?_
   refine om rfl rfl ?_
   by_cases c165 : n3 ≠ 4
   · have r166 := ite_t r164 c165; clear r164
     refine shO_off (b' := true) 51 rfl (Env.isT rfl c165) rfl rfl (shO_off (b' := true) 51 rfl (Env.isT rfl c165) rfl rfl (shO_off (b' := true) 51 rfl (Env.isT rfl c165) rfl rfl (shO_off (b' := true) 51 rfl (Env.isT rfl c165) rfl rfl ?_)))
     refine ov (v_pick_t (evD_true rfl c165) rfl) rfl ?_
     refine om rfl rfl (shO_off (b' := true) 57 rfl rfl rfl rfl (shO_off (b' := true) 57 rfl rfl rfl rfl (shO_off (b' := true) 57 rfl rfl rfl rfl (shO_off (b' := true) 57 rfl rfl rfl rfl (shO_off (b' := true) 57 rfl rfl rfl rfl (shO_off (b' := true) 57 rfl rfl rfl rfl ?_))))))
     refine ov (v_pick_t rfl rfl) rfl ?_
     refine om rfl rfl (shO_off (b' := true) 65 rfl rfl rfl rfl (shO_off (b' := true) 65 rfl rfl rfl rfl (shO_off (b' := true) 65 rfl rfl rfl rfl (shO_off (b' := true) 65 rfl rfl rfl rfl (shO_off (b' := true) 65 rfl rfl rfl rfl (shO_off (b' := true) 65 rfl rfl rfl rfl (shO_off (b' := true) 65 rfl rfl rfl rfl ?_)))))))
     refine ov (v_pick_t rfl rfl) rfl ?_
     refine shO_nil ?_
     obtain rfl := inj1 r166
     exact mi kn ⟨FExt.refl _, rfl, (sc rfl (sn _))⟩
   have r167 := ite_f r164 c165; clear r164
   refine shO_on (b := false) 51 rfl (Env.isF rfl c165) (om rfl rfl (shO_on (b := false) 51 rfl (Env.isF rfl c165) ?_))
   refine o_buildSlice (cs := #[.int .i64 1, .int .i64 2, .int .i64 3]) rfl rfl (buildSlice_all slt_24 [.int .i64 1, .int .i64 2, .int .i64 3] rfl (by decide) (by simp [Value.cells]) (by decide)) ?_; intro b168 hb168
   refine shO_on (b := false) 51 rfl (Env.isF rfl c165) ?_
   refine shO_freeze 0 rfl hb168 ?_; intro F169 hF170 hz171
   refine shO_L (L' := Lb147 ++ (Lb59 ++ (Lb35 ++ (Lb41 ++ (Lb47 ++ (Lb9 ++ (Lb15 ++ (Lb21 ++ [])))))))) rfl ?_
   replace h105 := h105.mono (slE_ok (iE_ok _)) hF170
   replace hz60 := hz60.mono (iE_ok _) hF170
   replace hz148 := hz148.mono (slE_ok (iE_ok _)) hF170
   have h172 : RowR 1 (iE .i64) F169 (some ⟨b168, 0, none⟩) 3 [1, 2, 3] := RowR.of_block (iE_ok _) (vss := [[.int .i64 1], [.int .i64 2], [.int .i64 3]]) (xs := [1, 2, 3]) hz171 (.cons rfl (.cons rfl (.cons rfl .nil))) rfl (by simp [maxLen])
   obtain ⟨ok, h173, r174⟩ := b1_ok r167; clear r167
   refine o_callT (Lt := Lb59 ++ []) (Lr := Lb147 ++ (Lb35 ++ (Lb41 ++ (Lb47 ++ (Lb9 ++ (Lb15 ++ (Lb21 ++ []))))))) rfl Try.call46 rfl rfl rfl (pT ((fS fP).trans (pA pR)) (lp (ln rfl))) (fun F2 h2 h3 => by rw [(SlR.caps hz60).1]; exact oyezkit_Like_int_w (hz60.row (iE_ok _) h2 (fun p hp => h3 p (List.mem_append_left _ hp))) (h172.mono (iE_ok _) h2) h173) ?_
   refine shO_on (b := false) 51 rfl (Env.isF rfl c165) ?_
   refine ov (v_notB rfl) rfl ?_
   refine ov (v_pick_f (evD_false rfl c165) rfl) rfl ?_
   refine om rfl rfl ?_
   rcases bool_two (!ok) with c175 | c175
   · have r176 := bt r174 c175; clear r174
     refine shO_off (b' := true) 57 rfl (EnvB rfl c175) rfl rfl (shO_off (b' := true) 57 rfl (EnvB rfl c175) rfl rfl (shO_off (b' := true) 57 rfl (EnvB rfl c175) rfl rfl (shO_off (b' := true) 57 rfl (EnvB rfl c175) rfl rfl (shO_off (b' := true) 57 rfl (EnvB rfl c175) rfl rfl (shO_off (b' := true) 57 rfl (EnvB rfl c175) rfl rfl ?_)))))
     refine ov (v_pick_t (evB rfl c175) rfl) rfl ?_
     refine om rfl rfl (shO_off (b' := true) 65 rfl rfl rfl rfl (shO_off (b' := true) 65 rfl rfl rfl rfl (shO_off (b' := true) 65 rfl rfl rfl rfl (shO_off (b' := true) 65 rfl rfl rfl rfl (shO_off (b' := true) 65 rfl rfl rfl rfl (shO_off (b' := true) 65 rfl rfl rfl rfl (shO_off (b' := true) 65 rfl rfl rfl rfl ?_)))))))
     refine ov (v_pick_t rfl rfl) rfl ?_
     refine shO_nil ?_
     obtain rfl := inj1 r176
     exact mi kn ⟨hF170, rfl, (sc rfl (sn _))⟩
   have r177 := bf r174 c175; clear r174
   refine shO_on (b := false) 57 rfl (EnvB rfl c175) (om rfl rfl (shO_on (b := false) 57 rfl (EnvB rfl c175) ?_))
   refine o_buildSlice (cs := #[.int .i64 0]) rfl rfl (buildSlice_all slt_47 [.int .i64 0] rfl (by decide) (by simp [Value.cells]) (by decide)) ?_; intro b178 hb178
   refine shO_on (b := false) 57 rfl (EnvB rfl c175) ?_
   refine o_buildSlice (cs := #[.int .i64 1]) rfl rfl (buildSlice_all slt_47 [.int .i64 1] rfl (by decide) (by simp [Value.cells]) (by decide)) ?_; intro b179 hb179
   refine shO_on (b := false) 57 rfl (EnvB rfl c175) ?_
   refine o_buildSlice (cs := #[.slice (some ⟨b178, 0, none⟩) 1 1, .slice (some ⟨b179, 0, none⟩) 1 1]) rfl rfl (buildSlice_all slt_36 [.slice (some ⟨b178, 0, none⟩) 1 1, .slice (some ⟨b179, 0, none⟩) 1 1] rfl (by decide) (by simp [Value.cells]) (by decide)) ?_; intro b180 hb180
   refine shO_on (b := false) 57 rfl (EnvB rfl c175) ?_
   refine shO_freeze 2 rfl hb178 ?_; intro F181 hF182 hz183
   refine shO_L (L' := (b180, .cells #[.slice (some ⟨b178, 0, none⟩) 1 1, .slice (some ⟨b179, 0, none⟩) 1 1] 47 (0, 0)) :: ((b179, .cells #[.int .i64 1] 48 (0, 0)) :: (Lb147 ++ (Lb59 ++ (Lb35 ++ (Lb41 ++ (Lb47 ++ (Lb9 ++ (Lb15 ++ (Lb21 ++ [])))))))))) rfl ?_
   replace h105 := h105.mono (slE_ok (iE_ok _)) hF182
   replace hz148 := hz148.mono (slE_ok (iE_ok _)) hF182
   have h184 : RowR 1 (iE .i64) F181 (some ⟨b178, 0, none⟩) 1 [0] := RowR.of_block (iE_ok _) (vss := [[.int .i64 0]]) (xs := [0]) hz183 (.cons rfl .nil) rfl (by simp [maxLen])
   refine shO_freeze 1 rfl hb179 ?_; intro F185 hF186 hz187
   refine shO_L (L' := (b180, .cells (#[.slice (some ⟨b178, 0, none⟩) [0].length 1, .slice (some ⟨b179, 0, none⟩) 1 1]) 47 (0, 0)) :: (Lb147 ++ (Lb59 ++ (Lb35 ++ (Lb41 ++ (Lb47 ++ (Lb9 ++ (Lb15 ++ (Lb21 ++ []))))))))) rfl ?_
   replace h105 := h105.mono (slE_ok (iE_ok _)) hF186
   replace h184 := h184.mono (iE_ok _) hF186
   replace hz148 := hz148.mono (slE_ok (iE_ok _)) hF186
   have h188 : RowR 1 (iE .i64) F185 (some ⟨b179, 0, none⟩) 1 [1] := RowR.of_block (iE_ok _) (vss := [[.int .i64 1]]) (xs := [1]) hz187 (.cons rfl .nil) rfl (by simp [maxLen])
   refine shO_freeze 0 rfl hb180 ?_; intro F189 hF190 hz191
   refine shO_L (L' := Lb147 ++ (Lb59 ++ (Lb35 ++ (Lb41 ++ (Lb47 ++ (Lb9 ++ (Lb15 ++ (Lb21 ++ [])))))))) rfl ?_
   replace h105 := h105.mono (slE_ok (iE_ok _)) hF190
   replace h184 := h184.mono (iE_ok _) hF190
   replace h188 := h188.mono (iE_ok _) hF190
   replace hz148 := hz148.mono (slE_ok (iE_ok _)) hF190
   have h192 : RowR 1 (slE 1 (iE .i64)) F189 (some ⟨b180, 0, none⟩) 2 [[0], [1]] := RowR.of_block (slE_ok (iE_ok _)) (vss := [[.slice (some ⟨b178, 0, none⟩) [0].length 1], [.slice (some ⟨b179, 0, none⟩) [1].length 1]]) (xs := [[0], [1]]) hz191 (.cons ⟨_, _, rfl, h184⟩ (.cons ⟨_, _, rfl, h188⟩ .nil)) rfl (by simp [maxLen])
   obtain ⟨ok2, h193, r194⟩ := b1_ok r177; clear r177
   refine o_callV rfl Try.call33 rfl rfl rfl (oyezkit_LikeRows_Verdict_w h105 h192 h193) ?_
   refine shO_on (b := false) 57 rfl (EnvB rfl c175) ?_
   refine ov (v_notB rfl) rfl ?_
   refine ov (v_pick_f (evB rfl c175) rfl) rfl ?_
   refine om rfl rfl ?_
   rcases bool_two (!ok2) with c195 | c195
   · have r196 := bt r194 c195; clear r194
     refine shO_off (b' := true) 65 rfl (EnvB rfl c195) rfl rfl (shO_off (b' := true) 65 rfl (EnvB rfl c195) rfl rfl (shO_off (b' := true) 65 rfl (EnvB rfl c195) rfl rfl (shO_off (b' := true) 65 rfl (EnvB rfl c195) rfl rfl (shO_off (b' := true) 65 rfl (EnvB rfl c195) rfl rfl (shO_off (b' := true) 65 rfl (EnvB rfl c195) rfl rfl (shO_off (b' := true) 65 rfl (EnvB rfl c195) rfl rfl ?_))))))
     refine ov (v_pick_t (evB rfl c195) rfl) rfl ?_
     refine shO_nil ?_
     obtain rfl := inj1 r196
     exact mi kn ⟨(((hF170.trans hF182).trans hF186).trans hF190), rfl, (sc rfl (sn _))⟩
   have r197 := bf r194 c195; clear r194
   refine shO_on (b := false) 65 rfl (EnvB rfl c195) (om rfl rfl (shO_on (b := false) 65 rfl (EnvB rfl c195) ?_))
   refine o_buildSlice (cs := #[.int .i64 1, .int .i64 2]) rfl rfl (buildSlice_all slt_24 [.int .i64 1, .int .i64 2] rfl (by decide) (by simp [Value.cells]) (by decide)) ?_; intro b198 hb198
   refine shO_on (b := false) 65 rfl (EnvB rfl c195) ?_
   refine o_buildSlice (cs := #[.int .i64 2, .int .i64 3]) rfl rfl (buildSlice_all slt_24 [.int .i64 2, .int .i64 3] rfl (by decide) (by simp [Value.cells]) (by decide)) ?_; intro b199 hb199
   refine shO_on (b := false) 65 rfl (EnvB rfl c195) ?_
   refine o_buildSlice (cs := #[.int .i64 3, .int .i64 4]) rfl rfl (buildSlice_all slt_24 [.int .i64 3, .int .i64 4] rfl (by decide) (by simp [Value.cells]) (by decide)) ?_; intro b200 hb200
   refine shO_on (b := false) 65 rfl (EnvB rfl c195) ?_
   refine o_buildSlice (cs := #[.slice (some ⟨b198, 0, none⟩) 2 2, .slice (some ⟨b199, 0, none⟩) 2 2, .slice (some ⟨b200, 0, none⟩) 2 2]) rfl rfl (buildSlice_all slt_42 [.slice (some ⟨b198, 0, none⟩) 2 2, .slice (some ⟨b199, 0, none⟩) 2 2, .slice (some ⟨b200, 0, none⟩) 2 2] rfl (by decide) (by simp [Value.cells]) (by decide)) ?_; intro b201 hb201
   refine shO_on (b := false) 65 rfl (EnvB rfl c195) ?_
   refine shO_freeze 3 rfl hb198 ?_; intro F202 hF203 hz204
   refine shO_L (L' := (b201, .cells #[.slice (some ⟨b198, 0, none⟩) 2 2, .slice (some ⟨b199, 0, none⟩) 2 2, .slice (some ⟨b200, 0, none⟩) 2 2] 24 (0, 0)) :: ((b200, .cells #[.int .i64 3, .int .i64 4] 3 (0, 0)) :: ((b199, .cells #[.int .i64 2, .int .i64 3] 3 (0, 0)) :: (Lb147 ++ (Lb59 ++ (Lb35 ++ (Lb41 ++ (Lb47 ++ (Lb9 ++ (Lb15 ++ (Lb21 ++ []))))))))))) rfl ?_
   replace hz148 := hz148.mono (slE_ok (iE_ok _)) hF203
   have h205 : RowR 1 (iE .i64) F202 (some ⟨b198, 0, none⟩) 2 [1, 2] := RowR.of_block (iE_ok _) (vss := [[.int .i64 1], [.int .i64 2]]) (xs := [1, 2]) hz204 (.cons rfl (.cons rfl .nil)) rfl (by simp [maxLen])
   refine shO_freeze 2 rfl hb199 ?_; intro F206 hF207 hz208
   refine shO_L (L' := (b201, .cells (#[.slice (some ⟨b198, 0, none⟩) [1, 2].length 2, .slice (some ⟨b199, 0, none⟩) 2 2, .slice (some ⟨b200, 0, none⟩) 2 2]) 24 (0, 0)) :: ((b200, .cells #[.int .i64 3, .int .i64 4] 3 (0, 0)) :: (Lb147 ++ (Lb59 ++ (Lb35 ++ (Lb41 ++ (Lb47 ++ (Lb9 ++ (Lb15 ++ (Lb21 ++ [])))))))))) rfl ?_
   replace h205 := h205.mono (iE_ok _) hF207
   replace hz148 := hz148.mono (slE_ok (iE_ok _)) hF207
   have h209 : RowR 1 (iE .i64) F206 (some ⟨b199, 0, none⟩) 2 [2, 3] := RowR.of_block (iE_ok _) (vss := [[.int .i64 2], [.int .i64 3]]) (xs := [2, 3]) hz208 (.cons rfl (.cons rfl .nil)) rfl (by simp [maxLen])
   refine shO_freeze 1 rfl hb200 ?_; intro F210 hF211 hz212
   refine shO_L (L' := (b201, .cells (#[.slice (some ⟨b198, 0, none⟩) [1, 2].length 2, .slice (some ⟨b199, 0, none⟩) [2, 3].length 2, .slice (some ⟨b200, 0, none⟩) 2 2]) 24 (0, 0)) :: (Lb147 ++ (Lb59 ++ (Lb35 ++ (Lb41 ++ (Lb47 ++ (Lb9 ++ (Lb15 ++ (Lb21 ++ []))))))))) rfl ?_
   replace h205 := h205.mono (iE_ok _) hF211
   replace h209 := h209.mono (iE_ok _) hF211
   replace hz148 := hz148.mono (slE_ok (iE_ok _)) hF211
   have h213 : RowR 1 (iE .i64) F210 (some ⟨b200, 0, none⟩) 2 [3, 4] := RowR.of_block (iE_ok _) (vss := [[.int .i64 3], [.int .i64 4]]) (xs := [3, 4]) hz212 (.cons rfl (.cons rfl .nil)) rfl (by simp [maxLen])
   refine shO_freeze 0 rfl hb201 ?_; intro F214 hF215 hz216
   refine shO_L (L' := Lb147 ++ (Lb59 ++ (Lb35 ++ (Lb41 ++ (Lb47 ++ (Lb9 ++ (Lb15 ++ (Lb21 ++ [])))))))) rfl ?_
   replace h205 := h205.mono (iE_ok _) hF215
   replace h209 := h209.mono (iE_ok _) hF215
   replace h213 := h213.mono (iE_ok _) hF215
   replace hz148 := hz148.mono (slE_ok (iE_ok _)) hF215
   have h217 : RowR 1 (slE 1 (iE .i64)) F214 (some ⟨b201, 0, none⟩) 3 [[1, 2], [2, 3], [3, 4]] := RowR.of_block (slE_ok (iE_ok _)) (vss := [[.slice (some ⟨b198, 0, none⟩) [1, 2].length 2], [.slice (some ⟨b199, 0, none⟩) [2, 3].length 2], [.slice (some ⟨b200, 0, none⟩) [3, 4].length 2]]) (xs := [[1, 2], [2, 3], [3, 4]]) hz216 (.cons ⟨_, _, rfl, h205⟩ (.cons ⟨_, _, rfl, h209⟩ (.cons ⟨_, _, rfl, h213⟩ .nil))) rfl (by simp [maxLen])
   obtain ⟨ok3, h218, r219⟩ := b1_ok r197; clear r197
   refine o_callT (Lt := Lb147 ++ []) (Lr := Lb59 ++ (Lb35 ++ (Lb41 ++ (Lb47 ++ (Lb9 ++ (Lb15 ++ (Lb21 ++ []))))))) rfl Try.call47 rfl rfl rfl (pT pR (lp (ln rfl))) (fun F2 h2 h3 => by rw [(SlR.caps hz148).1]; exact oyezkit_LikeRows_int_w (hz148.row (slE_ok (iE_ok _)) h2 (fun p hp => h3 p (List.mem_append_left _ hp))) (h217.mono (slE_ok (iE_ok _)) h2) h218) ?_
   refine shO_on (b := false) 65 rfl (EnvB rfl c195) ?_
   refine ov (v_notB rfl) rfl ?_
   refine ov (v_pick_f (evB rfl c195) rfl) rfl ?_
   refine shO_nil ?_
   obtain rfl := inj1 r219
   exact mi kn ⟨(((((((hF170.trans hF182).trans hF186).trans hF190).trans hF203).trans hF207).trans hF211).trans hF215), rfl, (sc rfl (sn _))⟩
 rintro e1 F221 _ ⟨hF222, rfl, he220⟩
 refine shW_env _ he220 ?_; clear he220
 refine shW_cond rfl (fun c223 => ?_) (fun c223 => ?_)
 · have r224 := bt r152 c223; clear r152
   refine wsr (oa rfl rfl (shO_nil (shW_ret (andThen_ret ?_))))
   refine q_res1 Try.results16 (res_tmp rfl) (sr) ?_
   obtain rfl := inj1 r224
   exact rfl
 have r225 := bf r152 c223; clear r152
 refine shW_skip (wsr ?_)
 refine ov (v_build (v := .agg #[.int .i64 0, .int .i64 0, .bool true]) rfl (by intro w; kernel_rfl)) rfl ?_
 refine ov (v_build (v := .agg #[.int .i64 0, .int .i64 0, .bool false]) rfl (by intro w; kernel_rfl)) rfl ?_
 refine o_buildSlice (cs := #[.int .i64 0, .int .i64 0, .bool true, .int .i64 0, .int .i64 0, .bool false]) rfl rfl (buildSlice_all slt_105 [.agg #[.int .i64 0, .int .i64 0, .bool true], .agg #[.int .i64 0, .int .i64 0, .bool false]] rfl (by decide) (by simp [Value.cells]) (by decide)) ?_; intro b226 hb226
 have hz228 : SlR K.w0.heap.size 77 3 (prE (iE .i64) (prE (iE .i64) bE)) F221 (some ⟨b226, 0, none⟩) 2 2 [(0, 0, true), (0, 0, false)] [(b226, .cells #[.int .i64 0, .int .i64 0, .bool true, .int .i64 0, .int .i64 0, .bool false] 77 (0, 0))] := SlR.of_block (vss := [[.int .i64 0, .int .i64 0, .bool true], [.int .i64 0, .int .i64 0, .bool false]]) (prE_ok (iE_ok _) (prE_ok (iE_ok _) bE_ok)) hb226 (.cons ⟨_, _, rfl, rfl, ⟨_, _, rfl, rfl, rfl⟩⟩ (.cons ⟨_, _, rfl, rfl, ⟨_, _, rfl, rfl, rfl⟩⟩ .nil)) rfl rfl (by simp [maxLen])
 generalize hLLb227 : ([(b226, .cells #[.int .i64 0, .int .i64 0, .bool true, .int .i64 0, .int .i64 0, .bool false] 77 (0, 0))] : LH) = Lb227 at hz228
 refine shO_perm (L' := Lb227 ++ []) (by rw [← hLLb227]; exact fO) ?_
 refine oa rfl rfl (nsr ?_)
 obtain ⟨n14, n15, l16, l17, l18, h230, r231⟩ := b5_ok r225; clear r225
 refine o_call0 rfl Try.call45 rfl rfl rfl (oyezlaw07_Bell_w h230) ?_; rintro _ F232 _ hF233 hn234 ⟨a236, n240, c237, Lb238, a242, n246, c243, Lb244, a248, n252, c249, Lb250, rfl, rfl, hz239, hz245, hz251⟩
 replace hz228 := hz228.mono (prE_ok (iE_ok _) (prE_ok (iE_ok _) bE_ok)) hF233
 replace hz239 := hz239.new fun p hp => hn234 p (by simp [hp])
 replace hz245 := hz245.new fun p hp => hn234 p (by simp [hp])
 replace hz251 := hz251.new fun p hp => hn234 p (by simp [hp])
 refine shO_L (lp (lp (lp (ln rfl)))) ?_
 refine om rfl rfl ?_
 obtain ⟨l19, n16, h254, r255⟩ := b2_ok r231; clear r231
 refine o_callTO (Lb := []) (Lt := Lb238 ++ (Lb244 ++ (Lb250 ++ (Lb227 ++ [])))) (Lr := []) rfl Try.call48 rfl rfl rfl (pT pR (ln (lp (lp (lp (lp (ln rfl))))))) (fun F2 h2 h3 => by rw [(SlR.caps hz239).1]; rw [(SlR.caps hz245).1]; rw [(SlR.caps hz251).1]; rw [(SlR.caps hz228).1]; exact book_Fewest_w (hz239.row (slE_ok (slE_ok (iE_ok _))) h2 (fun p hp => h3 p (List.mem_append_left _ hp))) (hz245.row (iE_ok _) h2 (fun p hp => h3 p (List.mem_append_right _ (List.mem_append_left _ hp)))) (hz251.row (prE_ok (iE_ok _) (prE_ok (iE_ok _) (iE_ok _))) h2 (fun p hp => h3 p (List.mem_append_right _ (List.mem_append_right _ (List.mem_append_left _ hp))))) (hz228.row (prE_ok (iE_ok _) (prE_ok (iE_ok _) bE_ok)) h2 (fun p hp => h3 p (List.mem_append_right _ (List.mem_append_right _ (List.mem_append_right _ (List.mem_append_left _ hp)))))) h254) (fun _ _ _ _ hq => by obtain ⟨a260, n264, c261, Lb262, rfl, rfl, hz263⟩ := hq; exact ⟨_, _, _, _, rfl, rfl, hz263.flat (fun _ _ h => h)⟩) ?_; rintro _ F256 _ hF257 hd259 hn258 ⟨a260, n264, c261, Lb262, rfl, rfl, hz263⟩
 replace hz228 := hz228.mono (prE_ok (iE_ok _) (prE_ok (iE_ok _) bE_ok)) hF257
 have hn266 := newp (Lb' := []) (by rfl) hd259 hn258
 replace hz263 := hz263.new fun p hp => hn266 p (by simp [hp])
 refine shO_L (lp (ln (lp (lp (lp (lp (ln rfl))))))) ?_
 refine om rfl rfl (ox rfl rfl rfl (ox rfl rfl rfl (oa rfl rfl (oa rfl rfl (nsr ?_)))))
 obtain ⟨n17, n18, l20, l21, l22, h267, r268⟩ := b5_ok r255; clear r255
 refine o_call0 rfl Try.call45 rfl rfl rfl (oyezlaw07_Bell_w h267) ?_; rintro _ F269 _ hF270 hn271 ⟨a273, n277, c274, Lb275, a279, n283, c280, Lb281, a285, n289, c286, Lb287, rfl, rfl, hz276, hz282, hz288⟩
 replace hz228 := hz228.mono (prE_ok (iE_ok _) (prE_ok (iE_ok _) bE_ok)) hF270
 replace hz263 := hz263.mono (iE_ok _) hF270
 replace hz276 := hz276.new fun p hp => hn271 p (by simp [hp])
 replace hz282 := hz282.new fun p hp => hn271 p (by simp [hp])
 replace hz288 := hz288.new fun p hp => hn271 p (by simp [hp])
 refine shO_L (lp (lp (lp (ln rfl)))) ?_
 refine ov (v_build (v := .agg #[.int .i64 1, .int .i64 0, .bool false]) rfl (by intro w; kernel_rfl)) rfl ?_
 obtain ⟨ok4, n19, h291, r292⟩ := b2_ok r268; clear r268
 refine o_callT (Lt := Lb275 ++ (Lb281 ++ (Lb287 ++ []))) (Lr := Lb262 ++ (Lb238 ++ (Lb244 ++ (Lb250 ++ (Lb227 ++ []))))) rfl Try.call35 rfl rfl rfl (pT pR (lp (lp (lp (ln rfl))))) (fun F2 h2 h3 => by rw [(SlR.caps hz276).1]; rw [(SlR.caps hz282).1]; rw [(SlR.caps hz288).1]; exact book_Refuted_w (hz276.row (slE_ok (slE_ok (iE_ok _))) h2 (fun p hp => h3 p (List.mem_append_left _ hp))) (hz282.row (iE_ok _) h2 (fun p hp => h3 p (List.mem_append_right _ (List.mem_append_left _ hp)))) (hz288.row (prE_ok (iE_ok _) (prE_ok (iE_ok _) (iE_ok _))) h2 (fun p hp => h3 p (List.mem_append_right _ (List.mem_append_right _ (List.mem_append_left _ hp))))) h291) ?_
 refine om rfl rfl (ox rfl rfl rfl (ox rfl rfl rfl (oa rfl rfl (oa rfl rfl (shO_nil (shW_seq ?_))))))
 refine shW_drawM [(.still, 1), (.still, 2), (.still, 3), (.seq, 0), (.seq, 4), (.still, 5), (.still, 6), (.still, 7), (.still, 8), (.still, 9)] (by kernel_rfl) (by kernel_rfl) (trivial) (by rfl) (by kernel_rfl) ?_
 refine shM_v (v := .slice (some ⟨b226, 0, none⟩) 2 2) (ek := [(9, .slice (some ⟨b226, 0, none⟩) 2 2)]) (Ls := []) rfl rfl rfl rfl ((sc rfl (sn _))) (by kernel_rfl) sm (fun H F' L' hF' hL' => v_move rfl) ?_
 obtain ⟨x, g293, hx294, r295⟩ := ix_ok r292; clear r292
 obtain ⟨b296, o297, c298, vs299, ha300, hs301, hle302, ⟨_, _, rfl, rfl, ⟨_, _, rfl, rfl, rfl⟩⟩, hl303, hc304⟩ := SlR.at (prE_ok (iE_ok _) (prE_ok (iE_ok _) bE_ok)) hz228 (L := Lb227 ++ []) fP g293.1 hx294
 refine shM_v (v := .pointer (some ⟨b296, o297 + (0 : Int).toNat * 3, none⟩)) (ek := [(91, .slice (some ⟨b226, 0, none⟩) 2 2)]) (Ls := []) rfl rfl rfl rfl ((sc rfl (sn _))) (by kernel_rfl) sm (fun H F' L' hF' hL' => v_indexO Try.underlying105 Try.sizeOf77 rfl ha300 rfl (SlR.idx hz228 g293)) ?_
 refine shM_v (v := .agg #[.int .i64 x.1, .int .i64 x.2.1, .bool x.2.2]) (ek := [(92, .pointer (some ⟨b296, o297 + (0 : Int).toNat * 3, none⟩))]) (Ls := Lb227 ++ []) rfl rfl rfl rfl ((sc rfl (sn _))) (by kernel_rfl) (s0 (s3 (s3 (s3 (s3 (s3 (s3 (s3 (s4 sr))))))))) (fun H F' L' hF' hL' => v_loadA (cs := #[.int .i64 x.1, .int .i64 x.2.1, .bool x.2.2]) Try.isAgg77 Try.sizeOf77 rfl (hs301.ext hF' hL') hle302 (extract_cells hle302 hl303 hc304)) ?_
 refine ⟨_, [], rfl, rfl, (sn _), by kernel_rfl, ?_⟩; intro H
 obtain ⟨n20, n21, l23, l24, l25, h305, r306⟩ := b5_ok r295; clear r295
 refine o_call0 rfl Try.call45 rfl rfl rfl (oyezlaw07_Bell_w h305) ?_; rintro _ F307 _ hF308 hn309 ⟨a311, n315, c312, Lb313, a317, n321, c318, Lb319, a323, n327, c324, Lb325, rfl, rfl, hz314, hz320, hz326⟩
 replace hz263 := hz263.mono (iE_ok _) hF308
 replace hz314 := hz314.new fun p hp => hn309 p (by simp [hp])
 replace hz320 := hz320.new fun p hp => hn309 p (by simp [hp])
 replace hz326 := hz326.new fun p hp => hn309 p (by simp [hp])
 refine shO_L (lp (lp (lp (ln rfl)))) ?_
 refine shO_nil ⟨_, rfl, hF308, [3, 2, 1], by kernel_rfl, .inl (.inr (fun d h => by cases h; rfl)), (List.forall_mem_cons.2 ⟨s0 (s3 (s3 (s3 (s3 (s3 (s3 (s3 (s3 (s3 (s3 (s4 sr))))))))))), (List.forall_mem_cons.2 ⟨sm, (List.forall_mem_cons.2 ⟨sm, (fun _ h => absurd h List.not_mem_nil)⟩)⟩)⟩), ?_⟩
 refine ⟨_, [(90, .agg #[.int .i64 n20, .int .i64 n21, .slice a311 n315 c312, .slice a317 n321 c318, .slice a323 n327 c324]), (93, .agg #[.int .i64 x.1, .int .i64 x.2.1, .bool x.2.2])], rfl, rfl, (sc rfl (sc rfl (sn _))), by kernel_rfl, ?_⟩; intro H
 obtain rfl := (SlR.caps hz314).1
 refine shO_freezeR (Nat.le_refl _) (slE_ok (slE_ok (iE_ok _))) fP hz314 ?_; intro F329 hF330 h331
 replace hz263 := hz263.mono (iE_ok _) hF330
 replace hz320 := hz320.mono (iE_ok _) hF330
 replace hz326 := hz326.mono (prE_ok (iE_ok _) (prE_ok (iE_ok _) (iE_ok _))) hF330
 obtain rfl := (SlR.caps hz320).1
 refine shO_freezeR (Nat.le_refl _) (iE_ok _) fP hz320 ?_; intro F332 hF333 h334
 replace h331 := h331.mono (slE_ok (slE_ok (iE_ok _))) hF333
 replace hz263 := hz263.mono (iE_ok _) hF333
 replace hz326 := hz326.mono (prE_ok (iE_ok _) (prE_ok (iE_ok _) (iE_ok _))) hF333
 obtain rfl := (SlR.caps hz326).1
 refine shO_freezeR (Nat.le_refl _) (prE_ok (iE_ok _) (prE_ok (iE_ok _) (iE_ok _))) fP hz326 ?_; intro F335 hF336 h337
 replace h331 := h331.mono (slE_ok (slE_ok (iE_ok _))) hF336
 replace h334 := h334.mono (iE_ok _) hF336
 replace hz263 := hz263.mono (iE_ok _) hF336
 obtain ⟨l26, n22, h338, r339⟩ := b2_ok r306; clear r306
 refine o_call0 rfl Try.call36 rfl rfl rfl (book_Witness_w h331 h334 h337 h338) ?_; rintro _ F340 _ hF341 hn342 ⟨a344, c345, rfl, rfl, h346⟩
 replace hz263 := hz263.mono (iE_ok _) hF341
 refine shO_L (ln rfl) ?_
 refine shO_nil ⟨_, rfl, (((hF330.trans hF333).trans hF336).trans hF341), [], by kernel_rfl, .inl (.inl rfl), (fun _ h => absurd h List.not_mem_nil), ?_⟩
 refine shM_v (v := .tuple #[.slice a344 l26.length c345, .int .i64 n22]) (ek := [(94, .tuple #[.slice a344 l26.length c345, .int .i64 n22])]) (Ls := []) rfl rfl rfl rfl ((sc rfl (sn _))) (by kernel_rfl) sm (fun H F' L' hF' hL' => v_move rfl) ?_
 refine shM_v (v := .slice a344 l26.length c345) (ek := [(89, .tuple #[.slice a344 l26.length c345, .int .i64 n22])]) (Ls := []) rfl rfl rfl rfl ((sc rfl (sn _))) (by kernel_rfl) sm (fun H F' L' hF' hL' => v_extract rfl rfl) ?_
 refine shM_v (v := .int .i64 n22) (ek := [(89, .tuple #[.slice a344 l26.length c345, .int .i64 n22])]) (Ls := []) rfl rfl rfl rfl ((sc rfl (sn _))) (by kernel_rfl) sm (fun H F' L' hF' hL' => v_extract rfl rfl) ?_
 refine shM_v (v := .slice a344 l26.length c345) (ek := [(95, .slice a344 l26.length c345)]) (Ls := []) rfl rfl rfl rfl ((sc rfl (sn _))) (by kernel_rfl) sm (fun H F' L' hF' hL' => v_assign rfl) ?_
 refine shM_v (v := .int .i64 n22) (ek := [(96, .int .i64 n22)]) (Ls := []) rfl rfl rfl rfl ((sc rfl (sn _))) (by kernel_rfl) sm (fun H F' L' hF' hL' => v_assign rfl) ?_
 refine shM_nil ?_
 refine wsr ?_
 obtain ⟨n23, n24, l27, l28, l29, h347, r348⟩ := b5_ok r339; clear r339
 refine o_call0 rfl Try.call45 rfl rfl rfl (oyezlaw07_Bell_w h347) ?_; rintro _ F349 _ hF350 hn351 ⟨a353, n357, c354, Lb355, a359, n363, c360, Lb361, a365, n369, c366, Lb367, rfl, rfl, hz356, hz362, hz368⟩
 replace h346 := h346.mono (iE_ok _) hF350
 replace hz263 := hz263.mono (iE_ok _) hF350
 replace hz356 := hz356.new fun p hp => hn351 p (by simp [hp])
 replace hz362 := hz362.new fun p hp => hn351 p (by simp [hp])
 replace hz368 := hz368.new fun p hp => hn351 p (by simp [hp])
 refine shO_L (lp (lp (lp (ln rfl)))) ?_
 refine o_buildSlice (cs := #[.int .i64 0]) rfl rfl (buildSlice_all slt_24 [.int .i64 0] rfl (by decide) (by simp [Value.cells]) (by decide)) ?_; intro b371 hb371
 obtain rfl := (SlR.caps hz356).1
 refine shO_freezeR (Nat.le_refl _) (slE_ok (slE_ok (iE_ok _))) (fC fP) hz356 ?_; intro F372 hF373 h374
 replace h346 := h346.mono (iE_ok _) hF373
 replace hz263 := hz263.mono (iE_ok _) hF373
 replace hz362 := hz362.mono (iE_ok _) hF373
 replace hz368 := hz368.mono (prE_ok (iE_ok _) (prE_ok (iE_ok _) (iE_ok _))) hF373
 obtain rfl := (SlR.caps hz362).1
 refine shO_freezeR (Nat.le_refl _) (iE_ok _) (fC fP) hz362 ?_; intro F375 hF376 h377
 replace h346 := h346.mono (iE_ok _) hF376
 replace h374 := h374.mono (slE_ok (slE_ok (iE_ok _))) hF376
 replace hz263 := hz263.mono (iE_ok _) hF376
 replace hz368 := hz368.mono (prE_ok (iE_ok _) (prE_ok (iE_ok _) (iE_ok _))) hF376
 obtain rfl := (SlR.caps hz368).1
 refine shO_freezeR (Nat.le_refl _) (prE_ok (iE_ok _) (prE_ok (iE_ok _) (iE_ok _))) (fC fP) hz368 ?_; intro F378 hF379 h380
 replace h346 := h346.mono (iE_ok _) hF379
 replace h374 := h374.mono (slE_ok (slE_ok (iE_ok _))) hF379
 replace h377 := h377.mono (iE_ok _) hF379
 replace hz263 := hz263.mono (iE_ok _) hF379
 refine shO_freeze 0 rfl hb371 ?_; intro F381 hF382 hz383
 refine shO_L (L' := Lb275 ++ (Lb281 ++ (Lb287 ++ (Lb262 ++ (Lb238 ++ (Lb244 ++ (Lb250 ++ (Lb227 ++ [])))))))) rfl ?_
 replace h346 := h346.mono (iE_ok _) hF382
 replace h374 := h374.mono (slE_ok (slE_ok (iE_ok _))) hF382
 replace h377 := h377.mono (iE_ok _) hF382
 replace h380 := h380.mono (prE_ok (iE_ok _) (prE_ok (iE_ok _) (iE_ok _))) hF382
 replace hz263 := hz263.mono (iE_ok _) hF382
 have h384 : RowR 1 (iE .i64) F381 (some ⟨b371, 0, none⟩) 1 [0] := RowR.of_block (iE_ok _) (vss := [[.int .i64 0]]) (xs := [0]) hz383 (.cons rfl .nil) rfl (by simp [maxLen])
 obtain ⟨l30, n25, h385, r386⟩ := b2_ok r348; clear r348
 refine o_call0 rfl Try.call24 rfl rfl rfl (book_Again_w h374 h377 h380 h384 h385) ?_; rintro _ F387 _ hF388 hn389 ⟨a391, c392, rfl, rfl, h393⟩
 replace h346 := h346.mono (iE_ok _) hF388
 replace hz263 := hz263.mono (iE_ok _) hF388
 refine shO_L (ln rfl) ?_
 refine om rfl rfl (ox rfl rfl rfl (ox rfl rfl rfl (oa rfl rfl (nsr (om rfl rfl ?_)))))
 refine ov (v_eql rfl rfl) rfl ?_
 refine om rfl rfl ?_
 by_cases c394 : n16 = 0
 · have r395 := ite_t r386 c394; clear r386
   refine shO_on (b := true) 105 rfl (Env.isT rfl c394) (om rfl rfl (shO_on (b := true) 105 rfl (Env.isT rfl c394) ?_))
   refine ov (v_eql rfl rfl) rfl ?_
   refine ov (v_pick_t (evD_true rfl c394) rfl) rfl ?_
   refine om rfl rfl ?_
   by_cases c396 : n19 = 0
   · have r397 := ite_t r395 c396; clear r395
     refine shO_on (b := true) 109 rfl (Env.isT rfl c396) (om rfl rfl (shO_on (b := true) 109 rfl (Env.isT rfl c396) ?_))
     refine ov (v_eql rfl rfl) rfl ?_
     refine ov (v_pick_t (evD_true rfl c396) rfl) rfl ?_
     refine om rfl rfl ?_
     by_cases c398 : n22 = 0
     · have r399 := ite_t r397 c398; clear r397
       refine shO_on (b := true) 113 rfl (Env.isT rfl c398) (om rfl rfl (shO_on (b := true) 113 rfl (Env.isT rfl c398) ?_))
       refine ov (v_eql rfl rfl) rfl ?_
       refine ov (v_pick_t (evD_true rfl c398) rfl) rfl ?_
       refine om rfl rfl ?_
       by_cases c400 : n25 = 6
       · have r401 := ite_t r399 c400; clear r399
         refine shO_on (b := true) 117 rfl (Env.isT rfl c400) (om rfl rfl ?_)
         refine ov (v_pick_t (evD_true rfl c400) rfl) rfl ?_
         refine om rfl rfl ?_
         rcases bool_two ok4 with c402 | c402
         · have r403 := bt r401 c402; clear r401
           refine shO_on (b := true) 120 rfl (EnvB rfl c402) (om rfl rfl (shO_on (b := true) 120 rfl (EnvB rfl c402) ?_))
           refine o_buildSlice (cs := #[.int .i64 0]) rfl rfl (buildSlice_all slt_24 [.int .i64 0] rfl (by decide) (by simp [Value.cells]) (by decide)) ?_; intro b404 hb404
           refine shO_on (b := true) 120 rfl (EnvB rfl c402) ?_
           refine shO_freeze 0 rfl hb404 ?_; intro F405 hF406 hz407
           refine shO_L (L' := Lb275 ++ (Lb281 ++ (Lb287 ++ (Lb262 ++ (Lb238 ++ (Lb244 ++ (Lb250 ++ (Lb227 ++ [])))))))) rfl ?_
           replace h346 := h346.mono (iE_ok _) hF406
           replace hz263 := hz263.mono (iE_ok _) hF406
           have h408 : RowR 1 (iE .i64) F405 (some ⟨b404, 0, none⟩) 1 [0] := RowR.of_block (iE_ok _) (vss := [[.int .i64 0]]) (xs := [0]) hz407 (.cons rfl .nil) rfl (by simp [maxLen])
           obtain ⟨ok5, h409, r410⟩ := b1_ok r403; clear r403
           refine o_callT (Lt := Lb262 ++ []) (Lr := Lb275 ++ (Lb281 ++ (Lb287 ++ (Lb238 ++ (Lb244 ++ (Lb250 ++ (Lb227 ++ []))))))) rfl Try.call46 rfl rfl rfl (pT ((fS (fS (fS fP))).trans (pA pR)) (lp (ln rfl))) (fun F2 h2 h3 => by rw [(SlR.caps hz263).1]; exact oyezkit_Like_int_w (hz263.row (iE_ok _) h2 (fun p hp => h3 p (List.mem_append_left _ hp))) (h408.mono (iE_ok _) h2) h409) ?_
           refine ov (v_pick_t (evB rfl c402) rfl) rfl ?_
           refine om rfl rfl ?_
           rcases bool_two ok5 with c411 | c411
           · have r412 := bt r410 c411; clear r410
             refine shO_on (b := true) 125 rfl (EnvB rfl c411) (om rfl rfl (shO_on (b := true) 125 rfl (EnvB rfl c411) ?_))
             refine o_buildSlice (cs := #[.int .i64 1, .int .i64 2, .int .i64 3]) rfl rfl (buildSlice_all slt_24 [.int .i64 1, .int .i64 2, .int .i64 3] rfl (by decide) (by simp [Value.cells]) (by decide)) ?_; intro b413 hb413
             refine shO_on (b := true) 125 rfl (EnvB rfl c411) ?_
             refine shO_freeze 0 rfl hb413 ?_; intro F414 hF415 hz416
             refine shO_L (L' := Lb275 ++ (Lb281 ++ (Lb287 ++ (Lb262 ++ (Lb238 ++ (Lb244 ++ (Lb250 ++ (Lb227 ++ [])))))))) rfl ?_
             replace h346 := h346.mono (iE_ok _) hF415
             have h417 : RowR 1 (iE .i64) F414 (some ⟨b413, 0, none⟩) 3 [1, 2, 3] := RowR.of_block (iE_ok _) (vss := [[.int .i64 1], [.int .i64 2], [.int .i64 3]]) (xs := [1, 2, 3]) hz416 (.cons rfl (.cons rfl (.cons rfl .nil))) rfl (by simp [maxLen])
             obtain ⟨ok6, h418, r419⟩ := b1_ok r412; clear r412
             refine o_callV rfl Try.call46 rfl rfl rfl (oyezkit_Like_int_w h346 h417 h418) ?_
             refine ov (v_pick_t (evB rfl c411) rfl) rfl ?_
             refine oa rfl rfl (shO_nil ?_)
             refine kW kn ?_
             refine shW_ret ?_
             refine q_res1 Try.results16 (res_tmp rfl) (sr) ?_
             obtain rfl := inj1 r419
             exact rfl
           have r420 := bf r410 c411; clear r410
           refine shO_off (b' := false) 125 rfl (EnvB rfl c411) rfl rfl (shO_off (b' := false) 125 rfl (EnvB rfl c411) rfl rfl (shO_off (b' := false) 125 rfl (EnvB rfl c411) rfl rfl ?_))
           refine ov (v_pick_f (evB rfl c411) rfl) rfl ?_
           refine oa rfl rfl (shO_nil ?_)
           refine kW kn ?_
           refine shW_ret ?_
           refine q_res1 Try.results16 (res_tmp rfl) (sr) ?_
           obtain rfl := inj1 r420
           exact rfl
         have r421 := bf r401 c402; clear r401
         refine shO_off (b' := false) 120 rfl (EnvB rfl c402) rfl rfl (shO_off (b' := false) 120 rfl (EnvB rfl c402) rfl rfl (shO_off (b' := false) 120 rfl (EnvB rfl c402) rfl rfl ?_))
         refine ov (v_pick_f (evB rfl c402) rfl) rfl ?_
         refine om rfl rfl (shO_off (b' := false) 125 rfl rfl rfl rfl (shO_off (b' := false) 125 rfl rfl rfl rfl (shO_off (b' := false) 125 rfl rfl rfl rfl ?_)))
         refine ov (v_pick_f rfl rfl) rfl ?_
         refine oa rfl rfl (shO_nil ?_)
         refine kW kn ?_
         refine shW_ret ?_
         refine q_res1 Try.results16 (res_tmp rfl) (sr) ?_
         obtain rfl := inj1 r421
         exact rfl
       have r422 := ite_f r399 c400; clear r399
       refine shO_off (b' := false) 117 rfl (Env.isF rfl c400) rfl rfl ?_
       refine ov (v_pick_f (evD_false rfl c400) rfl) rfl ?_
       refine om rfl rfl (shO_off (b' := false) 120 rfl rfl rfl rfl (shO_off (b' := false) 120 rfl rfl rfl rfl (shO_off (b' := false) 120 rfl rfl rfl rfl ?_)))
       refine ov (v_pick_f rfl rfl) rfl ?_
       refine om rfl rfl (shO_off (b' := false) 125 rfl rfl rfl rfl (shO_off (b' := false) 125 rfl rfl rfl rfl (shO_off (b' := false) 125 rfl rfl rfl rfl ?_)))
       refine ov (v_pick_f rfl rfl) rfl ?_
       refine oa rfl rfl (shO_nil ?_)
       refine kW kn ?_
       refine shW_ret ?_
       refine q_res1 Try.results16 (res_tmp rfl) (sr) ?_
       obtain rfl := inj1 r422
       exact rfl
     have r423 := ite_f r397 c398; clear r397
     refine shO_off (b' := false) 113 rfl (Env.isF rfl c398) rfl rfl (shO_off (b' := false) 113 rfl (Env.isF rfl c398) rfl rfl ?_)
     refine ov (v_pick_f (evD_false rfl c398) rfl) rfl ?_
     refine om rfl rfl (shO_off (b' := false) 117 rfl rfl rfl rfl ?_)
     refine ov (v_pick_f rfl rfl) rfl ?_
     refine om rfl rfl (shO_off (b' := false) 120 rfl rfl rfl rfl (shO_off (b' := false) 120 rfl rfl rfl rfl (shO_off (b' := false) 120 rfl rfl rfl rfl ?_)))
     refine ov (v_pick_f rfl rfl) rfl ?_
     refine om rfl rfl (shO_off (b' := false) 125 rfl rfl rfl rfl (shO_off (b' := false) 125 rfl rfl rfl rfl (shO_off (b' := false) 125 rfl rfl rfl rfl ?_)))
     refine ov (v_pick_f rfl rfl) rfl ?_
     refine oa rfl rfl (shO_nil ?_)
     refine kW kn ?_
     refine shW_ret ?_
     refine q_res1 Try.results16 (res_tmp rfl) (sr) ?_
     obtain rfl := inj1 r423
     exact rfl
   have r424 := ite_f r395 c396; clear r395
   refine shO_off (b' := false) 109 rfl (Env.isF rfl c396) rfl rfl (shO_off (b' := false) 109 rfl (Env.isF rfl c396) rfl rfl ?_)
   refine ov (v_pick_f (evD_false rfl c396) rfl) rfl ?_
   refine om rfl rfl (shO_off (b' := false) 113 rfl rfl rfl rfl (shO_off (b' := false) 113 rfl rfl rfl rfl ?_))
   refine ov (v_pick_f rfl rfl) rfl ?_
   refine om rfl rfl (shO_off (b' := false) 117 rfl rfl rfl rfl ?_)
   refine ov (v_pick_f rfl rfl) rfl ?_
   refine om rfl rfl (shO_off (b' := false) 120 rfl rfl rfl rfl (shO_off (b' := false) 120 rfl rfl rfl rfl (shO_off (b' := false) 120 rfl rfl rfl rfl ?_)))
   refine ov (v_pick_f rfl rfl) rfl ?_
   refine om rfl rfl (shO_off (b' := false) 125 rfl rfl rfl rfl (shO_off (b' := false) 125 rfl rfl rfl rfl (shO_off (b' := false) 125 rfl rfl rfl rfl ?_)))
   refine ov (v_pick_f rfl rfl) rfl ?_
   refine oa rfl rfl (shO_nil ?_)
   refine kW kn ?_
   refine shW_ret ?_
   refine q_res1 Try.results16 (res_tmp rfl) (sr) ?_
   obtain rfl := inj1 r424
   exact rfl
 have r425 := ite_f r386 c394; clear r386
 refine shO_off (b' := false) 105 rfl (Env.isF rfl c394) rfl rfl (shO_off (b' := false) 105 rfl (Env.isF rfl c394) rfl rfl ?_)
 refine ov (v_pick_f (evD_false rfl c394) rfl) rfl ?_
 refine om rfl rfl (shO_off (b' := false) 109 rfl rfl rfl rfl (shO_off (b' := false) 109 rfl rfl rfl rfl ?_))
 refine ov (v_pick_f rfl rfl) rfl ?_
 refine om rfl rfl (shO_off (b' := false) 113 rfl rfl rfl rfl (shO_off (b' := false) 113 rfl rfl rfl rfl ?_))
 refine ov (v_pick_f rfl rfl) rfl ?_
 refine om rfl rfl (shO_off (b' := false) 117 rfl rfl rfl rfl ?_)
 refine ov (v_pick_f rfl rfl) rfl ?_
 refine om rfl rfl (shO_off (b' := false) 120 rfl rfl rfl rfl (shO_off (b' := false) 120 rfl rfl rfl rfl (shO_off (b' := false) 120 rfl rfl rfl rfl ?_)))
 refine ov (v_pick_f rfl rfl) rfl ?_
 refine om rfl rfl (shO_off (b' := false) 125 rfl rfl rfl rfl (shO_off (b' := false) 125 rfl rfl rfl rfl (shO_off (b' := false) 125 rfl rfl rfl rfl ?_)))
 refine ov (v_pick_f rfl rfl) rfl ?_
 refine oa rfl rfl (shO_nil ?_)
 refine kW kn ?_
 refine shW_ret ?_
 refine q_res1 Try.results16 (res_tmp rfl) (sr) ?_
 obtain rfl := inj1 r425
 exact rfl
set_option maxHeartbeats 1000000 in
theorem oyezlaw07_right_1_w {w : Int} {F : FS} {r : Bool} (hr : oyezlaw07_right_1 w = some r) :
    SpecV Try.prog 51 #[.int .i64 w] F (.bool r) := by
 refine spec_of_shW (args := [.int .i64 w]) Try.func51 rfl Try.ntmps51 (Nat.le_of_ble_eq_true rfl) ?_
 intro K _ _; rw [oyezlaw07_right_1] at hr
 refine wsr (oa rfl rfl (nsr (om rfl rfl ?_)))
 refine ov (v_lssK rfl rfl) rfl ?_
 refine om rfl rfl ?_
 by_cases c1 : w < 0
 · have r2 := ite_t hr c1; clear hr
   refine shO_off (b' := true) 5 rfl (Env.isT rfl c1) rfl rfl (shO_off (b' := true) 5 rfl (Env.isT rfl c1) rfl rfl ?_)
   refine ov (v_pick_t (evD_true rfl c1) rfl) rfl ?_
   refine oa rfl rfl (shO_nil (shW_ret ?_))
   refine q_res1 Try.results51 (res_tmp rfl) (sr) ?_
   obtain rfl := inj1 r2
   exact rfl
 have r3 := ite_f hr c1; clear hr
 refine shO_on (b := false) 5 rfl (Env.isF rfl c1) (om rfl rfl (shO_on (b := false) 5 rfl (Env.isF rfl c1) ?_))
 refine ov (v_geqK rfl rfl) rfl ?_
 refine ov (v_pick_f (evD_false rfl c1) rfl) rfl ?_
 refine oa rfl rfl (shO_nil (shW_ret ?_))
 refine q_res1 Try.results51 (res_tmp rfl) (sr) ?_
 obtain rfl := inj1 r3
 exact rfl
set_option maxHeartbeats 1000000 in
theorem oyezlaw07_near_w {a : Int} {b : Int} {F : FS} {r : Bool} (hr : oyezlaw07_near a b = some r) :
    SpecV Try.prog 85 #[.int .i64 a, .int .i64 b] F (.bool r) := by
 refine spec_of_shW (args := [.int .i64 a, .int .i64 b]) Try.func85 rfl Try.ntmps85 (Nat.le_of_ble_eq_true rfl) ?_
 intro K _ _; rw [oyezlaw07_near] at hr
 refine wsr (oa rfl rfl (nsr (om rfl rfl (om rfl rfl ?_))))
 obtain ⟨g1, r2⟩ := gd_ok hr; clear hr
 refine ov (v_sub rfl rfl g1) rfl ?_
 obtain ⟨n, h3, r4⟩ := b1_ok r2; clear r2
 refine o_callV rfl Try.call30 rfl rfl rfl (oyezkit_Wind_w h3) ?_
 refine oa rfl rfl (nsr (om rfl rfl ?_))
 refine ov (v_lssK rfl rfl) rfl ?_
 refine om rfl rfl ?_
 by_cases c5 : n < 2
 · have r6 := ite_t r4 c5; clear r4
   refine shO_off (b' := true) 12 rfl (Env.isT rfl c5) rfl rfl (shO_off (b' := true) 12 rfl (Env.isT rfl c5) rfl rfl ?_)
   refine ov (v_pick_t (evD_true rfl c5) rfl) rfl ?_
   refine oa rfl rfl (shO_nil (shW_ret ?_))
   refine q_res1 Try.results85 (res_tmp rfl) (sr) ?_
   obtain rfl := inj1 r6
   exact rfl
 have r7 := ite_f r4 c5; clear r4
 refine shO_on (b := false) 12 rfl (Env.isF rfl c5) (om rfl rfl (shO_on (b := false) 12 rfl (Env.isF rfl c5) ?_))
 refine ov (v_eql rfl rfl) rfl ?_
 refine ov (v_pick_f (evD_false rfl c5) rfl) rfl ?_
 refine oa rfl rfl (shO_nil (shW_ret ?_))
 refine q_res1 Try.results85 (res_tmp rfl) (sr) ?_
 obtain rfl := inj1 r7
 exact rfl
set_option maxHeartbeats 1000000 in
theorem oyezlaw07_fit_w {houses : Int} {notices : Int} {hears_a : Option Addr} {hears_c : Nat} {hears : List (List (List Int))} {readings_a : Option Addr} {readings_c : Nat} {readings : List Int} {cries_a : Option Addr} {cries_c : Nat} {cries : List (Int × Int × Int)} {course_a : Option Addr} {course_c : Nat} {course : List Int} {F : FS} (_h_hears : RowR 1 (slE 1 (slE 1 (iE .i64))) F hears_a hears_c hears) (h_readings : RowR 1 (iE .i64) F readings_a readings_c readings) (_h_cries : RowR 3 (prE (iE .i64) (prE (iE .i64) (iE .i64))) F cries_a cries_c cries) (h_course : RowR 1 (iE .i64) F course_a course_c course) {r : Bool} (hr : oyezlaw07_fit houses notices hears readings cries course = some r) :
    SpecV Try.prog 52 #[.agg #[.int .i64 houses, .int .i64 notices, .slice hears_a hears.length hears_c, .slice readings_a readings.length readings_c, .slice cries_a cries.length cries_c], .slice course_a course.length course_c] F (.bool r) := by
 refine spec_of_shW (args := [.agg #[.int .i64 houses, .int .i64 notices, .slice hears_a hears.length hears_c, .slice readings_a readings.length readings_c, .slice cries_a cries.length cries_c], .slice course_a course.length course_c]) Try.func52 rfl Try.ntmps52 (Nat.le_of_ble_eq_true rfl) ?_
 intro K _ _; rw [oyezlaw07_fit] at hr
 refine wsr ?_
 refine o_box rfl rfl ?_; intro b1 hb1
 refine oa rfl rfl (shO_nil ?_)
 refine shW_join (fun e1 F1 L1 => oyezlaw07_fit_j1 = some r ∧ F = F1 ∧ L1 = [] ∧ e1.sub []) ?_ ?_
 · refine wsr (om rfl rfl ?_)
   refine ov (v_lenS Try.underlying24 rfl) rfl ?_
   refine om rfl rfl (shO_nil ?_)
   refine shW_block ?_
   refine shW_lp (fun fu2 e1 F1 L1 => ∃ (tl : List Int) (k : Int), tl.length = fu2 ∧ Lst course k tl ∧ oyezlaw07_fit_l2 readings course tl k = some r ∧ F = F1 ∧ L1 = [(b1, .cells #[.int .i64 houses, .int .i64 notices, .slice hears_a hears.length hears_c, .slice readings_a readings.length readings_c, .slice cries_a cries.length cries_c] 27 (0, 0))] ∧ e1.sub [(1, .slice course_a course.length course_c), (2, .pointer (some ⟨b1, 0, none⟩)), (7, .slice course_a course.length course_c), (8, .int .i64 (course.length : Int)), (9, .int .i64 k)]) _ (m0 kr ⟨_, _, rfl, Lst.start _, hr, rfl, rfl, (sc rfl (sc rfl (sc rfl (sc rfl (sc rfl (sn _))))))⟩) ?_
   rintro fu2 e1 _ _ ⟨tl, k, hn3, hk2, r4, rfl, rfl, he5⟩
   refine shW_env _ he5 ?_; clear he5
   refine wsr ?_
   refine ov (v_lssK rfl rfl) rfl ?_
   refine shO_nil (shW_seq ?_)
   refine shW_condP rfl (fun c7 => ?_) (fun c7 => ?_)
   · obtain ⟨x, tl2, rfl, hx9, g10, hk8⟩ := Lst.succ hk2 c7
     rw [oyezlaw07_fit_l2] at r4
     refine shW_skip (shW_seq ?_)
     refine shW_block ?_
     refine wsr (om rfl rfl ?_)
     obtain ⟨b11, o12, c13, vs14, ha15, hs16, hle17, rfl, hl18, hc19⟩ := RowR.at (iE_ok _) h_course ([(b1, .cells #[.int .i64 houses, .int .i64 notices, .slice hears_a hears.length hears_c, .slice readings_a readings.length readings_c, .slice cries_a cries.length cries_c] 27 (0, 0))]) g10.1 hx9
     refine ov (v_indexO Try.underlying24 Try.sizeOf3 rfl ha15 rfl g10) rfl ?_
     refine ov (v_load Try.isAgg3 rfl hs16 (hc19 0 (by decide))) rfl ?_
     refine oa rfl rfl (oa rfl rfl (shO_nil ?_))
     obtain ⟨k2, h20, r21⟩ := b1_ok r4; clear r4
     refine shW_join (fun e1 F1 L1 => F = F1 ∧ L1 = [(b1, .cells #[.int .i64 houses, .int .i64 notices, .slice hears_a hears.length hears_c, .slice readings_a readings.length readings_c, .slice cries_a cries.length cries_c] 27 (0, 0))] ∧ e1.sub [(1, .slice course_a course.length course_c), (2, .pointer (some ⟨b1, 0, none⟩)), (7, .slice course_a course.length course_c), (8, .int .i64 (course.length : Int)), (9, .int .i64 k), (43, .bool k2)]) ?_ ?_
     · clear r21
       refine shW_region ?_
       refine ov (v_fieldAddr fa_27_3 rfl) rfl ?_
       refine ov (v_load Try.isAgg24 rfl (Has.own 0 rfl) rfl) rfl ?_
       refine om rfl rfl ?_
       obtain ⟨x2, g22, hx23, r24⟩ := ix_ok h20; clear h20
       obtain ⟨b25, o26, c27, vs28, ha29, hs30, hle31, rfl, hl32, hc33⟩ := RowR.at (iE_ok _) h_readings ([(b1, .cells #[.int .i64 houses, .int .i64 notices, .slice hears_a hears.length hears_c, .slice readings_a readings.length readings_c, .slice cries_a cries.length cries_c] 27 (0, 0))]) g22.1 hx23
       refine ov (v_indexO Try.underlying24 Try.sizeOf3 rfl ha29 rfl g22) rfl ?_
       refine ov (v_load Try.isAgg3 rfl hs30 (hc33 0 (by decide))) rfl ?_
       refine ov (v_neq rfl rfl) rfl ?_
       refine om rfl rfl ?_
       by_cases c34 : x2 ≠ (-1)
       · have r35 := ite_t r24 c34; clear r24
         refine shO_on (b := true) 20 rfl (Env.isT rfl c34) (om rfl rfl (shO_on (b := true) 20 rfl (Env.isT rfl c34) ?_))
         refine ov (v_fieldAddr fa_27_3 rfl) rfl ?_
         refine shO_on (b := true) 20 rfl (Env.isT rfl c34) ?_
         refine ov (v_load Try.isAgg24 rfl (Has.own 0 rfl) rfl) rfl ?_
         refine shO_on (b := true) 20 rfl (Env.isT rfl c34) (om rfl rfl (shO_on (b := true) 20 rfl (Env.isT rfl c34) ?_))
         obtain ⟨b36, o37, c38, vs39, ha40, hs41, hle42, rfl, hl43, hc44⟩ := RowR.at (iE_ok _) h_readings ([(b1, .cells #[.int .i64 houses, .int .i64 notices, .slice hears_a hears.length hears_c, .slice readings_a readings.length readings_c, .slice cries_a cries.length cries_c] 27 (0, 0))]) g22.1 hx23
         refine ov (v_indexO Try.underlying24 Try.sizeOf3 rfl ha40 rfl g22) rfl ?_
         refine shO_on (b := true) 20 rfl (Env.isT rfl c34) ?_
         refine ov (v_load Try.isAgg3 rfl hs41 (hc44 0 (by decide))) rfl ?_
         refine shO_on (b := true) 20 rfl (Env.isT rfl c34) ?_
         obtain ⟨ok, h45, r46⟩ := b1_ok r35; clear r35
         refine o_callV rfl Try.call85 rfl rfl rfl (oyezlaw07_near_w h45) ?_
         refine shO_on (b := true) 20 rfl (Env.isT rfl c34) ?_
         refine ov (v_notB rfl) rfl ?_
         refine ov (v_pick_t (evD_true rfl c34) rfl) rfl ?_
         refine om rfl rfl ?_
         rcases bool_two (!ok) with c47 | c47
         · have r48 := bt r46 c47; clear r46
           refine shO_off (b' := true) 30 rfl (EnvB rfl c47) rfl rfl (shO_off (b' := true) 30 rfl (EnvB rfl c47) rfl rfl (shO_off (b' := true) 30 rfl (EnvB rfl c47) rfl rfl (shO_offU 33 rfl rfl rfl (shO_offU 33 rfl rfl rfl (shO_offU 33 rfl rfl rfl (shO_offU 33 rfl rfl rfl (shO_offU 33 rfl rfl rfl (shO_offU 33 rfl rfl rfl (shO_offU 33 rfl rfl rfl ?_)))))))))
           refine shO_offU 33 rfl rfl rfl (shO_off (b' := true) 30 rfl (EnvB rfl c47) rfl rfl ?_)
           refine ov (v_pick_t (evB rfl c47) rfl) rfl ?_
           refine shO_nil ?_
           obtain rfl := inj1 r48
           exact mi kr ⟨rfl, rfl, (sc rfl (sc rfl (sc rfl (sc rfl (sc rfl (sc rfl (sn _)))))))⟩
         have r49 := bf r46 c47; clear r46
         refine shO_on (b := false) 30 rfl (EnvB rfl c47) (om rfl rfl (shO_on (b := false) 30 rfl (EnvB rfl c47) ?_))
         refine ov (v_gtrK rfl rfl) rfl ?_
         refine shO_on (b := false) 30 rfl (EnvB rfl c47) (om rfl rfl ?_)
         by_cases c50 : 0 < k
         · have r51 := ite_t r49 c50; clear r49
           refine shO_on (b := true) 33 rfl (Env.isT rfl c50) (om rfl rfl (shO_on (b := true) 33 rfl (Env.isT rfl c50) (om rfl rfl (shO_on (b := true) 33 rfl (Env.isT rfl c50) (om rfl rfl (shO_on (b := true) 33 rfl (Env.isT rfl c50) ?_))))))
           obtain ⟨g52, r53⟩ := gd_ok r51; clear r51
           refine ov (v_sub rfl rfl g52) rfl ?_
           refine shO_on (b := true) 33 rfl (Env.isT rfl c50) ?_
           obtain ⟨x3, g54, hx55, r56⟩ := ix_ok r53; clear r53
           obtain ⟨b57, o58, c59, vs60, ha61, hs62, hle63, rfl, hl64, hc65⟩ := RowR.at (iE_ok _) h_course ([(b1, .cells #[.int .i64 houses, .int .i64 notices, .slice hears_a hears.length hears_c, .slice readings_a readings.length readings_c, .slice cries_a cries.length cries_c] 27 (0, 0))]) g54.1 hx55
           refine ov (v_indexO Try.underlying24 Try.sizeOf3 rfl ha61 rfl g54) rfl ?_
           refine shO_on (b := true) 33 rfl (Env.isT rfl c50) ?_
           refine ov (v_load Try.isAgg3 rfl hs62 (hc65 0 (by decide))) rfl ?_
           refine shO_on (b := true) 33 rfl (Env.isT rfl c50) ?_
           obtain ⟨ok2, h66, r67⟩ := b1_ok r56; clear r56
           refine o_callV rfl Try.call85 rfl rfl rfl (oyezlaw07_near_w h66) ?_
           refine shO_on (b := true) 33 rfl (Env.isT rfl c50) ?_
           refine ov (v_notB rfl) rfl ?_
           refine shO_on (b := false) 30 rfl (EnvB rfl c47) ?_
           refine ov (v_pick_t (evD_true rfl c50) rfl) rfl ?_
           refine ov (v_pick_f (evB rfl c47) rfl) rfl ?_
           refine shO_nil ?_
           obtain rfl := inj1 r67
           exact mi kr ⟨rfl, rfl, (sc rfl (sc rfl (sc rfl (sc rfl (sc rfl (sc rfl (sn _)))))))⟩
         have r68 := ite_f r49 c50; clear r49
         refine shO_off (b' := false) 33 rfl (Env.isF rfl c50) rfl rfl (shO_off (b' := false) 33 rfl (Env.isF rfl c50) rfl rfl (shO_off (b' := false) 33 rfl (Env.isF rfl c50) rfl rfl (shO_off (b' := false) 33 rfl (Env.isF rfl c50) rfl rfl (shO_off (b' := false) 33 rfl (Env.isF rfl c50) rfl rfl (shO_off (b' := false) 33 rfl (Env.isF rfl c50) rfl rfl (shO_off (b' := false) 33 rfl (Env.isF rfl c50) rfl rfl (shO_off (b' := false) 33 rfl (Env.isF rfl c50) rfl rfl (shO_on (b := false) 30 rfl (EnvB rfl c47) ?_))))))))
         refine ov (v_pick_f (evD_false rfl c50) rfl) rfl ?_
         refine ov (v_pick_f (evB rfl c47) rfl) rfl ?_
         refine shO_nil ?_
         obtain rfl := inj1 r68
         exact mi kr ⟨rfl, rfl, (sc rfl (sc rfl (sc rfl (sc rfl (sc rfl (sc rfl (sn _)))))))⟩
       have r69 := ite_f r24 c34; clear r24
       refine shO_off (b' := false) 20 rfl (Env.isF rfl c34) rfl rfl (shO_off (b' := false) 20 rfl (Env.isF rfl c34) rfl rfl (shO_off (b' := false) 20 rfl (Env.isF rfl c34) rfl rfl (shO_off (b' := false) 20 rfl (Env.isF rfl c34) rfl rfl (shO_off (b' := false) 20 rfl (Env.isF rfl c34) rfl rfl (shO_off (b' := false) 20 rfl (Env.isF rfl c34) rfl rfl (shO_off (b' := false) 20 rfl (Env.isF rfl c34) rfl rfl (shO_off (b' := false) 20 rfl (Env.isF rfl c34) rfl rfl ?_)))))))
       refine ov (v_pick_f (evD_false rfl c34) rfl) rfl ?_
       refine om rfl rfl (shO_on (b := false) 30 rfl rfl (om rfl rfl (shO_on (b := false) 30 rfl rfl ?_)))
       refine ov (v_gtrK rfl rfl) rfl ?_
       refine shO_on (b := false) 30 rfl rfl (om rfl rfl ?_)
       by_cases c70 : 0 < k
       · have r71 := ite_t r69 c70; clear r69
         refine shO_on (b := true) 33 rfl (Env.isT rfl c70) (om rfl rfl (shO_on (b := true) 33 rfl (Env.isT rfl c70) (om rfl rfl (shO_on (b := true) 33 rfl (Env.isT rfl c70) (om rfl rfl (shO_on (b := true) 33 rfl (Env.isT rfl c70) ?_))))))
         obtain ⟨g72, r73⟩ := gd_ok r71; clear r71
         refine ov (v_sub rfl rfl g72) rfl ?_
         refine shO_on (b := true) 33 rfl (Env.isT rfl c70) ?_
         obtain ⟨x4, g74, hx75, r76⟩ := ix_ok r73; clear r73
         obtain ⟨b77, o78, c79, vs80, ha81, hs82, hle83, rfl, hl84, hc85⟩ := RowR.at (iE_ok _) h_course ([(b1, .cells #[.int .i64 houses, .int .i64 notices, .slice hears_a hears.length hears_c, .slice readings_a readings.length readings_c, .slice cries_a cries.length cries_c] 27 (0, 0))]) g74.1 hx75
         refine ov (v_indexO Try.underlying24 Try.sizeOf3 rfl ha81 rfl g74) rfl ?_
         refine shO_on (b := true) 33 rfl (Env.isT rfl c70) ?_
         refine ov (v_load Try.isAgg3 rfl hs82 (hc85 0 (by decide))) rfl ?_
         refine shO_on (b := true) 33 rfl (Env.isT rfl c70) ?_
         obtain ⟨ok3, h86, r87⟩ := b1_ok r76; clear r76
         refine o_callV rfl Try.call85 rfl rfl rfl (oyezlaw07_near_w h86) ?_
         refine shO_on (b := true) 33 rfl (Env.isT rfl c70) ?_
         refine ov (v_notB rfl) rfl ?_
         refine shO_on (b := false) 30 rfl rfl ?_
         refine ov (v_pick_t (evD_true rfl c70) rfl) rfl ?_
         refine ov (v_pick_f rfl rfl) rfl ?_
         refine shO_nil ?_
         obtain rfl := inj1 r87
         exact mi kr ⟨rfl, rfl, (sc rfl (sc rfl (sc rfl (sc rfl (sc rfl (sc rfl (sn _)))))))⟩
       have r88 := ite_f r69 c70; clear r69
       refine shO_off (b' := false) 33 rfl (Env.isF rfl c70) rfl rfl (shO_off (b' := false) 33 rfl (Env.isF rfl c70) rfl rfl (shO_off (b' := false) 33 rfl (Env.isF rfl c70) rfl rfl (shO_off (b' := false) 33 rfl (Env.isF rfl c70) rfl rfl (shO_off (b' := false) 33 rfl (Env.isF rfl c70) rfl rfl (shO_off (b' := false) 33 rfl (Env.isF rfl c70) rfl rfl (shO_off (b' := false) 33 rfl (Env.isF rfl c70) rfl rfl (shO_off (b' := false) 33 rfl (Env.isF rfl c70) rfl rfl (shO_on (b := false) 30 rfl rfl ?_))))))))
       refine ov (v_pick_f (evD_false rfl c70) rfl) rfl ?_
       refine ov (v_pick_f rfl rfl) rfl ?_
       refine shO_nil ?_
       obtain rfl := inj1 r88
       exact mi kr ⟨rfl, rfl, (sc rfl (sc rfl (sc rfl (sc rfl (sc rfl (sc rfl (sn _)))))))⟩
     rintro e1 _ _ ⟨rfl, rfl, he89⟩
     refine shW_env _ he89 ?_; clear he89
     refine shW_cond rfl (fun c90 => ?_) (fun c90 => ?_)
     · have r91 := bt r21 c90; clear r21
       refine wsr (oa rfl rfl (shO_nil ?_))
       refine kW kn ?_
       refine shW_ret (inBlock_ret (andThen_ret (andThen_ret (inBlock_ret (andThen_ret ?_)))))
       refine q_res1 Try.results52 (res_tmp rfl) (sr) ?_
       obtain rfl := inj1 r91
       exact rfl
     have r92 := bf r21 c90; clear r21
     refine shW_skip (inBlock_n (id := 1) (shW_region ?_))
     refine ov (v_add rfl rfl (Lst.r64 hk2 c7 (RowR.lt h_course))) rfl ?_
     refine om rfl rfl (shO_nil ?_)
     subst hn3; exact le kr ⟨_, _, rfl, hk8, r92, rfl, rfl, (sc rfl (sc rfl (sc rfl (sc rfl (sc rfl (sn _))))))⟩
   obtain rfl := Lst.zero hk2 c7
   rw [oyezlaw07_fit_l2] at r4
   refine shW_exit (andThen_exit (andThen_exit ?_))
   refine inBlock_exit ?_
   exact mi kn ⟨r4, rfl, rfl, (sn _)⟩
 rintro e1 _ _ ⟨r93, rfl, rfl, he94⟩
 refine shW_env _ he94 ?_; clear he94
 rw [oyezlaw07_fit_j1] at r93
 refine wsr (oa rfl rfl (shO_nil (shW_ret ?_)))
 refine q_res1 Try.results52 (res_tmp rfl) (sr) ?_
 obtain rfl := inj1 r93
 exact rfl
set_option maxHeartbeats 1000000 in
theorem oyezlaw07_right_w {houses : Int} {notices : Int} {hears_a : Option Addr} {hears_c : Nat} {hears : List (List (List Int))} {readings_a : Option Addr} {readings_c : Nat} {readings : List Int} {cries_a : Option Addr} {cries_c : Nat} {cries : List (Int × Int × Int)} {course_a : Option Addr} {course_c : Nat} {course : List Int} {F : FS} (h_hears : RowR 1 (slE 1 (slE 1 (iE .i64))) F hears_a hears_c hears) (h_readings : RowR 1 (iE .i64) F readings_a readings_c readings) (h_cries : RowR 3 (prE (iE .i64) (prE (iE .i64) (iE .i64))) F cries_a cries_c cries) (h_course : RowR 1 (iE .i64) F course_a course_c course) {r : Bool} (hr : oyezlaw07_right houses notices hears readings cries course = some r) :
    SpecV Try.prog 18 #[.agg #[.int .i64 houses, .int .i64 notices, .slice hears_a hears.length hears_c, .slice readings_a readings.length readings_c, .slice cries_a cries.length cries_c], .slice course_a course.length course_c] F (.bool r) := by
 refine spec_of_shW (args := [.agg #[.int .i64 houses, .int .i64 notices, .slice hears_a hears.length hears_c, .slice readings_a readings.length readings_c, .slice cries_a cries.length cries_c], .slice course_a course.length course_c]) Try.func18 rfl Try.ntmps18 (Nat.le_of_ble_eq_true rfl) ?_
 intro K _ _; rw [oyezlaw07_right] at hr
 refine wsr ?_
 refine o_box rfl rfl ?_; intro b1 hb1
 refine oa rfl rfl (nsr (om rfl rfl ?_))
 refine ov (v_lenS Try.underlying24 rfl) rfl ?_
 refine ov (v_fieldAddr fa_27_3 rfl) rfl ?_
 refine ov (v_load Try.isAgg24 rfl (Has.own 0 rfl) rfl) rfl ?_
 refine ov (v_lenS Try.underlying24 rfl) rfl ?_
 refine ov (v_eql rfl rfl) rfl ?_
 refine om rfl rfl ?_
 by_cases c2 : (course.length : Int) = (readings.length : Int)
 · have r3 := ite_t hr c2; clear hr
   refine shO_on (b := true) 11 rfl (Env.isT rfl c2) (om rfl rfl (shO_on (b := true) 11 rfl (Env.isT rfl c2) ?_))
   have hn4 : FnR Try.prog F 51 #[] #[] (iE .i64) Value.bool (fun xx_ : Int => oyezlaw07_right_1 xx_) := ⟨Try.call51, fun F2 h2 vs xx_ r ha hr => by obtain rfl := ha; exact oyezlaw07_right_1_w hr⟩
   obtain ⟨ok, h5, r6⟩ := b1_ok r3; clear r3
   refine o_callV rfl Try.call50 rfl rfl rfl (slices_ContainsFunc_int_int_w h_course hn4 h5) ?_
   refine shO_on (b := true) 11 rfl (Env.isT rfl c2) ?_
   refine ov (v_notB rfl) rfl ?_
   refine ov (v_pick_t (evD_true rfl c2) rfl) rfl ?_
   refine om rfl rfl ?_
   rcases bool_two (!ok) with c7 | c7
   · have r8 := bt r6 c7; clear r6
     refine shO_on (b := true) 16 rfl (EnvB rfl c7) ?_
     refine ov (v_loadA (cs := #[.int .i64 houses, .int .i64 notices, .slice hears_a hears.length hears_c, .slice readings_a readings.length readings_c, .slice cries_a cries.length cries_c]) Try.isAgg27 Try.sizeOf27 rfl (Has.own 0 rfl) (Nat.le_of_ble_eq_true rfl) rfl) rfl ?_
     refine shO_on (b := true) 16 rfl (EnvB rfl c7) (om rfl rfl (shO_on (b := true) 16 rfl (EnvB rfl c7) ?_))
     obtain ⟨ok2, h9, r10⟩ := b1_ok r8; clear r8
     refine o_callV rfl Try.call52 rfl rfl rfl (oyezlaw07_fit_w h_hears h_readings h_cries h_course h9) ?_
     refine ov (v_pick_t (evB rfl c7) rfl) rfl ?_
     refine oa rfl rfl (shO_nil ?_)
     refine kW kn ?_
     refine shW_ret ?_
     refine q_res1 Try.results18 (res_tmp rfl) (sr) ?_
     obtain rfl := inj1 r10
     exact rfl
   have r11 := bf r6 c7; clear r6
   refine shO_off (b' := false) 16 rfl (EnvB rfl c7) rfl rfl (shO_off (b' := false) 16 rfl (EnvB rfl c7) rfl rfl (shO_off (b' := false) 16 rfl (EnvB rfl c7) rfl rfl ?_))
   refine ov (v_pick_f (evB rfl c7) rfl) rfl ?_
   refine oa rfl rfl (shO_nil ?_)
   refine kW kn ?_
   refine shW_ret ?_
   refine q_res1 Try.results18 (res_tmp rfl) (sr) ?_
   obtain rfl := inj1 r11
   exact rfl
 have r12 := ite_f hr c2; clear hr
 refine shO_off (b' := false) 11 rfl (Env.isF rfl c2) rfl rfl (shO_off (b' := false) 11 rfl (Env.isF rfl c2) rfl rfl (shO_off (b' := false) 11 rfl (Env.isF rfl c2) rfl rfl ?_))
 refine ov (v_pick_f (evD_false rfl c2) rfl) rfl ?_
 refine om rfl rfl (shO_off (b' := false) 16 rfl rfl rfl rfl (shO_off (b' := false) 16 rfl rfl rfl rfl (shO_off (b' := false) 16 rfl rfl rfl rfl ?_)))
 refine ov (v_pick_f rfl rfl) rfl ?_
 refine oa rfl rfl (shO_nil ?_)
 refine kW kn ?_
 refine shW_ret ?_
 refine q_res1 Try.results18 (res_tmp rfl) (sr) ?_
 obtain rfl := inj1 r12
 exact rfl
set_option maxHeartbeats 1000000 in
theorem book_Split_w {houses : Int} {notices : Int} {hears_a : Option Addr} {hears_c : Nat} {hears : List (List (List Int))} {readings_a : Option Addr} {readings_c : Nat} {readings : List Int} {cries_a : Option Addr} {cries_c : Nat} {cries : List (Int × Int × Int)} {hour : Int} {F : FS} (h_hears : RowR 1 (slE 1 (slE 1 (iE .i64))) F hears_a hears_c hears) (h_readings : RowR 1 (iE .i64) F readings_a readings_c readings) (h_cries : RowR 3 (prE (iE .i64) (prE (iE .i64) (iE .i64))) F cries_a cries_c cries) {r : List Int} {r2 : Int} (hr : book_Split houses notices hears readings cries hour = some (r, r2)) :
    SH.Spec Try.prog 19 #[.agg #[.int .i64 houses, .int .i64 notices, .slice hears_a hears.length hears_c, .slice readings_a readings.length readings_c, .slice cries_a cries.length cries_c], .int .i64 hour] F [] fun F' L' v => ∃ (ra : Option Addr) (rn : Nat) (rc : Nat) (rL : LH), v = .tuple #[.slice ra rn rc, .int .i64 r2] ∧ L' = rL ++ [] ∧ SlR 0 3 1 (iE .i64) F' ra rn rc r rL := by
 refine spec_of_shW (args := [.agg #[.int .i64 houses, .int .i64 notices, .slice hears_a hears.length hears_c, .slice readings_a readings.length readings_c, .slice cries_a cries.length cries_c], .int .i64 hour]) Try.func19 rfl Try.ntmps19 (Nat.le_of_ble_eq_true rfl) ?_
 intro K _ _; rw [book_Split] at hr
 refine wsr ?_
 refine o_box rfl rfl ?_; intro b1 hb1
 refine oa rfl rfl (oa rfl rfl (nsr ?_))
 refine ov (v_loadA (cs := #[.int .i64 houses, .int .i64 notices, .slice hears_a hears.length hears_c, .slice readings_a readings.length readings_c, .slice cries_a cries.length cries_c]) Try.isAgg27 Try.sizeOf27 rfl (Has.own 0 rfl) (Nat.le_of_ble_eq_true rfl) rfl) rfl ?_
 obtain ⟨d, n, h2, r3⟩ := b2_ok hr; clear hr
 refine o_call0 rfl Try.call43 rfl rfl rfl (book_opened_w h_hears h_readings h_cries h2) ?_; rintro _ F4 _ hF5 hn6 ⟨v8, rfl, rfl, hp9⟩
 replace h_hears := h_hears.mono (slE_ok (slE_ok (iE_ok _))) hF5
 replace h_readings := h_readings.mono (iE_ok _) hF5
 replace h_cries := h_cries.mono (prE_ok (iE_ok _) (prE_ok (iE_ok _) (iE_ok _))) hF5
 refine shO_L (ln rfl) ?_
 refine om rfl rfl (ox rfl rfl rfl (ox rfl rfl rfl (oa rfl rfl (oa rfl rfl (shO_nil (shW_seq ?_))))))
 refine shW_block ?_
 refine wsr (om rfl rfl ?_)
 refine ov (v_neq rfl rfl) rfl ?_
 refine oa rfl rfl (shO_nil ?_)
 refine shW_condP rfl (fun c10 => ?_) (fun c10 => ?_)
 · have r11 := ite_t r3 c10; clear r3
   refine wsr (om rfl rfl (oa rfl rfl (oa rfl rfl (shO_nil ?_))))
   refine kW kn ?_
   refine shW_ret (inBlock_ret (andThen_ret ?_))
   refine q_res2 Try.results19 (res_tmp rfl) (res_tmp rfl) (sr) ?_
   obtain ⟨rfl, rfl⟩ := inj2 r11
   exact ⟨_, _, _, [], rfl, rfl, SlR.nil _ _ _ _ _⟩
 have r12 := ite_f r3 c10; clear r3
 refine wsr ?_
 refine ov (v_loadA (cs := #[.int .i64 houses, .int .i64 notices, .slice hears_a hears.length hears_c, .slice readings_a readings.length readings_c, .slice cries_a cries.length cries_c]) Try.isAgg27 Try.sizeOf27 rfl (Has.own 0 rfl) (Nat.le_of_ble_eq_true rfl) rfl) rfl ?_
 refine om rfl rfl ?_
 obtain ⟨ok, h13, r14⟩ := b1_ok r12; clear r12
 refine o_callV rfl Try.call53 rfl rfl rfl (book_Book_hour_w h_hears h_readings h_cries h13) ?_
 refine ov (v_notB rfl) rfl ?_
 refine oa rfl rfl (shO_nil ?_)
 refine shW_cond rfl (fun c15 => ?_) (fun c15 => ?_)
 · have r16 := bt r14 c15; clear r14
   refine wsr (oa rfl rfl (oa rfl rfl (shO_nil ?_)))
   refine kW kn ?_
   refine shW_ret (inBlock_ret (andThen_ret ?_))
   refine q_res2 Try.results19 (res_tmp rfl) (res_tmp rfl) (sr) ?_
   obtain ⟨rfl, rfl⟩ := inj2 r16
   exact ⟨_, _, _, [], rfl, rfl, SlR.nil _ _ _ _ _⟩
 have r17 := bf r14 c15; clear r14
 refine shW_skip (inBlock_n (id := 0) (wsr (om rfl rfl ?_)))
 obtain ⟨houses2, notices2, hears2, readings2, cries2, h18, r19⟩ := b5_ok r17; clear r17
 have h34 := hp9; rw [h18] at h34; obtain ⟨b20, c21, m22, hv23, hz24, ⟨_, _, rfl, rfl, ⟨_, _, rfl, rfl, ⟨_, _, rfl, ⟨a25, c26, rfl, h27⟩, ⟨_, _, rfl, ⟨a28, c29, rfl, h30⟩, ⟨a31, c32, rfl, h33⟩⟩⟩⟩⟩⟩ := h34; subst hv23
 have hz24 : F4 b20 = some (.cells #[.int .i64 houses2, .int .i64 notices2, .slice a25 hears2.length c26, .slice a28 readings2.length c29, .slice a31 cries2.length c32] 114 m22) := hz24
 obtain ⟨l, h35, r36⟩ := b1_ok r19; clear r19
 refine o_call0 rfl Try.call44 rfl rfl rfl (book_desk_through_w hz24 h27 h30 h33 h35) ?_; rintro _ F37 _ hF38 hn39 ⟨a41, n45, c42, Lb43, rfl, rfl, hz44⟩
 replace hz44 := hz44.new fun p hp => hn39 p (by simp [hp])
 refine shO_L (lp (ln rfl)) ?_
 refine kO (kf (fS fO) kr) ?_
 refine om rfl rfl ?_
 obtain ⟨x, g47, hx48, r49⟩ := ix_ok r36; clear r36
 obtain ⟨b50, o51, c52, vs53, ha54, hs55, hle56, ⟨rfl, h59⟩, hl57, hc58⟩ := SlR.at (arE_ok (n := 8) (sz := 1) (cI_ok .i64)) hz44 (L := (b1, .cells #[.int .i64 houses, .int .i64 notices, .slice hears_a hears.length hears_c, .slice readings_a readings.length readings_c, .slice cries_a cries.length cries_c] 27 (0, 0)) :: (Lb43 ++ [])) (fC fP) g47.1 hx48
 refine ov (v_indexO Try.underlying100 Try.sizeOf98 rfl ha54 rfl (SlR.idx hz44 g47)) rfl ?_
 refine ov (v_loadA (cs := arr (cI .i64) x) Try.isAgg98 Try.sizeOf98 rfl hs55 hle56 (extract_cells hle56 hl57 hc58)) rfl ?_
 refine o_alloc rfl Try.zeroValue98 ?_; intro b60 hb60
 refine shO_L (L' := (b60, .cells (arr (cI .i64) (List.replicate 8 0)) 98 (0, 0)) :: ((b1, .cells #[.int .i64 houses, .int .i64 notices, .slice hears_a hears.length hears_c, .slice readings_a readings.length readings_c, .slice cries_a cries.length cries_c] 27 (0, 0)) :: (Lb43 ++ []))) rfl ?_
 refine o_storeW (i := 0) Try.sizeOf98 rfl rfl rfl (arr_sz (cI_ok .i64) List.length_replicate) (arr_sz (cI_ok .i64) h59) (arr_one (cI_ok .i64)) ?_
 refine shO_L (L' := (b60, .cells (arr (cI .i64) x) 98 (0, 0)) :: ((b1, .cells #[.int .i64 houses, .int .i64 notices, .slice hears_a hears.length hears_c, .slice readings_a readings.length readings_c, .slice cries_a cries.length cries_c] 27 (0, 0)) :: (Lb43 ++ []))) rfl ?_
 refine nsr ?_
 refine shO_freeze 0 rfl hb60 ?_; intro F61 hF62 hz63
 refine shO_L (L' := (b1, .cells #[.int .i64 houses, .int .i64 notices, .slice hears_a hears.length hears_c, .slice readings_a readings.length readings_c, .slice cries_a cries.length cries_c] 27 (0, 0)) :: (Lb43 ++ [])) rfl ?_
 have h64 := RowR.of_arr (iE_ok _) (fun _ _ => rfl) hz63 h59 (by decide)
 refine ov (OpV.eq (v' := .slice (some ⟨b60, 0, none⟩) x.length 8) (v_sliceAll Try.underlying98 Try.sizeOf3 (by decide) rfl) (by rw [h59])) rfl ?_
 obtain ⟨l2, h65, r66⟩ := b1_ok r49; clear r49
 refine o_call0 rfl Try.call54 rfl rfl rfl (slices_Clone_int_int_w h64 h65) ?_; rintro _ F67 _ hF68 hn69 ⟨a71, n75, c72, Lb73, rfl, rfl, hz74⟩
 replace hz74 := hz74.new fun p hp => hn69 p (by simp [hp])
 refine shO_L (lp (ln rfl)) ?_
 refine kO (kf (fS fO) kr) ?_
 refine oa rfl rfl (oa rfl rfl (shO_nil ?_))
 refine kW (kd (ka kn)) ?_
 refine shW_ret ?_
 refine q_res2 Try.results19 (res_tmp rfl) (res_tmp rfl) (sr) ?_
 obtain ⟨rfl, rfl⟩ := inj2 r66
 exact ⟨_, _, _, _, rfl, rfl, hz74.any⟩
set_option maxHeartbeats 1000000 in
theorem oyezlaw07_tried_w {b_q : Nat} {metal_a : Option Addr} {metal_c : Nat} {metal : List Int} {at_ : Int} {turn : Int} {houses : Int} {notices : Int} {hears_a : Option Addr} {hears_c : Nat} {hears : List (List (List Int))} {readings_a : Option Addr} {readings_c : Nat} {readings : List Int} {cries_a : Option Addr} {cries_c : Nat} {cries : List (Int × Int × Int)} {real_a : Option Addr} {real_c : Nat} {real : List Int} {many : Int} {F : FS} (h_metal : RowR 1 (iE .u8) F metal_a metal_c metal) (h_hears : RowR 1 (slE 1 (slE 1 (iE .i64))) F hears_a hears_c hears) (h_readings : RowR 1 (iE .i64) F readings_a readings_c readings) (h_cries : RowR 3 (prE (iE .i64) (prE (iE .i64) (iE .i64))) F cries_a cries_c cries) (h_real : RowR 1 (iE .i64) F real_a real_c real) {r : List (List Int)} {r2 : Int} {r3 : Int} (hr : oyezlaw07_tried metal at_ turn houses notices hears readings cries real many = some (r, r2, r3)) :
    SH.Spec Try.prog 21 #[.pointer (some ⟨b_q, 0, none⟩), .agg #[.int .i64 houses, .int .i64 notices, .slice hears_a hears.length hears_c, .slice readings_a readings.length readings_c, .slice cries_a cries.length cries_c], .slice real_a real.length real_c, .int .i64 many] F [(b_q, .cells #[.slice metal_a metal.length metal_c, .int .i64 at_, .int .u32 turn] 83 (0, 0))] fun F' L' v => ∃ (ra : Option Addr) (rn : Nat) (rc : Nat) (rL : LH), v = .slice ra rn rc ∧ L' = (b_q, .cells #[.slice metal_a metal.length metal_c, .int .i64 r2, .int .u32 r3] 83 (0, 0)) :: (rL ++ []) ∧ SlR 0 24 1 (slE 1 (iE .i64)) F' ra rn rc r rL := by
 refine spec_of_shW (args := [.pointer (some ⟨b_q, 0, none⟩), .agg #[.int .i64 houses, .int .i64 notices, .slice hears_a hears.length hears_c, .slice readings_a readings.length readings_c, .slice cries_a cries.length cries_c], .slice real_a real.length real_c, .int .i64 many]) Try.func21 rfl Try.ntmps21 (Nat.le_of_ble_eq_true rfl) ?_
 intro K _ _; rw [oyezlaw07_tried] at hr
 refine wsr ?_
 refine o_box rfl rfl ?_; intro b1 hb1
 refine oa rfl rfl (nsr (om rfl rfl ?_))
 refine o_buildSlice (cs := #[.slice real_a real.length real_c]) rfl rfl (buildSlice_all slt_42 [.slice real_a real.length real_c] rfl (by decide) (by simp [Value.cells]) (by decide)) ?_; intro b2 hb2
 have hz4 : SlR K.w0.heap.size 24 1 (slE 1 (iE .i64)) F (some ⟨b2, 0, none⟩) 1 1 [real] [(b2, .cells #[.slice real_a real.length real_c] 24 (0, 0))] := SlR.of_block (vss := [[.slice real_a real.length real_c]]) (slE_ok (iE_ok _)) hb2 (.cons ⟨_, _, rfl, h_real⟩ .nil) rfl rfl (by simp [maxLen])
 generalize hLLb3 : ([(b2, .cells #[.slice real_a real.length real_c] 24 (0, 0))] : LH) = Lb3 at hz4
 refine shO_perm (L' := Lb3 ++ [(b1, .cells #[.int .i64 houses, .int .i64 notices, .slice hears_a hears.length hears_c, .slice readings_a readings.length readings_c, .slice cries_a cries.length cries_c] 27 (0, 0)), (b_q, .cells #[.slice metal_a metal.length metal_c, .int .i64 at_, .int .u32 turn] 83 (0, 0))]) (by rw [← hLLb3]; exact fO) ?_
 refine shO_perm (L' := (b1, .cells #[.int .i64 houses, .int .i64 notices, .slice hears_a hears.length hears_c, .slice readings_a readings.length readings_c, .slice cries_a cries.length cries_c] 27 (0, 0)) :: ((b_q, .cells #[.slice metal_a metal.length metal_c, .int .i64 at_, .int .u32 turn] 83 (0, 0)) :: (Lb3 ++ []))) (List.Perm.symm (fC (fC fP))) ?_
 refine oa rfl rfl (shO_nil ?_)
 obtain ⟨out, q_at, q_turn, h12, r13⟩ := b3_ok hr; clear hr
 refine shW_join (fun e1 F1 L1 => ∃ (a6 : Option Addr) (n10 : Nat) (c7 : Nat) (Lb8 : LH), FExt F F1 ∧ L1 = ((b_q, .cells #[.slice metal_a metal.length metal_c, .int .i64 q_at, .int .u32 q_turn] 83 (0, 0)) :: (Lb8 ++ [])) ∧ e1.sub [(9, .slice a6 n10 c7)] ∧ SlR K.w0.heap.size 24 1 (slE 1 (iE .i64)) F1 a6 n10 c7 out Lb8) ?_ ?_
 · clear r13
   refine wsr (om rfl rfl (om rfl rfl (shO_nil ?_)))
   refine shW_block ?_
   obtain ⟨g20, r21⟩ := gd_ok h12; clear h12
   refine shW_lp (fun fu1 e1 F1 L1 => ∃ (k : Int), Ctr 0 many k fu1 ∧ ∃ (q_at2 : Int) (q_turn2 : Int) (out2 : List (List Int)) (a14 : Option Addr) (n18 : Nat) (c15 : Nat) (Lb16 : LH), oyezlaw07_tried_l1 metal houses notices hears readings cries real fu1 q_at2 q_turn2 out2 = some (out, q_at, q_turn) ∧ FExt F F1 ∧ L1 = ((b1, .cells #[.int .i64 houses, .int .i64 notices, .slice hears_a hears.length hears_c, .slice readings_a readings.length readings_c, .slice cries_a cries.length cries_c] 27 (0, 0)) :: ((b_q, .cells #[.slice metal_a metal.length metal_c, .int .i64 q_at2, .int .u32 q_turn2] 83 (0, 0)) :: (Lb16 ++ []))) ∧ e1.sub [(0, .pointer (some ⟨b_q, 0, none⟩)), (2, .slice real_a real.length real_c), (5, .pointer (some ⟨b1, 0, none⟩)), (9, .slice a14 n18 c15), (17, .int .i64 many), (18, .int .i64 k)] ∧ SlR K.w0.heap.size 24 1 (slE 1 (iE .i64)) F1 a14 n18 c15 out2 Lb16) _ (m0 kr ⟨_, Ctr.start _ _, at_, turn, [real], (some ⟨b2, 0, none⟩), 1, 1, Lb3, r21, FExt.refl _, rfl, (sc rfl (sc rfl (sc rfl (sc rfl (sc rfl (sc rfl (sn _))))))), hz4⟩) ?_
   rintro fu1 e1 F26 _ ⟨k, hk22, q_at2, q_turn2, out2, a14, n18, c15, Lb16, r24, hF27, rfl, he25, hz17⟩
   refine shW_env _ he25 ?_; clear he25
   replace h_metal := h_metal.mono (iE_ok _) hF27
   replace h_hears := h_hears.mono (slE_ok (slE_ok (iE_ok _))) hF27
   replace h_readings := h_readings.mono (iE_ok _) hF27
   replace h_cries := h_cries.mono (prE_ok (iE_ok _) (prE_ok (iE_ok _) (iE_ok _))) hF27
   replace h_real := h_real.mono (iE_ok _) hF27
   refine wsr ?_
   refine ov (v_lssK rfl rfl) rfl ?_
   refine shO_nil (shW_seq ?_)
   refine shW_condP rfl (fun c29 => ?_) (fun c29 => ?_)
   · obtain ⟨fu1, rfl, hk30⟩ := Ctr.succ hk22 c29
     rw [oyezlaw07_tried_l1] at r24
     refine shW_skip ?_
     obtain ⟨q_at3, q_turn3, out3, h37, r38⟩ := b3_ok r24; clear r24
     refine shW_join (fun e1 F1 L1 => ∃ (a31 : Option Addr) (n35 : Nat) (c32 : Nat) (Lb33 : LH), FExt F26 F1 ∧ L1 = ((b_q, .cells #[.slice metal_a metal.length metal_c, .int .i64 q_at3, .int .u32 q_turn3] 83 (0, 0)) :: ((b1, .cells #[.int .i64 houses, .int .i64 notices, .slice hears_a hears.length hears_c, .slice readings_a readings.length readings_c, .slice cries_a cries.length cries_c] 27 (0, 0)) :: (Lb33 ++ []))) ∧ e1.sub [(0, .pointer (some ⟨b_q, 0, none⟩)), (2, .slice real_a real.length real_c), (5, .pointer (some ⟨b1, 0, none⟩)), (9, .slice a31 n35 c32), (17, .int .i64 many), (18, .int .i64 k)] ∧ SlR K.w0.heap.size 24 1 (slE 1 (iE .i64)) F1 a31 n35 c32 out3 Lb33) ?_ ?_
     · clear r38
       refine shW_block ?_
       refine wsr (om rfl rfl ?_)
       obtain ⟨l, h39, r40⟩ := b1_ok h37; clear h37
       refine o_call0 rfl Try.call31 rfl rfl rfl (oyezkit_Copy_int_w h_real h39) ?_; rintro _ F41 _ hF42 hn43 ⟨a45, n49, c46, Lb47, rfl, rfl, hz48⟩
       replace h_metal := h_metal.mono (iE_ok _) hF42
       replace h_hears := h_hears.mono (slE_ok (slE_ok (iE_ok _))) hF42
       replace h_readings := h_readings.mono (iE_ok _) hF42
       replace h_cries := h_cries.mono (prE_ok (iE_ok _) (prE_ok (iE_ok _) (iE_ok _))) hF42
       replace hz17 := hz17.mono (slE_ok (iE_ok _)) hF42
       replace hz48 := hz48.new fun p hp => hn43 p (by simp [hp])
       refine shO_L (lp (ln rfl)) ?_
       refine kO (kf (fS fO) (kf (fS fO) kr)) ?_
       refine oa rfl rfl (shO_nil ?_)
       obtain ⟨q_at4, q_turn4, own, h53, r54⟩ := b3_ok r40; clear r40
       refine shW_join (fun e1 F1 L1 => ∃ (Lb51 : LH), FExt F41 F1 ∧ L1 = ((b_q, .cells #[.slice metal_a metal.length metal_c, .int .i64 q_at4, .int .u32 q_turn4] 83 (0, 0)) :: ((b1, .cells #[.int .i64 houses, .int .i64 notices, .slice hears_a hears.length hears_c, .slice readings_a readings.length readings_c, .slice cries_a cries.length cries_c] 27 (0, 0)) :: (Lb16 ++ (Lb51 ++ [])))) ∧ e1.sub [(0, .pointer (some ⟨b_q, 0, none⟩)), (2, .slice real_a real.length real_c), (5, .pointer (some ⟨b1, 0, none⟩)), (9, .slice a14 n18 c15), (10, .slice a45 n49 c46), (17, .int .i64 many), (18, .int .i64 k)] ∧ SlR K.w0.heap.size 3 1 (iE .i64) F1 a45 n49 c46 own Lb51) ?_ ?_
       · clear r54
         refine wsr (om rfl rfl ?_)
         obtain ⟨n, at_2, turn2, h55, r56⟩ := b3_ok h53; clear h53
         refine o_callG (Lb := [(b_q, .cells #[.slice metal_a metal.length metal_c, .int .i64 q_at2, .int .u32 q_turn2] 83 (0, 0))]) (Lr := (b1, .cells #[.int .i64 houses, .int .i64 notices, .slice hears_a hears.length hears_c, .slice readings_a readings.length readings_c, .slice cries_a cries.length cries_c] 27 (0, 0)) :: (Lb47 ++ (Lb16 ++ []))) rfl Try.call38 rfl rfl rfl (((fC fO).trans (pC pR))) (oyezkit_Bell_Strike_w h_metal h55) ?_; rintro _ F57 _ hF58 hd60 hn59 ⟨rfl, rfl⟩
         replace h_metal := h_metal.mono (iE_ok _) hF58
         replace hz48 := hz48.mono (iE_ok _) hF58
         refine shO_L (lb (ln rfl)) ?_
         refine om rfl rfl (shO_nil ?_)
         refine shW_block ?_
         obtain ⟨g63, r64⟩ := gd_ok r56; clear r56
         refine shW_lp (fun fu2 e1 F1 L1 => ∃ (k2 : Int), Ctr 0 n k2 fu2 ∧ ∃ (q_at5 : Int) (q_turn5 : Int) (own2 : List Int) (Lb61 : LH), oyezlaw07_tried_l2 metal fu2 q_at5 q_turn5 own2 = some (q_at4, q_turn4, own) ∧ FExt F57 F1 ∧ L1 = ((b_q, .cells #[.slice metal_a metal.length metal_c, .int .i64 q_at5, .int .u32 q_turn5] 83 (0, 0)) :: ((b1, .cells #[.int .i64 houses, .int .i64 notices, .slice hears_a hears.length hears_c, .slice readings_a readings.length readings_c, .slice cries_a cries.length cries_c] 27 (0, 0)) :: (Lb16 ++ (Lb61 ++ [])))) ∧ e1.sub [(0, .pointer (some ⟨b_q, 0, none⟩)), (2, .slice real_a real.length real_c), (5, .pointer (some ⟨b1, 0, none⟩)), (9, .slice a14 n18 c15), (10, .slice a45 n49 c46), (17, .int .i64 many), (18, .int .i64 k), (23, .int .i64 n), (24, .int .i64 k2)] ∧ SlR K.w0.heap.size 3 1 (iE .i64) F1 a45 n49 c46 own2 Lb61) _ (m0 (kc (kc (kg (fS fP) kr))) ⟨_, Ctr.start _ _, at_2, turn2, l, Lb47, r64, FExt.refl _, rfl, (sc rfl (sc rfl (sc rfl (sc rfl (sc rfl (sc rfl (sc rfl (sc rfl (sc rfl (sn _)))))))))), hz48⟩) ?_
         rintro fu2 e1 F69 _ ⟨k2, hk65, q_at5, q_turn5, own2, Lb61, r67, hF70, rfl, he68, hz62⟩
         refine shW_env _ he68 ?_; clear he68
         replace h_metal := h_metal.mono (iE_ok _) hF70
         refine wsr ?_
         refine ov (v_lssK rfl rfl) rfl ?_
         refine shO_nil (shW_seq ?_)
         refine shW_condP rfl (fun c72 => ?_) (fun c72 => ?_)
         · obtain ⟨fu2, rfl, hk73⟩ := Ctr.succ hk65 c72
           rw [oyezlaw07_tried_l2] at r67
           refine shW_skip ?_
           obtain ⟨q_at6, q_turn6, own3, h76, r77⟩ := b3_ok r67; clear r67
           refine shW_join (fun e1 F1 L1 => ∃ (Lb74 : LH), FExt F69 F1 ∧ L1 = ((b_q, .cells #[.slice metal_a metal.length metal_c, .int .i64 q_at6, .int .u32 q_turn6] 83 (0, 0)) :: ((b1, .cells #[.int .i64 houses, .int .i64 notices, .slice hears_a hears.length hears_c, .slice readings_a readings.length readings_c, .slice cries_a cries.length cries_c] 27 (0, 0)) :: (Lb16 ++ (Lb74 ++ [])))) ∧ e1.sub [(0, .pointer (some ⟨b_q, 0, none⟩)), (2, .slice real_a real.length real_c), (5, .pointer (some ⟨b1, 0, none⟩)), (9, .slice a14 n18 c15), (10, .slice a45 n49 c46), (17, .int .i64 many), (18, .int .i64 k), (23, .int .i64 n), (24, .int .i64 k2)] ∧ SlR K.w0.heap.size 3 1 (iE .i64) F1 a45 n49 c46 own3 Lb74) ?_ ?_
           · clear r77
             refine shW_block ?_
             refine wsr (om rfl rfl (om rfl rfl ?_))
             refine ov ((v_lenS Try.underlying24 rfl).i (SlR.lenI hz62)) rfl ?_
             obtain ⟨g78, r79⟩ := gd_ok h76; clear h76
             refine ov (v_sub rfl rfl g78) rfl ?_
             obtain ⟨n2, at_3, turn3, h80, r81⟩ := b3_ok r79; clear r79
             refine o_callG (Lb := [(b_q, .cells #[.slice metal_a metal.length metal_c, .int .i64 q_at5, .int .u32 q_turn5] 83 (0, 0))]) (Lr := (b1, .cells #[.int .i64 houses, .int .i64 notices, .slice hears_a hears.length hears_c, .slice readings_a readings.length readings_c, .slice cries_a cries.length cries_c] 27 (0, 0)) :: (Lb16 ++ (Lb61 ++ []))) rfl Try.call11 rfl rfl rfl (pR) (oyezkit_Bell_Stroke_w h_metal h80) ?_; rintro _ F82 _ hF83 hd85 hn84 ⟨rfl, rfl⟩
             replace h_metal := h_metal.mono (iE_ok _) hF83
             replace hz62 := hz62.mono (iE_ok _) hF83
             refine shO_L (lb (ln rfl)) ?_
             refine om rfl rfl (om rfl rfl ?_)
             refine ov ((v_lenS Try.underlying24 rfl).i (SlR.lenI hz62)) rfl ?_
             obtain ⟨g86, r87⟩ := gd_ok r81; clear r81
             refine ov (v_sub rfl rfl g86) rfl ?_
             obtain ⟨n3, at_4, turn4, h88, r89⟩ := b3_ok r87; clear r87
             refine o_callG (Lb := [(b_q, .cells #[.slice metal_a metal.length metal_c, .int .i64 at_3, .int .u32 turn3] 83 (0, 0))]) (Lr := (b1, .cells #[.int .i64 houses, .int .i64 notices, .slice hears_a hears.length hears_c, .slice readings_a readings.length readings_c, .slice cries_a cries.length cries_c] 27 (0, 0)) :: (Lb16 ++ (Lb61 ++ []))) rfl Try.call11 rfl rfl rfl (pR) (oyezkit_Bell_Stroke_w h_metal h88) ?_; rintro _ F90 _ hF91 hd93 hn92 ⟨rfl, rfl⟩
             replace h_metal := h_metal.mono (iE_ok _) hF91
             replace hz62 := hz62.mono (iE_ok _) hF91
             refine shO_L (lb (ln rfl)) ?_
             refine oa rfl rfl (oa rfl rfl (nsr (om rfl rfl ?_)))
             obtain ⟨n4, at_5, turn5, h94, r95⟩ := b3_ok r89; clear r89
             refine o_callG (Lb := [(b_q, .cells #[.slice metal_a metal.length metal_c, .int .i64 at_4, .int .u32 turn4] 83 (0, 0))]) (Lr := (b1, .cells #[.int .i64 houses, .int .i64 notices, .slice hears_a hears.length hears_c, .slice readings_a readings.length readings_c, .slice cries_a cries.length cries_c] 27 (0, 0)) :: (Lb16 ++ (Lb61 ++ []))) rfl Try.call38 rfl rfl rfl (pR) (oyezkit_Bell_Strike_w h_metal h94) ?_; rintro _ F96 _ hF97 hd99 hn98 ⟨rfl, rfl⟩
             replace hz62 := hz62.mono (iE_ok _) hF97
             refine shO_L (lb (ln rfl)) ?_
             refine oa rfl rfl (nsr (om rfl rfl (om rfl rfl ?_)))
             refine ov (v_min2 rfl rfl) rfl ?_
             refine oa rfl rfl (shO_nil ?_)
             refine shW_block ?_
             refine shW_lp (fun fu3 e1 F1 L1 => ∃ (own4 : List Int) (h : Int) (Lb100 : LH), oyezlaw07_tried_l3 n2 n3 n4 at_5 turn5 fu3 own4 h = some (q_at6, q_turn6, own3) ∧ F96 = F1 ∧ L1 = ((b_q, .cells #[.slice metal_a metal.length metal_c, .int .i64 at_5, .int .u32 turn5] 83 (0, 0)) :: ((b1, .cells #[.int .i64 houses, .int .i64 notices, .slice hears_a hears.length hears_c, .slice readings_a readings.length readings_c, .slice cries_a cries.length cries_c] 27 (0, 0)) :: (Lb16 ++ (Lb100 ++ [])))) ∧ e1.sub [(0, .pointer (some ⟨b_q, 0, none⟩)), (2, .slice real_a real.length real_c), (5, .pointer (some ⟨b1, 0, none⟩)), (9, .slice a14 n18 c15), (10, .slice a45 n49 c46), (11, .int .i64 n2), (12, .int .i64 n3), (13, .int .i64 n4), (14, .int .i64 h), (17, .int .i64 many), (18, .int .i64 k), (23, .int .i64 n), (24, .int .i64 k2)] ∧ SlR K.w0.heap.size 3 1 (iE .i64) F1 a45 n49 c46 own4 Lb100) FU (m0 kr ⟨own2, if n3 < n2 then n3 else n2, Lb61, r95, rfl, rfl, (sc rfl (sc rfl (sc rfl (sc rfl (sc rfl (sc rfl (sc rfl (sc rfl (sc rfl (sc rfl (sc rfl (sc rfl (sc rfl (sn _)))))))))))))), hz62⟩) ?_
             rintro fu3 e1 _ _ ⟨own4, h, Lb100, r104, rfl, rfl, he105, hz101⟩
             refine shW_env _ he105 ?_; clear he105
             rcases fu3 with _ | fu3
             · rw [oyezlaw07_tried_l3] at r104; cases r104
             rw [oyezlaw07_tried_l3] at r104
             refine shW_seq (wsr (om rfl rfl (om rfl rfl (om rfl rfl ?_))))
             refine ov (v_max2 rfl rfl) rfl ?_
             refine ov (v_leqK rfl rfl) rfl ?_
             refine shO_nil ?_
             refine shW_condP rfl (fun c106 => ?_) (fun c106 => ?_)
             · have r107 := ite_t r104 c106; clear r104
               refine shW_skip (shW_seq ?_)
               refine shW_block ?_
               refine shW_region (om rfl rfl (om rfl rfl (om rfl rfl (om rfl rfl ?_))))
               obtain ⟨x, g108, hx109, r110⟩ := ix_ok r107; clear r107
               obtain ⟨b111, o112, c113, vs114, ha115, hs116, hle117, rfl, hl118, hc119⟩ := SlR.at (iE_ok _) hz101 (L := (b_q, .cells #[.slice metal_a metal.length metal_c, .int .i64 at_5, .int .u32 turn5] 83 (0, 0)) :: ((b1, .cells #[.int .i64 houses, .int .i64 notices, .slice hears_a hears.length hears_c, .slice readings_a readings.length readings_c, .slice cries_a cries.length cries_c] 27 (0, 0)) :: (Lb16 ++ (Lb100 ++ [])))) (fC (fC (fS fP))) g108.1 hx109
               refine ov (v_indexO Try.underlying24 Try.sizeOf3 rfl ha115 rfl (SlR.idx hz101 g108)) rfl ?_
               refine ov (v_load Try.isAgg3 rfl hs116 (hc119 0 (by decide))) rfl ?_
               refine om rfl rfl ?_
               obtain ⟨g120, r121⟩ := gd_ok r110; clear r110
               refine ov (v_add rfl rfl g120) rfl ?_
               obtain ⟨n5, h122, r123⟩ := b1_ok r121; clear r121
               refine o_callV rfl Try.call30 rfl rfl rfl (oyezkit_Wind_w h122) ?_
               obtain ⟨b124, o125, c126, vs127, ha128, hs129, hle130, rfl, hl131, hc132⟩ := SlR.at (iE_ok _) hz101 (L := (b_q, .cells #[.slice metal_a metal.length metal_c, .int .i64 at_5, .int .u32 turn5] 83 (0, 0)) :: ((b1, .cells #[.int .i64 houses, .int .i64 notices, .slice hears_a hears.length hears_c, .slice readings_a readings.length readings_c, .slice cries_a cries.length cries_c] 27 (0, 0)) :: (Lb16 ++ (Lb100 ++ [])))) (fC (fC (fS fP))) g108.1 hx109
               refine ov (v_indexO Try.underlying24 Try.sizeOf3 rfl ha128 rfl (SlR.idx hz101 g108)) rfl ?_
               obtain ⟨own5, h133, r134⟩ := bv_ok r123; clear r123
               refine o_storeZ (u := n5) Try.sizeOf3 (iE_ok _) rfl ha128 rfl rfl (fun _ => .c (.c (.s .h))) hz101 h133 g108 ?_; intro Lb135 hz136
               refine shO_nil (inBlock_n (id := 5) (shW_region (om rfl rfl ?_)))
               obtain ⟨g137, r138⟩ := gd_ok r134; clear r134
               refine ov (v_add rfl rfl g137) rfl ?_
               refine oa rfl rfl (shO_nil ?_)
               exact le kr ⟨own5, h + 1, Lb135, r138, rfl, rfl, (sc rfl (sc rfl (sc rfl (sc rfl (sc rfl (sc rfl (sc rfl (sc rfl (sc rfl (sc rfl (sc rfl (sc rfl (sc rfl (sn _)))))))))))))), hz136⟩
             have r139 := ite_f r104 c106; clear r104
             refine shW_exit (andThen_exit (andThen_exit ?_))
             refine inBlock_exit ?_
             refine inBlock_n (id := 3) ?_
             obtain ⟨rfl, rfl, rfl⟩ := inj3 r139
             exact mi kr ⟨Lb100, ((hF83.trans hF91).trans hF97), rfl, (sc rfl (sc rfl (sc rfl (sc rfl (sc rfl (sc rfl (sc rfl (sc rfl (sc rfl (sn _)))))))))), hz101⟩
           rintro e1 F141 _ ⟨Lb74, hF142, rfl, he140, hz75⟩
           refine shW_env _ he140 ?_; clear he140
           refine shW_region ?_
           refine ov (v_add rfl rfl (Ctr.r64 hk65 c72 g63)) rfl ?_
           refine om rfl rfl (shO_nil ?_)
           exact le kr ⟨_, hk73, q_at6, q_turn6, own3, Lb74, r77, (hF70.trans hF142), rfl, (sc rfl (sc rfl (sc rfl (sc rfl (sc rfl (sc rfl (sc rfl (sc rfl (sc rfl (sn _)))))))))), hz75⟩
         obtain rfl := Ctr.zero hk65 c72
         rw [oyezlaw07_tried_l2] at r67
         refine shW_exit (andThen_exit (andThen_exit ?_))
         refine inBlock_exit ?_
         obtain ⟨rfl, rfl, rfl⟩ := inj3 r67
         exact mi kr ⟨Lb61, (hF58.trans hF70), rfl, (sc rfl (sc rfl (sc rfl (sc rfl (sc rfl (sc rfl (sc rfl (sn _)))))))), hz62⟩
       rintro e1 F144 _ ⟨Lb51, hF145, rfl, he143, hz52⟩
       refine shW_env _ he143 ?_; clear he143
       replace h_hears := h_hears.mono (slE_ok (slE_ok (iE_ok _))) hF145
       replace h_readings := h_readings.mono (iE_ok _) hF145
       replace h_cries := h_cries.mono (prE_ok (iE_ok _) (prE_ok (iE_ok _) (iE_ok _))) hF145
       replace hz17 := hz17.mono (slE_ok (iE_ok _)) hF145
       refine wsr ?_
       refine ov (v_loadA (cs := #[.int .i64 houses, .int .i64 notices, .slice hears_a hears.length hears_c, .slice readings_a readings.length readings_c, .slice cries_a cries.length cries_c]) Try.isAgg27 Try.sizeOf27 rfl (Has.own 1 rfl) (Nat.le_of_ble_eq_true rfl) rfl) rfl ?_
       refine om rfl rfl ?_
       obtain ⟨ok, h146, r147⟩ := b1_ok r54; clear r54
       refine o_callT (Lt := Lb51 ++ []) (Lr := (b_q, .cells #[.slice metal_a metal.length metal_c, .int .i64 q_at4, .int .u32 q_turn4] 83 (0, 0)) :: ((b1, .cells #[.int .i64 houses, .int .i64 notices, .slice hears_a hears.length hears_c, .slice readings_a readings.length readings_c, .slice cries_a cries.length cries_c] 27 (0, 0)) :: (Lb16 ++ []))) rfl Try.call52 rfl rfl rfl (pT ((fC (fC (fS fP))).trans (pA pR)) (lp (ln rfl))) (fun F2 h2 h3 => by rw [(SlR.caps hz52).1]; exact oyezlaw07_fit_w (h_hears.mono (slE_ok (slE_ok (iE_ok _))) h2) (h_readings.mono (iE_ok _) h2) (h_cries.mono (prE_ok (iE_ok _) (prE_ok (iE_ok _) (iE_ok _))) h2) (hz52.row (iE_ok _) h2 (fun p hp => h3 p (List.mem_append_left _ hp))) h146) ?_
       refine shO_nil ?_
       refine shW_cond rfl (fun c148 => ?_) (fun c148 => ?_)
       · have r149 := bt r147 c148; clear r147
         refine shW_region (om rfl rfl (om rfl rfl ?_))
         refine o_buildSlice (cs := #[.slice a45 n49 c46]) rfl rfl (buildSlice_all slt_42 [.slice a45 n49 c46] rfl (by decide) (by simp [Value.cells]) (by decide)) ?_; intro b150 hb150
         obtain rfl := (SlR.caps hz52).1
         refine shO_freezeR (Nat.le_refl _) (iE_ok _) (fC (fC (fC (fS fP)))) hz52 ?_; intro F151 hF152 h153
         replace hz17 := hz17.mono (slE_ok (iE_ok _)) hF152
         obtain ⟨out4, h154, g155, r156⟩ := ap_ok r149; clear r149
         refine o_appZ (xs := out2) (ys := [own]) (zs := out4) rfl slt_42 rfl rfl (Nat.le_refl _) (fun _ => .c (.c (.c .h))) hz17 (SrcR.box (vss := [[.slice a45 own.length c46]]) (ys := [own]) 0 rfl (slE_ok (iE_ok _)) (.cons ⟨_, _, rfl, h153⟩ .nil) rfl rfl) h154 g155 (by decide) ?_; intro a157 n161 c158 Lb159 hz160
         refine kO (kd kr) ?_
         refine oa rfl rfl (shO_nil (inBlock_n (id := 1) ?_))
         obtain ⟨rfl, rfl, rfl⟩ := inj3 r156
         exact mi kr ⟨a157, n161, c158, Lb159, ((hF42.trans hF145).trans hF152), rfl, (sc rfl (sc rfl (sc rfl (sc rfl (sc rfl (sc rfl (sn _))))))), hz160⟩
       have r163 := bf r147 c148; clear r147
       refine shW_skip (inBlock_n (id := 1) ?_)
       obtain ⟨rfl, rfl, rfl⟩ := inj3 r163
       exact mi (kc (kc (ka kn))) ⟨a14, n18, c15, Lb16, (hF42.trans hF145), rfl, (sc rfl (sc rfl (sc rfl (sc rfl (sc rfl (sc rfl (sn _))))))), hz17⟩
     rintro e1 F165 _ ⟨a31, n35, c32, Lb33, hF166, rfl, he164, hz34⟩
     refine shW_env _ he164 ?_; clear he164
     refine shW_region ?_
     refine ov (v_add rfl rfl (Ctr.r64 hk22 c29 g20)) rfl ?_
     refine om rfl rfl (shO_nil ?_)
     exact le (kf (fC fO) kr) ⟨_, hk30, q_at3, q_turn3, out3, a31, n35, c32, Lb33, r38, (hF27.trans hF166), rfl, (sc rfl (sc rfl (sc rfl (sc rfl (sc rfl (sc rfl (sn _))))))), hz34⟩
   obtain rfl := Ctr.zero hk22 c29
   rw [oyezlaw07_tried_l1] at r24
   refine shW_exit (andThen_exit (andThen_exit ?_))
   refine inBlock_exit ?_
   obtain ⟨rfl, rfl, rfl⟩ := inj3 r24
   exact mi (kd kr) ⟨a14, n18, c15, Lb16, hF27, rfl, (sc rfl (sn _)), hz17⟩
 rintro e1 F168 _ ⟨a6, n10, c7, Lb8, hF169, rfl, he167, hz9⟩
 refine shW_env _ he167 ?_; clear he167
 refine wsr (om rfl rfl (oa rfl rfl (shO_nil (shW_ret ?_))))
 refine q_res1 Try.results21 (res_tmp rfl) (sr) ?_
 obtain ⟨rfl, rfl, rfl⟩ := inj3 r13
 exact ⟨_, _, _, _, rfl, rfl, hz9.any⟩
set_option maxHeartbeats 1000000 in
theorem oyezlaw07_BookCounted_w {numbers_a : Option Addr} {numbers_c : Nat} {numbers : List Int} {tries_a : Option Addr} {tries_c : Nat} {tries : List Int} {F : FS} (h_numbers : RowR 1 (iE .u8) F numbers_a numbers_c numbers) (h_tries : RowR 1 (iE .u8) F tries_a tries_c tries) {r : Bool} (hr : oyezlaw07_BookCounted numbers tries = some r) :
    SpecV Try.prog 4 #[.slice numbers_a numbers.length numbers_c, .slice tries_a tries.length tries_c] F (.bool r) := by
 refine spec_of_shW (args := [.slice numbers_a numbers.length numbers_c, .slice tries_a tries.length tries_c]) Try.func4 rfl Try.ntmps4 (Nat.le_of_ble_eq_true rfl) ?_
 intro K _ _; rw [oyezlaw07_BookCounted] at hr
 refine wsr (oa rfl rfl (nsr (om rfl rfl ?_)))
 obtain ⟨metal, at_, turn, h1, r2⟩ := b3_ok hr; clear hr
 refine o_call0 rfl Try.call10 rfl rfl rfl (oyezkit_Hang_w h_numbers h1) ?_; rintro _ F3 _ hF4 hn5 ⟨b7, a8, c9, rfl, rfl, h10⟩
 replace h_tries := h_tries.mono (iE_ok _) hF4
 refine shO_L (lb (ln rfl)) ?_
 obtain ⟨n, n2, l, l2, l3, l4, at_2, turn2, h11, r12⟩ := b8_ok r2; clear r2
 refine o_callG (Lb := [(b7, .cells #[.slice a8 metal.length c9, .int .i64 at_, .int .u32 turn] 83 (0, 0))]) (Lr := []) rfl Try.call9 rfl rfl rfl (pR) (oyezlaw07_Made_w h10 h11) ?_; rintro _ F13 _ hF14 hd16 hn15 ⟨a17, n21, c18, Lb19, a23, n27, c24, Lb25, a29, n33, c30, Lb31, a35, n39, c36, Lb37, rfl, rfl, hz20, hz26, hz32, hz38⟩
 replace h_tries := h_tries.mono (iE_ok _) hF14
 have hn41 := newp (Lb' := [(b7, .cells #[.slice a8 metal.length c9, .int .i64 at_2, .int .u32 turn2] 83 (0, 0))]) (by rfl) hd16 hn15
 replace hz20 := hz20.new fun p hp => hn41 p (by simp [hp])
 replace hz26 := hz26.new fun p hp => hn41 p (by simp [hp])
 replace hz32 := hz32.new fun p hp => hn41 p (by simp [hp])
 replace hz38 := hz38.new fun p hp => hn41 p (by simp [hp])
 refine shO_L (lb (lp (lp (lp (lp (ln rfl)))))) ?_
 refine om rfl rfl (ox rfl rfl rfl (ox rfl rfl rfl ?_))
 refine o_alloc rfl Try.zeroValue27 ?_; intro b42 hb42
 refine o_storeA (i := 0) Try.sizeOf27 rfl rfl rfl (by simp [Value.oneCell']) rfl (Nat.le_of_ble_eq_true rfl) ?_
 refine shO_L (L' := (b42, .cells #[.int .i64 n, .int .i64 n2, .slice a17 n21 c18, .slice a23 n27 c24, .slice a29 n33 c30] 27 (0, 0)) :: ((b7, .cells #[.slice a8 metal.length c9, .int .i64 at_2, .int .u32 turn2] 83 (0, 0)) :: (Lb19 ++ (Lb25 ++ (Lb31 ++ (Lb37 ++ [])))))) rfl ?_
 refine oa rfl rfl (nsr ?_)
 refine ov (v_loadA (cs := #[.int .i64 n, .int .i64 n2, .slice a17 n21 c18, .slice a23 n27 c24, .slice a29 n33 c30]) Try.isAgg27 Try.sizeOf27 rfl (Has.own 0 rfl) (Nat.le_of_ble_eq_true rfl) rfl) rfl ?_
 obtain ⟨n3, n4, h43, r44⟩ := b2_ok r12; clear r12
 refine o_callT (Lt := Lb19 ++ (Lb25 ++ (Lb31 ++ []))) (Lr := (b42, .cells #[.int .i64 n, .int .i64 n2, .slice a17 n21 c18, .slice a23 n27 c24, .slice a29 n33 c30] 27 (0, 0)) :: ((b7, .cells #[.slice a8 metal.length c9, .int .i64 at_2, .int .u32 turn2] 83 (0, 0)) :: (Lb37 ++ []))) rfl Try.call14 rfl rfl rfl (pT ((fC (fC fP)).trans (pA ((fC (fC fP)).trans (pA ((fC (fC fP)).trans (pA pR)))))) (lp (lp (lp (ln rfl))))) (fun F2 h2 h3 => by rw [(SlR.caps hz20).1]; rw [(SlR.caps hz26).1]; rw [(SlR.caps hz32).1]; exact book_Count_w (hz20.row (slE_ok (slE_ok (iE_ok _))) h2 (fun p hp => h3 p (List.mem_append_left _ hp))) (hz26.row (iE_ok _) h2 (fun p hp => h3 p (List.mem_append_right _ (List.mem_append_left _ hp)))) (hz32.row (prE_ok (iE_ok _) (prE_ok (iE_ok _) (iE_ok _))) h2 (fun p hp => h3 p (List.mem_append_right _ (List.mem_append_right _ (List.mem_append_left _ hp))))) h43) ?_
 refine om rfl rfl (ox rfl rfl rfl (ox rfl rfl rfl (oa rfl rfl (oa rfl rfl (nsr ?_)))))
 refine ov (v_loadA (cs := #[.int .i64 n, .int .i64 n2, .slice a17 n21 c18, .slice a23 n27 c24, .slice a29 n33 c30]) Try.isAgg27 Try.sizeOf27 rfl (Has.own 0 rfl) (Nat.le_of_ble_eq_true rfl) rfl) rfl ?_
 obtain ⟨l5, n5, h45, r46⟩ := b2_ok r44; clear r44
 refine o_callTO (Lb := []) (Lt := Lb19 ++ (Lb25 ++ (Lb31 ++ []))) (Lr := (b42, .cells #[.int .i64 n, .int .i64 n2, .slice a17 n21 c18, .slice a23 n27 c24, .slice a29 n33 c30] 27 (0, 0)) :: ((b7, .cells #[.slice a8 metal.length c9, .int .i64 at_2, .int .u32 turn2] 83 (0, 0)) :: (Lb37 ++ []))) rfl Try.call17 rfl rfl rfl (pT ((fC (fC fP)).trans (pA ((fC (fC fP)).trans (pA ((fC (fC fP)).trans (pA pR)))))) (ln (lp (lp (lp (ln rfl)))))) (fun F2 h2 h3 => by rw [(SlR.caps hz20).1]; rw [(SlR.caps hz26).1]; rw [(SlR.caps hz32).1]; exact book_First_w (hz20.row (slE_ok (slE_ok (iE_ok _))) h2 (fun p hp => h3 p (List.mem_append_left _ hp))) (hz26.row (iE_ok _) h2 (fun p hp => h3 p (List.mem_append_right _ (List.mem_append_left _ hp)))) (hz32.row (prE_ok (iE_ok _) (prE_ok (iE_ok _) (iE_ok _))) h2 (fun p hp => h3 p (List.mem_append_right _ (List.mem_append_right _ (List.mem_append_left _ hp))))) h45) (fun _ _ _ _ hq => by obtain ⟨a51, n55, c52, Lb53, rfl, rfl, hz54⟩ := hq; exact ⟨_, _, _, _, rfl, rfl, hz54.flat (fun _ _ h => h)⟩) ?_; rintro _ F47 _ hF48 hd50 hn49 ⟨a51, n55, c52, Lb53, rfl, rfl, hz54⟩
 replace h_tries := h_tries.mono (iE_ok _) hF48
 replace hz20 := hz20.mono (slE_ok (slE_ok (iE_ok _))) hF48
 replace hz26 := hz26.mono (iE_ok _) hF48
 replace hz32 := hz32.mono (prE_ok (iE_ok _) (prE_ok (iE_ok _) (iE_ok _))) hF48
 replace hz38 := hz38.mono (iE_ok _) hF48
 have hn57 := newp (Lb' := []) (by rfl) hd50 hn49
 replace hz54 := hz54.new fun p hp => hn57 p (by simp [hp])
 refine shO_L (lp (ln (lp (lp (lp (ln rfl)))))) ?_
 refine kO (kf (fS (fS (fS (fS fO)))) (kf (fS (fS (fS (fS fO)))) kr)) ?_
 refine om rfl rfl (ox rfl rfl rfl (ox rfl rfl rfl (oa rfl rfl (oa rfl rfl (nsr ?_)))))
 refine ov (v_loadA (cs := #[.int .i64 n, .int .i64 n2, .slice a17 n21 c18, .slice a23 n27 c24, .slice a29 n33 c30]) Try.isAgg27 Try.sizeOf27 rfl (Has.own 0 rfl) (Nat.le_of_ble_eq_true rfl) rfl) rfl ?_
 obtain rfl := (SlR.caps hz20).1
 refine shO_freezeR (Nat.le_refl _) (slE_ok (slE_ok (iE_ok _))) (fC (fC (fS fP))) hz20 ?_; intro F58 hF59 h60
 replace h_tries := h_tries.mono (iE_ok _) hF59
 replace hz26 := hz26.mono (iE_ok _) hF59
 replace hz32 := hz32.mono (prE_ok (iE_ok _) (prE_ok (iE_ok _) (iE_ok _))) hF59
 replace hz38 := hz38.mono (iE_ok _) hF59
 replace hz54 := hz54.mono (iE_ok _) hF59
 obtain rfl := (SlR.caps hz26).1
 refine shO_freezeR (Nat.le_refl _) (iE_ok _) (fC (fC (fS fP))) hz26 ?_; intro F61 hF62 h63
 replace h_tries := h_tries.mono (iE_ok _) hF62
 replace h60 := h60.mono (slE_ok (slE_ok (iE_ok _))) hF62
 replace hz32 := hz32.mono (prE_ok (iE_ok _) (prE_ok (iE_ok _) (iE_ok _))) hF62
 replace hz38 := hz38.mono (iE_ok _) hF62
 replace hz54 := hz54.mono (iE_ok _) hF62
 obtain rfl := (SlR.caps hz32).1
 refine shO_freezeR (Nat.le_refl _) (prE_ok (iE_ok _) (prE_ok (iE_ok _) (iE_ok _))) (fC (fC (fS fP))) hz32 ?_; intro F64 hF65 h66
 replace h_tries := h_tries.mono (iE_ok _) hF65
 replace h60 := h60.mono (slE_ok (slE_ok (iE_ok _))) hF65
 replace h63 := h63.mono (iE_ok _) hF65
 replace hz38 := hz38.mono (iE_ok _) hF65
 replace hz54 := hz54.mono (iE_ok _) hF65
 obtain ⟨l6, n6, h67, r68⟩ := b2_ok r46; clear r46
 refine o_call0 rfl Try.call15 rfl rfl rfl (book_Winds_w h60 h63 h66 h67) ?_; rintro _ F69 _ hF70 hn71 ⟨a73, n77, c74, Lb75, rfl, rfl, hz76⟩
 replace h_tries := h_tries.mono (iE_ok _) hF70
 replace h60 := h60.mono (slE_ok (slE_ok (iE_ok _))) hF70
 replace h63 := h63.mono (iE_ok _) hF70
 replace h66 := h66.mono (prE_ok (iE_ok _) (prE_ok (iE_ok _) (iE_ok _))) hF70
 replace hz38 := hz38.mono (iE_ok _) hF70
 replace hz54 := hz54.mono (iE_ok _) hF70
 replace hz76 := hz76.new fun p hp => hn71 p (by simp [hp])
 refine shO_L (lp (ln rfl)) ?_
 refine kO (kf (fS fO) (kf (fS fO) kr)) ?_
 refine om rfl rfl (ox rfl rfl rfl (ox rfl rfl rfl (oa rfl rfl (oa rfl rfl (shO_nil (shW_seq ?_))))))
 obtain ⟨k, h79, r80⟩ := b1_ok r68; clear r68
 refine shW_join (fun e1 F1 L1 => F69 = F1 ∧ L1 = ((b42, .cells #[.int .i64 n, .int .i64 n2, .slice a17 l.length c18, .slice a23 l2.length c24, .slice a29 l3.length c30] 27 (0, 0)) :: (Lb37 ++ (Lb53 ++ (Lb75 ++ [])))) ∧ e1.sub [(1, .slice tries_a tries.length tries_c), (5, .pointer (some ⟨b42, 0, none⟩)), (6, .slice a35 n39 c36), (7, .int .i64 n3), (9, .slice a51 n55 c52), (11, .slice a73 n77 c74), (71, .bool k)]) ?_ ?_
 · clear r80
   refine shW_region (om rfl rfl ?_)
   refine ov (v_neq rfl rfl) rfl ?_
   refine om rfl rfl ?_
   by_cases c81 : n4 ≠ 0
   · have r82 := ite_t h79 c81; clear h79
     refine shO_off (b' := true) 47 rfl (Env.isT rfl c81) rfl rfl (shO_off (b' := true) 47 rfl (Env.isT rfl c81) rfl rfl ?_)
     refine ov (v_pick_t (evD_true rfl c81) rfl) rfl ?_
     refine om rfl rfl (shO_off (b' := true) 51 rfl rfl rfl rfl (shO_off (b' := true) 51 rfl rfl rfl rfl ?_))
     refine ov (v_pick_t rfl rfl) rfl ?_
     refine om rfl rfl (shO_off (b' := true) 55 rfl rfl rfl rfl (shO_off (b' := true) 55 rfl rfl rfl rfl ?_))
     refine ov (v_pick_t rfl rfl) rfl ?_
     refine om rfl rfl (shO_off (b' := true) 59 rfl rfl rfl rfl (shO_off (b' := true) 59 rfl rfl rfl rfl (shO_off (b' := true) 59 rfl rfl rfl rfl (shO_off (b' := true) 59 rfl rfl rfl rfl ?_))))
     refine ov (v_pick_t rfl rfl) rfl ?_
     refine om rfl rfl (shO_off (b' := true) 65 rfl rfl rfl rfl (shO_off (b' := true) 65 rfl rfl rfl rfl (shO_off (b' := true) 65 rfl rfl rfl rfl (shO_off (b' := true) 65 rfl rfl rfl rfl (shO_off (b' := true) 65 rfl rfl rfl rfl ?_)))))
     refine ov (v_pick_t rfl rfl) rfl ?_
     refine shO_nil ?_
     obtain rfl := inj1 r82
     exact mi (kc (kd (kg (fS (fS fP)) (kg (fS fP) kr)))) ⟨rfl, rfl, (sc rfl (sc rfl (sc rfl (sc rfl (sc rfl (sc rfl (sc rfl (sn _))))))))⟩
   have r83 := ite_f h79 c81; clear h79
   refine shO_on (b := false) 47 rfl (Env.isF rfl c81) (om rfl rfl (shO_on (b := false) 47 rfl (Env.isF rfl c81) ?_))
   refine ov (v_neq rfl rfl) rfl ?_
   refine ov (v_pick_f (evD_false rfl c81) rfl) rfl ?_
   refine om rfl rfl ?_
   by_cases c84 : n5 ≠ 0
   · have r85 := ite_t r83 c84; clear r83
     refine shO_off (b' := true) 51 rfl (Env.isT rfl c84) rfl rfl (shO_off (b' := true) 51 rfl (Env.isT rfl c84) rfl rfl ?_)
     refine ov (v_pick_t (evD_true rfl c84) rfl) rfl ?_
     refine om rfl rfl (shO_off (b' := true) 55 rfl rfl rfl rfl (shO_off (b' := true) 55 rfl rfl rfl rfl ?_))
     refine ov (v_pick_t rfl rfl) rfl ?_
     refine om rfl rfl (shO_off (b' := true) 59 rfl rfl rfl rfl (shO_off (b' := true) 59 rfl rfl rfl rfl (shO_off (b' := true) 59 rfl rfl rfl rfl (shO_off (b' := true) 59 rfl rfl rfl rfl ?_))))
     refine ov (v_pick_t rfl rfl) rfl ?_
     refine om rfl rfl (shO_off (b' := true) 65 rfl rfl rfl rfl (shO_off (b' := true) 65 rfl rfl rfl rfl (shO_off (b' := true) 65 rfl rfl rfl rfl (shO_off (b' := true) 65 rfl rfl rfl rfl (shO_off (b' := true) 65 rfl rfl rfl rfl ?_)))))
     refine ov (v_pick_t rfl rfl) rfl ?_
     refine shO_nil ?_
     obtain rfl := inj1 r85
     exact mi (kc (kd (kg (fS (fS fP)) (kg (fS fP) kr)))) ⟨rfl, rfl, (sc rfl (sc rfl (sc rfl (sc rfl (sc rfl (sc rfl (sc rfl (sn _))))))))⟩
   have r86 := ite_f r83 c84; clear r83
   refine shO_on (b := false) 51 rfl (Env.isF rfl c84) (om rfl rfl (shO_on (b := false) 51 rfl (Env.isF rfl c84) ?_))
   refine ov (v_neq rfl rfl) rfl ?_
   refine ov (v_pick_f (evD_false rfl c84) rfl) rfl ?_
   refine om rfl rfl ?_
   by_cases c87 : n6 ≠ 0
   · have r88 := ite_t r86 c87; clear r86
     refine shO_off (b' := true) 55 rfl (Env.isT rfl c87) rfl rfl (shO_off (b' := true) 55 rfl (Env.isT rfl c87) rfl rfl ?_)
     refine ov (v_pick_t (evD_true rfl c87) rfl) rfl ?_
     refine om rfl rfl (shO_off (b' := true) 59 rfl rfl rfl rfl (shO_off (b' := true) 59 rfl rfl rfl rfl (shO_off (b' := true) 59 rfl rfl rfl rfl (shO_off (b' := true) 59 rfl rfl rfl rfl ?_))))
     refine ov (v_pick_t rfl rfl) rfl ?_
     refine om rfl rfl (shO_off (b' := true) 65 rfl rfl rfl rfl (shO_off (b' := true) 65 rfl rfl rfl rfl (shO_off (b' := true) 65 rfl rfl rfl rfl (shO_off (b' := true) 65 rfl rfl rfl rfl (shO_off (b' := true) 65 rfl rfl rfl rfl ?_)))))
     refine ov (v_pick_t rfl rfl) rfl ?_
     refine shO_nil ?_
     obtain rfl := inj1 r88
     exact mi (kc (kd (kg (fS (fS fP)) (kg (fS fP) kr)))) ⟨rfl, rfl, (sc rfl (sc rfl (sc rfl (sc rfl (sc rfl (sc rfl (sc rfl (sn _))))))))⟩
   have r89 := ite_f r86 c87; clear r86
   refine shO_on (b := false) 55 rfl (Env.isF rfl c87) (om rfl rfl (shO_on (b := false) 55 rfl (Env.isF rfl c87) ?_))
   refine ov (v_lssK rfl rfl) rfl ?_
   refine ov (v_pick_f (evD_false rfl c87) rfl) rfl ?_
   refine om rfl rfl ?_
   by_cases c90 : n3 < 1
   · have r91 := ite_t r89 c90; clear r89
     refine shO_off (b' := true) 59 rfl (Env.isT rfl c90) rfl rfl (shO_off (b' := true) 59 rfl (Env.isT rfl c90) rfl rfl (shO_off (b' := true) 59 rfl (Env.isT rfl c90) rfl rfl (shO_off (b' := true) 59 rfl (Env.isT rfl c90) rfl rfl ?_)))
     refine ov (v_pick_t (evD_true rfl c90) rfl) rfl ?_
     refine om rfl rfl (shO_off (b' := true) 65 rfl rfl rfl rfl (shO_off (b' := true) 65 rfl rfl rfl rfl (shO_off (b' := true) 65 rfl rfl rfl rfl (shO_off (b' := true) 65 rfl rfl rfl rfl (shO_off (b' := true) 65 rfl rfl rfl rfl ?_)))))
     refine ov (v_pick_t rfl rfl) rfl ?_
     refine shO_nil ?_
     obtain rfl := inj1 r91
     exact mi (kc (kd (kg (fS (fS fP)) (kg (fS fP) kr)))) ⟨rfl, rfl, (sc rfl (sc rfl (sc rfl (sc rfl (sc rfl (sc rfl (sc rfl (sn _))))))))⟩
   have r92 := ite_f r89 c90; clear r89
   refine shO_on (b := false) 59 rfl (Env.isF rfl c90) ?_
   refine ov (v_loadA (cs := #[.int .i64 n, .int .i64 n2, .slice a17 l.length c18, .slice a23 l2.length c24, .slice a29 l3.length c30]) Try.isAgg27 Try.sizeOf27 rfl (Has.own 0 rfl) (Nat.le_of_ble_eq_true rfl) rfl) rfl ?_
   refine shO_on (b := false) 59 rfl (Env.isF rfl c90) (om rfl rfl (shO_on (b := false) 59 rfl (Env.isF rfl c90) ?_))
   obtain ⟨ok, h93, r94⟩ := b1_ok r92; clear r92
   refine o_callT (Lt := Lb53 ++ []) (Lr := (b42, .cells #[.int .i64 n, .int .i64 n2, .slice a17 l.length c18, .slice a23 l2.length c24, .slice a29 l3.length c30] 27 (0, 0)) :: ((b7, .cells #[.slice a8 metal.length c9, .int .i64 at_2, .int .u32 turn2] 83 (0, 0)) :: (Lb75 ++ (Lb37 ++ [])))) rfl Try.call18 rfl rfl rfl (pT ((fC (fC (fS fP))).trans (pA pR)) (lp (ln rfl))) (fun F2 h2 h3 => by rw [(SlR.caps hz54).1]; exact oyezlaw07_right_w (h60.mono (slE_ok (slE_ok (iE_ok _))) h2) (h63.mono (iE_ok _) h2) (h66.mono (prE_ok (iE_ok _) (prE_ok (iE_ok _) (iE_ok _))) h2) (hz54.row (iE_ok _) h2 (fun p hp => h3 p (List.mem_append_left _ hp))) h93) ?_
   refine shO_on (b := false) 59 rfl (Env.isF rfl c90) ?_
   refine ov (v_notB rfl) rfl ?_
   refine ov (v_pick_f (evD_false rfl c90) rfl) rfl ?_
   refine om rfl rfl ?_
   rcases bool_two (!ok) with c95 | c95
   · have r96 := bt r94 c95; clear r94
     refine shO_off (b' := true) 65 rfl (EnvB rfl c95) rfl rfl (shO_off (b' := true) 65 rfl (EnvB rfl c95) rfl rfl (shO_off (b' := true) 65 rfl (EnvB rfl c95) rfl rfl (shO_off (b' := true) 65 rfl (EnvB rfl c95) rfl rfl (shO_off (b' := true) 65 rfl (EnvB rfl c95) rfl rfl ?_))))
     refine ov (v_pick_t (evB rfl c95) rfl) rfl ?_
     refine shO_nil ?_
     obtain rfl := inj1 r96
     exact mi (kc (kd (kg (fS (fS fP)) (kg (fS fP) kr)))) ⟨rfl, rfl, (sc rfl (sc rfl (sc rfl (sc rfl (sc rfl (sc rfl (sc rfl (sn _))))))))⟩
   have r97 := bf r94 c95; clear r94
   refine shO_on (b := false) 65 rfl (EnvB rfl c95) (om rfl rfl (shO_on (b := false) 65 rfl (EnvB rfl c95) ?_))
   refine ov ((v_lenS Try.underlying42 rfl).i (SlR.lenI hz76)) rfl ?_
   refine shO_on (b := false) 65 rfl (EnvB rfl c95) (om rfl rfl (shO_on (b := false) 65 rfl (EnvB rfl c95) ?_))
   refine ov ((v_lenS Try.underlying24 rfl).i (SlR.lenI hz38)) rfl ?_
   refine shO_on (b := false) 65 rfl (EnvB rfl c95) ?_
   refine ov (v_neq rfl rfl) rfl ?_
   refine ov (v_pick_f (evB rfl c95) rfl) rfl ?_
   refine shO_nil ?_
   obtain rfl := inj1 r97
   exact mi (kc (kd (kg (fS (fS fP)) (kg (fS fP) kr)))) ⟨rfl, rfl, (sc rfl (sc rfl (sc rfl (sc rfl (sc rfl (sc rfl (sc rfl (sn _))))))))⟩
 rintro e1 _ _ ⟨rfl, rfl, he98⟩
 refine shW_env _ he98 ?_; clear he98
 refine shW_cond rfl (fun c99 => ?_) (fun c99 => ?_)
 · have r100 := bt r80 c99; clear r80
   refine wsr (oa rfl rfl (shO_nil ?_))
   refine kW kn ?_
   refine shW_ret (andThen_ret ?_)
   refine q_res1 Try.results4 (res_tmp rfl) (sr) ?_
   obtain rfl := inj1 r100
   exact rfl
 have r101 := bf r80 c99; clear r80
 refine shW_skip ?_
 refine shW_join (fun e1 F1 L1 => oyezlaw07_BookCounted_j1 tries n n2 l l2 l3 l4 l5 l6 = some r ∧ FExt F69 F1 ∧ L1 = ((b42, .cells #[.int .i64 n, .int .i64 n2, .slice a17 l.length c18, .slice a23 l2.length c24, .slice a29 l3.length c30] 27 (0, 0)) :: (Lb37 ++ (Lb53 ++ (Lb75 ++ [])))) ∧ e1.sub [(1, .slice tries_a tries.length tries_c), (5, .pointer (some ⟨b42, 0, none⟩)), (6, .slice a35 n39 c36), (9, .slice a51 n55 c52), (11, .slice a73 n77 c74)]) ?_ ?_
 · refine wsr (om rfl rfl ?_)
   refine ov ((v_lenS Try.underlying42 rfl).i (SlR.lenI hz76)) rfl ?_
   refine om rfl rfl (shO_nil ?_)
   refine shW_block ?_
   refine shW_lp (fun fu2 e1 F1 L1 => ∃ (tl : List (List Int)) (k2 : Int), tl.length = fu2 ∧ Lst l6 k2 tl ∧ oyezlaw07_BookCounted_l2 tries n n2 l l2 l3 l4 n3 l5 l6 tl k2 = some r ∧ FExt F69 F1 ∧ L1 = ((b42, .cells #[.int .i64 n, .int .i64 n2, .slice a17 l.length c18, .slice a23 l2.length c24, .slice a29 l3.length c30] 27 (0, 0)) :: (Lb37 ++ (Lb53 ++ (Lb75 ++ [])))) ∧ e1.sub [(1, .slice tries_a tries.length tries_c), (5, .pointer (some ⟨b42, 0, none⟩)), (6, .slice a35 n39 c36), (7, .int .i64 n3), (9, .slice a51 n55 c52), (11, .slice a73 n77 c74), (72, .slice a73 n77 c74), (73, .int .i64 (l6.length : Int)), (74, .int .i64 k2)]) _ (m0 kr ⟨_, _, rfl, Lst.start _, r101, FExt.refl _, rfl, (sc rfl (sc rfl (sc rfl (sc rfl (sc rfl (sc rfl (sc rfl (sc rfl (sc rfl (sn _))))))))))⟩) ?_
   rintro fu2 e1 F106 _ ⟨tl, k2, hn103, hk102, r104, hF107, rfl, he105⟩
   refine shW_env _ he105 ?_; clear he105
   replace h60 := h60.mono (slE_ok (slE_ok (iE_ok _))) hF107
   replace h63 := h63.mono (iE_ok _) hF107
   replace h66 := h66.mono (prE_ok (iE_ok _) (prE_ok (iE_ok _) (iE_ok _))) hF107
   replace hz76 := hz76.mono (slE_ok (iE_ok _)) hF107
   refine wsr ?_
   refine ov (v_lssK rfl rfl) rfl ?_
   refine shO_nil (shW_seq ?_)
   refine shW_condP rfl (fun c109 => ?_) (fun c109 => ?_)
   · obtain ⟨x, tl2, rfl, hx111, g112, hk110⟩ := Lst.succ hk102 c109
     rw [oyezlaw07_BookCounted_l2] at r104
     refine shW_skip ?_
     refine shW_join (fun e1 F1 L1 => oyezlaw07_BookCounted_j3 k2 (oyezlaw07_BookCounted_l2 tries n n2 l l2 l3 l4 n3 l5 l6 tl2) = some r ∧ FExt F106 F1 ∧ L1 = ((b42, .cells #[.int .i64 n, .int .i64 n2, .slice a17 l.length c18, .slice a23 l2.length c24, .slice a29 l3.length c30] 27 (0, 0)) :: (Lb37 ++ (Lb53 ++ (Lb75 ++ [])))) ∧ e1.sub [(1, .slice tries_a tries.length tries_c), (5, .pointer (some ⟨b42, 0, none⟩)), (6, .slice a35 n39 c36), (7, .int .i64 n3), (9, .slice a51 n55 c52), (11, .slice a73 n77 c74), (72, .slice a73 n77 c74), (73, .int .i64 (l6.length : Int)), (74, .int .i64 k2)]) ?_ ?_
     · refine shW_block ?_
       refine wsr (om rfl rfl ?_)
       obtain ⟨b113, o114, c115, vs116, ha117, hs118, hle119, ⟨a122, c123, rfl, h124⟩, hl120, hc121⟩ := SlR.at (slE_ok (iE_ok _)) hz76 (L := (b42, .cells #[.int .i64 n, .int .i64 n2, .slice a17 l.length c18, .slice a23 l2.length c24, .slice a29 l3.length c30] 27 (0, 0)) :: (Lb37 ++ (Lb53 ++ (Lb75 ++ [])))) (fC (fS (fS fP))) g112.1 hx111
       refine ov (v_indexO Try.underlying42 Try.sizeOf24 rfl ha117 rfl (SlR.idx hz76 g112)) rfl ?_
       refine ov (v_load Try.isAgg24 rfl hs118 (hc121 0 (by decide))) rfl ?_
       refine oa rfl rfl (oa rfl rfl (nsr ?_))
       refine ov (v_loadA (cs := #[.int .i64 n, .int .i64 n2, .slice a17 l.length c18, .slice a23 l2.length c24, .slice a29 l3.length c30]) Try.isAgg27 Try.sizeOf27 rfl (Has.own 0 rfl) (Nat.le_of_ble_eq_true rfl) rfl) rfl ?_
       refine om rfl rfl ?_
       obtain ⟨l7, n7, h125, r126⟩ := b2_ok r104; clear r104
       refine o_call0 rfl Try.call19 rfl rfl rfl (book_Split_w h60 h63 h66 h125) ?_; rintro _ F127 _ hF128 hn129 ⟨a131, n135, c132, Lb133, rfl, rfl, hz134⟩
       replace h124 := h124.mono (iE_ok _) hF128
       replace hz134 := hz134.new fun p hp => hn129 p (by simp [hp])
       refine shO_L (lp (ln rfl)) ?_
       refine kO (kf (fS fO) kr) ?_
       refine om rfl rfl (ox rfl rfl rfl (ox rfl rfl rfl (oa rfl rfl (oa rfl rfl (shO_nil (shW_seq ?_))))))
       obtain ⟨k3, h137, r138⟩ := b1_ok r126; clear r126
       refine shW_join (fun e1 F1 L1 => F127 = F1 ∧ L1 = ((b42, .cells #[.int .i64 n, .int .i64 n2, .slice a17 l.length c18, .slice a23 l2.length c24, .slice a29 l3.length c30] 27 (0, 0)) :: (Lb37 ++ (Lb53 ++ (Lb75 ++ (Lb133 ++ []))))) ∧ e1.sub [(1, .slice tries_a tries.length tries_c), (5, .pointer (some ⟨b42, 0, none⟩)), (6, .slice a35 n39 c36), (7, .int .i64 n3), (9, .slice a51 n55 c52), (11, .slice a73 n77 c74), (14, .slice a122 x.length c123), (15, .slice a131 n135 c132), (72, .slice a73 n77 c74), (73, .int .i64 (l6.length : Int)), (74, .int .i64 k2), (91, .bool k3)]) ?_ ?_
       · clear r138
         refine shW_region (om rfl rfl ?_)
         refine ov (v_neq rfl rfl) rfl ?_
         refine om rfl rfl ?_
         by_cases c139 : n7 ≠ 0
         · have r140 := ite_t h137 c139; clear h137
           refine shO_off (b' := true) 87 rfl (Env.isT rfl c139) rfl rfl (shO_off (b' := true) 87 rfl (Env.isT rfl c139) rfl rfl (shO_off (b' := true) 87 rfl (Env.isT rfl c139) rfl rfl ?_))
           refine ov (v_pick_t (evD_true rfl c139) rfl) rfl ?_
           refine shO_nil ?_
           obtain rfl := inj1 r140
           exact mi (kc (kg (fS fP) (kg (fS fP) (kg (fS fP) kr)))) ⟨rfl, rfl, (sc rfl (sc rfl (sc rfl (sc rfl (sc rfl (sc rfl (sc rfl (sc rfl (sc rfl (sc rfl (sc rfl (sc rfl (sn _)))))))))))))⟩
         have r141 := ite_f h137 c139; clear h137
         refine shO_on (b := false) 87 rfl (Env.isF rfl c139) (om rfl rfl (shO_on (b := false) 87 rfl (Env.isF rfl c139) ?_))
         refine ov ((v_lenS Try.underlying24 rfl).i (SlR.lenI hz134)) rfl ?_
         refine shO_on (b := false) 87 rfl (Env.isF rfl c139) ?_
         refine ov (v_neq rfl rfl) rfl ?_
         refine ov (v_pick_f (evD_false rfl c139) rfl) rfl ?_
         refine shO_nil ?_
         obtain rfl := inj1 r141
         exact mi (kc (kg (fS fP) (kg (fS fP) (kg (fS fP) kr)))) ⟨rfl, rfl, (sc rfl (sc rfl (sc rfl (sc rfl (sc rfl (sc rfl (sc rfl (sc rfl (sc rfl (sc rfl (sc rfl (sc rfl (sn _)))))))))))))⟩
       rintro e1 _ _ ⟨rfl, rfl, he142⟩
       refine shW_env _ he142 ?_; clear he142
       refine shW_cond rfl (fun c143 => ?_) (fun c143 => ?_)
       · have r144 := bt r138 c143; clear r138
         refine wsr (oa rfl rfl (shO_nil ?_))
         refine kW kn ?_
         refine shW_ret (andThen_ret (inBlock_ret (andThen_ret (andThen_ret (inBlock_ret (andThen_ret ?_))))))
         refine q_res1 Try.results4 (res_tmp rfl) (sr) ?_
         obtain rfl := inj1 r144
         exact rfl
       have r145 := bf r138 c143; clear r138
       refine shW_skip (wsr (oa rfl rfl (shO_nil ?_)))
       refine shW_join (fun e1 F1 L1 => ∃ (sum : Int), oyezlaw07_BookCounted_j4 n3 k2 (oyezlaw07_BookCounted_l2 tries n n2 l l2 l3 l4 n3 l5 l6 tl2) sum = some r ∧ F127 = F1 ∧ L1 = ((b42, .cells #[.int .i64 n, .int .i64 n2, .slice a17 l.length c18, .slice a23 l2.length c24, .slice a29 l3.length c30] 27 (0, 0)) :: (Lb37 ++ (Lb53 ++ (Lb75 ++ [])))) ∧ e1.sub [(1, .slice tries_a tries.length tries_c), (5, .pointer (some ⟨b42, 0, none⟩)), (6, .slice a35 n39 c36), (7, .int .i64 n3), (9, .slice a51 n55 c52), (11, .slice a73 n77 c74), (17, .int .i64 sum), (72, .slice a73 n77 c74), (73, .int .i64 (l6.length : Int)), (74, .int .i64 k2)]) ?_ ?_
       · refine wsr (om rfl rfl ?_)
         refine ov ((v_lenS Try.underlying24 rfl).i (SlR.lenI hz134)) rfl ?_
         refine om rfl rfl (shO_nil ?_)
         refine shW_block ?_
         refine shW_lp (fun fu5 e1 F1 L1 => ∃ (tl3 : List Int) (k4 : Int), tl3.length = fu5 ∧ Lst l7 k4 tl3 ∧ ∃ (sum2 : Int), oyezlaw07_BookCounted_l5 n3 k2 x (oyezlaw07_BookCounted_l2 tries n n2 l l2 l3 l4 n3 l5 l6 tl2) tl3 k4 sum2 = some r ∧ F127 = F1 ∧ L1 = ((b42, .cells #[.int .i64 n, .int .i64 n2, .slice a17 l.length c18, .slice a23 l2.length c24, .slice a29 l3.length c30] 27 (0, 0)) :: (Lb37 ++ (Lb53 ++ (Lb75 ++ (Lb133 ++ []))))) ∧ e1.sub [(1, .slice tries_a tries.length tries_c), (5, .pointer (some ⟨b42, 0, none⟩)), (6, .slice a35 n39 c36), (7, .int .i64 n3), (9, .slice a51 n55 c52), (11, .slice a73 n77 c74), (14, .slice a122 x.length c123), (17, .int .i64 sum2), (72, .slice a73 n77 c74), (73, .int .i64 (l6.length : Int)), (74, .int .i64 k2), (92, .slice a131 n135 c132), (93, .int .i64 (l7.length : Int)), (94, .int .i64 k4)]) _ (m0 kr ⟨_, _, rfl, Lst.start _, 0, r145, rfl, rfl, (sc rfl (sc rfl (sc rfl (sc rfl (sc rfl (sc rfl (sc rfl (sc rfl (sc rfl (sc rfl (sc rfl (sc rfl (sc rfl (sc rfl (sn _)))))))))))))))⟩) ?_
         rintro fu5 e1 _ _ ⟨tl3, k4, hn147, hk146, sum2, r148, rfl, rfl, he149⟩
         refine shW_env _ he149 ?_; clear he149
         refine wsr ?_
         refine ov (v_lssK rfl rfl) rfl ?_
         refine shO_nil (shW_seq ?_)
         refine shW_condP rfl (fun c151 => ?_) (fun c151 => ?_)
         · obtain ⟨x2, tl4, rfl, hx153, g154, hk152⟩ := Lst.succ hk146 c151
           rw [oyezlaw07_BookCounted_l5] at r148
           refine shW_skip (shW_seq ?_)
           refine shW_block ?_
           refine wsr (om rfl rfl ?_)
           obtain ⟨b155, o156, c157, vs158, ha159, hs160, hle161, rfl, hl162, hc163⟩ := SlR.at (iE_ok _) hz134 (L := (b42, .cells #[.int .i64 n, .int .i64 n2, .slice a17 l.length c18, .slice a23 l2.length c24, .slice a29 l3.length c30] 27 (0, 0)) :: (Lb37 ++ (Lb53 ++ (Lb75 ++ (Lb133 ++ []))))) (fC (fS (fS (fS fP)))) g154.1 hx153
           refine ov (v_indexO Try.underlying24 Try.sizeOf3 rfl ha159 rfl (SlR.idx hz134 g154)) rfl ?_
           refine ov (v_load Try.isAgg3 rfl hs160 (hc163 0 (by decide))) rfl ?_
           refine oa rfl rfl (oa rfl rfl (nsr (om rfl rfl (om rfl rfl ?_))))
           obtain ⟨g164, r165⟩ := gd_ok r148; clear r148
           refine ov (v_add rfl rfl g164) rfl ?_
           refine oa rfl rfl (shO_nil ?_)
           obtain ⟨k5, h166, r167⟩ := b1_ok r165; clear r165
           refine shW_join (fun e1 F1 L1 => F127 = F1 ∧ L1 = ((b42, .cells #[.int .i64 n, .int .i64 n2, .slice a17 l.length c18, .slice a23 l2.length c24, .slice a29 l3.length c30] 27 (0, 0)) :: (Lb37 ++ (Lb53 ++ (Lb75 ++ (Lb133 ++ []))))) ∧ e1.sub [(1, .slice tries_a tries.length tries_c), (5, .pointer (some ⟨b42, 0, none⟩)), (6, .slice a35 n39 c36), (7, .int .i64 n3), (9, .slice a51 n55 c52), (11, .slice a73 n77 c74), (14, .slice a122 x.length c123), (17, .int .i64 (sum2 + x2)), (72, .slice a73 n77 c74), (73, .int .i64 (l6.length : Int)), (74, .int .i64 k2), (92, .slice a131 n135 c132), (93, .int .i64 (l7.length : Int)), (94, .int .i64 k4), (111, .bool k5)]) ?_ ?_
           · clear r167
             refine shW_region (om rfl rfl ?_)
             refine ov (v_lssK rfl rfl) rfl ?_
             refine om rfl rfl ?_
             by_cases c168 : x2 < 0
             · have r169 := ite_t h166 c168; clear h166
               refine shO_off (b' := true) 104 rfl (Env.isT rfl c168) rfl rfl (shO_off (b' := true) 104 rfl (Env.isT rfl c168) rfl rfl (shO_off (b' := true) 104 rfl (Env.isT rfl c168) rfl rfl (shO_off (b' := true) 104 rfl (Env.isT rfl c168) rfl rfl (shO_off (b' := true) 104 rfl (Env.isT rfl c168) rfl rfl (shO_off (b' := true) 104 rfl (Env.isT rfl c168) rfl rfl ?_)))))
               refine ov (v_pick_t (evD_true rfl c168) rfl) rfl ?_
               refine shO_nil ?_
               obtain rfl := inj1 r169
               exact mi kr ⟨rfl, rfl, (sc rfl (sc rfl (sc rfl (sc rfl (sc rfl (sc rfl (sc rfl (sc rfl (sc rfl (sc rfl (sc rfl (sc rfl (sc rfl (sc rfl (sc rfl (sn _))))))))))))))))⟩
             have r170 := ite_f h166 c168; clear h166
             refine shO_on (b := false) 104 rfl (Env.isF rfl c168) (om rfl rfl (shO_on (b := false) 104 rfl (Env.isF rfl c168) ?_))
             refine ov (v_gtrK rfl rfl) rfl ?_
             refine shO_on (b := false) 104 rfl (Env.isF rfl c168) (om rfl rfl (shO_on (b := false) 104 rfl (Env.isF rfl c168) (om rfl rfl (shO_on (b := false) 104 rfl (Env.isF rfl c168) ?_))))
             obtain ⟨ok2, h171, r172⟩ := b1_ok r170; clear r170
             refine o_callV rfl Try.call20 rfl rfl rfl (slices_Contains_int_int_w h124 h171) ?_
             refine shO_on (b := false) 104 rfl (Env.isF rfl c168) ?_
             refine ov (v_neqB Try.underlying4 rfl rfl) rfl ?_
             refine ov (v_pick_f (evD_false rfl c168) rfl) rfl ?_
             refine shO_nil ?_
             obtain rfl := inj1 r172
             exact mi kr ⟨rfl, rfl, (sc rfl (sc rfl (sc rfl (sc rfl (sc rfl (sc rfl (sc rfl (sc rfl (sc rfl (sc rfl (sc rfl (sc rfl (sc rfl (sc rfl (sc rfl (sn _))))))))))))))))⟩
           rintro e1 _ _ ⟨rfl, rfl, he173⟩
           refine shW_env _ he173 ?_; clear he173
           refine shW_cond rfl (fun c174 => ?_) (fun c174 => ?_)
           · have r175 := bt r167 c174; clear r167
             refine wsr (oa rfl rfl (shO_nil ?_))
             refine kW kn ?_
             refine shW_ret (inBlock_ret (andThen_ret (andThen_ret (inBlock_ret (andThen_ret (inBlock_ret (andThen_ret (andThen_ret (inBlock_ret ?_)))))))))
             refine andThen_ret ?_
             refine q_res1 Try.results4 (res_tmp rfl) (sr) ?_
             obtain rfl := inj1 r175
             exact rfl
           have r176 := bf r167 c174; clear r167
           refine shW_skip (inBlock_n (id := 3) (shW_region ?_))
           refine ov (v_add rfl rfl (Lst.r64 hk146 c151 (SlR.llt hz134))) rfl ?_
           refine om rfl rfl (shO_nil ?_)
           subst hn147; exact le kr ⟨_, _, rfl, hk152, sum2 + x2, r176, rfl, rfl, (sc rfl (sc rfl (sc rfl (sc rfl (sc rfl (sc rfl (sc rfl (sc rfl (sc rfl (sc rfl (sc rfl (sc rfl (sc rfl (sc rfl (sn _)))))))))))))))⟩
         obtain rfl := Lst.zero hk146 c151
         rw [oyezlaw07_BookCounted_l5] at r148
         refine shW_exit (andThen_exit (andThen_exit ?_))
         refine inBlock_exit ?_
         exact mi (kc (ka (ka (ka kn)))) ⟨sum2, r148, rfl, rfl, (sc rfl (sc rfl (sc rfl (sc rfl (sc rfl (sc rfl (sc rfl (sc rfl (sc rfl (sc rfl (sn _)))))))))))⟩
       rintro e1 _ _ ⟨sum, r177, rfl, rfl, he178⟩
       refine shW_env _ he178 ?_; clear he178
       rw [oyezlaw07_BookCounted_j4] at r177
       refine wsr (om rfl rfl (om rfl rfl ?_))
       refine ov (v_neq rfl rfl) rfl ?_
       refine shO_nil ?_
       refine shW_condP rfl (fun c179 => ?_) (fun c179 => ?_)
       · have r180 := ite_t r177 c179; clear r177
         refine wsr (oa rfl rfl (shO_nil ?_))
         refine kW kn ?_
         refine shW_ret (inBlock_ret (andThen_ret (andThen_ret (inBlock_ret (andThen_ret ?_)))))
         refine q_res1 Try.results4 (res_tmp rfl) (sr) ?_
         obtain rfl := inj1 r180
         exact rfl
       have r181 := ite_f r177 c179; clear r177
       refine shW_skip (inBlock_n (id := 1) ?_)
       exact mi kr ⟨r181, hF128, rfl, (sc rfl (sc rfl (sc rfl (sc rfl (sc rfl (sc rfl (sc rfl (sc rfl (sc rfl (sn _))))))))))⟩
     rintro e1 F184 _ ⟨r182, hF185, rfl, he183⟩
     refine shW_env _ he183 ?_; clear he183
     replace hz76 := hz76.mono (slE_ok (iE_ok _)) hF185
     rw [oyezlaw07_BookCounted_j3] at r182
     refine shW_region ?_
     refine ov (v_add rfl rfl (Lst.r64 hk102 c109 (SlR.llt hz76))) rfl ?_
     refine om rfl rfl (shO_nil ?_)
     subst hn103; exact le kr ⟨_, _, rfl, hk110, r182, (hF107.trans hF185), rfl, (sc rfl (sc rfl (sc rfl (sc rfl (sc rfl (sc rfl (sc rfl (sc rfl (sc rfl (sn _))))))))))⟩
   obtain rfl := Lst.zero hk102 c109
   rw [oyezlaw07_BookCounted_l2] at r104
   refine shW_exit (andThen_exit (andThen_exit ?_))
   refine inBlock_exit ?_
   exact mi kr ⟨r104, hF107, rfl, (sc rfl (sc rfl (sc rfl (sc rfl (sc rfl (sn _))))))⟩
 rintro e1 F188 _ ⟨r186, hF189, rfl, he187⟩
 refine shW_env _ he187 ?_; clear he187
 replace h_tries := h_tries.mono (iE_ok _) hF189
 replace h60 := h60.mono (slE_ok (slE_ok (iE_ok _))) hF189
 replace h63 := h63.mono (iE_ok _) hF189
 replace h66 := h66.mono (prE_ok (iE_ok _) (prE_ok (iE_ok _) (iE_ok _))) hF189
 replace hz38 := hz38.mono (iE_ok _) hF189
 replace hz54 := hz54.mono (iE_ok _) hF189
 replace hz76 := hz76.mono (slE_ok (iE_ok _)) hF189
 rw [oyezlaw07_BookCounted_j1] at r186
 refine shW_join (fun e1 F1 L1 => oyezlaw07_BookCounted_j6 = some r ∧ FExt F188 F1 ∧ L1 = [] ∧ e1.sub []) ?_ ?_
 · refine shW_seq ?_
   refine shW_drawM [(.still, 0), (.still, 2), (.still, 3), (.still, 6), (.seq, 1), (.seq, 4), (.still, 5)] (by kernel_rfl) (by kernel_rfl) (trivial) (by rfl) (by kernel_rfl) ?_
   refine shM_v (v := .slice tries_a tries.length tries_c) (ek := [(1, .slice tries_a tries.length tries_c)]) (Ls := []) rfl rfl rfl rfl ((sc rfl (sn _))) (by kernel_rfl) sm (fun H F' L' hF' hL' => v_move rfl) ?_
   refine shM_v (v := .agg #[.int .i64 n, .int .i64 n2, .slice a17 l.length c18, .slice a23 l2.length c24, .slice a29 l3.length c30]) (ek := [(5, .pointer (some ⟨b42, 0, none⟩))]) (Ls := [(b42, .cells #[.int .i64 n, .int .i64 n2, .slice a17 l.length c18, .slice a23 l2.length c24, .slice a29 l3.length c30] 27 (0, 0))]) rfl rfl rfl rfl ((sc rfl (sn _))) (by kernel_rfl) (s0 (s2 (s3 (s3 (s3 sr))))) (fun H F' L' hF' hL' => v_loadA (cs := #[.int .i64 n, .int .i64 n2, .slice a17 l.length c18, .slice a23 l2.length c24, .slice a29 l3.length c30]) Try.isAgg27 Try.sizeOf27 rfl ((Has.own 0 rfl).ext hF' hL') (Nat.le_of_ble_eq_true rfl) rfl) ?_
   refine shM_v (v := .slice a35 n39 c36) (ek := [(6, .slice a35 n39 c36)]) (Ls := []) rfl rfl rfl rfl ((sc rfl (sn _))) (by kernel_rfl) sm (fun H F' L' hF' hL' => v_move rfl) ?_
   refine shM_v (v := .int .i64 0) (ek := []) (Ls := []) rfl rfl rfl rfl ((sn _)) (by kernel_rfl) sm (fun H F' L' hF' hL' => v_move rfl) ?_
   refine ⟨_, [(117, .slice tries_a tries.length tries_c)], rfl, rfl, (sc rfl (sn _)), by kernel_rfl, ?_⟩; intro H
   obtain ⟨metal2, at_3, turn3, h190, r191⟩ := b3_ok r186; clear r186
   refine o_call0 rfl Try.call10 rfl rfl rfl (oyezkit_Hang_w h_tries h190) ?_; rintro _ F192 _ hF193 hn194 ⟨b196, a197, c198, rfl, rfl, h199⟩
   replace h60 := h60.mono (slE_ok (slE_ok (iE_ok _))) hF193
   replace h63 := h63.mono (iE_ok _) hF193
   replace h66 := h66.mono (prE_ok (iE_ok _) (prE_ok (iE_ok _) (iE_ok _))) hF193
   replace hz38 := hz38.mono (iE_ok _) hF193
   replace hz54 := hz54.mono (iE_ok _) hF193
   replace hz76 := hz76.mono (slE_ok (iE_ok _)) hF193
   refine shO_L (lb (ln rfl)) ?_
   refine shO_nil ⟨_, rfl, hF193, [6, 3, 2], by kernel_rfl, .inl (.inr (fun d h => by cases h; rfl)), (List.forall_mem_cons.2 ⟨sm, (List.forall_mem_cons.2 ⟨sm, (List.forall_mem_cons.2 ⟨s0 (s1 (s2 (s3 (s3 (s3 sr))))), (fun _ h => absurd h List.not_mem_nil)⟩)⟩)⟩), ?_⟩
   refine ⟨_, [(118, .pointer (some ⟨b196, 0, none⟩)), (119, .agg #[.int .i64 n, .int .i64 n2, .slice a17 l.length c18, .slice a23 l2.length c24, .slice a29 l3.length c30]), (120, .slice a35 n39 c36)], rfl, rfl, (sc rfl (sc rfl (sc rfl (sn _)))), by kernel_rfl, ?_⟩; intro H
   obtain rfl := (SlR.caps hz38).1
   refine shO_freezeR (Nat.le_refl _) (iE_ok _) (fC (fC fP)) hz38 ?_; intro F200 hF201 h202
   replace h60 := h60.mono (slE_ok (slE_ok (iE_ok _))) hF201
   replace h63 := h63.mono (iE_ok _) hF201
   replace h66 := h66.mono (prE_ok (iE_ok _) (prE_ok (iE_ok _) (iE_ok _))) hF201
   replace h199 := h199.mono (iE_ok _) hF201
   replace hz54 := hz54.mono (iE_ok _) hF201
   replace hz76 := hz76.mono (slE_ok (iE_ok _)) hF201
   obtain ⟨l8, at_4, turn4, h203, r204⟩ := b3_ok r191; clear r191
   refine o_callG (Lb := [(b196, .cells #[.slice a197 metal2.length c198, .int .i64 at_3, .int .u32 turn3] 83 (0, 0))]) (Lr := (b42, .cells #[.int .i64 n, .int .i64 n2, .slice a17 l.length c18, .slice a23 l2.length c24, .slice a29 l3.length c30] 27 (0, 0)) :: (Lb53 ++ (Lb75 ++ []))) rfl Try.call21 rfl rfl rfl (pR) (oyezlaw07_tried_w h199 h60 h63 h66 h202 h203) ?_; rintro _ F205 _ hF206 hd208 hn207 ⟨a209, n213, c210, Lb211, rfl, rfl, hz212⟩
   replace hz54 := hz54.mono (iE_ok _) hF206
   replace hz76 := hz76.mono (slE_ok (iE_ok _)) hF206
   have hn215 := newp (Lb' := [(b196, .cells #[.slice a197 metal2.length c198, .int .i64 at_4, .int .u32 turn4] 83 (0, 0))]) (by rfl) hd208 hn207
   replace hz212 := hz212.new fun p hp => hn215 p (by simp [hp])
   refine shO_L (lb (lp (ln rfl))) ?_
   refine kO (kc (kf (fS fO) kr)) ?_
   refine shO_nil ⟨_, rfl, (hF201.trans hF206), [6], by kernel_rfl, .inl (.inr (fun d h => by cases h; rfl)), (List.forall_mem_cons.2 ⟨sm, (fun _ h => absurd h List.not_mem_nil)⟩), ?_⟩
   refine shM_v (v := .int .i64 (l8.length : Int)) (ek := [(121, .slice a209 n213 c210)]) (Ls := []) rfl rfl rfl rfl ((sc rfl (sn _))) (by kernel_rfl) sm (fun H F' L' hF' hL' => (v_lenS Try.underlying42 rfl).i (SlR.lenI hz212)) ?_
   refine shM_nil ?_
   refine shW_block ?_
   refine kW (kd (kd kr)) ?_
   refine shW_lp (fun fu7 e1 F1 L1 => ∃ (tl5 : List (List Int)) (k6 : Int), tl5.length = fu7 ∧ Lst l8 k6 tl5 ∧ oyezlaw07_BookCounted_l7 l5 l6 tl5 = some r ∧ F205 = F1 ∧ L1 = (Lb53 ++ (Lb75 ++ (Lb211 ++ []))) ∧ e1.sub [(9, .slice a51 n55 c52), (11, .slice a73 n77 c74), (121, .slice a209 n213 c210), (122, .int .i64 (l8.length : Int)), (123, .int .i64 k6)]) _ (m0 (kg (fS fP) (kg (fS fP) kr)) ⟨_, _, rfl, Lst.start _, r204, rfl, rfl, (sc rfl (sc rfl (sc rfl (sc rfl (sc rfl (sn _))))))⟩) ?_
   rintro fu7 e1 _ _ ⟨tl5, k6, hn217, hk216, r218, rfl, rfl, he219⟩
   refine shW_env _ he219 ?_; clear he219
   refine wsr ?_
   refine ov (v_lssK rfl rfl) rfl ?_
   refine shO_nil (shW_seq ?_)
   refine shW_condP rfl (fun c221 => ?_) (fun c221 => ?_)
   · obtain ⟨x3, tl6, rfl, hx223, g224, hk222⟩ := Lst.succ hk216 c221
     rw [oyezlaw07_BookCounted_l7] at r218
     refine shW_skip ?_
     refine shW_join (fun e1 F1 L1 => oyezlaw07_BookCounted_j8 (oyezlaw07_BookCounted_l7 l5 l6 tl6) = some r ∧ F205 = F1 ∧ L1 = (Lb53 ++ (Lb75 ++ (Lb211 ++ []))) ∧ e1.sub [(9, .slice a51 n55 c52), (11, .slice a73 n77 c74), (121, .slice a209 n213 c210), (122, .int .i64 (l8.length : Int)), (123, .int .i64 k6)]) ?_ ?_
     · refine shW_block ?_
       refine wsr ?_
       obtain ⟨b225, o226, c227, vs228, ha229, hs230, hle231, ⟨a234, c235, rfl, h236⟩, hl232, hc233⟩ := SlR.at (slE_ok (iE_ok _)) hz212 (L := Lb53 ++ (Lb75 ++ (Lb211 ++ []))) (fS (fS fP)) g224.1 hx223
       refine ov (v_indexO Try.underlying42 Try.sizeOf24 rfl ha229 rfl (SlR.idx hz212 g224)) rfl ?_
       refine ov (v_load Try.isAgg24 rfl hs230 (hc233 0 (by decide))) rfl ?_
       refine oa rfl rfl (shO_nil (shW_seq (wsr (om rfl rfl (om rfl rfl ?_)))))
       obtain ⟨n8, h237, r238⟩ := b1_ok r218; clear r218
       refine o_callT (Lt := Lb53 ++ []) (Lr := Lb75 ++ (Lb211 ++ [])) rfl Try.call22 rfl rfl rfl (pT pR (lp (ln rfl))) (fun F2 h2 h3 => by rw [(SlR.caps hz54).1]; exact slices_Compare_int_int_w (h236.mono (iE_ok _) h2) (hz54.row (iE_ok _) h2 (fun p hp => h3 p (List.mem_append_left _ hp))) h237) ?_
       refine ov (v_lssK rfl rfl) rfl ?_
       refine shO_nil ?_
       refine shW_condP rfl (fun c239 => ?_) (fun c239 => ?_)
       · have r240 := ite_t r238 c239; clear r238
         refine wsr (oa rfl rfl (shO_nil ?_))
         refine kW kn ?_
         refine shW_ret (andThen_ret (inBlock_ret (andThen_ret (andThen_ret (inBlock_ret (andThen_ret ?_))))))
         refine q_res1 Try.results4 (res_tmp rfl) (sr) ?_
         obtain rfl := inj1 r240
         exact rfl
       have r241 := ite_f r238 c239; clear r238
       refine shW_skip (wsr (om rfl rfl ?_))
       refine ov (v_lenS Try.underlying24 rfl) rfl ?_
       refine om rfl rfl (shO_nil ?_)
       refine shW_block ?_
       refine shW_lp (fun fu9 e1 F1 L1 => ∃ (tl7 : List Int) (k7 : Int), tl7.length = fu9 ∧ Lst x3 k7 tl7 ∧ oyezlaw07_BookCounted_l9 l6 (oyezlaw07_BookCounted_l7 l5 l6 tl6) tl7 k7 = some r ∧ F205 = F1 ∧ L1 = (Lb53 ++ (Lb75 ++ (Lb211 ++ []))) ∧ e1.sub [(9, .slice a51 n55 c52), (11, .slice a73 n77 c74), (121, .slice a209 n213 c210), (122, .int .i64 (l8.length : Int)), (123, .int .i64 k6), (131, .slice a234 x3.length c235), (132, .int .i64 (x3.length : Int)), (133, .int .i64 k7)]) _ (m0 kr ⟨_, _, rfl, Lst.start _, r241, rfl, rfl, (sc rfl (sc rfl (sc rfl (sc rfl (sc rfl (sc rfl (sc rfl (sc rfl (sn _)))))))))⟩) ?_
       rintro fu9 e1 _ _ ⟨tl7, k7, hn243, hk242, r244, rfl, rfl, he245⟩
       refine shW_env _ he245 ?_; clear he245
       refine wsr ?_
       refine ov (v_lssK rfl rfl) rfl ?_
       refine shO_nil (shW_seq ?_)
       refine shW_condP rfl (fun c247 => ?_) (fun c247 => ?_)
       · obtain ⟨x4, tl8, rfl, hx249, g250, hk248⟩ := Lst.succ hk242 c247
         rw [oyezlaw07_BookCounted_l9] at r244
         refine shW_skip (shW_seq ?_)
         refine shW_block ?_
         refine wsr (om rfl rfl ?_)
         obtain ⟨b251, o252, c253, vs254, ha255, hs256, hle257, rfl, hl258, hc259⟩ := RowR.at (iE_ok _) h236 (Lb53 ++ (Lb75 ++ (Lb211 ++ []))) g250.1 hx249
         refine ov (v_indexO Try.underlying24 Try.sizeOf3 rfl ha255 rfl g250) rfl ?_
         refine ov (v_load Try.isAgg3 rfl hs256 (hc259 0 (by decide))) rfl ?_
         refine oa rfl rfl (oa rfl rfl (nsr (om rfl rfl (om rfl rfl ?_))))
         obtain ⟨x5, g260, hx261, r262⟩ := ix_ok r244; clear r244
         obtain ⟨b263, o264, c265, vs266, ha267, hs268, hle269, ⟨a272, c273, rfl, h274⟩, hl270, hc271⟩ := SlR.at (slE_ok (iE_ok _)) hz76 (L := Lb53 ++ (Lb75 ++ (Lb211 ++ []))) (fS fP) g260.1 hx261
         refine ov (v_indexO Try.underlying42 Try.sizeOf24 rfl ha267 rfl (SlR.idx hz76 g260)) rfl ?_
         refine ov (v_load Try.isAgg24 rfl hs268 (hc271 0 (by decide))) rfl ?_
         refine om rfl rfl ?_
         obtain ⟨ok3, h275, r276⟩ := b1_ok r262; clear r262
         refine o_callV rfl Try.call20 rfl rfl rfl (slices_Contains_int_int_w h274 h275) ?_
         refine ov (v_notB rfl) rfl ?_
         refine shO_nil ?_
         refine shW_cond rfl (fun c277 => ?_) (fun c277 => ?_)
         · have r278 := bt r276 c277; clear r276
           refine wsr (oa rfl rfl (shO_nil ?_))
           refine kW kn ?_
           refine shW_ret (inBlock_ret (andThen_ret (andThen_ret (inBlock_ret (inBlock_ret (andThen_ret (andThen_ret (inBlock_ret (andThen_ret ?_)))))))))
           refine q_res1 Try.results4 (res_tmp rfl) (sr) ?_
           obtain rfl := inj1 r278
           exact rfl
         have r279 := bf r276 c277; clear r276
         refine shW_skip (inBlock_n (id := 7) (shW_region ?_))
         refine ov (v_add rfl rfl (Lst.r64 hk242 c247 (RowR.lt h236))) rfl ?_
         refine om rfl rfl (shO_nil ?_)
         subst hn243; exact le kr ⟨_, _, rfl, hk248, r279, rfl, rfl, (sc rfl (sc rfl (sc rfl (sc rfl (sc rfl (sc rfl (sc rfl (sc rfl (sn _)))))))))⟩
       obtain rfl := Lst.zero hk242 c247
       rw [oyezlaw07_BookCounted_l9] at r244
       refine shW_exit (andThen_exit (andThen_exit ?_))
       refine inBlock_exit ?_
       refine inBlock_n (id := 5) ?_
       exact mi kr ⟨r244, rfl, rfl, (sc rfl (sc rfl (sc rfl (sc rfl (sc rfl (sn _))))))⟩
     rintro e1 _ _ ⟨r280, rfl, rfl, he281⟩
     refine shW_env _ he281 ?_; clear he281
     rw [oyezlaw07_BookCounted_j8] at r280
     refine shW_region ?_
     refine ov (v_add rfl rfl (Lst.r64 hk216 c221 (SlR.llt hz212))) rfl ?_
     refine om rfl rfl (shO_nil ?_)
     subst hn217; exact le kr ⟨_, _, rfl, hk222, r280, rfl, rfl, (sc rfl (sc rfl (sc rfl (sc rfl (sc rfl (sn _))))))⟩
   obtain rfl := Lst.zero hk216 c221
   rw [oyezlaw07_BookCounted_l7] at r218
   refine shW_exit (andThen_exit (andThen_exit ?_))
   refine inBlock_exit ?_
   exact mi kn ⟨r218, ((hF193.trans hF201).trans hF206), rfl, (sn _)⟩
 rintro e1 F284 _ ⟨r282, hF285, rfl, he283⟩
 refine shW_env _ he283 ?_; clear he283
 rw [oyezlaw07_BookCounted_j6] at r282
 refine wsr ?_
 obtain ⟨ok4, h286, r287⟩ := b1_ok r282; clear r282
 refine o_callV rfl Try.call16 rfl rfl rfl (oyezlaw07_awake_w h286) ?_
 refine oa rfl rfl (shO_nil (shW_ret ?_))
 refine q_res1 Try.results4 (res_tmp rfl) (sr) ?_
 obtain rfl := inj1 r287
 exact rfl
end Go.Proofs.Ytodhcoakjlmcdaa
