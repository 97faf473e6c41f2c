/- The walks that this claim needs, printed by a program of mine; part 3. -/
import Derived.Test.YtodhcoakjlmcdaaZENE2
namespace Go.Proofs.Ytodhcoakjlmcdaa
open Go.SH Go.PL
set_option maxHeartbeats 1000000 in
theorem oyezlaw07_awake_w {F : FS} {r : Bool} (hr : oyezlaw07_awake = some r) :
    SpecV Try.prog 16 #[] F (.bool r) := by
 refine spec_of_shW (args := []) Try.func16 rfl Try.ntmps16 (Nat.le_of_ble_eq_true rfl) ?_
 intro K _ _; rw [oyezlaw07_awake] at hr
 refine wsr (oa rfl rfl (nsr ?_))
 obtain ⟨n, n2, l, l2, l3, h1, r2⟩ := b5_ok hr; clear hr
 refine o_call0 rfl Try.call45 rfl rfl rfl (oyezlaw07_Bell_w h1) ?_; rintro _ F3 _ hF4 hn5 ⟨a7, n11, c8, Lb9, a13, n17, c14, Lb15, a19, n23, c20, Lb21, rfl, rfl, hz10, hz16, hz22⟩
 replace hz10 := hz10.new fun p hp => hn5 p (by simp [hp])
 replace hz16 := hz16.new fun p hp => hn5 p (by simp [hp])
 replace hz22 := hz22.new fun p hp => hn5 p (by simp [hp])
 refine shO_L (lp (lp (lp (ln rfl)))) ?_
 obtain ⟨n3, n4, h25, r26⟩ := b2_ok r2; clear r2
 refine o_callT (Lt := Lb9 ++ (Lb15 ++ (Lb21 ++ []))) (Lr := []) rfl Try.call14 rfl rfl rfl (pT pR (lp (lp (lp (ln rfl))))) (fun F2 h2 h3 => by rw [(SlR.caps hz10).1]; rw [(SlR.caps hz16).1]; rw [(SlR.caps hz22).1]; exact book_Count_w (hz10.row (slE_ok (slE_ok (iE_ok _))) h2 (fun p hp => h3 p (List.mem_append_left _ hp))) (hz16.row (iE_ok _) h2 (fun p hp => h3 p (List.mem_append_right _ (List.mem_append_left _ hp)))) (hz22.row (prE_ok (iE_ok _) (prE_ok (iE_ok _) (iE_ok _))) h2 (fun p hp => h3 p (List.mem_append_right _ (List.mem_append_right _ (List.mem_append_left _ hp))))) h25) ?_
 refine om rfl rfl (ox rfl rfl rfl (ox rfl rfl rfl (oa rfl rfl (oa rfl rfl (nsr ?_)))))
 obtain ⟨n5, n6, l4, l5, l6, h27, r28⟩ := b5_ok r26; clear r26
 refine o_call0 rfl Try.call45 rfl rfl rfl (oyezlaw07_Bell_w h27) ?_; rintro _ F29 _ hF30 hn31 ⟨a33, n37, c34, Lb35, a39, n43, c40, Lb41, a45, n49, c46, Lb47, rfl, rfl, hz36, hz42, hz48⟩
 replace hz36 := hz36.new fun p hp => hn31 p (by simp [hp])
 replace hz42 := hz42.new fun p hp => hn31 p (by simp [hp])
 replace hz48 := hz48.new fun p hp => hn31 p (by simp [hp])
 refine shO_L (lp (lp (lp (ln rfl)))) ?_
 obtain ⟨l7, n7, h51, r52⟩ := b2_ok r28; clear r28
 refine o_callTO (Lb := []) (Lt := Lb35 ++ (Lb41 ++ (Lb47 ++ []))) (Lr := Lb9 ++ (Lb15 ++ (Lb21 ++ []))) rfl Try.call17 rfl rfl rfl (pT pR (ln (lp (lp (lp (ln rfl)))))) (fun F2 h2 h3 => by rw [(SlR.caps hz36).1]; rw [(SlR.caps hz42).1]; rw [(SlR.caps hz48).1]; exact book_First_w (hz36.row (slE_ok (slE_ok (iE_ok _))) h2 (fun p hp => h3 p (List.mem_append_left _ hp))) (hz42.row (iE_ok _) h2 (fun p hp => h3 p (List.mem_append_right _ (List.mem_append_left _ hp)))) (hz48.row (prE_ok (iE_ok _) (prE_ok (iE_ok _) (iE_ok _))) h2 (fun p hp => h3 p (List.mem_append_right _ (List.mem_append_right _ (List.mem_append_left _ hp))))) h51) (fun _ _ _ _ hq => by obtain ⟨a57, n61, c58, Lb59, rfl, rfl, hz60⟩ := hq; exact ⟨_, _, _, _, rfl, rfl, hz60.flat (fun _ _ h => h)⟩) ?_; rintro _ F53 _ hF54 hd56 hn55 ⟨a57, n61, c58, Lb59, rfl, rfl, hz60⟩
 have hn63 := newp (Lb' := []) (by rfl) hd56 hn55
 replace hz60 := hz60.new fun p hp => hn63 p (by simp [hp])
 refine shO_L (lp (ln (lp (lp (lp (ln rfl)))))) ?_
 refine om rfl rfl (ox rfl rfl rfl (ox rfl rfl rfl (oa rfl rfl (oa rfl rfl (nsr ?_)))))
 obtain ⟨n8, n9, l8, l9, l10, h64, r65⟩ := b5_ok r52; clear r52
 refine o_call0 rfl Try.call45 rfl rfl rfl (oyezlaw07_Bell_w h64) ?_; rintro _ F66 _ hF67 hn68 ⟨a70, n74, c71, Lb72, a76, n80, c77, Lb78, a82, n86, c83, Lb84, rfl, rfl, hz73, hz79, hz85⟩
 replace hz60 := hz60.mono (iE_ok _) hF67
 replace hz73 := hz73.new fun p hp => hn68 p (by simp [hp])
 replace hz79 := hz79.new fun p hp => hn68 p (by simp [hp])
 replace hz85 := hz85.new fun p hp => hn68 p (by simp [hp])
 refine shO_L (lp (lp (lp (ln rfl)))) ?_
 obtain rfl := (SlR.caps hz73).1
 refine shO_freezeR (Nat.le_refl _) (slE_ok (slE_ok (iE_ok _))) fP hz73 ?_; intro F88 hF89 h90
 replace hz60 := hz60.mono (iE_ok _) hF89
 replace hz79 := hz79.mono (iE_ok _) hF89
 replace hz85 := hz85.mono (prE_ok (iE_ok _) (prE_ok (iE_ok _) (iE_ok _))) hF89
 obtain rfl := (SlR.caps hz79).1
 refine shO_freezeR (Nat.le_refl _) (iE_ok _) fP hz79 ?_; intro F91 hF92 h93
 replace h90 := h90.mono (slE_ok (slE_ok (iE_ok _))) hF92
 replace hz60 := hz60.mono (iE_ok _) hF92
 replace hz85 := hz85.mono (prE_ok (iE_ok _) (prE_ok (iE_ok _) (iE_ok _))) hF92
 obtain rfl := (SlR.caps hz85).1
 refine shO_freezeR (Nat.le_refl _) (prE_ok (iE_ok _) (prE_ok (iE_ok _) (iE_ok _))) fP hz85 ?_; intro F94 hF95 h96
 replace h90 := h90.mono (slE_ok (slE_ok (iE_ok _))) hF95
 replace h93 := h93.mono (iE_ok _) hF95
 replace hz60 := hz60.mono (iE_ok _) hF95
 obtain ⟨l11, n10, h97, r98⟩ := b2_ok r65; clear r65
 refine o_call0 rfl Try.call13 rfl rfl rfl (book_Verdicts_w h90 h93 h96 h97) ?_; rintro _ F99 _ hF100 hn101 ⟨a103, c104, rfl, rfl, h105⟩
 replace hz60 := hz60.mono (iE_ok _) hF100
 refine shO_L (ln rfl) ?_
 refine om rfl rfl (ox rfl rfl rfl (ox rfl rfl rfl (oa rfl rfl (oa rfl rfl (nsr ?_)))))
 obtain ⟨n11, n12, l12, l13, l14, h106, r107⟩ := b5_ok r98; clear r98
 refine o_call0 rfl Try.call45 rfl rfl rfl (oyezlaw07_Bell_w h106) ?_; rintro _ F108 _ hF109 hn110 ⟨a112, n116, c113, Lb114, a118, n122, c119, Lb120, a124, n128, c125, Lb126, rfl, rfl, hz115, hz121, hz127⟩
 replace h105 := h105.mono (slE_ok (iE_ok _)) hF109
 replace hz60 := hz60.mono (iE_ok _) hF109
 replace hz115 := hz115.new fun p hp => hn110 p (by simp [hp])
 replace hz121 := hz121.new fun p hp => hn110 p (by simp [hp])
 replace hz127 := hz127.new fun p hp => hn110 p (by simp [hp])
 refine shO_L (lp (lp (lp (ln rfl)))) ?_
 obtain rfl := (SlR.caps hz115).1
 refine shO_freezeR (Nat.le_refl _) (slE_ok (slE_ok (iE_ok _))) fP hz115 ?_; intro F130 hF131 h132
 replace h105 := h105.mono (slE_ok (iE_ok _)) hF131
 replace hz60 := hz60.mono (iE_ok _) hF131
 replace hz121 := hz121.mono (iE_ok _) hF131
 replace hz127 := hz127.mono (prE_ok (iE_ok _) (prE_ok (iE_ok _) (iE_ok _))) hF131
 obtain rfl := (SlR.caps hz121).1
 refine shO_freezeR (Nat.le_refl _) (iE_ok _) fP hz121 ?_; intro F133 hF134 h135
 replace h105 := h105.mono (slE_ok (iE_ok _)) hF134
 replace h132 := h132.mono (slE_ok (slE_ok (iE_ok _))) hF134
 replace hz60 := hz60.mono (iE_ok _) hF134
 replace hz127 := hz127.mono (prE_ok (iE_ok _) (prE_ok (iE_ok _) (iE_ok _))) hF134
 obtain rfl := (SlR.caps hz127).1
 refine shO_freezeR (Nat.le_refl _) (prE_ok (iE_ok _) (prE_ok (iE_ok _) (iE_ok _))) fP hz127 ?_; intro F136 hF137 h138
 replace h105 := h105.mono (slE_ok (iE_ok _)) hF137
 replace h132 := h132.mono (slE_ok (slE_ok (iE_ok _))) hF137
 replace h135 := h135.mono (iE_ok _) hF137
 replace hz60 := hz60.mono (iE_ok _) hF137
 obtain ⟨l15, n13, h139, r140⟩ := b2_ok r107; clear r107
 refine o_call0 rfl Try.call15 rfl rfl rfl (book_Winds_w h132 h135 h138 h139) ?_; rintro _ F141 _ hF142 hn143 ⟨a145, n149, c146, Lb147, rfl, rfl, hz148⟩
 replace h105 := h105.mono (slE_ok (iE_ok _)) hF142
 replace hz60 := hz60.mono (iE_ok _) hF142
 replace hz148 := hz148.new fun p hp => hn143 p (by simp [hp])
 refine shO_L (lp (ln rfl)) ?_
 refine om rfl rfl (ox rfl rfl rfl (ox rfl rfl rfl (oa rfl rfl (oa rfl rfl (shO_nil (shW_seq ?_))))))
 obtain ⟨k, h151, r152⟩ := b1_ok r140; clear r140
 refine shW_join (fun e1 F1 L1 => FExt F141 F1 ∧ L1 = [] ∧ e1.sub [(73, .bool k)]) ?_ ?_
 · clear r152
   refine shW_region (om rfl rfl ?_)
   refine ov (v_neq rfl rfl) rfl ?_
   refine om rfl rfl ?_
   by_cases c153 : n4 ≠ 0
   · have r154 := ite_t h151 c153; clear h151
     refine shO_off (b' := true) 35 rfl (Env.isT rfl c153) rfl rfl (shO_off (b' := true) 35 rfl (Env.isT rfl c153) rfl rfl ?_)
     refine ov (v_pick_t (evD_true rfl c153) rfl) rfl ?_
     refine om rfl rfl (shO_off (b' := true) 39 rfl rfl rfl rfl (shO_off (b' := true) 39 rfl rfl rfl rfl ?_))
     refine ov (v_pick_t rfl rfl) rfl ?_
     refine om rfl rfl (shO_off (b' := true) 43 rfl rfl rfl rfl (shO_off (b' := true) 43 rfl rfl rfl rfl ?_))
     refine ov (v_pick_t rfl rfl) rfl ?_
     refine om rfl rfl (shO_off (b' := true) 47 rfl rfl rfl rfl (shO_off (b' := true) 47 rfl rfl rfl rfl ?_))
     refine ov (v_pick_t rfl rfl) rfl ?_
     refine om rfl rfl (shO_off (b' := true) 51 rfl rfl rfl rfl (shO_off (b' := true) 51 rfl rfl rfl rfl (shO_off (b' := true) 51 rfl rfl rfl rfl (shO_off (b' := true) 51 rfl rfl rfl rfl ?_))))
     refine ov (v_pick_t rfl rfl) rfl ?_
     refine om rfl rfl (shO_off (b' := true) 57 rfl rfl rfl rfl (shO_off (b' := true) 57 rfl rfl rfl rfl (shO_off (b' := true) 57 rfl rfl rfl rfl (shO_off (b' := true) 57 rfl rfl rfl rfl (shO_off (b' := true) 57 rfl rfl rfl rfl (shO_off (b' := true) 57 rfl rfl rfl rfl ?_))))))
     refine ov (v_pick_t rfl rfl) rfl ?_
     refine om rfl rfl (shO_off (b' := true) 65 rfl rfl rfl rfl (shO_off (b' := true) 65 rfl rfl rfl rfl (shO_off (b' := true) 65 rfl rfl rfl rfl (shO_off (b' := true) 65 rfl rfl rfl rfl (shO_off (b' := true) 65 rfl rfl rfl rfl (shO_off (b' := true) 65 rfl rfl rfl rfl (shO_off (b' := true) 65 rfl rfl rfl rfl ?_)))))))
     refine ov (v_pick_t rfl rfl) rfl ?_
     refine shO_nil ?_
     obtain rfl := inj1 r154
     exact mi kn ⟨FExt.refl _, rfl, (sc rfl (sn _))⟩
   have r155 := ite_f h151 c153; clear h151
   refine shO_on (b := false) 35 rfl (Env.isF rfl c153) (om rfl rfl (shO_on (b := false) 35 rfl (Env.isF rfl c153) ?_))
   refine ov (v_neq rfl rfl) rfl ?_
   refine ov (v_pick_f (evD_false rfl c153) rfl) rfl ?_
   refine om rfl rfl ?_
   by_cases c156 : n7 ≠ 0
   · have r157 := ite_t r155 c156; clear r155
     refine shO_off (b' := true) 39 rfl (Env.isT rfl c156) rfl rfl (shO_off (b' := true) 39 rfl (Env.isT rfl c156) rfl rfl ?_)
     refine ov (v_pick_t (evD_true rfl c156) rfl) rfl ?_
     refine om rfl rfl (shO_off (b' := true) 43 rfl rfl rfl rfl (shO_off (b' := true) 43 rfl rfl rfl rfl ?_))
     refine ov (v_pick_t rfl rfl) rfl ?_
     refine om rfl rfl (shO_off (b' := true) 47 rfl rfl rfl rfl (shO_off (b' := true) 47 rfl rfl rfl rfl ?_))
     refine ov (v_pick_t rfl rfl) rfl ?_
     refine om rfl rfl (shO_off (b' := true) 51 rfl rfl rfl rfl (shO_off (b' := true) 51 rfl rfl rfl rfl (shO_off (b' := true) 51 rfl rfl rfl rfl (shO_off (b' := true) 51 rfl rfl rfl rfl ?_))))
     refine ov (v_pick_t rfl rfl) rfl ?_
     refine om rfl rfl (shO_off (b' := true) 57 rfl rfl rfl rfl (shO_off (b' := true) 57 rfl rfl rfl rfl (shO_off (b' := true) 57 rfl rfl rfl rfl (shO_off (b' := true) 57 rfl rfl rfl rfl (shO_off (b' := true) 57 rfl rfl rfl rfl (shO_off (b' := true) 57 rfl rfl rfl rfl ?_))))))
     refine ov (v_pick_t rfl rfl) rfl ?_
     refine om rfl rfl (shO_off (b' := true) 65 rfl rfl rfl rfl (shO_off (b' := true) 65 rfl rfl rfl rfl (shO_off (b' := true) 65 rfl rfl rfl rfl (shO_off (b' := true) 65 rfl rfl rfl rfl (shO_off (b' := true) 65 rfl rfl rfl rfl (shO_off (b' := true) 65 rfl rfl rfl rfl (shO_off (b' := true) 65 rfl rfl rfl rfl ?_)))))))
     refine ov (v_pick_t rfl rfl) rfl ?_
     refine shO_nil ?_
     obtain rfl := inj1 r157
     exact mi kn ⟨FExt.refl _, rfl, (sc rfl (sn _))⟩
   have r158 := ite_f r155 c156; clear r155
   refine shO_on (b := false) 39 rfl (Env.isF rfl c156) (om rfl rfl (shO_on (b := false) 39 rfl (Env.isF rfl c156) ?_))
   refine ov (v_neq rfl rfl) rfl ?_
   refine ov (v_pick_f (evD_false rfl c156) rfl) rfl ?_
   refine om rfl rfl ?_
   by_cases c159 : n10 ≠ 0
   · have r160 := ite_t r158 c159; clear r158
     refine shO_off (b' := true) 43 rfl (Env.isT rfl c159) rfl rfl (shO_off (b' := true) 43 rfl (Env.isT rfl c159) rfl rfl ?_)
     refine ov (v_pick_t (evD_true rfl c159) rfl) rfl ?_
     refine om rfl rfl (shO_off (b' := true) 47 rfl rfl rfl rfl (shO_off (b' := true) 47 rfl rfl rfl rfl ?_))
     refine ov (v_pick_t rfl rfl) rfl ?_
     refine om rfl rfl (shO_off (b' := true) 51 rfl rfl rfl rfl (shO_off (b' := true) 51 rfl rfl rfl rfl (shO_off (b' := true) 51 rfl rfl rfl rfl (shO_off (b' := true) 51 rfl rfl rfl rfl ?_))))
     refine ov (v_pick_t rfl rfl) rfl ?_
     refine om rfl rfl (shO_off (b' := true) 57 rfl rfl rfl rfl (shO_off (b' := true) 57 rfl rfl rfl rfl (shO_off (b' := true) 57 rfl rfl rfl rfl (shO_off (b' := true) 57 rfl rfl rfl rfl (shO_off (b' := true) 57 rfl rfl rfl rfl (shO_off (b' := true) 57 rfl rfl rfl rfl ?_))))))
     refine ov (v_pick_t rfl rfl) rfl ?_
     refine om rfl rfl (shO_off (b' := true) 65 rfl rfl rfl rfl (shO_off (b' := true) 65 rfl rfl rfl rfl (shO_off (b' := true) 65 rfl rfl rfl rfl (shO_off (b' := true) 65 rfl rfl rfl rfl (shO_off (b' := true) 65 rfl rfl rfl rfl (shO_off (b' := true) 65 rfl rfl rfl rfl (shO_off (b' := true) 65 rfl rfl rfl rfl ?_)))))))
     refine ov (v_pick_t rfl rfl) rfl ?_
     refine shO_nil ?_
     obtain rfl := inj1 r160
     exact mi kn ⟨FExt.refl _, rfl, (sc rfl (sn _))⟩
   have r161 := ite_f r158 c159; clear r158
   refine shO_on (b := false) 43 rfl (Env.isF rfl c159) (om rfl rfl (shO_on (b := false) 43 rfl (Env.isF rfl c159) ?_))
   refine ov (v_neq rfl rfl) rfl ?_
   refine ov (v_pick_f (evD_false rfl c159) rfl) rfl ?_
   refine om rfl rfl ?_
   by_cases c162 : n13 ≠ 0
   · have r163 := ite_t r161 c162; clear r161
     refine shO_off (b' := true) 47 rfl (Env.isT rfl c162) rfl rfl (shO_off (b' := true) 47 rfl (Env.isT rfl c162) rfl rfl ?_)
     refine ov (v_pick_t (evD_true rfl c162) rfl) rfl ?_
     refine om rfl rfl (shO_off (b' := true) 51 rfl rfl rfl rfl (shO_off (b' := true) 51 rfl rfl rfl rfl (shO_off (b' := true) 51 rfl rfl rfl rfl (shO_off (b' := true) 51 rfl rfl rfl rfl ?_))))
     refine ov (v_pick_t rfl rfl) rfl ?_
     refine om rfl rfl (shO_off (b' := true) 57 rfl rfl rfl rfl (shO_off (b' := true) 57 rfl rfl rfl rfl (shO_off (b' := true) 57 rfl rfl rfl rfl (shO_off (b' := true) 57 rfl rfl rfl rfl (shO_off (b' := true) 57 rfl rfl rfl rfl (shO_off (b' := true) 57 rfl rfl rfl rfl ?_))))))
     refine ov (v_pick_t rfl rfl) rfl ?_
     refine om rfl rfl (shO_off (b' := true) 65 rfl rfl rfl rfl (shO_off (b' := true) 65 rfl rfl rfl rfl (shO_off (b' := true) 65 rfl rfl rfl rfl (shO_off (b' := true) 65 rfl rfl rfl rfl (shO_off (b' := true) 65 rfl rfl rfl rfl (shO_off (b' := true) 65 rfl rfl rfl rfl (shO_off (b' := true) 65 rfl rfl rfl rfl ?_)))))))
     refine ov (v_pick_t rfl rfl) rfl ?_
     refine shO_nil ?_
     obtain rfl := inj1 r163
     exact mi kn ⟨FExt.refl _, rfl, (sc rfl (sn _))⟩
   have r164 := ite_f r161 c162; clear r161
   refine shO_on (b := false) 47 rfl (Env.isF rfl c162) (om rfl rfl (shO_on (b := false) 47 rfl (Env.isF rfl c162) ?_))
   refine ov (v_neq rfl rfl) rfl ?_
   refine ov (v_pick_f (evD_false rfl c162) rfl) rfl ?_
   refine om rfl rfl ?_
   by_cases c165 : n3 ≠ 4
   · have r166 := ite_t r164 c165; clear r164
     refine shO_off (b' := true) 51 rfl (Env.isT rfl c165) rfl rfl (shO_off (b' := true) 51 rfl (Env.isT rfl c165) rfl rfl (shO_off (b' := true) 51 rfl (Env.isT rfl c165) rfl rfl (shO_off (b' := true) 51 rfl (Env.isT rfl c165) rfl rfl ?_)))
     refine ov (v_pick_t (evD_true rfl c165) rfl) rfl ?_
     refine om rfl rfl (shO_off (b' := true) 57 rfl rfl rfl rfl (shO_off (b' := true) 57 rfl rfl rfl rfl (shO_off (b' := true) 57 rfl rfl rfl rfl (shO_off (b' := true) 57 rfl rfl rfl rfl (shO_off (b' := true) 57 rfl rfl rfl rfl (shO_off (b' := true) 57 rfl rfl rfl rfl ?_))))))
     refine ov (v_pick_t rfl rfl) rfl ?_
     refine om rfl rfl (shO_off (b' := true) 65 rfl rfl rfl rfl (shO_off (b' := true) 65 rfl rfl rfl rfl (shO_off (b' := true) 65 rfl rfl rfl rfl (shO_off (b' := true) 65 rfl rfl rfl rfl (shO_off (b' := true) 65 rfl rfl rfl rfl (shO_off (b' := true) 65 rfl rfl rfl rfl (shO_off (b' := true) 65 rfl rfl rfl rfl ?_)))))))
     refine ov (v_pick_t rfl rfl) rfl ?_
     refine shO_nil ?_
     obtain rfl := inj1 r166
     exact mi kn ⟨FExt.refl _, rfl, (sc rfl (sn _))⟩
   have r167 := ite_f r164 c165; clear r164
   refine shO_on (b := false) 51 rfl (Env.isF rfl c165) (om rfl rfl (shO_on (b := false) 51 rfl (Env.isF rfl c165) ?_))
   refine o_buildSlice (cs := #[.int .i64 1, .int .i64 2, .int .i64 3]) rfl rfl (buildSlice_all slt_24 [.int .i64 1, .int .i64 2, .int .i64 3] rfl (by decide) (by simp [Value.cells]) (by decide)) ?_; intro b168 hb168
   refine shO_on (b := false) 51 rfl (Env.isF rfl c165) ?_
   refine shO_freeze 0 rfl hb168 ?_; intro F169 hF170 hz171
   refine shO_L (L' := Lb147 ++ (Lb59 ++ (Lb35 ++ (Lb41 ++ (Lb47 ++ (Lb9 ++ (Lb15 ++ (Lb21 ++ [])))))))) rfl ?_
   replace h105 := h105.mono (slE_ok (iE_ok _)) hF170
   replace hz60 := hz60.mono (iE_ok _) hF170
   replace hz148 := hz148.mono (slE_ok (iE_ok _)) hF170
   have h172 : RowR 1 (iE .i64) F169 (some ⟨b168, 0, none⟩) 3 [1, 2, 3] := RowR.of_block (iE_ok _) (vss := [[.int .i64 1], [.int .i64 2], [.int .i64 3]]) (xs := [1, 2, 3]) hz171 (.cons rfl (.cons rfl (.cons rfl .nil))) rfl (by simp [maxLen])
   obtain ⟨ok, h173, r174⟩ := b1_ok r167; clear r167
   refine o_callT (Lt := Lb59 ++ []) (Lr := Lb147 ++ (Lb35 ++ (Lb41 ++ (Lb47 ++ (Lb9 ++ (Lb15 ++ (Lb21 ++ []))))))) rfl Try.call46 rfl rfl rfl (pT ((fS fP).trans (pA pR)) (lp (ln rfl))) (fun F2 h2 h3 => by rw [(SlR.caps hz60).1]; exact oyezkit_Like_int_w (hz60.row (iE_ok _) h2 (fun p hp => h3 p (List.mem_append_left _ hp))) (h172.mono (iE_ok _) h2) h173) ?_
   refine shO_on (b := false) 51 rfl (Env.isF rfl c165) ?_
   refine ov (v_notB rfl) rfl ?_
   refine ov (v_pick_f (evD_false rfl c165) rfl) rfl ?_
   refine om rfl rfl ?_
   rcases bool_two (!ok) with c175 | c175
   · have r176 := bt r174 c175; clear r174
     refine shO_off (b' := true) 57 rfl (EnvB rfl c175) rfl rfl (shO_off (b' := true) 57 rfl (EnvB rfl c175) rfl rfl (shO_off (b' := true) 57 rfl (EnvB rfl c175) rfl rfl (shO_off (b' := true) 57 rfl (EnvB rfl c175) rfl rfl (shO_off (b' := true) 57 rfl (EnvB rfl c175) rfl rfl (shO_off (b' := true) 57 rfl (EnvB rfl c175) rfl rfl ?_)))))
     refine ov (v_pick_t (evB rfl c175) rfl) rfl ?_
     refine om rfl rfl (shO_off (b' := true) 65 rfl rfl rfl rfl (shO_off (b' := true) 65 rfl rfl rfl rfl (shO_off (b' := true) 65 rfl rfl rfl rfl (shO_off (b' := true) 65 rfl rfl rfl rfl (shO_off (b' := true) 65 rfl rfl rfl rfl (shO_off (b' := true) 65 rfl rfl rfl rfl (shO_off (b' := true) 65 rfl rfl rfl rfl ?_)))))))
     refine ov (v_pick_t rfl rfl) rfl ?_
     refine shO_nil ?_
     obtain rfl := inj1 r176
     exact mi kn ⟨hF170, rfl, (sc rfl (sn _))⟩
   have r177 := bf r174 c175; clear r174
   refine shO_on (b := false) 57 rfl (EnvB rfl c175) (om rfl rfl (shO_on (b := false) 57 rfl (EnvB rfl c175) ?_))
   refine o_buildSlice (cs := #[.int .i64 0]) rfl rfl (buildSlice_all slt_47 [.int .i64 0] rfl (by decide) (by simp [Value.cells]) (by decide)) ?_; intro b178 hb178
   refine shO_on (b := false) 57 rfl (EnvB rfl c175) ?_
   refine o_buildSlice (cs := #[.int .i64 1]) rfl rfl (buildSlice_all slt_47 [.int .i64 1] rfl (by decide) (by simp [Value.cells]) (by decide)) ?_; intro b179 hb179
   refine shO_on (b := false) 57 rfl (EnvB rfl c175) ?_
   refine o_buildSlice (cs := #[.slice (some ⟨b178, 0, none⟩) 1 1, .slice (some ⟨b179, 0, none⟩) 1 1]) rfl rfl (buildSlice_all slt_36 [.slice (some ⟨b178, 0, none⟩) 1 1, .slice (some ⟨b179, 0, none⟩) 1 1] rfl (by decide) (by simp [Value.cells]) (by decide)) ?_; intro b180 hb180
   refine shO_on (b := false) 57 rfl (EnvB rfl c175) ?_
   refine shO_freeze 2 rfl hb178 ?_; intro F181 hF182 hz183
   refine shO_L (L' := (b180, .cells #[.slice (some ⟨b178, 0, none⟩) 1 1, .slice (some ⟨b179, 0, none⟩) 1 1] 47 (0, 0)) :: ((b179, .cells #[.int .i64 1] 48 (0, 0)) :: (Lb147 ++ (Lb59 ++ (Lb35 ++ (Lb41 ++ (Lb47 ++ (Lb9 ++ (Lb15 ++ (Lb21 ++ [])))))))))) rfl ?_
   replace h105 := h105.mono (slE_ok (iE_ok _)) hF182
   replace hz148 := hz148.mono (slE_ok (iE_ok _)) hF182
   have h184 : RowR 1 (iE .i64) F181 (some ⟨b178, 0, none⟩) 1 [0] := RowR.of_block (iE_ok _) (vss := [[.int .i64 0]]) (xs := [0]) hz183 (.cons rfl .nil) rfl (by simp [maxLen])
   refine shO_freeze 1 rfl hb179 ?_; intro F185 hF186 hz187
   refine shO_L (L' := (b180, .cells (#[.slice (some ⟨b178, 0, none⟩) [0].length 1, .slice (some ⟨b179, 0, none⟩) 1 1]) 47 (0, 0)) :: (Lb147 ++ (Lb59 ++ (Lb35 ++ (Lb41 ++ (Lb47 ++ (Lb9 ++ (Lb15 ++ (Lb21 ++ []))))))))) rfl ?_
   replace h105 := h105.mono (slE_ok (iE_ok _)) hF186
   replace h184 := h184.mono (iE_ok _) hF186
   replace hz148 := hz148.mono (slE_ok (iE_ok _)) hF186
   have h188 : RowR 1 (iE .i64) F185 (some ⟨b179, 0, none⟩) 1 [1] := RowR.of_block (iE_ok _) (vss := [[.int .i64 1]]) (xs := [1]) hz187 (.cons rfl .nil) rfl (by simp [maxLen])
   refine shO_freeze 0 rfl hb180 ?_; intro F189 hF190 hz191
   refine shO_L (L' := Lb147 ++ (Lb59 ++ (Lb35 ++ (Lb41 ++ (Lb47 ++ (Lb9 ++ (Lb15 ++ (Lb21 ++ [])))))))) rfl ?_
   replace h105 := h105.mono (slE_ok (iE_ok _)) hF190
   replace h184 := h184.mono (iE_ok _) hF190
   replace h188 := h188.mono (iE_ok _) hF190
   replace hz148 := hz148.mono (slE_ok (iE_ok _)) hF190
   have h192 : RowR 1 (slE 1 (iE .i64)) F189 (some ⟨b180, 0, none⟩) 2 [[0], [1]] := RowR.of_block (slE_ok (iE_ok _)) (vss := [[.slice (some ⟨b178, 0, none⟩) [0].length 1], [.slice (some ⟨b179, 0, none⟩) [1].length 1]]) (xs := [[0], [1]]) hz191 (.cons ⟨_, _, rfl, h184⟩ (.cons ⟨_, _, rfl, h188⟩ .nil)) rfl (by simp [maxLen])
   obtain ⟨ok2, h193, r194⟩ := b1_ok r177; clear r177
   refine o_callV rfl Try.call33 rfl rfl rfl (oyezkit_LikeRows_Verdict_w h105 h192 h193) ?_
   refine shO_on (b := false) 57 rfl (EnvB rfl c175) ?_
   refine ov (v_notB rfl) rfl ?_
   refine ov (v_pick_f (evB rfl c175) rfl) rfl ?_
   refine om rfl rfl ?_
   rcases bool_two (!ok2) with c195 | c195
   · have r196 := bt r194 c195; clear r194
     refine shO_off (b' := true) 65 rfl (EnvB rfl c195) rfl rfl (shO_off (b' := true) 65 rfl (EnvB rfl c195) rfl rfl (shO_off (b' := true) 65 rfl (EnvB rfl c195) rfl rfl (shO_off (b' := true) 65 rfl (EnvB rfl c195) rfl rfl (shO_off (b' := true) 65 rfl (EnvB rfl c195) rfl rfl (shO_off (b' := true) 65 rfl (EnvB rfl c195) rfl rfl (shO_off (b' := true) 65 rfl (EnvB rfl c195) rfl rfl ?_))))))
     refine ov (v_pick_t (evB rfl c195) rfl) rfl ?_
     refine shO_nil ?_
     obtain rfl := inj1 r196
     exact mi kn ⟨(((hF170.trans hF182).trans hF186).trans hF190), rfl, (sc rfl (sn _))⟩
   have r197 := bf r194 c195; clear r194
   refine shO_on (b := false) 65 rfl (EnvB rfl c195) (om rfl rfl (shO_on (b := false) 65 rfl (EnvB rfl c195) ?_))
   refine o_buildSlice (cs := #[.int .i64 1, .int .i64 2]) rfl rfl (buildSlice_all slt_24 [.int .i64 1, .int .i64 2] rfl (by decide) (by simp [Value.cells]) (by decide)) ?_; intro b198 hb198
   refine shO_on (b := false) 65 rfl (EnvB rfl c195) ?_
   refine o_buildSlice (cs := #[.int .i64 2, .int .i64 3]) rfl rfl (buildSlice_all slt_24 [.int .i64 2, .int .i64 3] rfl (by decide) (by simp [Value.cells]) (by decide)) ?_; intro b199 hb199
   refine shO_on (b := false) 65 rfl (EnvB rfl c195) ?_
   refine o_buildSlice (cs := #[.int .i64 3, .int .i64 4]) rfl rfl (buildSlice_all slt_24 [.int .i64 3, .int .i64 4] rfl (by decide) (by simp [Value.cells]) (by decide)) ?_; intro b200 hb200
   refine shO_on (b := false) 65 rfl (EnvB rfl c195) ?_
   refine o_buildSlice (cs := #[.slice (some ⟨b198, 0, none⟩) 2 2, .slice (some ⟨b199, 0, none⟩) 2 2, .slice (some ⟨b200, 0, none⟩) 2 2]) rfl rfl (buildSlice_all slt_42 [.slice (some ⟨b198, 0, none⟩) 2 2, .slice (some ⟨b199, 0, none⟩) 2 2, .slice (some ⟨b200, 0, none⟩) 2 2] rfl (by decide) (by simp [Value.cells]) (by decide)) ?_; intro b201 hb201
   refine shO_on (b := false) 65 rfl (EnvB rfl c195) ?_
   refine shO_freeze 3 rfl hb198 ?_; intro F202 hF203 hz204
   refine shO_L (L' := (b201, .cells #[.slice (some ⟨b198, 0, none⟩) 2 2, .slice (some ⟨b199, 0, none⟩) 2 2, .slice (some ⟨b200, 0, none⟩) 2 2] 24 (0, 0)) :: ((b200, .cells #[.int .i64 3, .int .i64 4] 3 (0, 0)) :: ((b199, .cells #[.int .i64 2, .int .i64 3] 3 (0, 0)) :: (Lb147 ++ (Lb59 ++ (Lb35 ++ (Lb41 ++ (Lb47 ++ (Lb9 ++ (Lb15 ++ (Lb21 ++ []))))))))))) rfl ?_
   replace hz148 := hz148.mono (slE_ok (iE_ok _)) hF203
   have h205 : RowR 1 (iE .i64) F202 (some ⟨b198, 0, none⟩) 2 [1, 2] := RowR.of_block (iE_ok _) (vss := [[.int .i64 1], [.int .i64 2]]) (xs := [1, 2]) hz204 (.cons rfl (.cons rfl .nil)) rfl (by simp [maxLen])
   refine shO_freeze 2 rfl hb199 ?_; intro F206 hF207 hz208
   refine shO_L (L' := (b201, .cells (#[.slice (some ⟨b198, 0, none⟩) [1, 2].length 2, .slice (some ⟨b199, 0, none⟩) 2 2, .slice (some ⟨b200, 0, none⟩) 2 2]) 24 (0, 0)) :: ((b200, .cells #[.int .i64 3, .int .i64 4] 3 (0, 0)) :: (Lb147 ++ (Lb59 ++ (Lb35 ++ (Lb41 ++ (Lb47 ++ (Lb9 ++ (Lb15 ++ (Lb21 ++ [])))))))))) rfl ?_
   replace h205 := h205.mono (iE_ok _) hF207
   replace hz148 := hz148.mono (slE_ok (iE_ok _)) hF207
   have h209 : RowR 1 (iE .i64) F206 (some ⟨b199, 0, none⟩) 2 [2, 3] := RowR.of_block (iE_ok _) (vss := [[.int .i64 2], [.int .i64 3]]) (xs := [2, 3]) hz208 (.cons rfl (.cons rfl .nil)) rfl (by simp [maxLen])
   refine shO_freeze 1 rfl hb200 ?_; intro F210 hF211 hz212
   refine shO_L (L' := (b201, .cells (#[.slice (some ⟨b198, 0, none⟩) [1, 2].length 2, .slice (some ⟨b199, 0, none⟩) [2, 3].length 2, .slice (some ⟨b200, 0, none⟩) 2 2]) 24 (0, 0)) :: (Lb147 ++ (Lb59 ++ (Lb35 ++ (Lb41 ++ (Lb47 ++ (Lb9 ++ (Lb15 ++ (Lb21 ++ []))))))))) rfl ?_
   replace h205 := h205.mono (iE_ok _) hF211
   replace h209 := h209.mono (iE_ok _) hF211
   replace hz148 := hz148.mono (slE_ok (iE_ok _)) hF211
   have h213 : RowR 1 (iE .i64) F210 (some ⟨b200, 0, none⟩) 2 [3, 4] := RowR.of_block (iE_ok _) (vss := [[.int .i64 3], [.int .i64 4]]) (xs := [3, 4]) hz212 (.cons rfl (.cons rfl .nil)) rfl (by simp [maxLen])
   refine shO_freeze 0 rfl hb201 ?_; intro F214 hF215 hz216
   refine shO_L (L' := Lb147 ++ (Lb59 ++ (Lb35 ++ (Lb41 ++ (Lb47 ++ (Lb9 ++ (Lb15 ++ (Lb21 ++ [])))))))) rfl ?_
   replace h205 := h205.mono (iE_ok _) hF215
   replace h209 := h209.mono (iE_ok _) hF215
   replace h213 := h213.mono (iE_ok _) hF215
   replace hz148 := hz148.mono (slE_ok (iE_ok _)) hF215
   have h217 : RowR 1 (slE 1 (iE .i64)) F214 (some ⟨b201, 0, none⟩) 3 [[1, 2], [2, 3], [3, 4]] := RowR.of_block (slE_ok (iE_ok _)) (vss := [[.slice (some ⟨b198, 0, none⟩) [1, 2].length 2], [.slice (some ⟨b199, 0, none⟩) [2, 3].length 2], [.slice (some ⟨b200, 0, none⟩) [3, 4].length 2]]) (xs := [[1, 2], [2, 3], [3, 4]]) hz216 (.cons ⟨_, _, rfl, h205⟩ (.cons ⟨_, _, rfl, h209⟩ (.cons ⟨_, _, rfl, h213⟩ .nil))) rfl (by simp [maxLen])
   obtain ⟨ok3, h218, r219⟩ := b1_ok r197; clear r197
   refine o_callT (Lt := Lb147 ++ []) (Lr := Lb59 ++ (Lb35 ++ (Lb41 ++ (Lb47 ++ (Lb9 ++ (Lb15 ++ (Lb21 ++ []))))))) rfl Try.call47 rfl rfl rfl (pT pR (lp (ln rfl))) (fun F2 h2 h3 => by rw [(SlR.caps hz148).1]; exact oyezkit_LikeRows_int_w (hz148.row (slE_ok (iE_ok _)) h2 (fun p hp => h3 p (List.mem_append_left _ hp))) (h217.mono (slE_ok (iE_ok _)) h2) h218) ?_
   refine shO_on (b := false) 65 rfl (EnvB rfl c195) ?_
   refine ov (v_notB rfl) rfl ?_
   refine ov (v_pick_f (evB rfl c195) rfl) rfl ?_
   refine shO_nil ?_
   obtain rfl := inj1 r219
   exact mi kn ⟨(((((((hF170.trans hF182).trans hF186).trans hF190).trans hF203).trans hF207).trans hF211).trans hF215), rfl, (sc rfl (sn _))⟩
 rintro e1 F221 _ ⟨hF222, rfl, he220⟩
 refine shW_env _ he220 ?_; clear he220
 refine shW_cond rfl (fun c223 => ?_) (fun c223 => ?_)
 · have r224 := bt r152 c223; clear r152
   refine wsr (oa rfl rfl (shO_nil (shW_ret (andThen_ret ?_))))
   refine q_res1 Try.results16 (res_tmp rfl) (sr) ?_
   obtain rfl := inj1 r224
   exact rfl
 have r225 := bf r152 c223; clear r152
 refine shW_skip (wsr ?_)
 refine ov (v_build (v := .agg #[.int .i64 0, .int .i64 0, .bool true]) rfl (by intro w; kernel_rfl)) rfl ?_
 refine ov (v_build (v := .agg #[.int .i64 0, .int .i64 0, .bool false]) rfl (by intro w; kernel_rfl)) rfl ?_
 refine o_buildSlice (cs := #[.int .i64 0, .int .i64 0, .bool true, .int .i64 0, .int .i64 0, .bool false]) rfl rfl (buildSlice_all slt_105 [.agg #[.int .i64 0, .int .i64 0, .bool true], .agg #[.int .i64 0, .int .i64 0, .bool false]] rfl (by decide) (by simp [Value.cells]) (by decide)) ?_; intro b226 hb226
 have hz228 : SlR K.w0.heap.size 77 3 (prE (iE .i64) (prE (iE .i64) bE)) F221 (some ⟨b226, 0, none⟩) 2 2 [(0, 0, true), (0, 0, false)] [(b226, .cells #[.int .i64 0, .int .i64 0, .bool true, .int .i64 0, .int .i64 0, .bool false] 77 (0, 0))] := SlR.of_block (vss := [[.int .i64 0, .int .i64 0, .bool true], [.int .i64 0, .int .i64 0, .bool false]]) (prE_ok (iE_ok _) (prE_ok (iE_ok _) bE_ok)) hb226 (.cons ⟨_, _, rfl, rfl, ⟨_, _, rfl, rfl, rfl⟩⟩ (.cons ⟨_, _, rfl, rfl, ⟨_, _, rfl, rfl, rfl⟩⟩ .nil)) rfl rfl (by simp [maxLen])
 generalize hLLb227 : ([(b226, .cells #[.int .i64 0, .int .i64 0, .bool true, .int .i64 0, .int .i64 0, .bool false] 77 (0, 0))] : LH) = Lb227 at hz228
 refine shO_perm (L' := Lb227 ++ []) (by rw [← hLLb227]; exact fO) ?_
 refine oa rfl rfl (nsr ?_)
 obtain ⟨n14, n15, l16, l17, l18, h230, r231⟩ := b5_ok r225; clear r225
 refine o_call0 rfl Try.call45 rfl rfl rfl (oyezlaw07_Bell_w h230) ?_; rintro _ F232 _ hF233 hn234 ⟨a236, n240, c237, Lb238, a242, n246, c243, Lb244, a248, n252, c249, Lb250, rfl, rfl, hz239, hz245, hz251⟩
 replace hz228 := hz228.mono (prE_ok (iE_ok _) (prE_ok (iE_ok _) bE_ok)) hF233
 replace hz239 := hz239.new fun p hp => hn234 p (by simp [hp])
 replace hz245 := hz245.new fun p hp => hn234 p (by simp [hp])
 replace hz251 := hz251.new fun p hp => hn234 p (by simp [hp])
 refine shO_L (lp (lp (lp (ln rfl)))) ?_
 refine om rfl rfl ?_
 obtain ⟨l19, n16, h254, r255⟩ := b2_ok r231; clear r231
 refine o_callTO (Lb := []) (Lt := Lb238 ++ (Lb244 ++ (Lb250 ++ (Lb227 ++ [])))) (Lr := []) rfl Try.call48 rfl rfl rfl (pT pR (ln (lp (lp (lp (lp (ln rfl))))))) (fun F2 h2 h3 => by rw [(SlR.caps hz239).1]; rw [(SlR.caps hz245).1]; rw [(SlR.caps hz251).1]; rw [(SlR.caps hz228).1]; exact book_Fewest_w (hz239.row (slE_ok (slE_ok (iE_ok _))) h2 (fun p hp => h3 p (List.mem_append_left _ hp))) (hz245.row (iE_ok _) h2 (fun p hp => h3 p (List.mem_append_right _ (List.mem_append_left _ hp)))) (hz251.row (prE_ok (iE_ok _) (prE_ok (iE_ok _) (iE_ok _))) h2 (fun p hp => h3 p (List.mem_append_right _ (List.mem_append_right _ (List.mem_append_left _ hp))))) (hz228.row (prE_ok (iE_ok _) (prE_ok (iE_ok _) bE_ok)) h2 (fun p hp => h3 p (List.mem_append_right _ (List.mem_append_right _ (List.mem_append_right _ (List.mem_append_left _ hp)))))) h254) (fun _ _ _ _ hq => by obtain ⟨a260, n264, c261, Lb262, rfl, rfl, hz263⟩ := hq; exact ⟨_, _, _, _, rfl, rfl, hz263.flat (fun _ _ h => h)⟩) ?_; rintro _ F256 _ hF257 hd259 hn258 ⟨a260, n264, c261, Lb262, rfl, rfl, hz263⟩
 replace hz228 := hz228.mono (prE_ok (iE_ok _) (prE_ok (iE_ok _) bE_ok)) hF257
 have hn266 := newp (Lb' := []) (by rfl) hd259 hn258
 replace hz263 := hz263.new fun p hp => hn266 p (by simp [hp])
 refine shO_L (lp (ln (lp (lp (lp (lp (ln rfl))))))) ?_
 refine om rfl rfl (ox rfl rfl rfl (ox rfl rfl rfl (oa rfl rfl (oa rfl rfl (nsr ?_)))))
 obtain ⟨n17, n18, l20, l21, l22, h267, r268⟩ := b5_ok r255; clear r255
 refine o_call0 rfl Try.call45 rfl rfl rfl (oyezlaw07_Bell_w h267) ?_; rintro _ F269 _ hF270 hn271 ⟨a273, n277, c274, Lb275, a279, n283, c280, Lb281, a285, n289, c286, Lb287, rfl, rfl, hz276, hz282, hz288⟩
 replace hz228 := hz228.mono (prE_ok (iE_ok _) (prE_ok (iE_ok _) bE_ok)) hF270
 replace hz263 := hz263.mono (iE_ok _) hF270
 replace hz276 := hz276.new fun p hp => hn271 p (by simp [hp])
 replace hz282 := hz282.new fun p hp => hn271 p (by simp [hp])
 replace hz288 := hz288.new fun p hp => hn271 p (by simp [hp])
 refine shO_L (lp (lp (lp (ln rfl)))) ?_
 refine ov (v_build (v := .agg #[.int .i64 1, .int .i64 0, .bool false]) rfl (by intro w; kernel_rfl)) rfl ?_
 obtain ⟨ok4, n19, h291, r292⟩ := b2_ok r268; clear r268
 refine o_callT (Lt := Lb275 ++ (Lb281 ++ (Lb287 ++ []))) (Lr := Lb262 ++ (Lb238 ++ (Lb244 ++ (Lb250 ++ (Lb227 ++ []))))) rfl Try.call35 rfl rfl rfl (pT pR (lp (lp (lp (ln rfl))))) (fun F2 h2 h3 => by rw [(SlR.caps hz276).1]; rw [(SlR.caps hz282).1]; rw [(SlR.caps hz288).1]; exact book_Refuted_w (hz276.row (slE_ok (slE_ok (iE_ok _))) h2 (fun p hp => h3 p (List.mem_append_left _ hp))) (hz282.row (iE_ok _) h2 (fun p hp => h3 p (List.mem_append_right _ (List.mem_append_left _ hp)))) (hz288.row (prE_ok (iE_ok _) (prE_ok (iE_ok _) (iE_ok _))) h2 (fun p hp => h3 p (List.mem_append_right _ (List.mem_append_right _ (List.mem_append_left _ hp))))) h291) ?_
 refine om rfl rfl (ox rfl rfl rfl (ox rfl rfl rfl (oa rfl rfl (oa rfl rfl (shO_nil (shW_seq ?_))))))
 refine shW_drawM [(.still, 1), (.still, 2), (.still, 3), (.seq, 0), (.seq, 4), (.still, 5), (.still, 6), (.still, 7), (.still, 8), (.still, 9)] (by kernel_rfl) (by kernel_rfl) (trivial) (by rfl) (by kernel_rfl) ?_
 refine shM_v (v := .slice (some ⟨b226, 0, none⟩) 2 2) (ek := [(9, .slice (some ⟨b226, 0, none⟩) 2 2)]) (Ls := []) rfl rfl rfl rfl ((sc rfl (sn _))) (by kernel_rfl) sm (fun H F' L' hF' hL' => v_move rfl) ?_
 obtain ⟨x, g293, hx294, r295⟩ := ix_ok r292; clear r292
 obtain ⟨b296, o297, c298, vs299, ha300, hs301, hle302, ⟨_, _, rfl, rfl, ⟨_, _, rfl, rfl, rfl⟩⟩, hl303, hc304⟩ := SlR.at (prE_ok (iE_ok _) (prE_ok (iE_ok _) bE_ok)) hz228 (L := Lb227 ++ []) fP g293.1 hx294
 refine shM_v (v := .pointer (some ⟨b296, o297 + (0 : Int).toNat * 3, none⟩)) (ek := [(91, .slice (some ⟨b226, 0, none⟩) 2 2)]) (Ls := []) rfl rfl rfl rfl ((sc rfl (sn _))) (by kernel_rfl) sm (fun H F' L' hF' hL' => v_indexO Try.underlying105 Try.sizeOf77 rfl ha300 rfl (SlR.idx hz228 g293)) ?_
 refine shM_v (v := .agg #[.int .i64 x.1, .int .i64 x.2.1, .bool x.2.2]) (ek := [(92, .pointer (some ⟨b296, o297 + (0 : Int).toNat * 3, none⟩))]) (Ls := Lb227 ++ []) rfl rfl rfl rfl ((sc rfl (sn _))) (by kernel_rfl) (s0 (s3 (s3 (s3 (s3 (s3 (s3 (s3 (s4 sr))))))))) (fun H F' L' hF' hL' => v_loadA (cs := #[.int .i64 x.1, .int .i64 x.2.1, .bool x.2.2]) Try.isAgg77 Try.sizeOf77 rfl (hs301.ext hF' hL') hle302 (extract_cells hle302 hl303 hc304)) ?_
 refine ⟨_, [], rfl, rfl, (sn _), by kernel_rfl, ?_⟩; intro H
 obtain ⟨n20, n21, l23, l24, l25, h305, r306⟩ := b5_ok r295; clear r295
 refine o_call0 rfl Try.call45 rfl rfl rfl (oyezlaw07_Bell_w h305) ?_; rintro _ F307 _ hF308 hn309 ⟨a311, n315, c312, Lb313, a317, n321, c318, Lb319, a323, n327, c324, Lb325, rfl, rfl, hz314, hz320, hz326⟩
 replace hz263 := hz263.mono (iE_ok _) hF308
 replace hz314 := hz314.new fun p hp => hn309 p (by simp [hp])
 replace hz320 := hz320.new fun p hp => hn309 p (by simp [hp])
 replace hz326 := hz326.new fun p hp => hn309 p (by simp [hp])
 refine shO_L (lp (lp (lp (ln rfl)))) ?_
 refine shO_nil ⟨_, rfl, hF308, [3, 2, 1], by kernel_rfl, .inl (.inr (fun d h => by cases h; rfl)), (List.forall_mem_cons.2 ⟨s0 (s3 (s3 (s3 (s3 (s3 (s3 (s3 (s3 (s3 (s3 (s4 sr))))))))))), (List.forall_mem_cons.2 ⟨sm, (List.forall_mem_cons.2 ⟨sm, (fun _ h => absurd h List.not_mem_nil)⟩)⟩)⟩), ?_⟩
 refine ⟨_, [(90, .agg #[.int .i64 n20, .int .i64 n21, .slice a311 n315 c312, .slice a317 n321 c318, .slice a323 n327 c324]), (93, .agg #[.int .i64 x.1, .int .i64 x.2.1, .bool x.2.2])], rfl, rfl, (sc rfl (sc rfl (sn _))), by kernel_rfl, ?_⟩; intro H
 obtain rfl := (SlR.caps hz314).1
 refine shO_freezeR (Nat.le_refl _) (slE_ok (slE_ok (iE_ok _))) fP hz314 ?_; intro F329 hF330 h331
 replace hz263 := hz263.mono (iE_ok _) hF330
 replace hz320 := hz320.mono (iE_ok _) hF330
 replace hz326 := hz326.mono (prE_ok (iE_ok _) (prE_ok (iE_ok _) (iE_ok _))) hF330
 obtain rfl := (SlR.caps hz320).1
 refine shO_freezeR (Nat.le_refl _) (iE_ok _) fP hz320 ?_; intro F332 hF333 h334
 replace h331 := h331.mono (slE_ok (slE_ok (iE_ok _))) hF333
 replace hz263 := hz263.mono (iE_ok _) hF333
 replace hz326 := hz326.mono (prE_ok (iE_ok _) (prE_ok (iE_ok _) (iE_ok _))) hF333
 obtain rfl := (SlR.caps hz326).1
 refine shO_freezeR (Nat.le_refl _) (prE_ok (iE_ok _) (prE_ok (iE_ok _) (iE_ok _))) fP hz326 ?_; intro F335 hF336 h337
 replace h331 := h331.mono (slE_ok (slE_ok (iE_ok _))) hF336
 replace h334 := h334.mono (iE_ok _) hF336
 replace hz263 := hz263.mono (iE_ok _) hF336
 obtain ⟨l26, n22, h338, r339⟩ := b2_ok r306; clear r306
 refine o_call0 rfl Try.call36 rfl rfl rfl (book_Witness_w h331 h334 h337 h338) ?_; rintro _ F340 _ hF341 hn342 ⟨a344, c345, rfl, rfl, h346⟩
 replace hz263 := hz263.mono (iE_ok _) hF341
 refine shO_L (ln rfl) ?_
 refine shO_nil ⟨_, rfl, (((hF330.trans hF333).trans hF336).trans hF341), [], by kernel_rfl, .inl (.inl rfl), (fun _ h => absurd h List.not_mem_nil), ?_⟩
 refine shM_v (v := .tuple #[.slice a344 l26.length c345, .int .i64 n22]) (ek := [(94, .tuple #[.slice a344 l26.length c345, .int .i64 n22])]) (Ls := []) rfl rfl rfl rfl ((sc rfl (sn _))) (by kernel_rfl) sm (fun H F' L' hF' hL' => v_move rfl) ?_
 refine shM_v (v := .slice a344 l26.length c345) (ek := [(89, .tuple #[.slice a344 l26.length c345, .int .i64 n22])]) (Ls := []) rfl rfl rfl rfl ((sc rfl (sn _))) (by kernel_rfl) sm (fun H F' L' hF' hL' => v_extract rfl rfl) ?_
 refine shM_v (v := .int .i64 n22) (ek := [(89, .tuple #[.slice a344 l26.length c345, .int .i64 n22])]) (Ls := []) rfl rfl rfl rfl ((sc rfl (sn _))) (by kernel_rfl) sm (fun H F' L' hF' hL' => v_extract rfl rfl) ?_
 refine shM_v (v := .slice a344 l26.length c345) (ek := [(95, .slice a344 l26.length c345)]) (Ls := []) rfl rfl rfl rfl ((sc rfl (sn _))) (by kernel_rfl) sm (fun H F' L' hF' hL' => v_assign rfl) ?_
 refine shM_v (v := .int .i64 n22) (ek := [(96, .int .i64 n22)]) (Ls := []) rfl rfl rfl rfl ((sc rfl (sn _))) (by kernel_rfl) sm (fun H F' L' hF' hL' => v_assign rfl) ?_
 refine shM_nil ?_
 refine wsr ?_
 obtain ⟨n23, n24, l27, l28, l29, h347, r348⟩ := b5_ok r339; clear r339
 refine o_call0 rfl Try.call45 rfl rfl rfl (oyezlaw07_Bell_w h347) ?_; rintro _ F349 _ hF350 hn351 ⟨a353, n357, c354, Lb355, a359, n363, c360, Lb361, a365, n369, c366, Lb367, rfl, rfl, hz356, hz362, hz368⟩
 replace h346 := h346.mono (iE_ok _) hF350
 replace hz263 := hz263.mono (iE_ok _) hF350
 replace hz356 := hz356.new fun p hp => hn351 p (by simp [hp])
 replace hz362 := hz362.new fun p hp => hn351 p (by simp [hp])
 replace hz368 := hz368.new fun p hp => hn351 p (by simp [hp])
 refine shO_L (lp (lp (lp (ln rfl)))) ?_
 refine o_buildSlice (cs := #[.int .i64 0]) rfl rfl (buildSlice_all slt_24 [.int .i64 0] rfl (by decide) (by simp [Value.cells]) (by decide)) ?_; intro b371 hb371
 obtain rfl := (SlR.caps hz356).1
 refine shO_freezeR (Nat.le_refl _) (slE_ok (slE_ok (iE_ok _))) (fC fP) hz356 ?_; intro F372 hF373 h374
 replace h346 := h346.mono (iE_ok _) hF373
 replace hz263 := hz263.mono (iE_ok _) hF373
 replace hz362 := hz362.mono (iE_ok _) hF373
 replace hz368 := hz368.mono (prE_ok (iE_ok _) (prE_ok (iE_ok _) (iE_ok _))) hF373
 obtain rfl := (SlR.caps hz362).1
 refine shO_freezeR (Nat.le_refl _) (iE_ok _) (fC fP) hz362 ?_; intro F375 hF376 h377
 replace h346 := h346.mono (iE_ok _) hF376
 replace h374 := h374.mono (slE_ok (slE_ok (iE_ok _))) hF376
 replace hz263 := hz263.mono (iE_ok _) hF376
 replace hz368 := hz368.mono (prE_ok (iE_ok _) (prE_ok (iE_ok _) (iE_ok _))) hF376
 obtain rfl := (SlR.caps hz368).1
 refine shO_freezeR (Nat.le_refl _) (prE_ok (iE_ok _) (prE_ok (iE_ok _) (iE_ok _))) (fC fP) hz368 ?_; intro F378 hF379 h380
 replace h346 := h346.mono (iE_ok _) hF379
 replace h374 := h374.mono (slE_ok (slE_ok (iE_ok _))) hF379
 replace h377 := h377.mono (iE_ok _) hF379
 replace hz263 := hz263.mono (iE_ok _) hF379
 refine shO_freeze 0 rfl hb371 ?_; intro F381 hF382 hz383
 refine shO_L (L' := Lb275 ++ (Lb281 ++ (Lb287 ++ (Lb262 ++ (Lb238 ++ (Lb244 ++ (Lb250 ++ (Lb227 ++ [])))))))) rfl ?_
 replace h346 := h346.mono (iE_ok _) hF382
 replace h374 := h374.mono (slE_ok (slE_ok (iE_ok _))) hF382
 replace h377 := h377.mono (iE_ok _) hF382
 replace h380 := h380.mono (prE_ok (iE_ok _) (prE_ok (iE_ok _) (iE_ok _))) hF382
 replace hz263 := hz263.mono (iE_ok _) hF382
 have h384 : RowR 1 (iE .i64) F381 (some ⟨b371, 0, none⟩) 1 [0] := RowR.of_block (iE_ok _) (vss := [[.int .i64 0]]) (xs := [0]) hz383 (.cons rfl .nil) rfl (by simp [maxLen])
 obtain ⟨l30, n25, h385, r386⟩ := b2_ok r348; clear r348
 refine o_call0 rfl Try.call24 rfl rfl rfl (book_Again_w h374 h377 h380 h384 h385) ?_; rintro _ F387 _ hF388 hn389 ⟨a391, c392, rfl, rfl, h393⟩
 replace h346 := h346.mono (iE_ok _) hF388
 replace hz263 := hz263.mono (iE_ok _) hF388
 refine shO_L (ln rfl) ?_
 refine om rfl rfl (ox rfl rfl rfl (ox rfl rfl rfl (oa rfl rfl (nsr (om rfl rfl ?_)))))
 refine ov (v_eql rfl rfl) rfl ?_
 refine om rfl rfl ?_
 by_cases c394 : n16 = 0
 · have r395 := ite_t r386 c394; clear r386
   refine shO_on (b := true) 105 rfl (Env.isT rfl c394) (om rfl rfl (shO_on (b := true) 105 rfl (Env.isT rfl c394) ?_))
   refine ov (v_eql rfl rfl) rfl ?_
   refine ov (v_pick_t (evD_true rfl c394) rfl) rfl ?_
   refine om rfl rfl ?_
   by_cases c396 : n19 = 0
   · have r397 := ite_t r395 c396; clear r395
     refine shO_on (b := true) 109 rfl (Env.isT rfl c396) (om rfl rfl (shO_on (b := true) 109 rfl (Env.isT rfl c396) ?_))
     refine ov (v_eql rfl rfl) rfl ?_
     refine ov (v_pick_t (evD_true rfl c396) rfl) rfl ?_
     refine om rfl rfl ?_
     by_cases c398 : n22 = 0
     · have r399 := ite_t r397 c398; clear r397
       refine shO_on (b := true) 113 rfl (Env.isT rfl c398) (om rfl rfl (shO_on (b := true) 113 rfl (Env.isT rfl c398) ?_))
       refine ov (v_eql rfl rfl) rfl ?_
       refine ov (v_pick_t (evD_true rfl c398) rfl) rfl ?_
       refine om rfl rfl ?_
       by_cases c400 : n25 = 6
       · have r401 := ite_t r399 c400; clear r399
         refine shO_on (b := true) 117 rfl (Env.isT rfl c400) (om rfl rfl ?_)
         refine ov (v_pick_t (evD_true rfl c400) rfl) rfl ?_
         refine om rfl rfl ?_
         rcases bool_two ok4 with c402 | c402
         · have r403 := bt r401 c402; clear r401
           refine shO_on (b := true) 120 rfl (EnvB rfl c402) (om rfl rfl (shO_on (b := true) 120 rfl (EnvB rfl c402) ?_))
           refine o_buildSlice (cs := #[.int .i64 0]) rfl rfl (buildSlice_all slt_24 [.int .i64 0] rfl (by decide) (by simp [Value.cells]) (by decide)) ?_; intro b404 hb404
           refine shO_on (b := true) 120 rfl (EnvB rfl c402) ?_
           refine shO_freeze 0 rfl hb404 ?_; intro F405 hF406 hz407
           refine shO_L (L' := Lb275 ++ (Lb281 ++ (Lb287 ++ (Lb262 ++ (Lb238 ++ (Lb244 ++ (Lb250 ++ (Lb227 ++ [])))))))) rfl ?_
           replace h346 := h346.mono (iE_ok _) hF406
           replace hz263 := hz263.mono (iE_ok _) hF406
           have h408 : RowR 1 (iE .i64) F405 (some ⟨b404, 0, none⟩) 1 [0] := RowR.of_block (iE_ok _) (vss := [[.int .i64 0]]) (xs := [0]) hz407 (.cons rfl .nil) rfl (by simp [maxLen])
           obtain ⟨ok5, h409, r410⟩ := b1_ok r403; clear r403
           refine o_callT (Lt := Lb262 ++ []) (Lr := Lb275 ++ (Lb281 ++ (Lb287 ++ (Lb238 ++ (Lb244 ++ (Lb250 ++ (Lb227 ++ []))))))) rfl Try.call46 rfl rfl rfl (pT ((fS (fS (fS fP))).trans (pA pR)) (lp (ln rfl))) (fun F2 h2 h3 => by rw [(SlR.caps hz263).1]; exact oyezkit_Like_int_w (hz263.row (iE_ok _) h2 (fun p hp => h3 p (List.mem_append_left _ hp))) (h408.mono (iE_ok _) h2) h409) ?_
           refine ov (v_pick_t (evB rfl c402) rfl) rfl ?_
           refine om rfl rfl ?_
           rcases bool_two ok5 with c411 | c411
           · have r412 := bt r410 c411; clear r410
             refine shO_on (b := true) 125 rfl (EnvB rfl c411) (om rfl rfl (shO_on (b := true) 125 rfl (EnvB rfl c411) ?_))
             refine o_buildSlice (cs := #[.int .i64 1, .int .i64 2, .int .i64 3]) rfl rfl (buildSlice_all slt_24 [.int .i64 1, .int .i64 2, .int .i64 3] rfl (by decide) (by simp [Value.cells]) (by decide)) ?_; intro b413 hb413
             refine shO_on (b := true) 125 rfl (EnvB rfl c411) ?_
             refine shO_freeze 0 rfl hb413 ?_; intro F414 hF415 hz416
             refine shO_L (L' := Lb275 ++ (Lb281 ++ (Lb287 ++ (Lb262 ++ (Lb238 ++ (Lb244 ++ (Lb250 ++ (Lb227 ++ [])))))))) rfl ?_
             replace h346 := h346.mono (iE_ok _) hF415
             have h417 : RowR 1 (iE .i64) F414 (some ⟨b413, 0, none⟩) 3 [1, 2, 3] := RowR.of_block (iE_ok _) (vss := [[.int .i64 1], [.int .i64 2], [.int .i64 3]]) (xs := [1, 2, 3]) hz416 (.cons rfl (.cons rfl (.cons rfl .nil))) rfl (by simp [maxLen])
             obtain ⟨ok6, h418, r419⟩ := b1_ok r412; clear r412
             refine o_callV rfl Try.call46 rfl rfl rfl (oyezkit_Like_int_w h346 h417 h418) ?_
             refine ov (v_pick_t (evB rfl c411) rfl) rfl ?_
             refine oa rfl rfl (shO_nil ?_)
             refine kW kn ?_
             refine shW_ret ?_
             refine q_res1 Try.results16 (res_tmp rfl) (sr) ?_
             obtain rfl := inj1 r419
             exact rfl
           have r420 := bf r410 c411; clear r410
           refine shO_off (b' := false) 125 rfl (EnvB rfl c411) rfl rfl (shO_off (b' := false) 125 rfl (EnvB rfl c411) rfl rfl (shO_off (b' := false) 125 rfl (EnvB rfl c411) rfl rfl ?_))
           refine ov (v_pick_f (evB rfl c411) rfl) rfl ?_
           refine oa rfl rfl (shO_nil ?_)
           refine kW kn ?_
           refine shW_ret ?_
           refine q_res1 Try.results16 (res_tmp rfl) (sr) ?_
           obtain rfl := inj1 r420
           exact rfl
         have r421 := bf r401 c402; clear r401
         refine shO_off (b' := false) 120 rfl (EnvB rfl c402) rfl rfl (shO_off (b' := false) 120 rfl (EnvB rfl c402) rfl rfl (shO_off (b' := false) 120 rfl (EnvB rfl c402) rfl rfl ?_))
         refine ov (v_pick_f (evB rfl c402) rfl) rfl ?_
         refine om rfl rfl (shO_off (b' := false) 125 rfl rfl rfl rfl (shO_off (b' := false) 125 rfl rfl rfl rfl (shO_off (b' := false) 125 rfl rfl rfl rfl ?_)))
         refine ov (v_pick_f rfl rfl) rfl ?_
         refine oa rfl rfl (shO_nil ?_)
         refine kW kn ?_
         refine shW_ret ?_
         refine q_res1 Try.results16 (res_tmp rfl) (sr) ?_
         obtain rfl := inj1 r421
         exact rfl
       have r422 := ite_f r399 c400; clear r399
       refine shO_off (b' := false) 117 rfl (Env.isF rfl c400) rfl rfl ?_
       refine ov (v_pick_f (evD_false rfl c400) rfl) rfl ?_
       refine om rfl rfl (shO_off (b' := false) 120 rfl rfl rfl rfl (shO_off (b' := false) 120 rfl rfl rfl rfl (shO_off (b' := false) 120 rfl rfl rfl rfl ?_)))
       refine ov (v_pick_f rfl rfl) rfl ?_
       refine om rfl rfl (shO_off (b' := false) 125 rfl rfl rfl rfl (shO_off (b' := false) 125 rfl rfl rfl rfl (shO_off (b' := false) 125 rfl rfl rfl rfl ?_)))
       refine ov (v_pick_f rfl rfl) rfl ?_
       refine oa rfl rfl (shO_nil ?_)
       refine kW kn ?_
       refine shW_ret ?_
       refine q_res1 Try.results16 (res_tmp rfl) (sr) ?_
       obtain rfl := inj1 r422
       exact rfl
     have r423 := ite_f r397 c398; clear r397
     refine shO_off (b' := false) 113 rfl (Env.isF rfl c398) rfl rfl (shO_off (b' := false) 113 rfl (Env.isF rfl c398) rfl rfl ?_)
     refine ov (v_pick_f (evD_false rfl c398) rfl) rfl ?_
     refine om rfl rfl (shO_off (b' := false) 117 rfl rfl rfl rfl ?_)
     refine ov (v_pick_f rfl rfl) rfl ?_
     refine om rfl rfl (shO_off (b' := false) 120 rfl rfl rfl rfl (shO_off (b' := false) 120 rfl rfl rfl rfl (shO_off (b' := false) 120 rfl rfl rfl rfl ?_)))
     refine ov (v_pick_f rfl rfl) rfl ?_
     refine om rfl rfl (shO_off (b' := false) 125 rfl rfl rfl rfl (shO_off (b' := false) 125 rfl rfl rfl rfl (shO_off (b' := false) 125 rfl rfl rfl rfl ?_)))
     refine ov (v_pick_f rfl rfl) rfl ?_
     refine oa rfl rfl (shO_nil ?_)
     refine kW kn ?_
     refine shW_ret ?_
     refine q_res1 Try.results16 (res_tmp rfl) (sr) ?_
     obtain rfl := inj1 r423
     exact rfl
   have r424 := ite_f r395 c396; clear r395
   refine shO_off (b' := false) 109 rfl (Env.isF rfl c396) rfl rfl (shO_off (b' := false) 109 rfl (Env.isF rfl c396) rfl rfl ?_)
   refine ov (v_pick_f (evD_false rfl c396) rfl) rfl ?_
   refine om rfl rfl (shO_off (b' := false) 113 rfl rfl rfl rfl (shO_off (b' := false) 113 rfl rfl rfl rfl ?_))
   refine ov (v_pick_f rfl rfl) rfl ?_
   refine om rfl rfl (shO_off (b' := false) 117 rfl rfl rfl rfl ?_)
   refine ov (v_pick_f rfl rfl) rfl ?_
   refine om rfl rfl (shO_off (b' := false) 120 rfl rfl rfl rfl (shO_off (b' := false) 120 rfl rfl rfl rfl (shO_off (b' := false) 120 rfl rfl rfl rfl ?_)))
   refine ov (v_pick_f rfl rfl) rfl ?_
   refine om rfl rfl (shO_off (b' := false) 125 rfl rfl rfl rfl (shO_off (b' := false) 125 rfl rfl rfl rfl (shO_off (b' := false) 125 rfl rfl rfl rfl ?_)))
   refine ov (v_pick_f rfl rfl) rfl ?_
   refine oa rfl rfl (shO_nil ?_)
   refine kW kn ?_
   refine shW_ret ?_
   refine q_res1 Try.results16 (res_tmp rfl) (sr) ?_
   obtain rfl := inj1 r424
   exact rfl
 have r425 := ite_f r386 c394; clear r386
 refine shO_off (b' := false) 105 rfl (Env.isF rfl c394) rfl rfl (shO_off (b' := false) 105 rfl (Env.isF rfl c394) rfl rfl ?_)
 refine ov (v_pick_f (evD_false rfl c394) rfl) rfl ?_
 refine om rfl rfl (shO_off (b' := false) 109 rfl rfl rfl rfl (shO_off (b' := false) 109 rfl rfl rfl rfl ?_))
 refine ov (v_pick_f rfl rfl) rfl ?_
 refine om rfl rfl (shO_off (b' := false) 113 rfl rfl rfl rfl (shO_off (b' := false) 113 rfl rfl rfl rfl ?_))
 refine ov (v_pick_f rfl rfl) rfl ?_
 refine om rfl rfl (shO_off (b' := false) 117 rfl rfl rfl rfl ?_)
 refine ov (v_pick_f rfl rfl) rfl ?_
 refine om rfl rfl (shO_off (b' := false) 120 rfl rfl rfl rfl (shO_off (b' := false) 120 rfl rfl rfl rfl (shO_off (b' := false) 120 rfl rfl rfl rfl ?_)))
 refine ov (v_pick_f rfl rfl) rfl ?_
 refine om rfl rfl (shO_off (b' := false) 125 rfl rfl rfl rfl (shO_off (b' := false) 125 rfl rfl rfl rfl (shO_off (b' := false) 125 rfl rfl rfl rfl ?_)))
 refine ov (v_pick_f rfl rfl) rfl ?_
 refine oa rfl rfl (shO_nil ?_)
 refine kW kn ?_
 refine shW_ret ?_
 refine q_res1 Try.results16 (res_tmp rfl) (sr) ?_
 obtain rfl := inj1 r425
 exact rfl
set_option maxHeartbeats 1000000 in
theorem book_course_1_w {w : Int} {F : FS} {r : Bool} (hr : book_course_1 w = some r) :
    SpecV Try.prog 98 #[.int .i64 w] F (.bool r) := by
 refine spec_of_shW (args := [.int .i64 w]) Try.func98 rfl Try.ntmps98 (Nat.le_of_ble_eq_true rfl) ?_
 intro K _ _; rw [book_course_1] at hr
 refine wsr (oa rfl rfl (nsr (om rfl rfl ?_)))
 obtain ⟨ok, h1, r2⟩ := b1_ok hr; clear hr
 refine o_callV rfl Try.call86 rfl rfl rfl (book_in_w h1) ?_
 refine oa rfl rfl (shO_nil (shW_ret ?_))
 refine q_res1 Try.results98 (res_tmp rfl) (sr) ?_
 obtain rfl := inj1 r2
 exact rfl
set_option maxHeartbeats 1000000 in
theorem book_course_w {houses : Int} {notices : Int} {hears_a : Option Addr} {hears_c : Nat} {hears : List (List (List Int))} {readings_a : Option Addr} {readings_c : Nat} {readings : List Int} {cries_a : Option Addr} {cries_c : Nat} {cries : List (Int × Int × Int)} {l_a : Option Addr} {l_c : Nat} {l : List Int} {F : FS} (h_hears : RowR 1 (slE 1 (slE 1 (iE .i64))) F hears_a hears_c hears) (h_readings : RowR 1 (iE .i64) F readings_a readings_c readings) (h_cries : RowR 3 (prE (iE .i64) (prE (iE .i64) (iE .i64))) F cries_a cries_c cries) (h_l : RowR 1 (iE .i64) F l_a l_c l) {r : Option (Int × Int × (List (List (List Int))) × (List Int) × (List (Int × Int × Int)))} {r2 : Int} (hr : book_course houses notices hears readings cries l = some (r, r2)) :
    SH.Spec Try.prog 69 #[.agg #[.int .i64 houses, .int .i64 notices, .slice hears_a hears.length hears_c, .slice readings_a readings.length readings_c, .slice cries_a cries.length cries_c], .slice l_a l.length l_c] F [] fun F' L' v => ∃ (rv : Value), v = .tuple #[rv, .int .i64 r2] ∧ L' = [] ∧ PtrR 114 (prE (iE .i64) (prE (iE .i64) (prE (slE 1 (slE 1 (slE 1 (iE .i64)))) (prE (slE 1 (iE .i64)) (slE 3 (prE (iE .i64) (prE (iE .i64) (iE .i64)))))))) F' rv r := by
 refine spec_of_shW (args := [.agg #[.int .i64 houses, .int .i64 notices, .slice hears_a hears.length hears_c, .slice readings_a readings.length readings_c, .slice cries_a cries.length cries_c], .slice l_a l.length l_c]) Try.func69 rfl Try.ntmps69 (Nat.le_of_ble_eq_true rfl) ?_
 intro K _ _; rw [book_course] at hr
 refine wsr ?_
 refine o_box rfl rfl ?_; intro b1 hb1
 refine oa rfl rfl (oa rfl rfl (nsr ?_))
 refine ov (v_loadA (cs := #[.int .i64 houses, .int .i64 notices, .slice hears_a hears.length hears_c, .slice readings_a readings.length readings_c, .slice cries_a cries.length cries_c]) Try.isAgg27 Try.sizeOf27 rfl (Has.own 0 rfl) (Nat.le_of_ble_eq_true rfl) rfl) rfl ?_
 obtain ⟨d, n, h2, r3⟩ := b2_ok hr; clear hr
 refine o_call0 rfl Try.call43 rfl rfl rfl (book_opened_w h_hears h_readings h_cries h2) ?_; rintro _ F4 _ hF5 hn6 ⟨v8, rfl, rfl, hp9⟩
 replace h_l := h_l.mono (iE_ok _) hF5
 refine shO_L (ln rfl) ?_
 refine om rfl rfl (ox rfl rfl rfl (ox rfl rfl rfl (oa rfl rfl (oa rfl rfl (shO_nil (shW_seq ?_))))))
 refine shW_block ?_
 refine wsr (om rfl rfl ?_)
 refine ov (v_neq rfl rfl) rfl ?_
 refine oa rfl rfl (shO_nil ?_)
 refine shW_condP rfl (fun c10 => ?_) (fun c10 => ?_)
 · have r11 := ite_t r3 c10; clear r3
   refine wsr (om rfl rfl (oa rfl rfl (oa rfl rfl (shO_nil ?_))))
   refine kW kn ?_
   refine shW_ret (inBlock_ret (andThen_ret ?_))
   refine q_res2 Try.results69 (res_tmp rfl) (res_tmp rfl) (sr) ?_
   obtain ⟨rfl, rfl⟩ := inj2 r11
   exact ⟨_, rfl, rfl, rfl⟩
 have r12 := ite_f r3 c10; clear r3
 refine wsr (om rfl rfl ?_)
 refine ov (v_lenS Try.underlying24 rfl) rfl ?_
 refine ov (v_fieldAddr fa_27_3 rfl) rfl ?_
 refine ov (v_load Try.isAgg24 rfl (Has.own 0 rfl) rfl) rfl ?_
 refine ov (v_lenS Try.underlying24 rfl) rfl ?_
 refine ov (v_neq rfl rfl) rfl ?_
 refine oa rfl rfl (shO_nil ?_)
 refine shW_condP rfl (fun c13 => ?_) (fun c13 => ?_)
 · have r14 := ite_t r12 c13; clear r12
   refine wsr (oa rfl rfl (oa rfl rfl (shO_nil ?_)))
   refine kW kn ?_
   refine shW_ret (inBlock_ret (andThen_ret ?_))
   refine q_res2 Try.results69 (res_tmp rfl) (res_tmp rfl) (sr) ?_
   obtain ⟨rfl, rfl⟩ := inj2 r14
   exact ⟨_, rfl, rfl, rfl⟩
 have r15 := ite_f r12 c13; clear r12
 refine wsr (om rfl rfl ?_)
 have hn16 : FnR Try.prog F4 98 #[] #[] (iE .i64) Value.bool (fun xx_ : Int => book_course_1 xx_) := ⟨Try.call98, fun F2 h2 vs xx_ r ha hr => by obtain rfl := ha; exact book_course_1_w hr⟩
 obtain ⟨ok, h17, r18⟩ := b1_ok r15; clear r15
 refine o_callV rfl Try.call63 rfl rfl rfl (book_every_int_w h_l hn16 h17) ?_
 refine ov (v_notB rfl) rfl ?_
 refine oa rfl rfl (shO_nil ?_)
 refine shW_cond rfl (fun c19 => ?_) (fun c19 => ?_)
 · have r20 := bt r18 c19; clear r18
   refine wsr (oa rfl rfl (oa rfl rfl (shO_nil ?_)))
   refine kW kn ?_
   refine shW_ret (inBlock_ret (andThen_ret ?_))
   refine q_res2 Try.results69 (res_tmp rfl) (res_tmp rfl) (sr) ?_
   obtain ⟨rfl, rfl⟩ := inj2 r20
   exact ⟨_, rfl, rfl, rfl⟩
 have r21 := bf r18 c19; clear r18
 refine shW_skip (inBlock_n (id := 0) (wsr (om rfl rfl (oa rfl rfl (oa rfl rfl (shO_nil ?_))))))
 refine kW kn ?_
 refine shW_ret ?_
 refine q_res2 Try.results69 (res_tmp rfl) (res_tmp rfl) (sr) ?_
 obtain ⟨rfl, rfl⟩ := inj2 r21
 exact ⟨_, rfl, rfl, hp9⟩
set_option maxHeartbeats 1000000 in
theorem book_Fits_w {houses : Int} {notices : Int} {hears_a : Option Addr} {hears_c : Nat} {hears : List (List (List Int))} {readings_a : Option Addr} {readings_c : Nat} {readings : List Int} {cries_a : Option Addr} {cries_c : Nat} {cries : List (Int × Int × Int)} {l_a : Option Addr} {l_c : Nat} {l : List Int} {F : FS} (h_hears : RowR 1 (slE 1 (slE 1 (iE .i64))) F hears_a hears_c hears) (h_readings : RowR 1 (iE .i64) F readings_a readings_c readings) (h_cries : RowR 3 (prE (iE .i64) (prE (iE .i64) (iE .i64))) F cries_a cries_c cries) (h_l : RowR 1 (iE .i64) F l_a l_c l) {r : Bool} {r2 : Int} (hr : book_Fits houses notices hears readings cries l = some (r, r2)) :
    SpecV Try.prog 32 #[.agg #[.int .i64 houses, .int .i64 notices, .slice hears_a hears.length hears_c, .slice readings_a readings.length readings_c, .slice cries_a cries.length cries_c], .slice l_a l.length l_c] F (.tuple #[.bool r, .int .i64 r2]) := by
 refine spec_of_shW (args := [.agg #[.int .i64 houses, .int .i64 notices, .slice hears_a hears.length hears_c, .slice readings_a readings.length readings_c, .slice cries_a cries.length cries_c], .slice l_a l.length l_c]) Try.func32 rfl Try.ntmps32 (Nat.le_of_ble_eq_true rfl) ?_
 intro K _ _; rw [book_Fits] at hr
 refine wsr ?_
 refine o_box rfl rfl ?_; intro b1 hb1
 refine oa rfl rfl (oa rfl rfl (nsr ?_))
 refine ov (v_loadA (cs := #[.int .i64 houses, .int .i64 notices, .slice hears_a hears.length hears_c, .slice readings_a readings.length readings_c, .slice cries_a cries.length cries_c]) Try.isAgg27 Try.sizeOf27 rfl (Has.own 0 rfl) (Nat.le_of_ble_eq_true rfl) rfl) rfl ?_
 refine om rfl rfl ?_
 obtain ⟨d, n, h2, r3⟩ := b2_ok hr; clear hr
 refine o_call0 rfl Try.call69 rfl rfl rfl (book_course_w h_hears h_readings h_cries h_l h2) ?_; rintro _ F4 _ hF5 hn6 ⟨v8, rfl, rfl, hp9⟩
 replace h_l := h_l.mono (iE_ok _) hF5
 refine shO_L (ln rfl) ?_
 refine om rfl rfl (ox rfl rfl rfl (ox rfl rfl rfl (oa rfl rfl (oa rfl rfl (shO_nil (shW_seq (wsr (om rfl rfl ?_))))))))
 refine ov (v_neq rfl rfl) rfl ?_
 refine shO_nil ?_
 refine shW_condP rfl (fun c10 => ?_) (fun c10 => ?_)
 · have r11 := ite_t r3 c10; clear r3
   refine wsr (om rfl rfl (oa rfl rfl (oa rfl rfl (shO_nil ?_))))
   refine kW kn ?_
   refine shW_ret (andThen_ret ?_)
   refine q_res2 Try.results32 (res_tmp rfl) (res_tmp rfl) (sr) ?_
   obtain ⟨rfl, rfl⟩ := inj2 r11
   exact rfl
 have r12 := ite_f r3 c10; clear r3
 refine shW_skip ?_
 refine shW_join (fun e1 F1 L1 => book_Fits_j1 = some (r, r2) ∧ F4 = F1 ∧ L1 = [] ∧ e1.sub []) ?_ ?_
 · refine wsr (om rfl rfl ?_)
   refine ov (v_lenS Try.underlying24 rfl) rfl ?_
   refine om rfl rfl (shO_nil ?_)
   refine shW_block ?_
   refine kW kn ?_
   refine shW_lp (fun fu2 e1 F1 L1 => ∃ (tl : List Int) (k : Int), tl.length = fu2 ∧ Lst l k tl ∧ ∃ (v13 : Value), book_Fits_l2 l d tl k = some (r, r2) ∧ F4 = F1 ∧ L1 = [] ∧ e1.sub [(1, .slice l_a l.length l_c), (6, v13), (19, .slice l_a l.length l_c), (20, .int .i64 (l.length : Int)), (21, .int .i64 k)] ∧ PtrR 114 (prE (iE .i64) (prE (iE .i64) (prE (slE 1 (slE 1 (slE 1 (iE .i64)))) (prE (slE 1 (iE .i64)) (slE 3 (prE (iE .i64) (prE (iE .i64) (iE .i64)))))))) F1 v13 d) _ (m0 kr ⟨_, _, rfl, Lst.start _, v8, r12, rfl, rfl, (sc rfl (sc rfl (sc rfl (sc rfl (sc rfl (sn _)))))), hp9⟩) ?_
   rintro fu2 e1 _ _ ⟨tl, k, hn16, hk15, v13, r17, rfl, rfl, he18, hp14⟩
   refine shW_env _ he18 ?_; clear he18
   refine wsr ?_
   refine ov (v_lssK rfl rfl) rfl ?_
   refine shO_nil (shW_seq ?_)
   refine shW_condP rfl (fun c20 => ?_) (fun c20 => ?_)
   · obtain ⟨x, tl2, rfl, hx22, g23, hk21⟩ := Lst.succ hk15 c20
     rw [book_Fits_l2] at r17
     refine shW_skip (shW_seq ?_)
     refine shW_block ?_
     refine wsr (om rfl rfl ?_)
     obtain ⟨b24, o25, c26, vs27, ha28, hs29, hle30, rfl, hl31, hc32⟩ := RowR.at (iE_ok _) h_l ([]) g23.1 hx22
     refine ov (v_indexO Try.underlying24 Try.sizeOf3 rfl ha28 rfl g23) rfl ?_
     refine ov (v_load Try.isAgg3 rfl hs29 (hc32 0 (by decide))) rfl ?_
     refine oa rfl rfl (oa rfl rfl (shO_nil ?_))
     obtain ⟨k2, h35, r36⟩ := b1_ok r17; clear r17
     refine shW_join (fun e1 F1 L1 => ∃ (v33 : Value), F4 = F1 ∧ L1 = [] ∧ e1.sub [(1, .slice l_a l.length l_c), (6, v33), (19, .slice l_a l.length l_c), (20, .int .i64 (l.length : Int)), (21, .int .i64 k), (47, .bool k2)] ∧ PtrR 114 (prE (iE .i64) (prE (iE .i64) (prE (slE 1 (slE 1 (slE 1 (iE .i64)))) (prE (slE 1 (iE .i64)) (slE 3 (prE (iE .i64) (prE (iE .i64) (iE .i64)))))))) F1 v33 d) ?_ ?_
     · clear r36
       refine shW_region (om rfl rfl ?_)
       obtain ⟨houses2, notices2, hears2, readings2, cries2, h37, r38⟩ := b5_ok h35; clear h35
       have h53 := hp14; rw [h37] at h53; obtain ⟨b39, c40, m41, hv42, hz43, ⟨_, _, rfl, rfl, ⟨_, _, rfl, rfl, ⟨_, _, rfl, ⟨a44, c45, rfl, h46⟩, ⟨_, _, rfl, ⟨a47, c48, rfl, h49⟩, ⟨a50, c51, rfl, h52⟩⟩⟩⟩⟩⟩ := h53; subst hv42
       have hz43 : F4 b39 = some (.cells #[.int .i64 houses2, .int .i64 notices2, .slice a44 hears2.length c45, .slice a47 readings2.length c48, .slice a50 cries2.length c51] 114 m41) := hz43
       refine ov (v_nilCheck rfl) rfl ?_
       refine ov (v_fieldAddr fa_114_0 rfl) rfl ?_
       refine ov (v_loadA (cs := #[.int .i64 houses2, .int .i64 notices2, .slice a44 hears2.length c45, .slice a47 readings2.length c48, .slice a50 cries2.length c51]) Try.isAgg27 Try.sizeOf27 rfl (Has.frozen hz43) (Nat.le_of_ble_eq_true rfl) rfl) rfl ?_
       refine om rfl rfl (om rfl rfl ?_)
       obtain ⟨ok, h54, r55⟩ := b1_ok r38; clear r38
       refine o_callV rfl Try.call70 rfl rfl rfl (book_Book_can_w h46 h49 h52 h54) ?_
       refine ov (v_notB rfl) rfl ?_
       refine om rfl rfl ?_
       rcases bool_two (!ok) with c56 | c56
       · have r57 := bt r55 c56; clear r55
         refine shO_off (b' := true) 34 rfl (EnvB rfl c56) rfl rfl (shO_off (b' := true) 34 rfl (EnvB rfl c56) rfl rfl (shO_off (b' := true) 34 rfl (EnvB rfl c56) rfl rfl (shO_offU 37 rfl rfl rfl (shO_offU 37 rfl rfl rfl (shO_offU 37 rfl rfl rfl (shO_offU 37 rfl rfl rfl (shO_offU 37 rfl rfl rfl (shO_offU 37 rfl rfl rfl (shO_offU 37 rfl rfl rfl ?_)))))))))
         refine shO_offU 37 rfl rfl rfl (shO_off (b' := true) 34 rfl (EnvB rfl c56) rfl rfl ?_)
         refine ov (v_pick_t (evB rfl c56) rfl) rfl ?_
         refine shO_nil ?_
         obtain rfl := inj1 r57
         exact mi kr ⟨.pointer (some ⟨b39, 0, none⟩), rfl, rfl, (sc rfl (sc rfl (sc rfl (sc rfl (sc rfl (sc rfl (sn _))))))), hp14⟩
       have r58 := bf r55 c56; clear r55
       refine shO_on (b := false) 34 rfl (EnvB rfl c56) (om rfl rfl (shO_on (b := false) 34 rfl (EnvB rfl c56) ?_))
       refine ov (v_gtrK rfl rfl) rfl ?_
       refine shO_on (b := false) 34 rfl (EnvB rfl c56) (om rfl rfl ?_)
       by_cases c59 : 0 < k
       · have r60 := ite_t r58 c59; clear r58
         refine shO_on (b := true) 37 rfl (Env.isT rfl c59) (om rfl rfl (shO_on (b := true) 37 rfl (Env.isT rfl c59) (om rfl rfl (shO_on (b := true) 37 rfl (Env.isT rfl c59) (om rfl rfl (shO_on (b := true) 37 rfl (Env.isT rfl c59) ?_))))))
         obtain ⟨g61, r62⟩ := gd_ok r60; clear r60
         refine ov (v_sub rfl rfl g61) rfl ?_
         refine shO_on (b := true) 37 rfl (Env.isT rfl c59) ?_
         obtain ⟨x2, g63, hx64, r65⟩ := ix_ok r62; clear r62
         obtain ⟨b66, o67, c68, vs69, ha70, hs71, hle72, rfl, hl73, hc74⟩ := RowR.at (iE_ok _) h_l ([]) g63.1 hx64
         refine ov (v_indexO Try.underlying24 Try.sizeOf3 rfl ha70 rfl g63) rfl ?_
         refine shO_on (b := true) 37 rfl (Env.isT rfl c59) ?_
         refine ov (v_load Try.isAgg3 rfl hs71 (hc74 0 (by decide))) rfl ?_
         refine shO_on (b := true) 37 rfl (Env.isT rfl c59) ?_
         obtain ⟨ok2, h75, r76⟩ := b1_ok r65; clear r65
         refine o_callV rfl Try.call49 rfl rfl rfl (book_near_w h75) ?_
         refine shO_on (b := true) 37 rfl (Env.isT rfl c59) ?_
         refine ov (v_notB rfl) rfl ?_
         refine shO_on (b := false) 34 rfl (EnvB rfl c56) ?_
         refine ov (v_pick_t (evD_true rfl c59) rfl) rfl ?_
         refine ov (v_pick_f (evB rfl c56) rfl) rfl ?_
         refine shO_nil ?_
         obtain rfl := inj1 r76
         exact mi kr ⟨.pointer (some ⟨b39, 0, none⟩), rfl, rfl, (sc rfl (sc rfl (sc rfl (sc rfl (sc rfl (sc rfl (sn _))))))), hp14⟩
       have r77 := ite_f r58 c59; clear r58
       refine shO_off (b' := false) 37 rfl (Env.isF rfl c59) rfl rfl (shO_off (b' := false) 37 rfl (Env.isF rfl c59) rfl rfl (shO_off (b' := false) 37 rfl (Env.isF rfl c59) rfl rfl (shO_off (b' := false) 37 rfl (Env.isF rfl c59) rfl rfl (shO_off (b' := false) 37 rfl (Env.isF rfl c59) rfl rfl (shO_off (b' := false) 37 rfl (Env.isF rfl c59) rfl rfl (shO_off (b' := false) 37 rfl (Env.isF rfl c59) rfl rfl (shO_off (b' := false) 37 rfl (Env.isF rfl c59) rfl rfl (shO_on (b := false) 34 rfl (EnvB rfl c56) ?_))))))))
       refine ov (v_pick_f (evD_false rfl c59) rfl) rfl ?_
       refine ov (v_pick_f (evB rfl c56) rfl) rfl ?_
       refine shO_nil ?_
       obtain rfl := inj1 r77
       exact mi kr ⟨.pointer (some ⟨b39, 0, none⟩), rfl, rfl, (sc rfl (sc rfl (sc rfl (sc rfl (sc rfl (sc rfl (sn _))))))), hp14⟩
     rintro e1 _ _ ⟨v33, rfl, rfl, he78, hp34⟩
     refine shW_env _ he78 ?_; clear he78
     refine shW_cond rfl (fun c79 => ?_) (fun c79 => ?_)
     · have r80 := bt r36 c79; clear r36
       refine wsr (oa rfl rfl (oa rfl rfl (shO_nil (shW_ret (inBlock_ret (andThen_ret (andThen_ret (inBlock_ret (andThen_ret ?_)))))))))
       refine q_res2 Try.results32 (res_tmp rfl) (res_tmp rfl) (sr) ?_
       obtain ⟨rfl, rfl⟩ := inj2 r80
       exact rfl
     have r81 := bf r36 c79; clear r36
     refine shW_skip (inBlock_n (id := 1) (shW_region ?_))
     refine ov (v_add rfl rfl (Lst.r64 hk15 c20 (RowR.lt h_l))) rfl ?_
     refine om rfl rfl (shO_nil ?_)
     subst hn16; exact le kr ⟨_, _, rfl, hk21, v33, r81, rfl, rfl, (sc rfl (sc rfl (sc rfl (sc rfl (sc rfl (sn _)))))), hp34⟩
   obtain rfl := Lst.zero hk15 c20
   rw [book_Fits_l2] at r17
   refine shW_exit (andThen_exit (andThen_exit ?_))
   refine inBlock_exit ?_
   exact mi kr ⟨r17, rfl, rfl, (sn _)⟩
 rintro e1 _ _ ⟨r82, rfl, rfl, he83⟩
 refine shW_env _ he83 ?_; clear he83
 rw [book_Fits_j1] at r82
 refine wsr (oa rfl rfl (oa rfl rfl (shO_nil (shW_ret ?_))))
 refine q_res2 Try.results32 (res_tmp rfl) (res_tmp rfl) (sr) ?_
 obtain ⟨rfl, rfl⟩ := inj2 r82
 exact rfl
set_option maxHeartbeats 1000000 in
theorem oyezlaw07_BookTurned_1_w {w : Int} {b_x : Nat} {x : Bool} {mb_x : Nat × Nat} {b_x_ : Nat} {x2 : Int} {mb_x_ : Nat × Nat} {F : FS} (hb_x : F b_x = some (.cells #[.bool x] 4 mb_x)) (hb_x_ : F b_x_ = some (.cells #[.int .u8 x2] 5 mb_x_)) {r : Int} (hr : oyezlaw07_BookTurned_1 w x x2 = some r) :
    SpecV Try.prog 29 #[.int .i64 w, .pointer (some ⟨b_x, 0, none⟩), .pointer (some ⟨b_x_, 0, none⟩)] F (.int .i64 r) := by
 refine spec_of_shW (args := [.int .i64 w, .pointer (some ⟨b_x, 0, none⟩), .pointer (some ⟨b_x_, 0, none⟩)]) Try.func29 rfl Try.ntmps29 (Nat.le_of_ble_eq_true rfl) ?_
 intro K _ _; rw [oyezlaw07_BookTurned_1] at hr
 refine wsr (oa rfl rfl (shO_nil ?_))
 obtain ⟨w2, h1, r2⟩ := b1_ok hr; clear hr
 refine shW_join (fun e1 F1 L1 => F = F1 ∧ L1 = [] ∧ e1.sub [(0, .int .i64 w2), (2, .pointer (some ⟨b_x_, 0, none⟩))]) ?_ ?_
 · clear r2
   refine wsr ?_
   refine ov (v_load Try.isAgg4 rfl (Has.frozen hb_x) rfl) rfl ?_
   refine shO_nil ?_
   refine shW_cond rfl (fun c3 => ?_) (fun c3 => ?_)
   · have r4 := bt h1 c3; clear h1
     refine shW_region (om rfl rfl ?_)
     obtain ⟨g5, r6⟩ := gd_ok r4; clear r4
     refine ov (v_negT rfl g5) rfl ?_
     refine oa rfl rfl (shO_nil ?_)
     obtain rfl := inj1 r6
     exact mi kr ⟨rfl, rfl, (sc rfl (sc rfl (sn _)))⟩
   have r7 := bf h1 c3; clear h1
   refine shW_skip ?_
   obtain rfl := inj1 r7
   exact mi kr ⟨rfl, rfl, (sc rfl (sc rfl (sn _)))⟩
 rintro e1 _ _ ⟨rfl, rfl, he8⟩
 refine shW_env _ he8 ?_; clear he8
 refine wsr (om rfl rfl ?_)
 refine ov (v_load Try.isAgg5 rfl (Has.frozen hb_x_) rfl) rfl ?_
 obtain ⟨g9, r10⟩ := gd_ok r2; clear r2
 refine ov (i_conv Try.underlying5 Try.underlying3 rfl g9) rfl ?_
 obtain ⟨g11, r12⟩ := gd_ok r10; clear r10
 refine ov (v_add rfl rfl g11) rfl ?_
 obtain ⟨n, h13, r14⟩ := b1_ok r12; clear r12
 refine o_callV rfl Try.call30 rfl rfl rfl (oyezkit_Wind_w h13) ?_
 refine oa rfl rfl (shO_nil (shW_ret ?_))
 refine q_res1 Try.results29 (res_tmp rfl) (sr) ?_
 obtain rfl := inj1 r14
 exact rfl
set_option maxHeartbeats 1000000 in
theorem oyezlaw07_BookTurned_w {numbers_a : Option Addr} {numbers_c : Nat} {numbers : List Int} {by_ : Int} {mirror : Bool} {F : FS} (h_numbers : RowR 1 (iE .u8) F numbers_a numbers_c numbers) {r : Bool} (hr : oyezlaw07_BookTurned numbers by_ mirror = some r) :
    SpecV Try.prog 7 #[.slice numbers_a numbers.length numbers_c, .int .u8 by_, .bool mirror] F (.bool r) := by
 refine spec_of_shW (args := [.slice numbers_a numbers.length numbers_c, .int .u8 by_, .bool mirror]) Try.func7 rfl Try.ntmps7 (Nat.le_of_ble_eq_true rfl) ?_
 intro K _ _; rw [oyezlaw07_BookTurned] at hr
 refine wsr ?_
 refine o_box rfl rfl ?_; intro b1 hb1
 refine o_box rfl rfl ?_; intro b2 hb2
 refine oa rfl rfl (nsr (om rfl rfl ?_))
 obtain ⟨metal, at_, turn, h3, r4⟩ := b3_ok hr; clear hr
 refine o_call0 rfl Try.call10 rfl rfl rfl (oyezkit_Hang_w h_numbers h3) ?_; rintro _ F5 _ hF6 hn7 ⟨b9, a10, c11, rfl, rfl, h12⟩
 refine shO_L (lb (ln rfl)) ?_
 obtain ⟨n, n2, l, l2, l3, l4, at_2, turn2, h13, r14⟩ := b8_ok r4; clear r4
 refine o_callG (Lb := [(b9, .cells #[.slice a10 metal.length c11, .int .i64 at_, .int .u32 turn] 83 (0, 0))]) (Lr := [(b2, .cells #[.bool mirror] 4 (0, 0)), (b1, .cells #[.int .u8 by_] 5 (0, 0))]) rfl Try.call9 rfl rfl rfl (pR) (oyezlaw07_Made_w h12 h13) ?_; rintro _ F15 _ hF16 hd18 hn17 ⟨a19, n23, c20, Lb21, a25, n29, c26, Lb27, a31, n35, c32, Lb33, a37, n41, c38, Lb39, rfl, rfl, hz22, hz28, hz34, hz40⟩
 have hn43 := newp (Lb' := [(b9, .cells #[.slice a10 metal.length c11, .int .i64 at_2, .int .u32 turn2] 83 (0, 0))]) (by rfl) hd18 hn17
 replace hz22 := hz22.new fun p hp => hn43 p (by simp [hp])
 replace hz28 := hz28.new fun p hp => hn43 p (by simp [hp])
 replace hz34 := hz34.new fun p hp => hn43 p (by simp [hp])
 replace hz40 := hz40.new fun p hp => hn43 p (by simp [hp])
 refine shO_L (lb (lp (lp (lp (lp (ln rfl)))))) ?_
 refine kO (kc (kf (fS (fS (fS (fS fO)))) (kf (fS (fS (fS (fS fO)))) kr))) ?_
 refine om rfl rfl (ox rfl rfl rfl (ox rfl rfl rfl ?_))
 refine o_alloc rfl Try.zeroValue27 ?_; intro b44 hb44
 refine o_storeA (i := 0) Try.sizeOf27 rfl rfl rfl (by simp [Value.oneCell']) rfl (Nat.le_of_ble_eq_true rfl) ?_
 refine shO_L (L' := (b44, .cells #[.int .i64 n, .int .i64 n2, .slice a19 n23 c20, .slice a25 n29 c26, .slice a31 n35 c32] 27 (0, 0)) :: ((b9, .cells #[.slice a10 metal.length c11, .int .i64 at_2, .int .u32 turn2] 83 (0, 0)) :: ((b2, .cells #[.bool mirror] 4 (0, 0)) :: ((b1, .cells #[.int .u8 by_] 5 (0, 0)) :: (Lb21 ++ (Lb27 ++ (Lb33 ++ (Lb39 ++ [])))))))) rfl ?_
 refine oa rfl rfl (nsr ?_)
 refine ov (v_makeFunc rfl rfl) rfl ?_
 refine oa rfl rfl (nsr ?_)
 refine ov (v_loadA (cs := #[.int .i64 n, .int .i64 n2, .slice a19 n23 c20, .slice a25 n29 c26, .slice a31 n35 c32]) Try.isAgg27 Try.sizeOf27 rfl (Has.own 0 rfl) (Nat.le_of_ble_eq_true rfl) rfl) rfl ?_
 obtain rfl := (SlR.caps hz22).1
 refine shO_freezeR (Nat.le_refl _) (slE_ok (slE_ok (iE_ok _))) (fC (fC (fC (fC fP)))) hz22 ?_; intro F45 hF46 h47
 replace hz28 := hz28.mono (iE_ok _) hF46
 replace hz34 := hz34.mono (prE_ok (iE_ok _) (prE_ok (iE_ok _) (iE_ok _))) hF46
 replace hz40 := hz40.mono (iE_ok _) hF46
 obtain rfl := (SlR.caps hz28).1
 refine shO_freezeR (Nat.le_refl _) (iE_ok _) (fC (fC (fC (fC fP)))) hz28 ?_; intro F48 hF49 h50
 replace h47 := h47.mono (slE_ok (slE_ok (iE_ok _))) hF49
 replace hz34 := hz34.mono (prE_ok (iE_ok _) (prE_ok (iE_ok _) (iE_ok _))) hF49
 replace hz40 := hz40.mono (iE_ok _) hF49
 obtain rfl := (SlR.caps hz34).1
 refine shO_freezeR (Nat.le_refl _) (prE_ok (iE_ok _) (prE_ok (iE_ok _) (iE_ok _))) (fC (fC (fC (fC fP)))) hz34 ?_; intro F51 hF52 h53
 replace h47 := h47.mono (slE_ok (slE_ok (iE_ok _))) hF52
 replace h50 := h50.mono (iE_ok _) hF52
 replace hz40 := hz40.mono (iE_ok _) hF52
 obtain ⟨n3, n4, l5, l6, l7, h54, r55⟩ := b5_ok r14; clear r14
 refine o_call0 rfl Try.call12 rfl rfl rfl (oyezlaw07_Own_w h47 h50 h53 h54) ?_; rintro _ F56 _ hF57 hn58 ⟨a60, n64, c61, Lb62, a66, n70, c67, Lb68, a72, n76, c73, Lb74, rfl, rfl, hz63, hz69, hz75⟩
 replace h47 := h47.mono (slE_ok (slE_ok (iE_ok _))) hF57
 replace h50 := h50.mono (iE_ok _) hF57
 replace h53 := h53.mono (prE_ok (iE_ok _) (prE_ok (iE_ok _) (iE_ok _))) hF57
 replace hz40 := hz40.mono (iE_ok _) hF57
 replace hz63 := hz63.new fun p hp => hn58 p (by simp [hp])
 replace hz69 := hz69.new fun p hp => hn58 p (by simp [hp])
 replace hz75 := hz75.new fun p hp => hn58 p (by simp [hp])
 refine shO_L (lp (lp (lp (ln rfl)))) ?_
 refine kO (kf (fS (fS (fS fO))) (kf (fS (fS (fS fO))) (kf (fS (fS (fS fO))) (kf (fS (fS (fS fO))) kr)))) ?_
 refine o_alloc rfl Try.zeroValue27 ?_; intro b78 hb78
 refine o_storeA (i := 0) Try.sizeOf27 rfl rfl rfl (by simp [Value.oneCell']) rfl (Nat.le_of_ble_eq_true rfl) ?_
 refine shO_L (L' := (b78, .cells #[.int .i64 n3, .int .i64 n4, .slice a60 n64 c61, .slice a66 n70 c67, .slice a72 n76 c73] 27 (0, 0)) :: ((b44, .cells #[.int .i64 n, .int .i64 n2, .slice a19 l.length c20, .slice a25 l2.length c26, .slice a31 l3.length c32] 27 (0, 0)) :: ((b9, .cells #[.slice a10 metal.length c11, .int .i64 at_2, .int .u32 turn2] 83 (0, 0)) :: ((b2, .cells #[.bool mirror] 4 (0, 0)) :: ((b1, .cells #[.int .u8 by_] 5 (0, 0)) :: (Lb62 ++ (Lb68 ++ (Lb74 ++ (Lb39 ++ []))))))))) rfl ?_
 refine shO_nil ?_
 obtain ⟨u_hears, h83, r84⟩ := b1_ok r55; clear r55
 refine shW_join (fun e1 F1 L1 => ∃ (Lb81 : LH), FExt F56 F1 ∧ L1 = ((b78, .cells #[.int .i64 n3, .int .i64 n4, .slice a60 n64 c61, .slice a66 n70 c67, .slice a72 n76 c73] 27 (0, 0)) :: ((b44, .cells #[.int .i64 n, .int .i64 n2, .slice a19 l.length c20, .slice a25 l2.length c26, .slice a31 l3.length c32] 27 (0, 0)) :: (Lb39 ++ (Lb81 ++ (Lb68 ++ (Lb74 ++ [])))))) ∧ e1.sub [(7, .pointer (some ⟨b44, 0, none⟩)), (8, .slice a37 n41 c38), (9, .func (.func 29) #[] #[.pointer (some ⟨b2, 0, none⟩), .pointer (some ⟨b1, 0, none⟩)]), (10, .pointer (some ⟨b78, 0, none⟩))] ∧ F1 b2 = some (.cells #[.bool mirror] 4 (0, 0)) ∧ F1 b1 = some (.cells #[.int .u8 by_] 5 (0, 0)) ∧ NlR K.w0.heap.size 42 24 1 (slE 1 (iE .i64)) F1 a60 n64 c61 u_hears Lb81) ?_ ?_
 · clear r84
   refine wsr ?_
   refine ov (v_fieldAddr fa_27_2 rfl) rfl ?_
   refine ov (v_load Try.isAgg23 rfl (Has.own 1 rfl) rfl) rfl ?_
   refine ov (v_lenS Try.underlying23 rfl) rfl ?_
   refine om rfl rfl (shO_nil ?_)
   refine shW_block ?_
   refine kW (kc (kc (kd kr))) ?_
   refine shW_freeze 2 rfl hb2 ?_; intro F85 hF86 hz87
   refine shW_L (L' := (b78, .cells #[.int .i64 n3, .int .i64 n4, .slice a60 n64 c61, .slice a66 n70 c67, .slice a72 n76 c73] 27 (0, 0)) :: ((b44, .cells #[.int .i64 n, .int .i64 n2, .slice a19 l.length c20, .slice a25 l2.length c26, .slice a31 l3.length c32] 27 (0, 0)) :: ((b1, .cells #[.int .u8 by_] 5 (0, 0)) :: (Lb62 ++ (Lb68 ++ (Lb74 ++ (Lb39 ++ []))))))) rfl ?_
   replace h47 := h47.mono (slE_ok (slE_ok (iE_ok _))) hF86
   replace hz63 := hz63.mono (slE_ok (iE_ok _)) hF86
   refine shW_freeze 2 rfl hb1 ?_; intro F88 hF89 hz90
   refine shW_L (L' := (b78, .cells #[.int .i64 n3, .int .i64 n4, .slice a60 n64 c61, .slice a66 n70 c67, .slice a72 n76 c73] 27 (0, 0)) :: ((b44, .cells #[.int .i64 n, .int .i64 n2, .slice a19 l.length c20, .slice a25 l2.length c26, .slice a31 l3.length c32] 27 (0, 0)) :: (Lb62 ++ (Lb68 ++ (Lb74 ++ (Lb39 ++ [])))))) rfl ?_
   replace h47 := h47.mono (slE_ok (slE_ok (iE_ok _))) hF89
   replace hz63 := hz63.mono (slE_ok (iE_ok _)) hF89
   replace hz87 := hF89 _ _ hz87
   refine shW_lpF (fun fu1 e1 F1 L1 => ∃ (tl : List (List (List Int))) (k : Int), tl.length = fu1 ∧ Lst l k tl ∧ ∃ (u_hears2 : List (List (List Int))) (Lb91 : LH), oyezlaw07_BookTurned_l1 by_ mirror tl k u_hears2 = some u_hears ∧ FExt F88 F1 ∧ L1 = ((b78, .cells #[.int .i64 n3, .int .i64 n4, .slice a60 n64 c61, .slice a66 n70 c67, .slice a72 n76 c73] 27 (0, 0)) :: ((b44, .cells #[.int .i64 n, .int .i64 n2, .slice a19 l.length c20, .slice a25 l2.length c26, .slice a31 l3.length c32] 27 (0, 0)) :: (Lb39 ++ (Lb91 ++ (Lb68 ++ (Lb74 ++ [])))))) ∧ e1.sub [(7, .pointer (some ⟨b44, 0, none⟩)), (8, .slice a37 n41 c38), (9, .func (.func 29) #[] #[.pointer (some ⟨b2, 0, none⟩), .pointer (some ⟨b1, 0, none⟩)]), (10, .pointer (some ⟨b78, 0, none⟩)), (40, .slice a19 l.length c20), (41, .int .i64 (l.length : Int)), (42, .int .i64 k)] ∧ NlR K.w0.heap.size 42 24 1 (slE 1 (iE .i64)) F1 a60 n64 c61 u_hears2 Lb91) _ (m0 (kc (kc (kg (fS (fS (fS fP))) kr))) ⟨_, _, rfl, Lst.start _, l5, Lb62, h83, FExt.refl _, rfl, (sc rfl (sc rfl (sc rfl (sc rfl (sc rfl (sc rfl (sc rfl (sn _)))))))), hz63⟩) ?_
   rintro fu1 e1 F97 _ ⟨tl, k, hn94, hk93, u_hears2, Lb91, r95, hF98, rfl, he96, hz92⟩
   refine shW_env _ he96 ?_; clear he96
   replace h47 := h47.mono (slE_ok (slE_ok (iE_ok _))) hF98
   replace hz87 := hF98 _ _ hz87
   replace hz90 := hF98 _ _ hz90
   refine wsr ?_
   refine ov (v_lssK rfl rfl) rfl ?_
   refine shO_nil (shW_seq ?_)
   refine shW_condP rfl (fun c100 => ?_) (fun c100 => ?_)
   · obtain ⟨x, tl2, rfl, hx102, g103, hk101⟩ := Lst.succ hk93 c100
     rw [oyezlaw07_BookTurned_l1] at r95
     refine shW_skip ?_
     obtain ⟨u_hears3, h106, r107⟩ := b1_ok r95; clear r95
     refine shW_join (fun e1 F1 L1 => ∃ (Lb104 : LH), FExt F97 F1 ∧ L1 = ((b78, .cells #[.int .i64 n3, .int .i64 n4, .slice a60 n64 c61, .slice a66 n70 c67, .slice a72 n76 c73] 27 (0, 0)) :: ((b44, .cells #[.int .i64 n, .int .i64 n2, .slice a19 l.length c20, .slice a25 l2.length c26, .slice a31 l3.length c32] 27 (0, 0)) :: (Lb39 ++ (Lb104 ++ (Lb68 ++ (Lb74 ++ [])))))) ∧ e1.sub [(7, .pointer (some ⟨b44, 0, none⟩)), (8, .slice a37 n41 c38), (9, .func (.func 29) #[] #[.pointer (some ⟨b2, 0, none⟩), .pointer (some ⟨b1, 0, none⟩)]), (10, .pointer (some ⟨b78, 0, none⟩)), (40, .slice a19 l.length c20), (41, .int .i64 (l.length : Int)), (42, .int .i64 k)] ∧ NlR K.w0.heap.size 42 24 1 (slE 1 (iE .i64)) F1 a60 n64 c61 u_hears3 Lb104) ?_ ?_
     · clear r107
       refine shW_block ?_
       refine wsr (om rfl rfl ?_)
       obtain ⟨b108, o109, c110, vs111, ha112, hs113, hle114, ⟨a117, c118, rfl, h119⟩, hl115, hc116⟩ := RowR.at (slE_ok (slE_ok (iE_ok _))) h47 ((b78, .cells #[.int .i64 n3, .int .i64 n4, .slice a60 n64 c61, .slice a66 n70 c67, .slice a72 n76 c73] 27 (0, 0)) :: ((b44, .cells #[.int .i64 n, .int .i64 n2, .slice a19 l.length c20, .slice a25 l2.length c26, .slice a31 l3.length c32] 27 (0, 0)) :: (Lb39 ++ (Lb91 ++ (Lb68 ++ (Lb74 ++ [])))))) g103.1 hx102
       refine ov (v_indexO Try.underlying23 Try.sizeOf42 rfl ha112 rfl g103) rfl ?_
       refine ov (v_load Try.isAgg42 rfl hs113 (hc116 0 (by decide))) rfl ?_
       refine oa rfl rfl (oa rfl rfl (nsr (om rfl rfl ?_)))
       refine ov (v_lenS Try.underlying42 rfl) rfl ?_
       refine om rfl rfl (shO_nil ?_)
       refine shW_block ?_
       refine shW_lp (fun fu2 e1 F1 L1 => ∃ (tl3 : List (List Int)) (k2 : Int), tl3.length = fu2 ∧ Lst x k2 tl3 ∧ ∃ (u_hears4 : List (List (List Int))) (Lb120 : LH), oyezlaw07_BookTurned_l2 by_ mirror k tl3 k2 u_hears4 = some u_hears3 ∧ FExt F97 F1 ∧ L1 = ((b78, .cells #[.int .i64 n3, .int .i64 n4, .slice a60 n64 c61, .slice a66 n70 c67, .slice a72 n76 c73] 27 (0, 0)) :: ((b44, .cells #[.int .i64 n, .int .i64 n2, .slice a19 l.length c20, .slice a25 l2.length c26, .slice a31 l3.length c32] 27 (0, 0)) :: (Lb39 ++ (Lb120 ++ (Lb68 ++ (Lb74 ++ [])))))) ∧ e1.sub [(7, .pointer (some ⟨b44, 0, none⟩)), (8, .slice a37 n41 c38), (9, .func (.func 29) #[] #[.pointer (some ⟨b2, 0, none⟩), .pointer (some ⟨b1, 0, none⟩)]), (10, .pointer (some ⟨b78, 0, none⟩)), (11, .int .i64 k), (40, .slice a19 l.length c20), (41, .int .i64 (l.length : Int)), (42, .int .i64 k), (47, .slice a117 x.length c118), (48, .int .i64 (x.length : Int)), (49, .int .i64 k2)] ∧ NlR K.w0.heap.size 42 24 1 (slE 1 (iE .i64)) F1 a60 n64 c61 u_hears4 Lb120) _ (m0 kr ⟨_, _, rfl, Lst.start _, u_hears2, Lb91, h106, FExt.refl _, rfl, (sc rfl (sc rfl (sc rfl (sc rfl (sc rfl (sc rfl (sc rfl (sc rfl (sc rfl (sc rfl (sc rfl (sn _)))))))))))), hz92⟩) ?_
       rintro fu2 e1 F126 _ ⟨tl3, k2, hn123, hk122, u_hears4, Lb120, r124, hF127, rfl, he125, hz121⟩
       refine shW_env _ he125 ?_; clear he125
       replace h119 := h119.mono (slE_ok (iE_ok _)) hF127
       replace hz87 := hF127 _ _ hz87
       replace hz90 := hF127 _ _ hz90
       refine wsr ?_
       refine ov (v_lssK rfl rfl) rfl ?_
       refine shO_nil (shW_seq ?_)
       refine shW_condP rfl (fun c129 => ?_) (fun c129 => ?_)
       · obtain ⟨x2, tl4, rfl, hx131, g132, hk130⟩ := Lst.succ hk122 c129
         rw [oyezlaw07_BookTurned_l2] at r124
         refine shW_skip (shW_seq ?_)
         refine shW_block ?_
         refine wsr (om rfl rfl ?_)
         obtain ⟨b133, o134, c135, vs136, ha137, hs138, hle139, ⟨a142, c143, rfl, h144⟩, hl140, hc141⟩ := RowR.at (slE_ok (iE_ok _)) h119 ((b78, .cells #[.int .i64 n3, .int .i64 n4, .slice a60 n64 c61, .slice a66 n70 c67, .slice a72 n76 c73] 27 (0, 0)) :: ((b44, .cells #[.int .i64 n, .int .i64 n2, .slice a19 l.length c20, .slice a25 l2.length c26, .slice a31 l3.length c32] 27 (0, 0)) :: (Lb39 ++ (Lb120 ++ (Lb68 ++ (Lb74 ++ [])))))) g132.1 hx131
         refine ov (v_indexO Try.underlying42 Try.sizeOf24 rfl ha137 rfl g132) rfl ?_
         refine ov (v_load Try.isAgg24 rfl hs138 (hc141 0 (by decide))) rfl ?_
         refine oa rfl rfl (oa rfl rfl (shO_nil ?_))
         obtain ⟨x3, g145, hx146, r147⟩ := ix_ok r124; clear r124
         have hn159 := (NlR.caps hz121).1
         refine shW_open (fC (fC (fS fP))) hz121 hx146 ?_; intro hs148 Lo149 Lc150 a151 n152 c153 Lb154 hh155 hO156 hz157 hI158
         refine kW (kf (fS (fS (fS fO))) (kf (fS (fS (fS fO))) kr)) ?_
         refine shW_drawM [(.still, 0), (.still, 1), (.still, 2), (.still, 3), (.still, 4), (.still, 5), (.still, 6), (.still, 8), (.seq, 7), (.seq, 9), (.still, 10), (.seq, 11)] (by kernel_rfl) (by kernel_rfl) (trivial) (by rfl) (by kernel_rfl) ?_
         refine shM_v (v := .pointer (some ⟨b78, 2, none⟩)) (ek := [(10, .pointer (some ⟨b78, 0, none⟩))]) (Ls := []) rfl rfl rfl rfl ((sc rfl (sn _))) (by kernel_rfl) sm (fun H F' L' hF' hL' => v_fieldAddr fa_27_2 rfl) ?_
         refine shM_v (v := .slice a60 n64 c61) (ek := [(54, .pointer (some ⟨b78, 2, none⟩))]) (Ls := [(b78, .cells #[.int .i64 n3, .int .i64 n4, .slice a60 n64 c61, .slice a66 n70 c67, .slice a72 n76 c73] 27 (0, 0))]) rfl rfl rfl rfl ((sc rfl (sn _))) (by kernel_rfl) (s0 (s2 (s1 (s3 (s3 (s3 (s3 (s3 (s3 sr))))))))) (fun H F' L' hF' hL' => v_load Try.isAgg23 rfl ((Has.own 0 rfl).ext hF' hL') rfl) ?_
         refine shM_v (v := .int .i64 k) (ek := [(11, .int .i64 k)]) (Ls := []) rfl rfl rfl rfl ((sc rfl (sn _))) (by kernel_rfl) sm (fun H F' L' hF' hL' => v_move rfl) ?_
         obtain ⟨b161, o162, c163, vs164, ha165, hs166, hle167, rfl, hl168, hc169⟩ := SlR.at hdE_ok hO156 (L := Lo149 ++ []) fP g145.1 hh155
         refine shM_v (v := .pointer (some ⟨b161, o162 + (k : Int).toNat * 1, none⟩)) (ek := [(55, .slice a60 n64 c61), (56, .int .i64 k)]) (Ls := []) rfl rfl rfl rfl ((sc rfl (sc rfl (sn _)))) (by kernel_rfl) sm (fun H F' L' hF' hL' => v_indexO Try.underlying23 Try.sizeOf42 rfl ha165 rfl (idxN hn159 g145)) ?_
         refine shM_v (v := .slice a151 n152 c153) (ek := [(57, .pointer (some ⟨b161, o162 + (k : Int).toNat * 1, none⟩))]) (Ls := Lo149 ++ []) rfl rfl rfl rfl ((sc rfl (sn _))) (by kernel_rfl) (s0 (s1 (s1 (s4 (s3 (s3 (s3 (s3 (s3 sr))))))))) (fun H F' L' hF' hL' => v_load Try.isAgg42 rfl (hs166.ext hF' hL') (hc169 0 (by decide))) ?_
         refine shM_v (v := .func (.func 29) #[] #[.pointer (some ⟨b2, 0, none⟩), .pointer (some ⟨b1, 0, none⟩)]) (ek := [(9, .func (.func 29) #[] #[.pointer (some ⟨b2, 0, none⟩), .pointer (some ⟨b1, 0, none⟩)])]) (Ls := []) rfl rfl rfl rfl ((sc rfl (sn _))) (by kernel_rfl) sm (fun H F' L' hF' hL' => v_move rfl) ?_
         refine shM_v (v := .int .i64 k2) (ek := [(13, .int .i64 k2)]) (Ls := []) rfl rfl rfl rfl ((sc rfl (sn _))) (by kernel_rfl) sm (fun H F' L' hF' hL' => v_move rfl) ?_
         refine shM_v (v := .slice a142 x2.length c143) (ek := [(14, .slice a142 x2.length c143)]) (Ls := []) rfl rfl rfl rfl ((sc rfl (sn _))) (by kernel_rfl) sm (fun H F' L' hF' hL' => v_move rfl) ?_
         refine ⟨_, [(59, .func (.func 29) #[] #[.pointer (some ⟨b2, 0, none⟩), .pointer (some ⟨b1, 0, none⟩)]), (60, .int .i64 k2)], rfl, rfl, (sc rfl (sc rfl (sn _))), by kernel_rfl, ?_⟩; intro H
         obtain ⟨n5, h170, r171⟩ := b1_ok r147; clear r147
         refine o_callV rfl Try.call29 rfl rfl rfl (oyezlaw07_BookTurned_1_w hz87 hz90 h170) ?_
         refine shO_nil ⟨_, rfl, FExt.refl _, [8, 4, 3, 2, 1, 0], by kernel_rfl, .inl (.inr (fun d h => by cases h; rfl)), (List.forall_mem_cons.2 ⟨sm, (List.forall_mem_cons.2 ⟨s0 (s1 (s1 (s4 (s3 (s3 (s3 (s3 (s3 sr)))))))), (List.forall_mem_cons.2 ⟨sm, (List.forall_mem_cons.2 ⟨sm, (List.forall_mem_cons.2 ⟨s0 (s2 (s1 (s3 (s3 (s3 (s3 (s3 (s3 sr)))))))), (List.forall_mem_cons.2 ⟨sm, (fun _ h => absurd h List.not_mem_nil)⟩)⟩)⟩)⟩)⟩)⟩), ?_⟩
         refine ⟨_, [(62, .slice a142 x2.length c143)], rfl, rfl, (sc rfl (sn _)), by kernel_rfl, ?_⟩; intro H
         obtain ⟨l8, h172, r173⟩ := b1_ok r171; clear r171
         refine o_call0 rfl Try.call31 rfl rfl rfl (oyezkit_Copy_int_w h144 h172) ?_; rintro _ F174 _ hF175 hn176 ⟨a178, n182, c179, Lb180, rfl, rfl, hz181⟩
         replace h119 := h119.mono (slE_ok (iE_ok _)) hF175
         replace hO156 := hO156.mono hdE_ok hF175
         replace hI158 := hI158.mono (slE_ok (iE_ok _)) hF175
         replace hz157 := hz157.mono (slE_ok (iE_ok _)) hF175
         replace hz181 := hz181.new fun p hp => hn176 p (by simp [hp])
         refine shO_L (lp (ln rfl)) ?_
         refine kO (kf (fS fO) (kf (fS fO) kr)) ?_
         refine shO_nil ⟨_, rfl, hF175, [4, 3, 2, 1, 0], by kernel_rfl, .inl (.inr (fun d h => by cases h; rfl)), (List.forall_mem_cons.2 ⟨s0 (s1 (s1 (s3 (s4 (s3 (s3 (s3 (s3 (s3 sr))))))))), (List.forall_mem_cons.2 ⟨sm, (List.forall_mem_cons.2 ⟨sm, (List.forall_mem_cons.2 ⟨s0 (s2 (s1 (s3 (s3 (s3 (s3 (s3 (s3 (s3 sr))))))))), (List.forall_mem_cons.2 ⟨sm, (fun _ h => absurd h List.not_mem_nil)⟩)⟩)⟩)⟩)⟩), ?_⟩
         obtain ⟨x4, g184, hx185, r186⟩ := ix_ok r173; clear r173
         obtain ⟨b187, o188, c189, vs190, ha191, hs192, hle193, ⟨a196, c197, rfl, h198⟩, hl194, hc195⟩ := SlR.at (slE_ok (iE_ok _)) hz157 (L := Lb154 ++ []) fP g184.1 hx185
         refine shM_v (v := .pointer (some ⟨b187, o188 + (n5 : Int).toNat * 1, none⟩)) (ek := [(58, .slice a151 n152 c153), (61, .int .i64 n5)]) (Ls := []) rfl rfl rfl rfl ((sc rfl (sc rfl (sn _)))) (by kernel_rfl) sm (fun H F' L' hF' hL' => v_indexO Try.underlying42 Try.sizeOf24 rfl ha191 rfl (SlR.idx hz157 g184)) ?_
         refine ⟨_, [(63, .slice a178 n182 c179), (64, .pointer (some ⟨b187, o188 + (n5 : Int).toNat * 1, none⟩))], rfl, rfl, (sc rfl (sc rfl (sn _))), by kernel_rfl, ?_⟩; intro H
         obtain rfl := (SlR.caps hz181).1
         refine shO_freezeR (Nat.le_refl _) (iE_ok _) (fC (fC fP)) hz181 ?_; intro F199 hF200 h201
         replace h119 := h119.mono (slE_ok (iE_ok _)) hF200
         replace hO156 := hO156.mono hdE_ok hF200
         replace hI158 := hI158.mono (slE_ok (iE_ok _)) hF200
         replace hz157 := hz157.mono (slE_ok (iE_ok _)) hF200
         obtain ⟨l9, h202, r203⟩ := bv_ok r186; clear r186
         refine o_storeZ (u := l8) Try.sizeOf24 (slE_ok (iE_ok _)) rfl ha191 rfl ⟨_, _, rfl, h201⟩ (fun _ => .c (.c (.s .h))) hz157 h202 g184 ?_; intro Lb204 hz205
         refine shO_nil ⟨undef, rfl, hF200, [], by kernel_rfl, .inl (.inl rfl), (fun _ h => absurd h List.not_mem_nil), ?_⟩
         refine shM_nil ?_
         refine inBlock_n (id := 3) (shW_region ?_)
         refine ov (v_add rfl rfl (Lst.r64 hk122 c129 (RowR.lt h119))) rfl ?_
         refine om rfl rfl ?_
         obtain ⟨u, h206, r207⟩ := bv_ok r203; clear r203
         refine shO_fold (p := fun X => NlR K.w0.heap.size 42 24 1 (slE 1 (iE .i64)) F199 a60 n64 c61 u X) (InH.back0 hI158 hO156 hh155 hz205 h206) (pT ((fC (fC fP)).trans (pA ((fC (fC fP)).trans (pA ((fC (fC fP)).trans (pA pR)))))) (lp (lp (lp (ln rfl))))) ?_; intro Lb208 hz209
         refine kO (kf (fS fO) (kf (fS fO) kr)) ?_
         refine shO_nil ?_
         subst hn123; exact le (kc (kc (kg (fS fP) kr))) ⟨_, _, rfl, hk130, u, Lb208, r207, ((hF127.trans hF175).trans hF200), rfl, (sc rfl (sc rfl (sc rfl (sc rfl (sc rfl (sc rfl (sc rfl (sc rfl (sc rfl (sc rfl (sc rfl (sn _)))))))))))), hz209⟩
       obtain rfl := Lst.zero hk122 c129
       rw [oyezlaw07_BookTurned_l2] at r124
       refine shW_exit (andThen_exit (andThen_exit ?_))
       refine inBlock_exit ?_
       refine inBlock_n (id := 1) ?_
       obtain rfl := inj1 r124
       exact mi kr ⟨Lb120, hF127, rfl, (sc rfl (sc rfl (sc rfl (sc rfl (sc rfl (sc rfl (sc rfl (sn _)))))))), hz121⟩
     rintro e1 F211 _ ⟨Lb104, hF212, rfl, he210, hz105⟩
     refine shW_env _ he210 ?_; clear he210
     replace h47 := h47.mono (slE_ok (slE_ok (iE_ok _))) hF212
     refine shW_region ?_
     refine ov (v_add rfl rfl (Lst.r64 hk93 c100 (RowR.lt h47))) rfl ?_
     refine om rfl rfl (shO_nil ?_)
     subst hn94; refine lf ?_
     exact mf kr ⟨_, _, rfl, hk101, u_hears3, Lb104, r107, (hF98.trans hF212), rfl, (sc rfl (sc rfl (sc rfl (sc rfl (sc rfl (sc rfl (sc rfl (sn _)))))))), hz105⟩
   obtain rfl := Lst.zero hk93 c100
   rw [oyezlaw07_BookTurned_l1] at r95
   refine shW_exit (andThen_exit (andThen_exit ?_))
   refine inBlock_exit ?_
   obtain rfl := inj1 r95
   exact mi kr ⟨Lb91, ((hF86.trans hF89).trans hF98), rfl, (sc rfl (sc rfl (sc rfl (sc rfl (sn _))))), hz87, hz90, hz92⟩
 rintro e1 F214 _ ⟨Lb81, hF215, rfl, he213, hz79, hz80, hz82⟩
 refine shW_env _ he213 ?_; clear he213
 replace h47 := h47.mono (slE_ok (slE_ok (iE_ok _))) hF215
 replace h50 := h50.mono (iE_ok _) hF215
 replace h53 := h53.mono (prE_ok (iE_ok _) (prE_ok (iE_ok _) (iE_ok _))) hF215
 replace hz40 := hz40.mono (iE_ok _) hF215
 replace hz69 := hz69.mono (iE_ok _) hF215
 replace hz75 := hz75.mono (prE_ok (iE_ok _) (prE_ok (iE_ok _) (iE_ok _))) hF215
 obtain ⟨u_readings, h218, r219⟩ := b1_ok r84; clear r84
 refine shW_join (fun e1 F1 L1 => ∃ (Lb216 : LH), F214 = F1 ∧ L1 = ((b78, .cells #[.int .i64 n3, .int .i64 n4, .slice a60 n64 c61, .slice a66 n70 c67, .slice a72 n76 c73] 27 (0, 0)) :: ((b44, .cells #[.int .i64 n, .int .i64 n2, .slice a19 l.length c20, .slice a25 l2.length c26, .slice a31 l3.length c32] 27 (0, 0)) :: (Lb39 ++ (Lb81 ++ (Lb216 ++ (Lb74 ++ [])))))) ∧ e1.sub [(7, .pointer (some ⟨b44, 0, none⟩)), (8, .slice a37 n41 c38), (9, .func (.func 29) #[] #[.pointer (some ⟨b2, 0, none⟩), .pointer (some ⟨b1, 0, none⟩)]), (10, .pointer (some ⟨b78, 0, none⟩))] ∧ SlR K.w0.heap.size 3 1 (iE .i64) F1 a66 n70 c67 u_readings Lb216) ?_ ?_
 · clear r219
   refine wsr ?_
   refine ov (v_fieldAddr fa_27_3 rfl) rfl ?_
   refine ov (v_load Try.isAgg24 rfl (Has.own 1 rfl) rfl) rfl ?_
   refine ov (v_lenS Try.underlying24 rfl) rfl ?_
   refine om rfl rfl (shO_nil ?_)
   refine shW_block ?_
   refine shW_lp (fun fu3 e1 F1 L1 => ∃ (tl5 : List Int) (k3 : Int), tl5.length = fu3 ∧ Lst l2 k3 tl5 ∧ ∃ (u_readings2 : List Int) (Lb220 : LH), oyezlaw07_BookTurned_l3 by_ mirror tl5 k3 u_readings2 = some u_readings ∧ F214 = F1 ∧ L1 = ((b78, .cells #[.int .i64 n3, .int .i64 n4, .slice a60 n64 c61, .slice a66 n70 c67, .slice a72 n76 c73] 27 (0, 0)) :: ((b44, .cells #[.int .i64 n, .int .i64 n2, .slice a19 l.length c20, .slice a25 l2.length c26, .slice a31 l3.length c32] 27 (0, 0)) :: (Lb39 ++ (Lb81 ++ (Lb220 ++ (Lb74 ++ [])))))) ∧ e1.sub [(7, .pointer (some ⟨b44, 0, none⟩)), (8, .slice a37 n41 c38), (9, .func (.func 29) #[] #[.pointer (some ⟨b2, 0, none⟩), .pointer (some ⟨b1, 0, none⟩)]), (10, .pointer (some ⟨b78, 0, none⟩)), (68, .slice a25 l2.length c26), (69, .int .i64 (l2.length : Int)), (70, .int .i64 k3)] ∧ SlR K.w0.heap.size 3 1 (iE .i64) F1 a66 n70 c67 u_readings2 Lb220) _ (m0 kr ⟨_, _, rfl, Lst.start _, l6, Lb68, h218, rfl, rfl, (sc rfl (sc rfl (sc rfl (sc rfl (sc rfl (sc rfl (sc rfl (sn _)))))))), hz69⟩) ?_
   rintro fu3 e1 _ _ ⟨tl5, k3, hn223, hk222, u_readings2, Lb220, r224, rfl, rfl, he225, hz221⟩
   refine shW_env _ he225 ?_; clear he225
   refine wsr ?_
   refine ov (v_lssK rfl rfl) rfl ?_
   refine shO_nil (shW_seq ?_)
   refine shW_condP rfl (fun c227 => ?_) (fun c227 => ?_)
   · obtain ⟨x5, tl6, rfl, hx229, g230, hk228⟩ := Lst.succ hk222 c227
     rw [oyezlaw07_BookTurned_l3] at r224
     refine shW_skip (shW_seq ?_)
     refine shW_block ?_
     refine wsr (om rfl rfl ?_)
     obtain ⟨b231, o232, c233, vs234, ha235, hs236, hle237, rfl, hl238, hc239⟩ := RowR.at (iE_ok _) h50 ((b78, .cells #[.int .i64 n3, .int .i64 n4, .slice a60 n64 c61, .slice a66 n70 c67, .slice a72 n76 c73] 27 (0, 0)) :: ((b44, .cells #[.int .i64 n, .int .i64 n2, .slice a19 l.length c20, .slice a25 l2.length c26, .slice a31 l3.length c32] 27 (0, 0)) :: (Lb39 ++ (Lb81 ++ (Lb220 ++ (Lb74 ++ [])))))) g230.1 hx229
     refine ov (v_indexO Try.underlying24 Try.sizeOf3 rfl ha235 rfl g230) rfl ?_
     refine ov (v_load Try.isAgg3 rfl hs236 (hc239 0 (by decide))) rfl ?_
     refine oa rfl rfl (oa rfl rfl (nsr (om rfl rfl ?_)))
     refine ov (v_neq rfl rfl) rfl ?_
     refine shO_nil ?_
     refine shW_condP rfl (fun c240 => ?_) (fun c240 => ?_)
     · have r241 := ite_t r224 c240; clear r224
       refine shW_drawM [(.still, 0), (.still, 1), (.still, 2), (.still, 3), (.still, 4), (.seq, 5), (.still, 6), (.seq, 7)] (by kernel_rfl) (by kernel_rfl) (trivial) (by rfl) (by kernel_rfl) ?_
       refine shM_v (v := .pointer (some ⟨b78, 3, none⟩)) (ek := [(10, .pointer (some ⟨b78, 0, none⟩))]) (Ls := []) rfl rfl rfl rfl ((sc rfl (sn _))) (by kernel_rfl) sm (fun H F' L' hF' hL' => v_fieldAddr fa_27_3 rfl) ?_
       refine shM_v (v := .slice a66 n70 c67) (ek := [(77, .pointer (some ⟨b78, 3, none⟩))]) (Ls := [(b78, .cells #[.int .i64 n3, .int .i64 n4, .slice a60 n64 c61, .slice a66 n70 c67, .slice a72 n76 c73] 27 (0, 0))]) rfl rfl rfl rfl ((sc rfl (sn _))) (by kernel_rfl) (s0 (s2 (s1 (s3 (s3 (s3 (s3 sr))))))) (fun H F' L' hF' hL' => v_load Try.isAgg24 rfl ((Has.own 0 rfl).ext hF' hL') rfl) ?_
       refine shM_v (v := .int .i64 k3) (ek := [(15, .int .i64 k3)]) (Ls := []) rfl rfl rfl rfl ((sc rfl (sn _))) (by kernel_rfl) sm (fun H F' L' hF' hL' => v_move rfl) ?_
       refine shM_v (v := .func (.func 29) #[] #[.pointer (some ⟨b2, 0, none⟩), .pointer (some ⟨b1, 0, none⟩)]) (ek := [(9, .func (.func 29) #[] #[.pointer (some ⟨b2, 0, none⟩), .pointer (some ⟨b1, 0, none⟩)])]) (Ls := []) rfl rfl rfl rfl ((sc rfl (sn _))) (by kernel_rfl) sm (fun H F' L' hF' hL' => v_move rfl) ?_
       refine shM_v (v := .int .i64 x5) (ek := [(16, .int .i64 x5)]) (Ls := []) rfl rfl rfl rfl ((sc rfl (sn _))) (by kernel_rfl) sm (fun H F' L' hF' hL' => v_move rfl) ?_
       refine ⟨_, [(80, .func (.func 29) #[] #[.pointer (some ⟨b2, 0, none⟩), .pointer (some ⟨b1, 0, none⟩)]), (81, .int .i64 x5)], rfl, rfl, (sc rfl (sc rfl (sn _))), by kernel_rfl, ?_⟩; intro H
       obtain ⟨n6, h242, r243⟩ := b1_ok r241; clear r241
       refine o_callV rfl Try.call29 rfl rfl rfl (oyezlaw07_BookTurned_1_w hz79 hz80 h242) ?_
       refine shO_nil ⟨_, rfl, FExt.refl _, [2, 1, 0], by kernel_rfl, .inl (.inr (fun d h => by cases h; rfl)), (List.forall_mem_cons.2 ⟨sm, (List.forall_mem_cons.2 ⟨s0 (s2 (s1 (s3 (s3 (s3 (s3 sr)))))), (List.forall_mem_cons.2 ⟨sm, (fun _ h => absurd h List.not_mem_nil)⟩)⟩)⟩), ?_⟩
       obtain ⟨x6, g244, hx245, r246⟩ := ix_ok r243; clear r243
       obtain ⟨b247, o248, c249, vs250, ha251, hs252, hle253, rfl, hl254, hc255⟩ := SlR.at (iE_ok _) hz221 (L := Lb220 ++ []) fP g244.1 hx245
       refine shM_v (v := .pointer (some ⟨b247, o248 + (k3 : Int).toNat * 1, none⟩)) (ek := [(78, .slice a66 n70 c67), (79, .int .i64 k3)]) (Ls := []) rfl rfl rfl rfl ((sc rfl (sc rfl (sn _)))) (by kernel_rfl) sm (fun H F' L' hF' hL' => v_indexO Try.underlying24 Try.sizeOf3 rfl ha251 rfl (SlR.idx hz221 g244)) ?_
       refine ⟨_, [(82, .int .i64 n6), (83, .pointer (some ⟨b247, o248 + (k3 : Int).toNat * 1, none⟩))], rfl, rfl, (sc rfl (sc rfl (sn _))), by kernel_rfl, ?_⟩; intro H
       obtain ⟨l10, h256, r257⟩ := bv_ok r246; clear r246
       refine o_storeZ (u := n6) Try.sizeOf3 (iE_ok _) rfl ha251 rfl rfl (fun _ => .c (.c (.s (.s .h)))) hz221 h256 g244 ?_; intro Lb258 hz259
       refine shO_nil ⟨undef, rfl, FExt.refl _, [], by kernel_rfl, .inl (.inl rfl), (fun _ h => absurd h List.not_mem_nil), ?_⟩
       refine shM_nil ?_
       refine inBlock_n (id := 5) (shW_region ?_)
       refine ov (v_add rfl rfl (Lst.r64 hk222 c227 (RowR.lt h50))) rfl ?_
       refine om rfl rfl (shO_nil ?_)
       subst hn223; exact le kr ⟨_, _, rfl, hk228, l10, Lb258, r257, rfl, rfl, (sc rfl (sc rfl (sc rfl (sc rfl (sc rfl (sc rfl (sc rfl (sn _)))))))), hz259⟩
     have r260 := ite_f r224 c240; clear r224
     refine shW_skip (inBlock_n (id := 5) (shW_region ?_))
     refine ov (v_add rfl rfl (Lst.r64 hk222 c227 (RowR.lt h50))) rfl ?_
     refine om rfl rfl (shO_nil ?_)
     subst hn223; exact le kr ⟨_, _, rfl, hk228, u_readings2, Lb220, r260, rfl, rfl, (sc rfl (sc rfl (sc rfl (sc rfl (sc rfl (sc rfl (sc rfl (sn _)))))))), hz221⟩
   obtain rfl := Lst.zero hk222 c227
   rw [oyezlaw07_BookTurned_l3] at r224
   refine shW_exit (andThen_exit (andThen_exit ?_))
   refine inBlock_exit ?_
   obtain rfl := inj1 r224
   exact mi kr ⟨Lb220, rfl, rfl, (sc rfl (sc rfl (sc rfl (sc rfl (sn _))))), hz221⟩
 rintro e1 _ _ ⟨Lb216, rfl, rfl, he261, hz217⟩
 refine shW_env _ he261 ?_; clear he261
 refine wsr (oa rfl rfl (shO_nil ?_))
 obtain ⟨course, h268, r269⟩ := b1_ok r219; clear r219
 refine shW_join (fun e1 F1 L1 => ∃ (a262 : Option Addr) (n266 : Nat) (c263 : Nat) (Lb264 : LH), F214 = F1 ∧ L1 = ((b78, .cells #[.int .i64 n3, .int .i64 n4, .slice a60 n64 c61, .slice a66 n70 c67, .slice a72 n76 c73] 27 (0, 0)) :: ((b44, .cells #[.int .i64 n, .int .i64 n2, .slice a19 l.length c20, .slice a25 l2.length c26, .slice a31 l3.length c32] 27 (0, 0)) :: (Lb81 ++ (Lb216 ++ (Lb74 ++ (Lb264 ++ [])))))) ∧ e1.sub [(7, .pointer (some ⟨b44, 0, none⟩)), (10, .pointer (some ⟨b78, 0, none⟩)), (17, .slice a262 n266 c263)] ∧ SlR K.w0.heap.size 3 1 (iE .i64) F1 a262 n266 c263 course Lb264) ?_ ?_
 · clear r269
   refine wsr (om rfl rfl ?_)
   refine ov ((v_lenS Try.underlying24 rfl).i (SlR.lenI hz40)) rfl ?_
   refine om rfl rfl (shO_nil ?_)
   refine shW_block ?_
   refine shW_lp (fun fu4 e1 F1 L1 => ∃ (tl7 : List Int) (k4 : Int), tl7.length = fu4 ∧ Lst l4 k4 tl7 ∧ ∃ (course2 : List Int) (a270 : Option Addr) (n274 : Nat) (c271 : Nat) (Lb272 : LH), oyezlaw07_BookTurned_l4 by_ mirror tl7 course2 = some course ∧ F214 = F1 ∧ L1 = ((b78, .cells #[.int .i64 n3, .int .i64 n4, .slice a60 n64 c61, .slice a66 n70 c67, .slice a72 n76 c73] 27 (0, 0)) :: ((b44, .cells #[.int .i64 n, .int .i64 n2, .slice a19 l.length c20, .slice a25 l2.length c26, .slice a31 l3.length c32] 27 (0, 0)) :: (Lb81 ++ (Lb216 ++ (Lb74 ++ (Lb272 ++ (Lb39 ++ []))))))) ∧ e1.sub [(7, .pointer (some ⟨b44, 0, none⟩)), (9, .func (.func 29) #[] #[.pointer (some ⟨b2, 0, none⟩), .pointer (some ⟨b1, 0, none⟩)]), (10, .pointer (some ⟨b78, 0, none⟩)), (17, .slice a270 n274 c271), (85, .slice a37 n41 c38), (86, .int .i64 (l4.length : Int)), (87, .int .i64 k4)] ∧ SlR K.w0.heap.size 3 1 (iE .i64) F1 a270 n274 c271 course2 Lb272) _ (m0 (kc (kc (kg (fS fP) (kg (fS fP) (kg (fS fP) (ke kr)))))) ⟨_, _, rfl, Lst.start _, [], none, 0, 0, [], h268, rfl, rfl, (sc rfl (sc rfl (sc rfl (sc rfl (sc rfl (sc rfl (sc rfl (sn _)))))))), SlR.nil _ _ _ _ _⟩) ?_
   rintro fu4 e1 _ _ ⟨tl7, k4, hn277, hk276, course2, a270, n274, c271, Lb272, r278, rfl, rfl, he279, hz273⟩
   refine shW_env _ he279 ?_; clear he279
   refine wsr ?_
   refine ov (v_lssK rfl rfl) rfl ?_
   refine shO_nil (shW_seq ?_)
   refine shW_condP rfl (fun c281 => ?_) (fun c281 => ?_)
   · obtain ⟨x7, tl8, rfl, hx283, g284, hk282⟩ := Lst.succ hk276 c281
     rw [oyezlaw07_BookTurned_l4] at r278
     refine shW_skip (shW_seq ?_)
     refine shW_block ?_
     refine wsr ?_
     obtain ⟨b285, o286, c287, vs288, ha289, hs290, hle291, rfl, hl292, hc293⟩ := SlR.at (iE_ok _) hz40 (L := (b78, .cells #[.int .i64 n3, .int .i64 n4, .slice a60 n64 c61, .slice a66 n70 c67, .slice a72 n76 c73] 27 (0, 0)) :: ((b44, .cells #[.int .i64 n, .int .i64 n2, .slice a19 l.length c20, .slice a25 l2.length c26, .slice a31 l3.length c32] 27 (0, 0)) :: (Lb81 ++ (Lb216 ++ (Lb74 ++ (Lb272 ++ (Lb39 ++ []))))))) (fC (fC (fS (fS (fS (fS fP)))))) g284.1 hx283
     refine ov (v_indexO Try.underlying24 Try.sizeOf3 rfl ha289 rfl (SlR.idx hz40 g284)) rfl ?_
     refine ov (v_load Try.isAgg3 rfl hs290 (hc293 0 (by decide))) rfl ?_
     refine oa rfl rfl (shO_nil (shW_region (om rfl rfl (om rfl rfl (om rfl rfl ?_)))))
     obtain ⟨n7, h294, r295⟩ := b1_ok r278; clear r278
     refine o_callV rfl Try.call29 rfl rfl rfl (oyezlaw07_BookTurned_1_w hz79 hz80 h294) ?_
     refine o_buildSlice (cs := #[.int .i64 n7]) rfl rfl (buildSlice_all slt_24 [.int .i64 n7] rfl (by decide) (by simp [Value.cells]) (by decide)) ?_; intro b296 hb296
     obtain ⟨course3, h297, g298, r299⟩ := ap_ok r295; clear r295
     refine o_appZ (xs := course2) (ys := [n7]) (zs := course3) rfl slt_24 rfl rfl (Nat.le_refl _) (fun _ => .c (.c (.c (.s (.s (.s .h)))))) hz273 (SrcR.box (vss := [[.int .i64 n7]]) (ys := [n7]) 0 rfl (iE_ok _) (.cons rfl .nil) rfl rfl) h297 g298 (by decide) ?_; intro a300 n304 c301 Lb302 hz303
     refine kO (kd kr) ?_
     refine oa rfl rfl (shO_nil (inBlock_n (id := 7) (shW_region ?_)))
     refine ov (v_add rfl rfl (Lst.r64 hk276 c281 (SlR.llt hz40))) rfl ?_
     refine om rfl rfl (shO_nil ?_)
     subst hn277; exact le kr ⟨_, _, rfl, hk282, course3, a300, n304, c301, Lb302, r299, rfl, rfl, (sc rfl (sc rfl (sc rfl (sc rfl (sc rfl (sc rfl (sc rfl (sn _)))))))), hz303⟩
   obtain rfl := Lst.zero hk276 c281
   rw [oyezlaw07_BookTurned_l4] at r278
   refine shW_exit (andThen_exit (andThen_exit ?_))
   refine inBlock_exit ?_
   obtain rfl := inj1 r278
   exact mi (kc (kc (ka (ka (ka (ka kn)))))) ⟨a270, n274, c271, Lb272, rfl, rfl, (sc rfl (sc rfl (sc rfl (sn _)))), hz273⟩
 rintro e1 _ _ ⟨a262, n266, c263, Lb264, rfl, rfl, he306, hz265⟩
 refine shW_env _ he306 ?_; clear he306
 refine wsr ?_
 refine ov (v_loadA (cs := #[.int .i64 n, .int .i64 n2, .slice a19 l.length c20, .slice a25 l2.length c26, .slice a31 l3.length c32]) Try.isAgg27 Try.sizeOf27 rfl (Has.own 1 rfl) (Nat.le_of_ble_eq_true rfl) rfl) rfl ?_
 obtain ⟨n8, n9, h307, r308⟩ := b2_ok r269; clear r269
 refine o_callV rfl Try.call14 rfl rfl rfl (book_Count_w h47 h50 h53 h307) ?_
 refine om rfl rfl (ox rfl rfl rfl (ox rfl rfl rfl (oa rfl rfl (oa rfl rfl (nsr ?_)))))
 refine ov (v_loadA (cs := #[.int .i64 n3, .int .i64 n4, .slice a60 n64 c61, .slice a66 n70 c67, .slice a72 n76 c73]) Try.isAgg27 Try.sizeOf27 rfl (Has.own 0 rfl) (Nat.le_of_ble_eq_true rfl) rfl) rfl ?_
 obtain ⟨n10, n11, h309, r310⟩ := b2_ok r308; clear r308
 refine o_callT (Lt := Lb81 ++ (Lb216 ++ (Lb74 ++ []))) (Lr := (b78, .cells #[.int .i64 n3, .int .i64 n4, .slice a60 n64 c61, .slice a66 n70 c67, .slice a72 n76 c73] 27 (0, 0)) :: ((b44, .cells #[.int .i64 n, .int .i64 n2, .slice a19 l.length c20, .slice a25 l2.length c26, .slice a31 l3.length c32] 27 (0, 0)) :: (Lb264 ++ []))) rfl Try.call14 rfl rfl rfl (pT ((fC (fC fP)).trans (pA ((fC (fC fP)).trans (pA ((fC (fC fP)).trans (pA pR)))))) (lp (lp (lp (ln rfl))))) (fun F2 h2 h3 => by rw [(NlR.caps hz82).1]; rw [(SlR.caps hz217).1]; rw [(SlR.caps hz75).1]; exact book_Count_w (hz82.row (slE_ok (iE_ok _)) h2 (fun p hp => h3 p (List.mem_append_left _ hp))) (hz217.row (iE_ok _) h2 (fun p hp => h3 p (List.mem_append_right _ (List.mem_append_left _ hp)))) (hz75.row (prE_ok (iE_ok _) (prE_ok (iE_ok _) (iE_ok _))) h2 (fun p hp => h3 p (List.mem_append_right _ (List.mem_append_right _ (List.mem_append_left _ hp))))) h309) ?_
 refine om rfl rfl (ox rfl rfl rfl (ox rfl rfl rfl (oa rfl rfl (oa rfl rfl (nsr ?_)))))
 refine ov (v_loadA (cs := #[.int .i64 n, .int .i64 n2, .slice a19 l.length c20, .slice a25 l2.length c26, .slice a31 l3.length c32]) Try.isAgg27 Try.sizeOf27 rfl (Has.own 1 rfl) (Nat.le_of_ble_eq_true rfl) rfl) rfl ?_
 obtain ⟨l11, n12, h311, r312⟩ := b2_ok r310; clear r310
 refine o_call0 rfl Try.call13 rfl rfl rfl (book_Verdicts_w h47 h50 h53 h311) ?_; rintro _ F313 _ hF314 hn315 ⟨a317, c318, rfl, rfl, h319⟩
 replace hz82 := hz82.mono (slE_ok (iE_ok _)) hF314
 replace hz217 := hz217.mono (iE_ok _) hF314
 replace hz75 := hz75.mono (prE_ok (iE_ok _) (prE_ok (iE_ok _) (iE_ok _))) hF314
 replace hz265 := hz265.mono (iE_ok _) hF314
 refine shO_L (ln rfl) ?_
 refine om rfl rfl (ox rfl rfl rfl (ox rfl rfl rfl (oa rfl rfl (oa rfl rfl (nsr ?_)))))
 refine ov (v_loadA (cs := #[.int .i64 n3, .int .i64 n4, .slice a60 n64 c61, .slice a66 n70 c67, .slice a72 n76 c73]) Try.isAgg27 Try.sizeOf27 rfl (Has.own 0 rfl) (Nat.le_of_ble_eq_true rfl) rfl) rfl ?_
 obtain rfl := (NlR.caps hz82).1
 refine shO_freezeN (Nat.le_refl _) (slE_ok (iE_ok _)) (fC (fC fP)) hz82 ?_; intro F320 hF321 h322
 replace h319 := h319.mono (slE_ok (iE_ok _)) hF321
 replace hz217 := hz217.mono (iE_ok _) hF321
 replace hz75 := hz75.mono (prE_ok (iE_ok _) (prE_ok (iE_ok _) (iE_ok _))) hF321
 replace hz265 := hz265.mono (iE_ok _) hF321
 obtain rfl := (SlR.caps hz217).1
 refine shO_freezeR (Nat.le_refl _) (iE_ok _) (fC (fC fP)) hz217 ?_; intro F323 hF324 h325
 replace h319 := h319.mono (slE_ok (iE_ok _)) hF324
 replace h322 := h322.mono (slE_ok (slE_ok (iE_ok _))) hF324
 replace hz75 := hz75.mono (prE_ok (iE_ok _) (prE_ok (iE_ok _) (iE_ok _))) hF324
 replace hz265 := hz265.mono (iE_ok _) hF324
 obtain rfl := (SlR.caps hz75).1
 refine shO_freezeR (Nat.le_refl _) (prE_ok (iE_ok _) (prE_ok (iE_ok _) (iE_ok _))) (fC (fC fP)) hz75 ?_; intro F326 hF327 h328
 replace h319 := h319.mono (slE_ok (iE_ok _)) hF327
 replace h322 := h322.mono (slE_ok (slE_ok (iE_ok _))) hF327
 replace h325 := h325.mono (iE_ok _) hF327
 replace hz265 := hz265.mono (iE_ok _) hF327
 obtain ⟨l12, n13, h329, r330⟩ := b2_ok r312; clear r312
 refine o_call0 rfl Try.call13 rfl rfl rfl (book_Verdicts_w h322 h325 h328 h329) ?_; rintro _ F331 _ hF332 hn333 ⟨a335, c336, rfl, rfl, h337⟩
 replace h319 := h319.mono (slE_ok (iE_ok _)) hF332
 replace h322 := h322.mono (slE_ok (slE_ok (iE_ok _))) hF332
 replace h325 := h325.mono (iE_ok _) hF332
 replace h328 := h328.mono (prE_ok (iE_ok _) (prE_ok (iE_ok _) (iE_ok _))) hF332
 replace hz265 := hz265.mono (iE_ok _) hF332
 refine shO_L (ln rfl) ?_
 refine om rfl rfl (ox rfl rfl rfl (ox rfl rfl rfl (oa rfl rfl (oa rfl rfl (nsr ?_)))))
 refine ov (v_loadA (cs := #[.int .i64 n3, .int .i64 n4, .slice a60 u_hears.length c61, .slice a66 u_readings.length c67, .slice a72 l7.length c73]) Try.isAgg27 Try.sizeOf27 rfl (Has.own 0 rfl) (Nat.le_of_ble_eq_true rfl) rfl) rfl ?_
 refine om rfl rfl ?_
 obtain ⟨ok, n14, h338, r339⟩ := b2_ok r330; clear r330
 refine o_callT (Lt := Lb264 ++ []) (Lr := [(b78, .cells #[.int .i64 n3, .int .i64 n4, .slice a60 u_hears.length c61, .slice a66 u_readings.length c67, .slice a72 l7.length c73] 27 (0, 0)), (b44, .cells #[.int .i64 n, .int .i64 n2, .slice a19 l.length c20, .slice a25 l2.length c26, .slice a31 l3.length c32] 27 (0, 0))]) rfl Try.call32 rfl rfl rfl (pT ((fC (fC fP)).trans (pA pR)) (lp (ln rfl))) (fun F2 h2 h3 => by rw [(SlR.caps hz265).1]; exact book_Fits_w (h322.mono (slE_ok (slE_ok (iE_ok _))) h2) (h325.mono (iE_ok _) h2) (h328.mono (prE_ok (iE_ok _) (prE_ok (iE_ok _) (iE_ok _))) h2) (hz265.row (iE_ok _) h2 (fun p hp => h3 p (List.mem_append_left _ hp))) h338) ?_
 refine om rfl rfl (ox rfl rfl rfl (ox rfl rfl rfl (oa rfl rfl (oa rfl rfl (nsr (om rfl rfl ?_))))))
 refine ov (v_eql rfl rfl) rfl ?_
 refine om rfl rfl ?_
 by_cases c340 : n9 = 0
 · have r341 := ite_t r339 c340; clear r339
   refine shO_on (b := true) 126 rfl (Env.isT rfl c340) (om rfl rfl (shO_on (b := true) 126 rfl (Env.isT rfl c340) ?_))
   refine ov (v_eql rfl rfl) rfl ?_
   refine ov (v_pick_t (evD_true rfl c340) rfl) rfl ?_
   refine om rfl rfl ?_
   by_cases c342 : n11 = 0
   · have r343 := ite_t r341 c342; clear r341
     refine shO_on (b := true) 130 rfl (Env.isT rfl c342) (om rfl rfl (shO_on (b := true) 130 rfl (Env.isT rfl c342) ?_))
     refine ov (v_eql rfl rfl) rfl ?_
     refine ov (v_pick_t (evD_true rfl c342) rfl) rfl ?_
     refine om rfl rfl ?_
     by_cases c344 : n12 = 0
     · have r345 := ite_t r343 c344; clear r343
       refine shO_on (b := true) 134 rfl (Env.isT rfl c344) (om rfl rfl (shO_on (b := true) 134 rfl (Env.isT rfl c344) ?_))
       refine ov (v_eql rfl rfl) rfl ?_
       refine ov (v_pick_t (evD_true rfl c344) rfl) rfl ?_
       refine om rfl rfl ?_
       by_cases c346 : n13 = 0
       · have r347 := ite_t r345 c346; clear r345
         refine shO_on (b := true) 138 rfl (Env.isT rfl c346) (om rfl rfl (shO_on (b := true) 138 rfl (Env.isT rfl c346) ?_))
         refine ov (v_eql rfl rfl) rfl ?_
         refine ov (v_pick_t (evD_true rfl c346) rfl) rfl ?_
         refine om rfl rfl ?_
         by_cases c348 : n14 = 0
         · have r349 := ite_t r347 c348; clear r347
           refine shO_on (b := true) 142 rfl (Env.isT rfl c348) (om rfl rfl (shO_on (b := true) 142 rfl (Env.isT rfl c348) (om rfl rfl (shO_on (b := true) 142 rfl (Env.isT rfl c348) ?_))))
           refine ov (v_eql rfl rfl) rfl ?_
           refine ov (v_pick_t (evD_true rfl c348) rfl) rfl ?_
           refine om rfl rfl ?_
           by_cases c350 : n8 = n10
           · have r351 := ite_t r349 c350; clear r349
             refine shO_on (b := true) 147 rfl (Env.isT rfl c350) (om rfl rfl ?_)
             refine ov (v_pick_t (evD_true rfl c350) rfl) rfl ?_
             refine om rfl rfl ?_
             rcases bool_two ok with c352 | c352
             · have r353 := bt r351 c352; clear r351
               refine shO_on (b := true) 150 rfl (EnvB rfl c352) (om rfl rfl (shO_on (b := true) 150 rfl (EnvB rfl c352) (om rfl rfl (shO_on (b := true) 150 rfl (EnvB rfl c352) ?_))))
               obtain ⟨ok2, h354, r355⟩ := b1_ok r353; clear r353
               refine o_callV rfl Try.call33 rfl rfl rfl (oyezkit_LikeRows_Verdict_w h319 h337 h354) ?_
               refine ov (v_pick_t (evB rfl c352) rfl) rfl ?_
               refine om rfl rfl ?_
               rcases bool_two ok2 with c356 | c356
               · have r357 := bt r355 c356; clear r355
                 refine shO_on (b := true) 155 rfl (EnvB rfl c356) ?_
                 obtain ⟨ok3, h358, r359⟩ := b1_ok r357; clear r357
                 refine o_callV rfl Try.call16 rfl rfl rfl (oyezlaw07_awake_w h358) ?_
                 refine ov (v_pick_t (evB rfl c356) rfl) rfl ?_
                 refine oa rfl rfl (shO_nil ?_)
                 refine kW kn ?_
                 refine shW_ret ?_
                 refine q_res1 Try.results7 (res_tmp rfl) (sr) ?_
                 obtain rfl := inj1 r359
                 exact rfl
               have r360 := bf r355 c356; clear r355
               refine shO_off (b' := false) 155 rfl (EnvB rfl c356) rfl rfl ?_
               refine ov (v_pick_f (evB rfl c356) rfl) rfl ?_
               refine oa rfl rfl (shO_nil ?_)
               refine kW kn ?_
               refine shW_ret ?_
               refine q_res1 Try.results7 (res_tmp rfl) (sr) ?_
               obtain rfl := inj1 r360
               exact rfl
             have r361 := bf r351 c352; clear r351
             refine shO_off (b' := false) 150 rfl (EnvB rfl c352) rfl rfl (shO_off (b' := false) 150 rfl (EnvB rfl c352) rfl rfl (shO_off (b' := false) 150 rfl (EnvB rfl c352) rfl rfl ?_))
             refine ov (v_pick_f (evB rfl c352) rfl) rfl ?_
             refine om rfl rfl (shO_off (b' := false) 155 rfl rfl rfl rfl ?_)
             refine ov (v_pick_f rfl rfl) rfl ?_
             refine oa rfl rfl (shO_nil ?_)
             refine kW kn ?_
             refine shW_ret ?_
             refine q_res1 Try.results7 (res_tmp rfl) (sr) ?_
             obtain rfl := inj1 r361
             exact rfl
           have r362 := ite_f r349 c350; clear r349
           refine shO_off (b' := false) 147 rfl (Env.isF rfl c350) rfl rfl ?_
           refine ov (v_pick_f (evD_false rfl c350) rfl) rfl ?_
           refine om rfl rfl (shO_off (b' := false) 150 rfl rfl rfl rfl (shO_off (b' := false) 150 rfl rfl rfl rfl (shO_off (b' := false) 150 rfl rfl rfl rfl ?_)))
           refine ov (v_pick_f rfl rfl) rfl ?_
           refine om rfl rfl (shO_off (b' := false) 155 rfl rfl rfl rfl ?_)
           refine ov (v_pick_f rfl rfl) rfl ?_
           refine oa rfl rfl (shO_nil ?_)
           refine kW kn ?_
           refine shW_ret ?_
           refine q_res1 Try.results7 (res_tmp rfl) (sr) ?_
           obtain rfl := inj1 r362
           exact rfl
         have r363 := ite_f r347 c348; clear r347
         refine shO_off (b' := false) 142 rfl (Env.isF rfl c348) rfl rfl (shO_off (b' := false) 142 rfl (Env.isF rfl c348) rfl rfl (shO_off (b' := false) 142 rfl (Env.isF rfl c348) rfl rfl ?_))
         refine ov (v_pick_f (evD_false rfl c348) rfl) rfl ?_
         refine om rfl rfl (shO_off (b' := false) 147 rfl rfl rfl rfl ?_)
         refine ov (v_pick_f rfl rfl) rfl ?_
         refine om rfl rfl (shO_off (b' := false) 150 rfl rfl rfl rfl (shO_off (b' := false) 150 rfl rfl rfl rfl (shO_off (b' := false) 150 rfl rfl rfl rfl ?_)))
         refine ov (v_pick_f rfl rfl) rfl ?_
         refine om rfl rfl (shO_off (b' := false) 155 rfl rfl rfl rfl ?_)
         refine ov (v_pick_f rfl rfl) rfl ?_
         refine oa rfl rfl (shO_nil ?_)
         refine kW kn ?_
         refine shW_ret ?_
         refine q_res1 Try.results7 (res_tmp rfl) (sr) ?_
         obtain rfl := inj1 r363
         exact rfl
       have r364 := ite_f r345 c346; clear r345
       refine shO_off (b' := false) 138 rfl (Env.isF rfl c346) rfl rfl (shO_off (b' := false) 138 rfl (Env.isF rfl c346) rfl rfl ?_)
       refine ov (v_pick_f (evD_false rfl c346) rfl) rfl ?_
       refine om rfl rfl (shO_off (b' := false) 142 rfl rfl rfl rfl (shO_off (b' := false) 142 rfl rfl rfl rfl (shO_off (b' := false) 142 rfl rfl rfl rfl ?_)))
       refine ov (v_pick_f rfl rfl) rfl ?_
       refine om rfl rfl (shO_off (b' := false) 147 rfl rfl rfl rfl ?_)
       refine ov (v_pick_f rfl rfl) rfl ?_
       refine om rfl rfl (shO_off (b' := false) 150 rfl rfl rfl rfl (shO_off (b' := false) 150 rfl rfl rfl rfl (shO_off (b' := false) 150 rfl rfl rfl rfl ?_)))
       refine ov (v_pick_f rfl rfl) rfl ?_
       refine om rfl rfl (shO_off (b' := false) 155 rfl rfl rfl rfl ?_)
       refine ov (v_pick_f rfl rfl) rfl ?_
       refine oa rfl rfl (shO_nil ?_)
       refine kW kn ?_
       refine shW_ret ?_
       refine q_res1 Try.results7 (res_tmp rfl) (sr) ?_
       obtain rfl := inj1 r364
       exact rfl
     have r365 := ite_f r343 c344; clear r343
     refine shO_off (b' := false) 134 rfl (Env.isF rfl c344) rfl rfl (shO_off (b' := false) 134 rfl (Env.isF rfl c344) rfl rfl ?_)
     refine ov (v_pick_f (evD_false rfl c344) rfl) rfl ?_
     refine om rfl rfl (shO_off (b' := false) 138 rfl rfl rfl rfl (shO_off (b' := false) 138 rfl rfl rfl rfl ?_))
     refine ov (v_pick_f rfl rfl) rfl ?_
     refine om rfl rfl (shO_off (b' := false) 142 rfl rfl rfl rfl (shO_off (b' := false) 142 rfl rfl rfl rfl (shO_off (b' := false) 142 rfl rfl rfl rfl ?_)))
     refine ov (v_pick_f rfl rfl) rfl ?_
     refine om rfl rfl (shO_off (b' := false) 147 rfl rfl rfl rfl ?_)
     refine ov (v_pick_f rfl rfl) rfl ?_
     refine om rfl rfl (shO_off (b' := false) 150 rfl rfl rfl rfl (shO_off (b' := false) 150 rfl rfl rfl rfl (shO_off (b' := false) 150 rfl rfl rfl rfl ?_)))
     refine ov (v_pick_f rfl rfl) rfl ?_
     refine om rfl rfl (shO_off (b' := false) 155 rfl rfl rfl rfl ?_)
     refine ov (v_pick_f rfl rfl) rfl ?_
     refine oa rfl rfl (shO_nil ?_)
     refine kW kn ?_
     refine shW_ret ?_
     refine q_res1 Try.results7 (res_tmp rfl) (sr) ?_
     obtain rfl := inj1 r365
     exact rfl
   have r366 := ite_f r341 c342; clear r341
   refine shO_off (b' := false) 130 rfl (Env.isF rfl c342) rfl rfl (shO_off (b' := false) 130 rfl (Env.isF rfl c342) rfl rfl ?_)
   refine ov (v_pick_f (evD_false rfl c342) rfl) rfl ?_
   refine om rfl rfl (shO_off (b' := false) 134 rfl rfl rfl rfl (shO_off (b' := false) 134 rfl rfl rfl rfl ?_))
   refine ov (v_pick_f rfl rfl) rfl ?_
   refine om rfl rfl (shO_off (b' := false) 138 rfl rfl rfl rfl (shO_off (b' := false) 138 rfl rfl rfl rfl ?_))
   refine ov (v_pick_f rfl rfl) rfl ?_
   refine om rfl rfl (shO_off (b' := false) 142 rfl rfl rfl rfl (shO_off (b' := false) 142 rfl rfl rfl rfl (shO_off (b' := false) 142 rfl rfl rfl rfl ?_)))
   refine ov (v_pick_f rfl rfl) rfl ?_
   refine om rfl rfl (shO_off (b' := false) 147 rfl rfl rfl rfl ?_)
   refine ov (v_pick_f rfl rfl) rfl ?_
   refine om rfl rfl (shO_off (b' := false) 150 rfl rfl rfl rfl (shO_off (b' := false) 150 rfl rfl rfl rfl (shO_off (b' := false) 150 rfl rfl rfl rfl ?_)))
   refine ov (v_pick_f rfl rfl) rfl ?_
   refine om rfl rfl (shO_off (b' := false) 155 rfl rfl rfl rfl ?_)
   refine ov (v_pick_f rfl rfl) rfl ?_
   refine oa rfl rfl (shO_nil ?_)
   refine kW kn ?_
   refine shW_ret ?_
   refine q_res1 Try.results7 (res_tmp rfl) (sr) ?_
   obtain rfl := inj1 r366
   exact rfl
 have r367 := ite_f r339 c340; clear r339
 refine shO_off (b' := false) 126 rfl (Env.isF rfl c340) rfl rfl (shO_off (b' := false) 126 rfl (Env.isF rfl c340) rfl rfl ?_)
 refine ov (v_pick_f (evD_false rfl c340) rfl) rfl ?_
 refine om rfl rfl (shO_off (b' := false) 130 rfl rfl rfl rfl (shO_off (b' := false) 130 rfl rfl rfl rfl ?_))
 refine ov (v_pick_f rfl rfl) rfl ?_
 refine om rfl rfl (shO_off (b' := false) 134 rfl rfl rfl rfl (shO_off (b' := false) 134 rfl rfl rfl rfl ?_))
 refine ov (v_pick_f rfl rfl) rfl ?_
 refine om rfl rfl (shO_off (b' := false) 138 rfl rfl rfl rfl (shO_off (b' := false) 138 rfl rfl rfl rfl ?_))
 refine ov (v_pick_f rfl rfl) rfl ?_
 refine om rfl rfl (shO_off (b' := false) 142 rfl rfl rfl rfl (shO_off (b' := false) 142 rfl rfl rfl rfl (shO_off (b' := false) 142 rfl rfl rfl rfl ?_)))
 refine ov (v_pick_f rfl rfl) rfl ?_
 refine om rfl rfl (shO_off (b' := false) 147 rfl rfl rfl rfl ?_)
 refine ov (v_pick_f rfl rfl) rfl ?_
 refine om rfl rfl (shO_off (b' := false) 150 rfl rfl rfl rfl (shO_off (b' := false) 150 rfl rfl rfl rfl (shO_off (b' := false) 150 rfl rfl rfl rfl ?_)))
 refine ov (v_pick_f rfl rfl) rfl ?_
 refine om rfl rfl (shO_off (b' := false) 155 rfl rfl rfl rfl ?_)
 refine ov (v_pick_f rfl rfl) rfl ?_
 refine oa rfl rfl (shO_nil ?_)
 refine kW kn ?_
 refine shW_ret ?_
 refine q_res1 Try.results7 (res_tmp rfl) (sr) ?_
 obtain rfl := inj1 r367
 exact rfl
end Go.Proofs.Ytodhcoakjlmcdaa
