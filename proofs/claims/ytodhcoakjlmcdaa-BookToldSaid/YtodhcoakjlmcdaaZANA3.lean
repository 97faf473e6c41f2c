/- The walks that this claim needs, printed by a program of mine; part 3. -/
import Derived.Test.YtodhcoakjlmcdaaZANA2
namespace Go.Proofs.Ytodhcoakjlmcdaa
open Go.SH Go.PL
set_option maxHeartbeats 1000000 in
theorem oyezlaw07_awake_w {F : FS} {r : Bool} (hr : oyezlaw07_awake = some r) :
    SpecV Try.prog 16 #[] F (.bool r) := by
 refine spec_of_shW (args := []) Try.func16 rfl Try.ntmps16 (Nat.le_of_ble_eq_true rfl) ?_
 intro K _ _; rw [oyezlaw07_awake] at hr
 refine wsr (oa rfl rfl (nsr ?_))
 obtain ⟨n, n2, l, l2, l3, h1, r2⟩ := b5_ok hr; clear hr
 refine o_call0 rfl Try.call45 rfl rfl rfl (oyezlaw07_Bell_w h1) ?_; rintro _ F3 _ hF4 hn5 ⟨a7, n11, c8, Lb9, a13, n17, c14, Lb15, a19, n23, c20, Lb21, rfl, rfl, hz10, hz16, hz22⟩
 replace hz10 := hz10.new fun p hp => hn5 p (by simp [hp])
 replace hz16 := hz16.new fun p hp => hn5 p (by simp [hp])
 replace hz22 := hz22.new fun p hp => hn5 p (by simp [hp])
 refine shO_L (lp (lp (lp (ln rfl)))) ?_
 obtain ⟨n3, n4, h25, r26⟩ := b2_ok r2; clear r2
 refine o_callT (Lt := Lb9 ++ (Lb15 ++ (Lb21 ++ []))) (Lr := []) rfl Try.call14 rfl rfl rfl (pT pR (lp (lp (lp (ln rfl))))) (fun F2 h2 h3 => by rw [(SlR.caps hz10).1]; rw [(SlR.caps hz16).1]; rw [(SlR.caps hz22).1]; exact book_Count_w (hz10.row (slE_ok (slE_ok (iE_ok _))) h2 (fun p hp => h3 p (List.mem_append_left _ hp))) (hz16.row (iE_ok _) h2 (fun p hp => h3 p (List.mem_append_right _ (List.mem_append_left _ hp)))) (hz22.row (prE_ok (iE_ok _) (prE_ok (iE_ok _) (iE_ok _))) h2 (fun p hp => h3 p (List.mem_append_right _ (List.mem_append_right _ (List.mem_append_left _ hp))))) h25) ?_
 refine om rfl rfl (ox rfl rfl rfl (ox rfl rfl rfl (oa rfl rfl (oa rfl rfl (nsr ?_)))))
 obtain ⟨n5, n6, l4, l5, l6, h27, r28⟩ := b5_ok r26; clear r26
 refine o_call0 rfl Try.call45 rfl rfl rfl (oyezlaw07_Bell_w h27) ?_; rintro _ F29 _ hF30 hn31 ⟨a33, n37, c34, Lb35, a39, n43, c40, Lb41, a45, n49, c46, Lb47, rfl, rfl, hz36, hz42, hz48⟩
 replace hz36 := hz36.new fun p hp => hn31 p (by simp [hp])
 replace hz42 := hz42.new fun p hp => hn31 p (by simp [hp])
 replace hz48 := hz48.new fun p hp => hn31 p (by simp [hp])
 refine shO_L (lp (lp (lp (ln rfl)))) ?_
 obtain ⟨l7, n7, h51, r52⟩ := b2_ok r28; clear r28
 refine o_callTO (Lb := []) (Lt := Lb35 ++ (Lb41 ++ (Lb47 ++ []))) (Lr := Lb9 ++ (Lb15 ++ (Lb21 ++ []))) rfl Try.call17 rfl rfl rfl (pT pR (ln (lp (lp (lp (ln rfl)))))) (fun F2 h2 h3 => by rw [(SlR.caps hz36).1]; rw [(SlR.caps hz42).1]; rw [(SlR.caps hz48).1]; exact book_First_w (hz36.row (slE_ok (slE_ok (iE_ok _))) h2 (fun p hp => h3 p (List.mem_append_left _ hp))) (hz42.row (iE_ok _) h2 (fun p hp => h3 p (List.mem_append_right _ (List.mem_append_left _ hp)))) (hz48.row (prE_ok (iE_ok _) (prE_ok (iE_ok _) (iE_ok _))) h2 (fun p hp => h3 p (List.mem_append_right _ (List.mem_append_right _ (List.mem_append_left _ hp))))) h51) (fun _ _ _ _ hq => by obtain ⟨a57, n61, c58, Lb59, rfl, rfl, hz60⟩ := hq; exact ⟨_, _, _, _, rfl, rfl, hz60.flat (fun _ _ h => h)⟩) ?_; rintro _ F53 _ hF54 hd56 hn55 ⟨a57, n61, c58, Lb59, rfl, rfl, hz60⟩
 have hn63 := newp (Lb' := []) (by rfl) hd56 hn55
 replace hz60 := hz60.new fun p hp => hn63 p (by simp [hp])
 refine shO_L (lp (ln (lp (lp (lp (ln rfl)))))) ?_
 refine om rfl rfl (ox rfl rfl rfl (ox rfl rfl rfl (oa rfl rfl (oa rfl rfl (nsr ?_)))))
 obtain ⟨n8, n9, l8, l9, l10, h64, r65⟩ := b5_ok r52; clear r52
 refine o_call0 rfl Try.call45 rfl rfl rfl (oyezlaw07_Bell_w h64) ?_; rintro _ F66 _ hF67 hn68 ⟨a70, n74, c71, Lb72, a76, n80, c77, Lb78, a82, n86, c83, Lb84, rfl, rfl, hz73, hz79, hz85⟩
 replace hz60 := hz60.mono (iE_ok _) hF67
 replace hz73 := hz73.new fun p hp => hn68 p (by simp [hp])
 replace hz79 := hz79.new fun p hp => hn68 p (by simp [hp])
 replace hz85 := hz85.new fun p hp => hn68 p (by simp [hp])
 refine shO_L (lp (lp (lp (ln rfl)))) ?_
 obtain rfl := (SlR.caps hz73).1
 refine shO_freezeR (Nat.le_refl _) (slE_ok (slE_ok (iE_ok _))) fP hz73 ?_; intro F88 hF89 h90
 replace hz60 := hz60.mono (iE_ok _) hF89
 replace hz79 := hz79.mono (iE_ok _) hF89
 replace hz85 := hz85.mono (prE_ok (iE_ok _) (prE_ok (iE_ok _) (iE_ok _))) hF89
 obtain rfl := (SlR.caps hz79).1
 refine shO_freezeR (Nat.le_refl _) (iE_ok _) fP hz79 ?_; intro F91 hF92 h93
 replace h90 := h90.mono (slE_ok (slE_ok (iE_ok _))) hF92
 replace hz60 := hz60.mono (iE_ok _) hF92
 replace hz85 := hz85.mono (prE_ok (iE_ok _) (prE_ok (iE_ok _) (iE_ok _))) hF92
 obtain rfl := (SlR.caps hz85).1
 refine shO_freezeR (Nat.le_refl _) (prE_ok (iE_ok _) (prE_ok (iE_ok _) (iE_ok _))) fP hz85 ?_; intro F94 hF95 h96
 replace h90 := h90.mono (slE_ok (slE_ok (iE_ok _))) hF95
 replace h93 := h93.mono (iE_ok _) hF95
 replace hz60 := hz60.mono (iE_ok _) hF95
 obtain ⟨l11, n10, h97, r98⟩ := b2_ok r65; clear r65
 refine o_call0 rfl Try.call13 rfl rfl rfl (book_Verdicts_w h90 h93 h96 h97) ?_; rintro _ F99 _ hF100 hn101 ⟨a103, c104, rfl, rfl, h105⟩
 replace hz60 := hz60.mono (iE_ok _) hF100
 refine shO_L (ln rfl) ?_
 refine om rfl rfl (ox rfl rfl rfl (ox rfl rfl rfl (oa rfl rfl (oa rfl rfl (nsr ?_)))))
 obtain ⟨n11, n12, l12, l13, l14, h106, r107⟩ := b5_ok r98; clear r98
 refine o_call0 rfl Try.call45 rfl rfl rfl (oyezlaw07_Bell_w h106) ?_; rintro _ F108 _ hF109 hn110 ⟨a112, n116, c113, Lb114, a118, n122, c119, Lb120, a124, n128, c125, Lb126, rfl, rfl, hz115, hz121, hz127⟩
 replace h105 := h105.mono (slE_ok (iE_ok _)) hF109
 replace hz60 := hz60.mono (iE_ok _) hF109
 replace hz115 := hz115.new fun p hp => hn110 p (by simp [hp])
 replace hz121 := hz121.new fun p hp => hn110 p (by simp [hp])
 replace hz127 := hz127.new fun p hp => hn110 p (by simp [hp])
 refine shO_L (lp (lp (lp (ln rfl)))) ?_
 obtain rfl := (SlR.caps hz115).1
 refine shO_freezeR (Nat.le_refl _) (slE_ok (slE_ok (iE_ok _))) fP hz115 ?_; intro F130 hF131 h132
 replace h105 := h105.mono (slE_ok (iE_ok _)) hF131
 replace hz60 := hz60.mono (iE_ok _) hF131
 replace hz121 := hz121.mono (iE_ok _) hF131
 replace hz127 := hz127.mono (prE_ok (iE_ok _) (prE_ok (iE_ok _) (iE_ok _))) hF131
 obtain rfl := (SlR.caps hz121).1
 refine shO_freezeR (Nat.le_refl _) (iE_ok _) fP hz121 ?_; intro F133 hF134 h135
 replace h105 := h105.mono (slE_ok (iE_ok _)) hF134
 replace h132 := h132.mono (slE_ok (slE_ok (iE_ok _))) hF134
 replace hz60 := hz60.mono (iE_ok _) hF134
 replace hz127 := hz127.mono (prE_ok (iE_ok _) (prE_ok (iE_ok _) (iE_ok _))) hF134
 obtain rfl := (SlR.caps hz127).1
 refine shO_freezeR (Nat.le_refl _) (prE_ok (iE_ok _) (prE_ok (iE_ok _) (iE_ok _))) fP hz127 ?_; intro F136 hF137 h138
 replace h105 := h105.mono (slE_ok (iE_ok _)) hF137
 replace h132 := h132.mono (slE_ok (slE_ok (iE_ok _))) hF137
 replace h135 := h135.mono (iE_ok _) hF137
 replace hz60 := hz60.mono (iE_ok _) hF137
 obtain ⟨l15, n13, h139, r140⟩ := b2_ok r107; clear r107
 refine o_call0 rfl Try.call15 rfl rfl rfl (book_Winds_w h132 h135 h138 h139) ?_; rintro _ F141 _ hF142 hn143 ⟨a145, n149, c146, Lb147, rfl, rfl, hz148⟩
 replace h105 := h105.mono (slE_ok (iE_ok _)) hF142
 replace hz60 := hz60.mono (iE_ok _) hF142
 replace hz148 := hz148.new fun p hp => hn143 p (by simp [hp])
 refine shO_L (lp (ln rfl)) ?_
 refine om rfl rfl (ox rfl rfl rfl (ox rfl rfl rfl (oa rfl rfl (oa rfl rfl (shO_nil (shW_seq ?_))))))
 obtain ⟨k, h151, r152⟩ := b1_ok r140; clear r140
 refine shW_join (fun e1 F1 L1 => FExt F141 F1 ∧ L1 = [] ∧ e1.sub [(73, .bool k)]) ?_ ?_
 · clear r152
   refine shW_region (om rfl rfl ?_)
   refine ov (v_neq rfl rfl) rfl ?_
   refine om rfl rfl ?_
   by_cases c153 : n4 ≠ 0
   · have r154 := ite_t h151 c153; clear h151
     refine shO_off (b' := true) 35 rfl (Env.isT rfl c153) rfl rfl (shO_off (b' := true) 35 rfl (Env.isT rfl c153) rfl rfl ?_)
     refine ov (v_pick_t (evD_true rfl c153) rfl) rfl ?_
     refine om rfl rfl (shO_off (b' := true) 39 rfl rfl rfl rfl (shO_off (b' := true) 39 rfl rfl rfl rfl ?_))
     refine ov (v_pick_t rfl rfl) rfl ?_
     refine om rfl rfl (shO_off (b' := true) 43 rfl rfl rfl rfl (shO_off (b' := true) 43 rfl rfl rfl rfl ?_))
     refine ov (v_pick_t rfl rfl) rfl ?_
     refine om rfl rfl (shO_off (b' := true) 47 rfl rfl rfl rfl (shO_off (b' := true) 47 rfl rfl rfl rfl ?_))
     refine ov (v_pick_t rfl rfl) rfl ?_
     refine om rfl rfl (shO_off (b' := true) 51 rfl rfl rfl rfl (shO_off (b' := true) 51 rfl rfl rfl rfl (shO_off (b' := true) 51 rfl rfl rfl rfl (shO_off (b' := true) 51 rfl rfl rfl rfl ?_))))
     refine ov (v_pick_t rfl rfl) rfl ?_
     refine om rfl rfl (shO_off (b' := true) 57 rfl rfl rfl rfl (shO_off (b' := true) 57 rfl rfl rfl rfl (shO_off (b' := true) 57 rfl rfl rfl rfl (shO_off (b' := true) 57 rfl rfl rfl rfl (shO_off (b' := true) 57 rfl rfl rfl rfl (shO_off (b' := true) 57 rfl rfl rfl rfl ?_))))))
     refine ov (v_pick_t rfl rfl) rfl ?_
     refine om rfl rfl (shO_off (b' := true) 65 rfl rfl rfl rfl (shO_off (b' := true) 65 rfl rfl rfl rfl (shO_off (b' := true) 65 rfl rfl rfl rfl (shO_off (b' := true) 65 rfl rfl rfl rfl (shO_off (b' := true) 65 rfl rfl rfl rfl (shO_off (b' := true) 65 rfl rfl rfl rfl (shO_off (b' := true) 65 rfl rfl rfl rfl ?_)))))))
     refine ov (v_pick_t rfl rfl) rfl ?_
     refine shO_nil ?_
     obtain rfl := inj1 r154
     exact mi kn ⟨FExt.refl _, rfl, (sc rfl (sn _))⟩
   have r155 := ite_f h151 c153; clear h151
   refine shO_on (b := false) 35 rfl (Env.isF rfl c153) (om rfl rfl (shO_on (b := false) 35 rfl (Env.isF rfl c153) ?_))
   refine ov (v_neq rfl rfl) rfl ?_
   refine ov (v_pick_f (evD_false rfl c153) rfl) rfl ?_
   refine om rfl rfl ?_
   by_cases c156 : n7 ≠ 0
   · have r157 := ite_t r155 c156; clear r155
     refine shO_off (b' := true) 39 rfl (Env.isT rfl c156) rfl rfl (shO_off (b' := true) 39 rfl (Env.isT rfl c156) rfl rfl ?_)
     refine ov (v_pick_t (evD_true rfl c156) rfl) rfl ?_
     refine om rfl rfl (shO_off (b' := true) 43 rfl rfl rfl rfl (shO_off (b' := true) 43 rfl rfl rfl rfl ?_))
     refine ov (v_pick_t rfl rfl) rfl ?_
     refine om rfl rfl (shO_off (b' := true) 47 rfl rfl rfl rfl (shO_off (b' := true) 47 rfl rfl rfl rfl ?_))
     refine ov (v_pick_t rfl rfl) rfl ?_
     refine om rfl rfl (shO_off (b' := true) 51 rfl rfl rfl rfl (shO_off (b' := true) 51 rfl rfl rfl rfl (shO_off (b' := true) 51 rfl rfl rfl rfl (shO_off (b' := true) 51 rfl rfl rfl rfl ?_))))
     refine ov (v_pick_t rfl rfl) rfl ?_
     refine om rfl rfl (shO_off (b' := true) 57 rfl rfl rfl rfl (shO_off (b' := true) 57 rfl rfl rfl rfl (shO_off (b' := true) 57 rfl rfl rfl rfl (shO_off (b' := true) 57 rfl rfl rfl rfl (shO_off (b' := true) 57 rfl rfl rfl rfl (shO_off (b' := true) 57 rfl rfl rfl rfl ?_))))))
     refine ov (v_pick_t rfl rfl) rfl ?_
     refine om rfl rfl (shO_off (b' := true) 65 rfl rfl rfl rfl (shO_off (b' := true) 65 rfl rfl rfl rfl (shO_off (b' := true) 65 rfl rfl rfl rfl (shO_off (b' := true) 65 rfl rfl rfl rfl (shO_off (b' := true) 65 rfl rfl rfl rfl (shO_off (b' := true) 65 rfl rfl rfl rfl (shO_off (b' := true) 65 rfl rfl rfl rfl ?_)))))))
     refine ov (v_pick_t rfl rfl) rfl ?_
     refine shO_nil ?_
     obtain rfl := inj1 r157
     exact mi kn ⟨FExt.refl _, rfl, (sc rfl (sn _))⟩
   have r158 := ite_f r155 c156; clear r155
   refine shO_on (b := false) 39 rfl (Env.isF rfl c156) (om rfl rfl (shO_on (b := false) 39 rfl (Env.isF rfl c156) ?_))
   refine ov (v_neq rfl rfl) rfl ?_
   refine ov (v_pick_f (evD_false rfl c156) rfl) rfl ?_
   refine om rfl rfl ?_
   by_cases c159 : n10 ≠ 0
   · have r160 := ite_t r158 c159; clear r158
     refine shO_off (b' := true) 43 rfl (Env.isT rfl c159) rfl rfl (shO_off (b' := true) 43 rfl (Env.isT rfl c159) rfl rfl ?_)
     refine ov (v_pick_t (evD_true rfl c159) rfl) rfl ?_
     refine om rfl rfl (shO_off (b' := true) 47 rfl rfl rfl rfl (shO_off (b' := true) 47 rfl rfl rfl rfl ?_))
     refine ov (v_pick_t rfl rfl) rfl ?_
     refine om rfl rfl (shO_off (b' := true) 51 rfl rfl rfl rfl (shO_off (b' := true) 51 rfl rfl rfl rfl (shO_off (b' := true) 51 rfl rfl rfl rfl (shO_off (b' := true) 51 rfl rfl rfl rfl ?_))))
     refine ov (v_pick_t rfl rfl) rfl ?_
     refine om rfl rfl (shO_off (b' := true) 57 rfl rfl rfl rfl (shO_off (b' := true) 57 rfl rfl rfl rfl (shO_off (b' := true) 57 rfl rfl rfl rfl (shO_off (b' := true) 57 rfl rfl rfl rfl (shO_off (b' := true) 57 rfl rfl rfl rfl (shO_off (b' := true) 57 rfl rfl rfl rfl ?_))))))
     refine ov (v_pick_t rfl rfl) rfl ?_
     refine om rfl rfl (shO_off (b' := true) 65 rfl rfl rfl rfl (shO_off (b' := true) 65 rfl rfl rfl rfl (shO_off (b' := true) 65 rfl rfl rfl rfl (shO_off (b' := true) 65 rfl rfl rfl rfl (shO_off (b' := true) 65 rfl rfl rfl rfl (shO_off (b' := true) 65 rfl rfl rfl rfl (shO_off (b' := true) 65 rfl rfl rfl rfl ?_)))))))
     refine ov (v_pick_t rfl rfl) rfl ?_
     refine shO_nil ?_
     obtain rfl := inj1 r160
     exact mi kn ⟨FExt.refl _, rfl, (sc rfl (sn _))⟩
   have r161 := ite_f r158 c159; clear r158
   refine shO_on (b := false) 43 rfl (Env.isF rfl c159) (om rfl rfl (shO_on (b := false) 43 rfl (Env.isF rfl c159) ?_))
   refine ov (v_neq rfl rfl) rfl ?_
   refine ov (v_pick_f (evD_false rfl c159) rfl) rfl ?_
   refine om rfl rfl ?_
   by_cases c162 : n13 ≠ 0
   · have r163 := ite_t r161 c162; clear r161
     refine shO_off (b' := true) 47 rfl (Env.isT rfl c162) rfl rfl (shO_off (b' := true) 47 rfl (Env.isT rfl c162) rfl rfl ?_)
     refine ov (v_pick_t (evD_true rfl c162) rfl) rfl ?_
     refine om rfl rfl (shO_off (b' := true) 51 rfl rfl rfl rfl (shO_off (b' := true) 51 rfl rfl rfl rfl (shO_off (b' := true) 51 rfl rfl rfl rfl (shO_off (b' := true) 51 rfl rfl rfl rfl ?_))))
     refine ov (v_pick_t rfl rfl) rfl ?_
     refine om rfl rfl (shO_off (b' := true) 57 rfl rfl rfl rfl (shO_off (b' := true) 57 rfl rfl rfl rfl (shO_off (b' := true) 57 rfl rfl rfl rfl (shO_off (b' := true) 57 rfl rfl rfl rfl (shO_off (b' := true) 57 rfl rfl rfl rfl (shO_off (b' := true) 57 rfl rfl rfl rfl ?_))))))
     refine ov (v_pick_t rfl rfl) rfl ?_
     refine om rfl rfl (shO_off (b' := true) 65 rfl rfl rfl rfl (shO_off (b' := true) 65 rfl rfl rfl rfl (shO_off (b' := true) 65 rfl rfl rfl rfl (shO_off (b' := true) 65 rfl rfl rfl rfl (shO_off (b' := true) 65 rfl rfl rfl rfl (shO_off (b' := true) 65 rfl rfl rfl rfl (shO_off (b' := true) 65 rfl rfl rfl rfl ?_)))))))
     refine ov (v_pick_t rfl rfl) rfl ?_
     refine shO_nil ?_
     obtain rfl := inj1 r163
     exact mi kn ⟨FExt.refl _, rfl, (sc rfl (sn _))⟩
   have r164 := ite_f r161 c162; clear r161
   refine shO_on (b := false) 47 rfl (Env.isF rfl c162) (om rfl rfl (shO_on (b := false) 47 rfl (Env.isF rfl c162) ?_))
   refine ov (v_neq rfl rfl) rfl ?_
   refine ov (v_pick_f (evD_false rfl c162) rfl) rfl ?_
   refine om rfl rfl ?_
   by_cases c165 : n3 ≠ 4
   · have r166 := ite_t r164 c165; clear r164
     refine shO_off (b' := true) 51 rfl (Env.isT rfl c165) rfl rfl (shO_off (b' := true) 51 rfl (Env.isT rfl c165) rfl rfl (shO_off (b' := true) 51 rfl (Env.isT rfl c165) rfl rfl (shO_off (b' := true) 51 rfl (Env.isT rfl c165) rfl rfl ?_)))
     refine ov (v_pick_t (evD_true rfl c165) rfl) rfl ?_
     refine om rfl rfl (shO_off (b' := true) 57 rfl rfl rfl rfl (shO_off (b' := true) 57 rfl rfl rfl rfl (shO_off (b' := true) 57 rfl rfl rfl rfl (shO_off (b' := true) 57 rfl rfl rfl rfl (shO_off (b' := true) 57 rfl rfl rfl rfl (shO_off (b' := true) 57 rfl rfl rfl rfl ?_))))))
     refine ov (v_pick_t rfl rfl) rfl ?_
     refine om rfl rfl (shO_off (b' := true) 65 rfl rfl rfl rfl (shO_off (b' := true) 65 rfl rfl rfl rfl (shO_off (b' := true) 65 rfl rfl rfl rfl (shO_off (b' := true) 65 rfl rfl rfl rfl (shO_off (b' := true) 65 rfl rfl rfl rfl (shO_off (b' := true) 65 rfl rfl rfl rfl (shO_off (b' := true) 65 rfl rfl rfl rfl ?_)))))))
     refine ov (v_pick_t rfl rfl) rfl ?_
     refine shO_nil ?_
     obtain rfl := inj1 r166
     exact mi kn ⟨FExt.refl _, rfl, (sc rfl (sn _))⟩
   have r167 := ite_f r164 c165; clear r164
   refine shO_on (b := false) 51 rfl (Env.isF rfl c165) (om rfl rfl (shO_on (b := false) 51 rfl (Env.isF rfl c165) ?_))
   refine o_buildSlice (cs := #[.int .i64 1, .int .i64 2, .int .i64 3]) rfl rfl (buildSlice_all slt_24 [.int .i64 1, .int .i64 2, .int .i64 3] rfl (by decide) (by simp [Value.cells]) (by decide)) ?_; intro b168 hb168
   refine shO_on (b := false) 51 rfl (Env.isF rfl c165) ?_
   refine shO_freeze 0 rfl hb168 ?_; intro F169 hF170 hz171
   refine shO_L (L' := Lb147 ++ (Lb59 ++ (Lb35 ++ (Lb41 ++ (Lb47 ++ (Lb9 ++ (Lb15 ++ (Lb21 ++ [])))))))) rfl ?_
   replace h105 := h105.mono (slE_ok (iE_ok _)) hF170
   replace hz60 := hz60.mono (iE_ok _) hF170
   replace hz148 := hz148.mono (slE_ok (iE_ok _)) hF170
   have h172 : RowR 1 (iE .i64) F169 (some ⟨b168, 0, none⟩) 3 [1, 2, 3] := RowR.of_block (iE_ok _) (vss := [[.int .i64 1], [.int .i64 2], [.int .i64 3]]) (xs := [1, 2, 3]) hz171 (.cons rfl (.cons rfl (.cons rfl .nil))) rfl (by simp [maxLen])
   obtain ⟨ok, h173, r174⟩ := b1_ok r167; clear r167
   refine o_callT (Lt := Lb59 ++ []) (Lr := Lb147 ++ (Lb35 ++ (Lb41 ++ (Lb47 ++ (Lb9 ++ (Lb15 ++ (Lb21 ++ []))))))) rfl Try.call46 rfl rfl rfl (pT ((fS fP).trans (pA pR)) (lp (ln rfl))) (fun F2 h2 h3 => by rw [(SlR.caps hz60).1]; exact oyezkit_Like_int_w (hz60.row (iE_ok _) h2 (fun p hp => h3 p (List.mem_append_left _ hp))) (h172.mono (iE_ok _) h2) h173) ?_
   refine shO_on (b := false) 51 rfl (Env.isF rfl c165) ?_
   refine ov (v_notB rfl) rfl ?_
   refine ov (v_pick_f (evD_false rfl c165) rfl) rfl ?_
   refine om rfl rfl ?_
   rcases bool_two (!ok) with c175 | c175
   · have r176 := bt r174 c175; clear r174
     refine shO_off (b' := true) 57 rfl (EnvB rfl c175) rfl rfl (shO_off (b' := true) 57 rfl (EnvB rfl c175) rfl rfl (shO_off (b' := true) 57 rfl (EnvB rfl c175) rfl rfl (shO_off (b' := true) 57 rfl (EnvB rfl c175) rfl rfl (shO_off (b' := true) 57 rfl (EnvB rfl c175) rfl rfl (shO_off (b' := true) 57 rfl (EnvB rfl c175) rfl rfl ?_)))))
     refine ov (v_pick_t (evB rfl c175) rfl) rfl ?_
     refine om rfl rfl (shO_off (b' := true) 65 rfl rfl rfl rfl (shO_off (b' := true) 65 rfl rfl rfl rfl (shO_off (b' := true) 65 rfl rfl rfl rfl (shO_off (b' := true) 65 rfl rfl rfl rfl (shO_off (b' := true) 65 rfl rfl rfl rfl (shO_off (b' := true) 65 rfl rfl rfl rfl (shO_off (b' := true) 65 rfl rfl rfl rfl ?_)))))))
     refine ov (v_pick_t rfl rfl) rfl ?_
     refine shO_nil ?_
     obtain rfl := inj1 r176
     exact mi kn ⟨hF170, rfl, (sc rfl (sn _))⟩
   have r177 := bf r174 c175; clear r174
   refine shO_on (b := false) 57 rfl (EnvB rfl c175) (om rfl rfl (shO_on (b := false) 57 rfl (EnvB rfl c175) ?_))
   refine o_buildSlice (cs := #[.int .i64 0]) rfl rfl (buildSlice_all slt_47 [.int .i64 0] rfl (by decide) (by simp [Value.cells]) (by decide)) ?_; intro b178 hb178
   refine shO_on (b := false) 57 rfl (EnvB rfl c175) ?_
   refine o_buildSlice (cs := #[.int .i64 1]) rfl rfl (buildSlice_all slt_47 [.int .i64 1] rfl (by decide) (by simp [Value.cells]) (by decide)) ?_; intro b179 hb179
   refine shO_on (b := false) 57 rfl (EnvB rfl c175) ?_
   refine o_buildSlice (cs := #[.slice (some ⟨b178, 0, none⟩) 1 1, .slice (some ⟨b179, 0, none⟩) 1 1]) rfl rfl (buildSlice_all slt_36 [.slice (some ⟨b178, 0, none⟩) 1 1, .slice (some ⟨b179, 0, none⟩) 1 1] rfl (by decide) (by simp [Value.cells]) (by decide)) ?_; intro b180 hb180
   refine shO_on (b := false) 57 rfl (EnvB rfl c175) ?_
   refine shO_freeze 2 rfl hb178 ?_; intro F181 hF182 hz183
   refine shO_L (L' := (b180, .cells #[.slice (some ⟨b178, 0, none⟩) 1 1, .slice (some ⟨b179, 0, none⟩) 1 1] 47 (0, 0)) :: ((b179, .cells #[.int .i64 1] 48 (0, 0)) :: (Lb147 ++ (Lb59 ++ (Lb35 ++ (Lb41 ++ (Lb47 ++ (Lb9 ++ (Lb15 ++ (Lb21 ++ [])))))))))) rfl ?_
   replace h105 := h105.mono (slE_ok (iE_ok _)) hF182
   replace hz148 := hz148.mono (slE_ok (iE_ok _)) hF182
   have h184 : RowR 1 (iE .i64) F181 (some ⟨b178, 0, none⟩) 1 [0] := RowR.of_block (iE_ok _) (vss := [[.int .i64 0]]) (xs := [0]) hz183 (.cons rfl .nil) rfl (by simp [maxLen])
   refine shO_freeze 1 rfl hb179 ?_; intro F185 hF186 hz187
   refine shO_L (L' := (b180, .cells (#[.slice (some ⟨b178, 0, none⟩) [0].length 1, .slice (some ⟨b179, 0, none⟩) 1 1]) 47 (0, 0)) :: (Lb147 ++ (Lb59 ++ (Lb35 ++ (Lb41 ++ (Lb47 ++ (Lb9 ++ (Lb15 ++ (Lb21 ++ []))))))))) rfl ?_
   replace h105 := h105.mono (slE_ok (iE_ok _)) hF186
   replace h184 := h184.mono (iE_ok _) hF186
   replace hz148 := hz148.mono (slE_ok (iE_ok _)) hF186
   have h188 : RowR 1 (iE .i64) F185 (some ⟨b179, 0, none⟩) 1 [1] := RowR.of_block (iE_ok _) (vss := [[.int .i64 1]]) (xs := [1]) hz187 (.cons rfl .nil) rfl (by simp [maxLen])
   refine shO_freeze 0 rfl hb180 ?_; intro F189 hF190 hz191
   refine shO_L (L' := Lb147 ++ (Lb59 ++ (Lb35 ++ (Lb41 ++ (Lb47 ++ (Lb9 ++ (Lb15 ++ (Lb21 ++ [])))))))) rfl ?_
   replace h105 := h105.mono (slE_ok (iE_ok _)) hF190
   replace h184 := h184.mono (iE_ok _) hF190
   replace h188 := h188.mono (iE_ok _) hF190
   replace hz148 := hz148.mono (slE_ok (iE_ok _)) hF190
   have h192 : RowR 1 (slE 1 (iE .i64)) F189 (some ⟨b180, 0, none⟩) 2 [[0], [1]] := RowR.of_block (slE_ok (iE_ok _)) (vss := [[.slice (some ⟨b178, 0, none⟩) [0].length 1], [.slice (some ⟨b179, 0, none⟩) [1].length 1]]) (xs := [[0], [1]]) hz191 (.cons ⟨_, _, rfl, h184⟩ (.cons ⟨_, _, rfl, h188⟩ .nil)) rfl (by simp [maxLen])
   obtain ⟨ok2, h193, r194⟩ := b1_ok r177; clear r177
   refine o_callV rfl Try.call33 rfl rfl rfl (oyezkit_LikeRows_Verdict_w h105 h192 h193) ?_
   refine shO_on (b := false) 57 rfl (EnvB rfl c175) ?_
   refine ov (v_notB rfl) rfl ?_
   refine ov (v_pick_f (evB rfl c175) rfl) rfl ?_
   refine om rfl rfl ?_
   rcases bool_two (!ok2) with c195 | c195
   · have r196 := bt r194 c195; clear r194
     refine shO_off (b' := true) 65 rfl (EnvB rfl c195) rfl rfl (shO_off (b' := true) 65 rfl (EnvB rfl c195) rfl rfl (shO_off (b' := true) 65 rfl (EnvB rfl c195) rfl rfl (shO_off (b' := true) 65 rfl (EnvB rfl c195) rfl rfl (shO_off (b' := true) 65 rfl (EnvB rfl c195) rfl rfl (shO_off (b' := true) 65 rfl (EnvB rfl c195) rfl rfl (shO_off (b' := true) 65 rfl (EnvB rfl c195) rfl rfl ?_))))))
     refine ov (v_pick_t (evB rfl c195) rfl) rfl ?_
     refine shO_nil ?_
     obtain rfl := inj1 r196
     exact mi kn ⟨(((hF170.trans hF182).trans hF186).trans hF190), rfl, (sc rfl (sn _))⟩
   have r197 := bf r194 c195; clear r194
   refine shO_on (b := false) 65 rfl (EnvB rfl c195) (om rfl rfl (shO_on (b := false) 65 rfl (EnvB rfl c195) ?_))
   refine o_buildSlice (cs := #[.int .i64 1, .int .i64 2]) rfl rfl (buildSlice_all slt_24 [.int .i64 1, .int .i64 2] rfl (by decide) (by simp [Value.cells]) (by decide)) ?_; intro b198 hb198
   refine shO_on (b := false) 65 rfl (EnvB rfl c195) ?_
   refine o_buildSlice (cs := #[.int .i64 2, .int .i64 3]) rfl rfl (buildSlice_all slt_24 [.int .i64 2, .int .i64 3] rfl (by decide) (by simp [Value.cells]) (by decide)) ?_; intro b199 hb199
   refine shO_on (b := false) 65 rfl (EnvB rfl c195) ?_
   refine o_buildSlice (cs := #[.int .i64 3, .int .i64 4]) rfl rfl (buildSlice_all slt_24 [.int .i64 3, .int .i64 4] rfl (by decide) (by simp [Value.cells]) (by decide)) ?_; intro b200 hb200
   refine shO_on (b := false) 65 rfl (EnvB rfl c195) ?_
   refine o_buildSlice (cs := #[.slice (some ⟨b198, 0, none⟩) 2 2, .slice (some ⟨b199, 0, none⟩) 2 2, .slice (some ⟨b200, 0, none⟩) 2 2]) rfl rfl (buildSlice_all slt_42 [.slice (some ⟨b198, 0, none⟩) 2 2, .slice (some ⟨b199, 0, none⟩) 2 2, .slice (some ⟨b200, 0, none⟩) 2 2] rfl (by decide) (by simp [Value.cells]) (by decide)) ?_; intro b201 hb201
   refine shO_on (b := false) 65 rfl (EnvB rfl c195) ?_
   refine shO_freeze 3 rfl hb198 ?_; intro F202 hF203 hz204
   refine shO_L (L' := (b201, .cells #[.slice (some ⟨b198, 0, none⟩) 2 2, .slice (some ⟨b199, 0, none⟩) 2 2, .slice (some ⟨b200, 0, none⟩) 2 2] 24 (0, 0)) :: ((b200, .cells #[.int .i64 3, .int .i64 4] 3 (0, 0)) :: ((b199, .cells #[.int .i64 2, .int .i64 3] 3 (0, 0)) :: (Lb147 ++ (Lb59 ++ (Lb35 ++ (Lb41 ++ (Lb47 ++ (Lb9 ++ (Lb15 ++ (Lb21 ++ []))))))))))) rfl ?_
   replace hz148 := hz148.mono (slE_ok (iE_ok _)) hF203
   have h205 : RowR 1 (iE .i64) F202 (some ⟨b198, 0, none⟩) 2 [1, 2] := RowR.of_block (iE_ok _) (vss := [[.int .i64 1], [.int .i64 2]]) (xs := [1, 2]) hz204 (.cons rfl (.cons rfl .nil)) rfl (by simp [maxLen])
   refine shO_freeze 2 rfl hb199 ?_; intro F206 hF207 hz208
   refine shO_L (L' := (b201, .cells (#[.slice (some ⟨b198, 0, none⟩) [1, 2].length 2, .slice (some ⟨b199, 0, none⟩) 2 2, .slice (some ⟨b200, 0, none⟩) 2 2]) 24 (0, 0)) :: ((b200, .cells #[.int .i64 3, .int .i64 4] 3 (0, 0)) :: (Lb147 ++ (Lb59 ++ (Lb35 ++ (Lb41 ++ (Lb47 ++ (Lb9 ++ (Lb15 ++ (Lb21 ++ [])))))))))) rfl ?_
   replace h205 := h205.mono (iE_ok _) hF207
   replace hz148 := hz148.mono (slE_ok (iE_ok _)) hF207
   have h209 : RowR 1 (iE .i64) F206 (some ⟨b199, 0, none⟩) 2 [2, 3] := RowR.of_block (iE_ok _) (vss := [[.int .i64 2], [.int .i64 3]]) (xs := [2, 3]) hz208 (.cons rfl (.cons rfl .nil)) rfl (by simp [maxLen])
   refine shO_freeze 1 rfl hb200 ?_; intro F210 hF211 hz212
   refine shO_L (L' := (b201, .cells (#[.slice (some ⟨b198, 0, none⟩) [1, 2].length 2, .slice (some ⟨b199, 0, none⟩) [2, 3].length 2, .slice (some ⟨b200, 0, none⟩) 2 2]) 24 (0, 0)) :: (Lb147 ++ (Lb59 ++ (Lb35 ++ (Lb41 ++ (Lb47 ++ (Lb9 ++ (Lb15 ++ (Lb21 ++ []))))))))) rfl ?_
   replace h205 := h205.mono (iE_ok _) hF211
   replace h209 := h209.mono (iE_ok _) hF211
   replace hz148 := hz148.mono (slE_ok (iE_ok _)) hF211
   have h213 : RowR 1 (iE .i64) F210 (some ⟨b200, 0, none⟩) 2 [3, 4] := RowR.of_block (iE_ok _) (vss := [[.int .i64 3], [.int .i64 4]]) (xs := [3, 4]) hz212 (.cons rfl (.cons rfl .nil)) rfl (by simp [maxLen])
   refine shO_freeze 0 rfl hb201 ?_; intro F214 hF215 hz216
   refine shO_L (L' := Lb147 ++ (Lb59 ++ (Lb35 ++ (Lb41 ++ (Lb47 ++ (Lb9 ++ (Lb15 ++ (Lb21 ++ [])))))))) rfl ?_
   replace h205 := h205.mono (iE_ok _) hF215
   replace h209 := h209.mono (iE_ok _) hF215
   replace h213 := h213.mono (iE_ok _) hF215
   replace hz148 := hz148.mono (slE_ok (iE_ok _)) hF215
   have h217 : RowR 1 (slE 1 (iE .i64)) F214 (some ⟨b201, 0, none⟩) 3 [[1, 2], [2, 3], [3, 4]] := RowR.of_block (slE_ok (iE_ok _)) (vss := [[.slice (some ⟨b198, 0, none⟩) [1, 2].length 2], [.slice (some ⟨b199, 0, none⟩) [2, 3].length 2], [.slice (some ⟨b200, 0, none⟩) [3, 4].length 2]]) (xs := [[1, 2], [2, 3], [3, 4]]) hz216 (.cons ⟨_, _, rfl, h205⟩ (.cons ⟨_, _, rfl, h209⟩ (.cons ⟨_, _, rfl, h213⟩ .nil))) rfl (by simp [maxLen])
   obtain ⟨ok3, h218, r219⟩ := b1_ok r197; clear r197
   refine o_callT (Lt := Lb147 ++ []) (Lr := Lb59 ++ (Lb35 ++ (Lb41 ++ (Lb47 ++ (Lb9 ++ (Lb15 ++ (Lb21 ++ []))))))) rfl Try.call47 rfl rfl rfl (pT pR (lp (ln rfl))) (fun F2 h2 h3 => by rw [(SlR.caps hz148).1]; exact oyezkit_LikeRows_int_w (hz148.row (slE_ok (iE_ok _)) h2 (fun p hp => h3 p (List.mem_append_left _ hp))) (h217.mono (slE_ok (iE_ok _)) h2) h218) ?_
   refine shO_on (b := false) 65 rfl (EnvB rfl c195) ?_
   refine ov (v_notB rfl) rfl ?_
   refine ov (v_pick_f (evB rfl c195) rfl) rfl ?_
   refine shO_nil ?_
   obtain rfl := inj1 r219
   exact mi kn ⟨(((((((hF170.trans hF182).trans hF186).trans hF190).trans hF203).trans hF207).trans hF211).trans hF215), rfl, (sc rfl (sn _))⟩
 rintro e1 F221 _ ⟨hF222, rfl, he220⟩
 refine shW_env _ he220 ?_; clear he220
 refine shW_cond rfl (fun c223 => ?_) (fun c223 => ?_)
 · have r224 := bt r152 c223; clear r152
   refine wsr (oa rfl rfl (shO_nil (shW_ret (andThen_ret ?_))))
   refine q_res1 Try.results16 (res_tmp rfl) (sr) ?_
   obtain rfl := inj1 r224
   exact rfl
 have r225 := bf r152 c223; clear r152
 refine shW_skip (wsr ?_)
 refine ov (v_build (v := .agg #[.int .i64 0, .int .i64 0, .bool true]) rfl (by intro w; kernel_rfl)) rfl ?_
 refine ov (v_build (v := .agg #[.int .i64 0, .int .i64 0, .bool false]) rfl (by intro w; kernel_rfl)) rfl ?_
 refine o_buildSlice (cs := #[.int .i64 0, .int .i64 0, .bool true, .int .i64 0, .int .i64 0, .bool false]) rfl rfl (buildSlice_all slt_105 [.agg #[.int .i64 0, .int .i64 0, .bool true], .agg #[.int .i64 0, .int .i64 0, .bool false]] rfl (by decide) (by simp [Value.cells]) (by decide)) ?_; intro b226 hb226
 have hz228 : SlR K.w0.heap.size 77 3 (prE (iE .i64) (prE (iE .i64) bE)) F221 (some ⟨b226, 0, none⟩) 2 2 [(0, 0, true), (0, 0, false)] [(b226, .cells #[.int .i64 0, .int .i64 0, .bool true, .int .i64 0, .int .i64 0, .bool false] 77 (0, 0))] := SlR.of_block (vss := [[.int .i64 0, .int .i64 0, .bool true], [.int .i64 0, .int .i64 0, .bool false]]) (prE_ok (iE_ok _) (prE_ok (iE_ok _) bE_ok)) hb226 (.cons ⟨_, _, rfl, rfl, ⟨_, _, rfl, rfl, rfl⟩⟩ (.cons ⟨_, _, rfl, rfl, ⟨_, _, rfl, rfl, rfl⟩⟩ .nil)) rfl rfl (by simp [maxLen])
 generalize hLLb227 : ([(b226, .cells #[.int .i64 0, .int .i64 0, .bool true, .int .i64 0, .int .i64 0, .bool false] 77 (0, 0))] : LH) = Lb227 at hz228
 refine shO_perm (L' := Lb227 ++ []) (by rw [← hLLb227]; exact fO) ?_
 refine oa rfl rfl (nsr ?_)
 obtain ⟨n14, n15, l16, l17, l18, h230, r231⟩ := b5_ok r225; clear r225
 refine o_call0 rfl Try.call45 rfl rfl rfl (oyezlaw07_Bell_w h230) ?_; rintro _ F232 _ hF233 hn234 ⟨a236, n240, c237, Lb238, a242, n246, c243, Lb244, a248, n252, c249, Lb250, rfl, rfl, hz239, hz245, hz251⟩
 replace hz228 := hz228.mono (prE_ok (iE_ok _) (prE_ok (iE_ok _) bE_ok)) hF233
 replace hz239 := hz239.new fun p hp => hn234 p (by simp [hp])
 replace hz245 := hz245.new fun p hp => hn234 p (by simp [hp])
 replace hz251 := hz251.new fun p hp => hn234 p (by simp [hp])
 refine shO_L (lp (lp (lp (ln rfl)))) ?_
 refine om rfl rfl ?_
 obtain ⟨l19, n16, h254, r255⟩ := b2_ok r231; clear r231
 refine o_callTO (Lb := []) (Lt := Lb238 ++ (Lb244 ++ (Lb250 ++ (Lb227 ++ [])))) (Lr := []) rfl Try.call48 rfl rfl rfl (pT pR (ln (lp (lp (lp (lp (ln rfl))))))) (fun F2 h2 h3 => by rw [(SlR.caps hz239).1]; rw [(SlR.caps hz245).1]; rw [(SlR.caps hz251).1]; rw [(SlR.caps hz228).1]; exact book_Fewest_w (hz239.row (slE_ok (slE_ok (iE_ok _))) h2 (fun p hp => h3 p (List.mem_append_left _ hp))) (hz245.row (iE_ok _) h2 (fun p hp => h3 p (List.mem_append_right _ (List.mem_append_left _ hp)))) (hz251.row (prE_ok (iE_ok _) (prE_ok (iE_ok _) (iE_ok _))) h2 (fun p hp => h3 p (List.mem_append_right _ (List.mem_append_right _ (List.mem_append_left _ hp))))) (hz228.row (prE_ok (iE_ok _) (prE_ok (iE_ok _) bE_ok)) h2 (fun p hp => h3 p (List.mem_append_right _ (List.mem_append_right _ (List.mem_append_right _ (List.mem_append_left _ hp)))))) h254) (fun _ _ _ _ hq => by obtain ⟨a260, n264, c261, Lb262, rfl, rfl, hz263⟩ := hq; exact ⟨_, _, _, _, rfl, rfl, hz263.flat (fun _ _ h => h)⟩) ?_; rintro _ F256 _ hF257 hd259 hn258 ⟨a260, n264, c261, Lb262, rfl, rfl, hz263⟩
 replace hz228 := hz228.mono (prE_ok (iE_ok _) (prE_ok (iE_ok _) bE_ok)) hF257
 have hn266 := newp (Lb' := []) (by rfl) hd259 hn258
 replace hz263 := hz263.new fun p hp => hn266 p (by simp [hp])
 refine shO_L (lp (ln (lp (lp (lp (lp (ln rfl))))))) ?_
 refine om rfl rfl (ox rfl rfl rfl (ox rfl rfl rfl (oa rfl rfl (oa rfl rfl (nsr ?_)))))
 obtain ⟨n17, n18, l20, l21, l22, h267, r268⟩ := b5_ok r255; clear r255
 refine o_call0 rfl Try.call45 rfl rfl rfl (oyezlaw07_Bell_w h267) ?_; rintro _ F269 _ hF270 hn271 ⟨a273, n277, c274, Lb275, a279, n283, c280, Lb281, a285, n289, c286, Lb287, rfl, rfl, hz276, hz282, hz288⟩
 replace hz228 := hz228.mono (prE_ok (iE_ok _) (prE_ok (iE_ok _) bE_ok)) hF270
 replace hz263 := hz263.mono (iE_ok _) hF270
 replace hz276 := hz276.new fun p hp => hn271 p (by simp [hp])
 replace hz282 := hz282.new fun p hp => hn271 p (by simp [hp])
 replace hz288 := hz288.new fun p hp => hn271 p (by simp [hp])
 refine shO_L (lp (lp (lp (ln rfl)))) ?_
 refine ov (v_build (v := .agg #[.int .i64 1, .int .i64 0, .bool false]) rfl (by intro w; kernel_rfl)) rfl ?_
 obtain ⟨ok4, n19, h291, r292⟩ := b2_ok r268; clear r268
 refine o_callT (Lt := Lb275 ++ (Lb281 ++ (Lb287 ++ []))) (Lr := Lb262 ++ (Lb238 ++ (Lb244 ++ (Lb250 ++ (Lb227 ++ []))))) rfl Try.call35 rfl rfl rfl (pT pR (lp (lp (lp (ln rfl))))) (fun F2 h2 h3 => by rw [(SlR.caps hz276).1]; rw [(SlR.caps hz282).1]; rw [(SlR.caps hz288).1]; exact book_Refuted_w (hz276.row (slE_ok (slE_ok (iE_ok _))) h2 (fun p hp => h3 p (List.mem_append_left _ hp))) (hz282.row (iE_ok _) h2 (fun p hp => h3 p (List.mem_append_right _ (List.mem_append_left _ hp)))) (hz288.row (prE_ok (iE_ok _) (prE_ok (iE_ok _) (iE_ok _))) h2 (fun p hp => h3 p (List.mem_append_right _ (List.mem_append_right _ (List.mem_append_left _ hp))))) h291) ?_
 refine om rfl rfl (ox rfl rfl rfl (ox rfl rfl rfl (oa rfl rfl (oa rfl rfl (shO_nil (shW_seq ?_))))))
 refine shW_drawM [(.still, 1), (.still, 2), (.still, 3), (.seq, 0), (.seq, 4), (.still, 5), (.still, 6), (.still, 7), (.still, 8), (.still, 9)] (by kernel_rfl) (by kernel_rfl) (trivial) (by rfl) (by kernel_rfl) ?_
 refine shM_v (v := .slice (some ⟨b226, 0, none⟩) 2 2) (ek := [(9, .slice (some ⟨b226, 0, none⟩) 2 2)]) (Ls := []) rfl rfl rfl rfl ((sc rfl (sn _))) (by kernel_rfl) sm (fun H F' L' hF' hL' => v_move rfl) ?_
 obtain ⟨x, g293, hx294, r295⟩ := ix_ok r292; clear r292
 obtain ⟨b296, o297, c298, vs299, ha300, hs301, hle302, ⟨_, _, rfl, rfl, ⟨_, _, rfl, rfl, rfl⟩⟩, hl303, hc304⟩ := SlR.at (prE_ok (iE_ok _) (prE_ok (iE_ok _) bE_ok)) hz228 (L := Lb227 ++ []) fP g293.1 hx294
 refine shM_v (v := .pointer (some ⟨b296, o297 + (0 : Int).toNat * 3, none⟩)) (ek := [(91, .slice (some ⟨b226, 0, none⟩) 2 2)]) (Ls := []) rfl rfl rfl rfl ((sc rfl (sn _))) (by kernel_rfl) sm (fun H F' L' hF' hL' => v_indexO Try.underlying105 Try.sizeOf77 rfl ha300 rfl (SlR.idx hz228 g293)) ?_
 refine shM_v (v := .agg #[.int .i64 x.1, .int .i64 x.2.1, .bool x.2.2]) (ek := [(92, .pointer (some ⟨b296, o297 + (0 : Int).toNat * 3, none⟩))]) (Ls := Lb227 ++ []) rfl rfl rfl rfl ((sc rfl (sn _))) (by kernel_rfl) (s0 (s3 (s3 (s3 (s3 (s3 (s3 (s3 (s4 sr))))))))) (fun H F' L' hF' hL' => v_loadA (cs := #[.int .i64 x.1, .int .i64 x.2.1, .bool x.2.2]) Try.isAgg77 Try.sizeOf77 rfl (hs301.ext hF' hL') hle302 (extract_cells hle302 hl303 hc304)) ?_
 refine ⟨_, [], rfl, rfl, (sn _), by kernel_rfl, ?_⟩; intro H
 obtain ⟨n20, n21, l23, l24, l25, h305, r306⟩ := b5_ok r295; clear r295
 refine o_call0 rfl Try.call45 rfl rfl rfl (oyezlaw07_Bell_w h305) ?_; rintro _ F307 _ hF308 hn309 ⟨a311, n315, c312, Lb313, a317, n321, c318, Lb319, a323, n327, c324, Lb325, rfl, rfl, hz314, hz320, hz326⟩
 replace hz263 := hz263.mono (iE_ok _) hF308
 replace hz314 := hz314.new fun p hp => hn309 p (by simp [hp])
 replace hz320 := hz320.new fun p hp => hn309 p (by simp [hp])
 replace hz326 := hz326.new fun p hp => hn309 p (by simp [hp])
 refine shO_L (lp (lp (lp (ln rfl)))) ?_
 refine shO_nil ⟨_, rfl, hF308, [3, 2, 1], by kernel_rfl, .inl (.inr (fun d h => by cases h; rfl)), (List.forall_mem_cons.2 ⟨s0 (s3 (s3 (s3 (s3 (s3 (s3 (s3 (s3 (s3 (s3 (s4 sr))))))))))), (List.forall_mem_cons.2 ⟨sm, (List.forall_mem_cons.2 ⟨sm, (fun _ h => absurd h List.not_mem_nil)⟩)⟩)⟩), ?_⟩
 refine ⟨_, [(90, .agg #[.int .i64 n20, .int .i64 n21, .slice a311 n315 c312, .slice a317 n321 c318, .slice a323 n327 c324]), (93, .agg #[.int .i64 x.1, .int .i64 x.2.1, .bool x.2.2])], rfl, rfl, (sc rfl (sc rfl (sn _))), by kernel_rfl, ?_⟩; intro H
 obtain rfl := (SlR.caps hz314).1
 refine shO_freezeR (Nat.le_refl _) (slE_ok (slE_ok (iE_ok _))) fP hz314 ?_; intro F329 hF330 h331
 replace hz263 := hz263.mono (iE_ok _) hF330
 replace hz320 := hz320.mono (iE_ok _) hF330
 replace hz326 := hz326.mono (prE_ok (iE_ok _) (prE_ok (iE_ok _) (iE_ok _))) hF330
 obtain rfl := (SlR.caps hz320).1
 refine shO_freezeR (Nat.le_refl _) (iE_ok _) fP hz320 ?_; intro F332 hF333 h334
 replace h331 := h331.mono (slE_ok (slE_ok (iE_ok _))) hF333
 replace hz263 := hz263.mono (iE_ok _) hF333
 replace hz326 := hz326.mono (prE_ok (iE_ok _) (prE_ok (iE_ok _) (iE_ok _))) hF333
 obtain rfl := (SlR.caps hz326).1
 refine shO_freezeR (Nat.le_refl _) (prE_ok (iE_ok _) (prE_ok (iE_ok _) (iE_ok _))) fP hz326 ?_; intro F335 hF336 h337
 replace h331 := h331.mono (slE_ok (slE_ok (iE_ok _))) hF336
 replace h334 := h334.mono (iE_ok _) hF336
 replace hz263 := hz263.mono (iE_ok _) hF336
 obtain ⟨l26, n22, h338, r339⟩ := b2_ok r306; clear r306
 refine o_call0 rfl Try.call36 rfl rfl rfl (book_Witness_w h331 h334 h337 h338) ?_; rintro _ F340 _ hF341 hn342 ⟨a344, c345, rfl, rfl, h346⟩
 replace hz263 := hz263.mono (iE_ok _) hF341
 refine shO_L (ln rfl) ?_
 refine shO_nil ⟨_, rfl, (((hF330.trans hF333).trans hF336).trans hF341), [], by kernel_rfl, .inl (.inl rfl), (fun _ h => absurd h List.not_mem_nil), ?_⟩
 refine shM_v (v := .tuple #[.slice a344 l26.length c345, .int .i64 n22]) (ek := [(94, .tuple #[.slice a344 l26.length c345, .int .i64 n22])]) (Ls := []) rfl rfl rfl rfl ((sc rfl (sn _))) (by kernel_rfl) sm (fun H F' L' hF' hL' => v_move rfl) ?_
 refine shM_v (v := .slice a344 l26.length c345) (ek := [(89, .tuple #[.slice a344 l26.length c345, .int .i64 n22])]) (Ls := []) rfl rfl rfl rfl ((sc rfl (sn _))) (by kernel_rfl) sm (fun H F' L' hF' hL' => v_extract rfl rfl) ?_
 refine shM_v (v := .int .i64 n22) (ek := [(89, .tuple #[.slice a344 l26.length c345, .int .i64 n22])]) (Ls := []) rfl rfl rfl rfl ((sc rfl (sn _))) (by kernel_rfl) sm (fun H F' L' hF' hL' => v_extract rfl rfl) ?_
 refine shM_v (v := .slice a344 l26.length c345) (ek := [(95, .slice a344 l26.length c345)]) (Ls := []) rfl rfl rfl rfl ((sc rfl (sn _))) (by kernel_rfl) sm (fun H F' L' hF' hL' => v_assign rfl) ?_
 refine shM_v (v := .int .i64 n22) (ek := [(96, .int .i64 n22)]) (Ls := []) rfl rfl rfl rfl ((sc rfl (sn _))) (by kernel_rfl) sm (fun H F' L' hF' hL' => v_assign rfl) ?_
 refine shM_nil ?_
 refine wsr ?_
 obtain ⟨n23, n24, l27, l28, l29, h347, r348⟩ := b5_ok r339; clear r339
 refine o_call0 rfl Try.call45 rfl rfl rfl (oyezlaw07_Bell_w h347) ?_; rintro _ F349 _ hF350 hn351 ⟨a353, n357, c354, Lb355, a359, n363, c360, Lb361, a365, n369, c366, Lb367, rfl, rfl, hz356, hz362, hz368⟩
 replace h346 := h346.mono (iE_ok _) hF350
 replace hz263 := hz263.mono (iE_ok _) hF350
 replace hz356 := hz356.new fun p hp => hn351 p (by simp [hp])
 replace hz362 := hz362.new fun p hp => hn351 p (by simp [hp])
 replace hz368 := hz368.new fun p hp => hn351 p (by simp [hp])
 refine shO_L (lp (lp (lp (ln rfl)))) ?_
 refine o_buildSlice (cs := #[.int .i64 0]) rfl rfl (buildSlice_all slt_24 [.int .i64 0] rfl (by decide) (by simp [Value.cells]) (by decide)) ?_; intro b371 hb371
 obtain rfl := (SlR.caps hz356).1
 refine shO_freezeR (Nat.le_refl _) (slE_ok (slE_ok (iE_ok _))) (fC fP) hz356 ?_; intro F372 hF373 h374
 replace h346 := h346.mono (iE_ok _) hF373
 replace hz263 := hz263.mono (iE_ok _) hF373
 replace hz362 := hz362.mono (iE_ok _) hF373
 replace hz368 := hz368.mono (prE_ok (iE_ok _) (prE_ok (iE_ok _) (iE_ok _))) hF373
 obtain rfl := (SlR.caps hz362).1
 refine shO_freezeR (Nat.le_refl _) (iE_ok _) (fC fP) hz362 ?_; intro F375 hF376 h377
 replace h346 := h346.mono (iE_ok _) hF376
 replace h374 := h374.mono (slE_ok (slE_ok (iE_ok _))) hF376
 replace hz263 := hz263.mono (iE_ok _) hF376
 replace hz368 := hz368.mono (prE_ok (iE_ok _) (prE_ok (iE_ok _) (iE_ok _))) hF376
 obtain rfl := (SlR.caps hz368).1
 refine shO_freezeR (Nat.le_refl _) (prE_ok (iE_ok _) (prE_ok (iE_ok _) (iE_ok _))) (fC fP) hz368 ?_; intro F378 hF379 h380
 replace h346 := h346.mono (iE_ok _) hF379
 replace h374 := h374.mono (slE_ok (slE_ok (iE_ok _))) hF379
 replace h377 := h377.mono (iE_ok _) hF379
 replace hz263 := hz263.mono (iE_ok _) hF379
 refine shO_freeze 0 rfl hb371 ?_; intro F381 hF382 hz383
 refine shO_L (L' := Lb275 ++ (Lb281 ++ (Lb287 ++ (Lb262 ++ (Lb238 ++ (Lb244 ++ (Lb250 ++ (Lb227 ++ [])))))))) rfl ?_
 replace h346 := h346.mono (iE_ok _) hF382
 replace h374 := h374.mono (slE_ok (slE_ok (iE_ok _))) hF382
 replace h377 := h377.mono (iE_ok _) hF382
 replace h380 := h380.mono (prE_ok (iE_ok _) (prE_ok (iE_ok _) (iE_ok _))) hF382
 replace hz263 := hz263.mono (iE_ok _) hF382
 have h384 : RowR 1 (iE .i64) F381 (some ⟨b371, 0, none⟩) 1 [0] := RowR.of_block (iE_ok _) (vss := [[.int .i64 0]]) (xs := [0]) hz383 (.cons rfl .nil) rfl (by simp [maxLen])
 obtain ⟨l30, n25, h385, r386⟩ := b2_ok r348; clear r348
 refine o_call0 rfl Try.call24 rfl rfl rfl (book_Again_w h374 h377 h380 h384 h385) ?_; rintro _ F387 _ hF388 hn389 ⟨a391, c392, rfl, rfl, h393⟩
 replace h346 := h346.mono (iE_ok _) hF388
 replace hz263 := hz263.mono (iE_ok _) hF388
 refine shO_L (ln rfl) ?_
 refine om rfl rfl (ox rfl rfl rfl (ox rfl rfl rfl (oa rfl rfl (nsr (om rfl rfl ?_)))))
 refine ov (v_eql rfl rfl) rfl ?_
 refine om rfl rfl ?_
 by_cases c394 : n16 = 0
 · have r395 := ite_t r386 c394; clear r386
   refine shO_on (b := true) 105 rfl (Env.isT rfl c394) (om rfl rfl (shO_on (b := true) 105 rfl (Env.isT rfl c394) ?_))
   refine ov (v_eql rfl rfl) rfl ?_
   refine ov (v_pick_t (evD_true rfl c394) rfl) rfl ?_
   refine om rfl rfl ?_
   by_cases c396 : n19 = 0
   · have r397 := ite_t r395 c396; clear r395
     refine shO_on (b := true) 109 rfl (Env.isT rfl c396) (om rfl rfl (shO_on (b := true) 109 rfl (Env.isT rfl c396) ?_))
     refine ov (v_eql rfl rfl) rfl ?_
     refine ov (v_pick_t (evD_true rfl c396) rfl) rfl ?_
     refine om rfl rfl ?_
     by_cases c398 : n22 = 0
     · have r399 := ite_t r397 c398; clear r397
       refine shO_on (b := true) 113 rfl (Env.isT rfl c398) (om rfl rfl (shO_on (b := true) 113 rfl (Env.isT rfl c398) ?_))
       refine ov (v_eql rfl rfl) rfl ?_
       refine ov (v_pick_t (evD_true rfl c398) rfl) rfl ?_
       refine om rfl rfl ?_
       by_cases c400 : n25 = 6
       · have r401 := ite_t r399 c400; clear r399
         refine shO_on (b := true) 117 rfl (Env.isT rfl c400) (om rfl rfl ?_)
         refine ov (v_pick_t (evD_true rfl c400) rfl) rfl ?_
         refine om rfl rfl ?_
         rcases bool_two ok4 with c402 | c402
         · have r403 := bt r401 c402; clear r401
           refine shO_on (b := true) 120 rfl (EnvB rfl c402) (om rfl rfl (shO_on (b := true) 120 rfl (EnvB rfl c402) ?_))
           refine o_buildSlice (cs := #[.int .i64 0]) rfl rfl (buildSlice_all slt_24 [.int .i64 0] rfl (by decide) (by simp [Value.cells]) (by decide)) ?_; intro b404 hb404
           refine shO_on (b := true) 120 rfl (EnvB rfl c402) ?_
           refine shO_freeze 0 rfl hb404 ?_; intro F405 hF406 hz407
           refine shO_L (L' := Lb275 ++ (Lb281 ++ (Lb287 ++ (Lb262 ++ (Lb238 ++ (Lb244 ++ (Lb250 ++ (Lb227 ++ [])))))))) rfl ?_
           replace h346 := h346.mono (iE_ok _) hF406
           replace hz263 := hz263.mono (iE_ok _) hF406
           have h408 : RowR 1 (iE .i64) F405 (some ⟨b404, 0, none⟩) 1 [0] := RowR.of_block (iE_ok _) (vss := [[.int .i64 0]]) (xs := [0]) hz407 (.cons rfl .nil) rfl (by simp [maxLen])
           obtain ⟨ok5, h409, r410⟩ := b1_ok r403; clear r403
           refine o_callT (Lt := Lb262 ++ []) (Lr := Lb275 ++ (Lb281 ++ (Lb287 ++ (Lb238 ++ (Lb244 ++ (Lb250 ++ (Lb227 ++ []))))))) rfl Try.call46 rfl rfl rfl (pT ((fS (fS (fS fP))).trans (pA pR)) (lp (ln rfl))) (fun F2 h2 h3 => by rw [(SlR.caps hz263).1]; exact oyezkit_Like_int_w (hz263.row (iE_ok _) h2 (fun p hp => h3 p (List.mem_append_left _ hp))) (h408.mono (iE_ok _) h2) h409) ?_
           refine ov (v_pick_t (evB rfl c402) rfl) rfl ?_
           refine om rfl rfl ?_
           rcases bool_two ok5 with c411 | c411
           · have r412 := bt r410 c411; clear r410
             refine shO_on (b := true) 125 rfl (EnvB rfl c411) (om rfl rfl (shO_on (b := true) 125 rfl (EnvB rfl c411) ?_))
             refine o_buildSlice (cs := #[.int .i64 1, .int .i64 2, .int .i64 3]) rfl rfl (buildSlice_all slt_24 [.int .i64 1, .int .i64 2, .int .i64 3] rfl (by decide) (by simp [Value.cells]) (by decide)) ?_; intro b413 hb413
             refine shO_on (b := true) 125 rfl (EnvB rfl c411) ?_
             refine shO_freeze 0 rfl hb413 ?_; intro F414 hF415 hz416
             refine shO_L (L' := Lb275 ++ (Lb281 ++ (Lb287 ++ (Lb262 ++ (Lb238 ++ (Lb244 ++ (Lb250 ++ (Lb227 ++ [])))))))) rfl ?_
             replace h346 := h346.mono (iE_ok _) hF415
             have h417 : RowR 1 (iE .i64) F414 (some ⟨b413, 0, none⟩) 3 [1, 2, 3] := RowR.of_block (iE_ok _) (vss := [[.int .i64 1], [.int .i64 2], [.int .i64 3]]) (xs := [1, 2, 3]) hz416 (.cons rfl (.cons rfl (.cons rfl .nil))) rfl (by simp [maxLen])
             obtain ⟨ok6, h418, r419⟩ := b1_ok r412; clear r412
             refine o_callV rfl Try.call46 rfl rfl rfl (oyezkit_Like_int_w h346 h417 h418) ?_
             refine ov (v_pick_t (evB rfl c411) rfl) rfl ?_
             refine oa rfl rfl (shO_nil ?_)
             refine kW kn ?_
             refine shW_ret ?_
             refine q_res1 Try.results16 (res_tmp rfl) (sr) ?_
             obtain rfl := inj1 r419
             exact rfl
           have r420 := bf r410 c411; clear r410
           refine shO_off (b' := false) 125 rfl (EnvB rfl c411) rfl rfl (shO_off (b' := false) 125 rfl (EnvB rfl c411) rfl rfl (shO_off (b' := false) 125 rfl (EnvB rfl c411) rfl rfl ?_))
           refine ov (v_pick_f (evB rfl c411) rfl) rfl ?_
           refine oa rfl rfl (shO_nil ?_)
           refine kW kn ?_
           refine shW_ret ?_
           refine q_res1 Try.results16 (res_tmp rfl) (sr) ?_
           obtain rfl := inj1 r420
           exact rfl
         have r421 := bf r401 c402; clear r401
         refine shO_off (b' := false) 120 rfl (EnvB rfl c402) rfl rfl (shO_off (b' := false) 120 rfl (EnvB rfl c402) rfl rfl (shO_off (b' := false) 120 rfl (EnvB rfl c402) rfl rfl ?_))
         refine ov (v_pick_f (evB rfl c402) rfl) rfl ?_
         refine om rfl rfl (shO_off (b' := false) 125 rfl rfl rfl rfl (shO_off (b' := false) 125 rfl rfl rfl rfl (shO_off (b' := false) 125 rfl rfl rfl rfl ?_)))
         refine ov (v_pick_f rfl rfl) rfl ?_
         refine oa rfl rfl (shO_nil ?_)
         refine kW kn ?_
         refine shW_ret ?_
         refine q_res1 Try.results16 (res_tmp rfl) (sr) ?_
         obtain rfl := inj1 r421
         exact rfl
       have r422 := ite_f r399 c400; clear r399
       refine shO_off (b' := false) 117 rfl (Env.isF rfl c400) rfl rfl ?_
       refine ov (v_pick_f (evD_false rfl c400) rfl) rfl ?_
       refine om rfl rfl (shO_off (b' := false) 120 rfl rfl rfl rfl (shO_off (b' := false) 120 rfl rfl rfl rfl (shO_off (b' := false) 120 rfl rfl rfl rfl ?_)))
       refine ov (v_pick_f rfl rfl) rfl ?_
       refine om rfl rfl (shO_off (b' := false) 125 rfl rfl rfl rfl (shO_off (b' := false) 125 rfl rfl rfl rfl (shO_off (b' := false) 125 rfl rfl rfl rfl ?_)))
       refine ov (v_pick_f rfl rfl) rfl ?_
       refine oa rfl rfl (shO_nil ?_)
       refine kW kn ?_
       refine shW_ret ?_
       refine q_res1 Try.results16 (res_tmp rfl) (sr) ?_
       obtain rfl := inj1 r422
       exact rfl
     have r423 := ite_f r397 c398; clear r397
     refine shO_off (b' := false) 113 rfl (Env.isF rfl c398) rfl rfl (shO_off (b' := false) 113 rfl (Env.isF rfl c398) rfl rfl ?_)
     refine ov (v_pick_f (evD_false rfl c398) rfl) rfl ?_
     refine om rfl rfl (shO_off (b' := false) 117 rfl rfl rfl rfl ?_)
     refine ov (v_pick_f rfl rfl) rfl ?_
     refine om rfl rfl (shO_off (b' := false) 120 rfl rfl rfl rfl (shO_off (b' := false) 120 rfl rfl rfl rfl (shO_off (b' := false) 120 rfl rfl rfl rfl ?_)))
     refine ov (v_pick_f rfl rfl) rfl ?_
     refine om rfl rfl (shO_off (b' := false) 125 rfl rfl rfl rfl (shO_off (b' := false) 125 rfl rfl rfl rfl (shO_off (b' := false) 125 rfl rfl rfl rfl ?_)))
     refine ov (v_pick_f rfl rfl) rfl ?_
     refine oa rfl rfl (shO_nil ?_)
     refine kW kn ?_
     refine shW_ret ?_
     refine q_res1 Try.results16 (res_tmp rfl) (sr) ?_
     obtain rfl := inj1 r423
     exact rfl
   have r424 := ite_f r395 c396; clear r395
   refine shO_off (b' := false) 109 rfl (Env.isF rfl c396) rfl rfl (shO_off (b' := false) 109 rfl (Env.isF rfl c396) rfl rfl ?_)
   refine ov (v_pick_f (evD_false rfl c396) rfl) rfl ?_
   refine om rfl rfl (shO_off (b' := false) 113 rfl rfl rfl rfl (shO_off (b' := false) 113 rfl rfl rfl rfl ?_))
   refine ov (v_pick_f rfl rfl) rfl ?_
   refine om rfl rfl (shO_off (b' := false) 117 rfl rfl rfl rfl ?_)
   refine ov (v_pick_f rfl rfl) rfl ?_
   refine om rfl rfl (shO_off (b' := false) 120 rfl rfl rfl rfl (shO_off (b' := false) 120 rfl rfl rfl rfl (shO_off (b' := false) 120 rfl rfl rfl rfl ?_)))
   refine ov (v_pick_f rfl rfl) rfl ?_
   refine om rfl rfl (shO_off (b' := false) 125 rfl rfl rfl rfl (shO_off (b' := false) 125 rfl rfl rfl rfl (shO_off (b' := false) 125 rfl rfl rfl rfl ?_)))
   refine ov (v_pick_f rfl rfl) rfl ?_
   refine oa rfl rfl (shO_nil ?_)
   refine kW kn ?_
   refine shW_ret ?_
   refine q_res1 Try.results16 (res_tmp rfl) (sr) ?_
   obtain rfl := inj1 r424
   exact rfl
 have r425 := ite_f r386 c394; clear r386
 refine shO_off (b' := false) 105 rfl (Env.isF rfl c394) rfl rfl (shO_off (b' := false) 105 rfl (Env.isF rfl c394) rfl rfl ?_)
 refine ov (v_pick_f (evD_false rfl c394) rfl) rfl ?_
 refine om rfl rfl (shO_off (b' := false) 109 rfl rfl rfl rfl (shO_off (b' := false) 109 rfl rfl rfl rfl ?_))
 refine ov (v_pick_f rfl rfl) rfl ?_
 refine om rfl rfl (shO_off (b' := false) 113 rfl rfl rfl rfl (shO_off (b' := false) 113 rfl rfl rfl rfl ?_))
 refine ov (v_pick_f rfl rfl) rfl ?_
 refine om rfl rfl (shO_off (b' := false) 117 rfl rfl rfl rfl ?_)
 refine ov (v_pick_f rfl rfl) rfl ?_
 refine om rfl rfl (shO_off (b' := false) 120 rfl rfl rfl rfl (shO_off (b' := false) 120 rfl rfl rfl rfl (shO_off (b' := false) 120 rfl rfl rfl rfl ?_)))
 refine ov (v_pick_f rfl rfl) rfl ?_
 refine om rfl rfl (shO_off (b' := false) 125 rfl rfl rfl rfl (shO_off (b' := false) 125 rfl rfl rfl rfl (shO_off (b' := false) 125 rfl rfl rfl rfl ?_)))
 refine ov (v_pick_f rfl rfl) rfl ?_
 refine oa rfl rfl (shO_nil ?_)
 refine kW kn ?_
 refine shW_ret ?_
 refine q_res1 Try.results16 (res_tmp rfl) (sr) ?_
 obtain rfl := inj1 r425
 exact rfl
set_option maxHeartbeats 1000000 in
theorem oyezlaw07_right_1_w {w : Int} {F : FS} {r : Bool} (hr : oyezlaw07_right_1 w = some r) :
    SpecV Try.prog 51 #[.int .i64 w] F (.bool r) := by
 refine spec_of_shW (args := [.int .i64 w]) Try.func51 rfl Try.ntmps51 (Nat.le_of_ble_eq_true rfl) ?_
 intro K _ _; rw [oyezlaw07_right_1] at hr
 refine wsr (oa rfl rfl (nsr (om rfl rfl ?_)))
 refine ov (v_lssK rfl rfl) rfl ?_
 refine om rfl rfl ?_
 by_cases c1 : w < 0
 · have r2 := ite_t hr c1; clear hr
   refine shO_off (b' := true) 5 rfl (Env.isT rfl c1) rfl rfl (shO_off (b' := true) 5 rfl (Env.isT rfl c1) rfl rfl ?_)
   refine ov (v_pick_t (evD_true rfl c1) rfl) rfl ?_
   refine oa rfl rfl (shO_nil (shW_ret ?_))
   refine q_res1 Try.results51 (res_tmp rfl) (sr) ?_
   obtain rfl := inj1 r2
   exact rfl
 have r3 := ite_f hr c1; clear hr
 refine shO_on (b := false) 5 rfl (Env.isF rfl c1) (om rfl rfl (shO_on (b := false) 5 rfl (Env.isF rfl c1) ?_))
 refine ov (v_geqK rfl rfl) rfl ?_
 refine ov (v_pick_f (evD_false rfl c1) rfl) rfl ?_
 refine oa rfl rfl (shO_nil (shW_ret ?_))
 refine q_res1 Try.results51 (res_tmp rfl) (sr) ?_
 obtain rfl := inj1 r3
 exact rfl
set_option maxHeartbeats 1000000 in
theorem oyezlaw07_near_w {a : Int} {b : Int} {F : FS} {r : Bool} (hr : oyezlaw07_near a b = some r) :
    SpecV Try.prog 85 #[.int .i64 a, .int .i64 b] F (.bool r) := by
 refine spec_of_shW (args := [.int .i64 a, .int .i64 b]) Try.func85 rfl Try.ntmps85 (Nat.le_of_ble_eq_true rfl) ?_
 intro K _ _; rw [oyezlaw07_near] at hr
 refine wsr (oa rfl rfl (nsr (om rfl rfl (om rfl rfl ?_))))
 obtain ⟨g1, r2⟩ := gd_ok hr; clear hr
 refine ov (v_sub rfl rfl g1) rfl ?_
 obtain ⟨n, h3, r4⟩ := b1_ok r2; clear r2
 refine o_callV rfl Try.call30 rfl rfl rfl (oyezkit_Wind_w h3) ?_
 refine oa rfl rfl (nsr (om rfl rfl ?_))
 refine ov (v_lssK rfl rfl) rfl ?_
 refine om rfl rfl ?_
 by_cases c5 : n < 2
 · have r6 := ite_t r4 c5; clear r4
   refine shO_off (b' := true) 12 rfl (Env.isT rfl c5) rfl rfl (shO_off (b' := true) 12 rfl (Env.isT rfl c5) rfl rfl ?_)
   refine ov (v_pick_t (evD_true rfl c5) rfl) rfl ?_
   refine oa rfl rfl (shO_nil (shW_ret ?_))
   refine q_res1 Try.results85 (res_tmp rfl) (sr) ?_
   obtain rfl := inj1 r6
   exact rfl
 have r7 := ite_f r4 c5; clear r4
 refine shO_on (b := false) 12 rfl (Env.isF rfl c5) (om rfl rfl (shO_on (b := false) 12 rfl (Env.isF rfl c5) ?_))
 refine ov (v_eql rfl rfl) rfl ?_
 refine ov (v_pick_f (evD_false rfl c5) rfl) rfl ?_
 refine oa rfl rfl (shO_nil (shW_ret ?_))
 refine q_res1 Try.results85 (res_tmp rfl) (sr) ?_
 obtain rfl := inj1 r7
 exact rfl
set_option maxHeartbeats 1000000 in
theorem oyezlaw07_fit_w {houses : Int} {notices : Int} {hears_a : Option Addr} {hears_c : Nat} {hears : List (List (List Int))} {readings_a : Option Addr} {readings_c : Nat} {readings : List Int} {cries_a : Option Addr} {cries_c : Nat} {cries : List (Int × Int × Int)} {course_a : Option Addr} {course_c : Nat} {course : List Int} {F : FS} (_h_hears : RowR 1 (slE 1 (slE 1 (iE .i64))) F hears_a hears_c hears) (h_readings : RowR 1 (iE .i64) F readings_a readings_c readings) (_h_cries : RowR 3 (prE (iE .i64) (prE (iE .i64) (iE .i64))) F cries_a cries_c cries) (h_course : RowR 1 (iE .i64) F course_a course_c course) {r : Bool} (hr : oyezlaw07_fit houses notices hears readings cries course = some r) :
    SpecV Try.prog 52 #[.agg #[.int .i64 houses, .int .i64 notices, .slice hears_a hears.length hears_c, .slice readings_a readings.length readings_c, .slice cries_a cries.length cries_c], .slice course_a course.length course_c] F (.bool r) := by
 refine spec_of_shW (args := [.agg #[.int .i64 houses, .int .i64 notices, .slice hears_a hears.length hears_c, .slice readings_a readings.length readings_c, .slice cries_a cries.length cries_c], .slice course_a course.length course_c]) Try.func52 rfl Try.ntmps52 (Nat.le_of_ble_eq_true rfl) ?_
 intro K _ _; rw [oyezlaw07_fit] at hr
 refine wsr ?_
 refine o_box rfl rfl ?_; intro b1 hb1
 refine oa rfl rfl (shO_nil ?_)
 refine shW_join (fun e1 F1 L1 => oyezlaw07_fit_j1 = some r ∧ F = F1 ∧ L1 = [] ∧ e1.sub []) ?_ ?_
 · refine wsr (om rfl rfl ?_)
   refine ov (v_lenS Try.underlying24 rfl) rfl ?_
   refine om rfl rfl (shO_nil ?_)
   refine shW_block ?_
   refine shW_lp (fun fu2 e1 F1 L1 => ∃ (tl : List Int) (k : Int), tl.length = fu2 ∧ Lst course k tl ∧ oyezlaw07_fit_l2 readings course tl k = some r ∧ F = F1 ∧ L1 = [(b1, .cells #[.int .i64 houses, .int .i64 notices, .slice hears_a hears.length hears_c, .slice readings_a readings.length readings_c, .slice cries_a cries.length cries_c] 27 (0, 0))] ∧ e1.sub [(1, .slice course_a course.length course_c), (2, .pointer (some ⟨b1, 0, none⟩)), (7, .slice course_a course.length course_c), (8, .int .i64 (course.length : Int)), (9, .int .i64 k)]) _ (m0 kr ⟨_, _, rfl, Lst.start _, hr, rfl, rfl, (sc rfl (sc rfl (sc rfl (sc rfl (sc rfl (sn _))))))⟩) ?_
   rintro fu2 e1 _ _ ⟨tl, k, hn3, hk2, r4, rfl, rfl, he5⟩
   refine shW_env _ he5 ?_; clear he5
   refine wsr ?_
   refine ov (v_lssK rfl rfl) rfl ?_
   refine shO_nil (shW_seq ?_)
   refine shW_condP rfl (fun c7 => ?_) (fun c7 => ?_)
   · obtain ⟨x, tl2, rfl, hx9, g10, hk8⟩ := Lst.succ hk2 c7
     rw [oyezlaw07_fit_l2] at r4
     refine shW_skip (shW_seq ?_)
     refine shW_block ?_
     refine wsr (om rfl rfl ?_)
     obtain ⟨b11, o12, c13, vs14, ha15, hs16, hle17, rfl, hl18, hc19⟩ := RowR.at (iE_ok _) h_course ([(b1, .cells #[.int .i64 houses, .int .i64 notices, .slice hears_a hears.length hears_c, .slice readings_a readings.length readings_c, .slice cries_a cries.length cries_c] 27 (0, 0))]) g10.1 hx9
     refine ov (v_indexO Try.underlying24 Try.sizeOf3 rfl ha15 rfl g10) rfl ?_
     refine ov (v_load Try.isAgg3 rfl hs16 (hc19 0 (by decide))) rfl ?_
     refine oa rfl rfl (oa rfl rfl (shO_nil ?_))
     obtain ⟨k2, h20, r21⟩ := b1_ok r4; clear r4
     refine shW_join (fun e1 F1 L1 => F = F1 ∧ L1 = [(b1, .cells #[.int .i64 houses, .int .i64 notices, .slice hears_a hears.length hears_c, .slice readings_a readings.length readings_c, .slice cries_a cries.length cries_c] 27 (0, 0))] ∧ e1.sub [(1, .slice course_a course.length course_c), (2, .pointer (some ⟨b1, 0, none⟩)), (7, .slice course_a course.length course_c), (8, .int .i64 (course.length : Int)), (9, .int .i64 k), (43, .bool k2)]) ?_ ?_
     · clear r21
       refine shW_region ?_
       refine ov (v_fieldAddr fa_27_3 rfl) rfl ?_
       refine ov (v_load Try.isAgg24 rfl (Has.own 0 rfl) rfl) rfl ?_
       refine om rfl rfl ?_
       obtain ⟨x2, g22, hx23, r24⟩ := ix_ok h20; clear h20
       obtain ⟨b25, o26, c27, vs28, ha29, hs30, hle31, rfl, hl32, hc33⟩ := RowR.at (iE_ok _) h_readings ([(b1, .cells #[.int .i64 houses, .int .i64 notices, .slice hears_a hears.length hears_c, .slice readings_a readings.length readings_c, .slice cries_a cries.length cries_c] 27 (0, 0))]) g22.1 hx23
       refine ov (v_indexO Try.underlying24 Try.sizeOf3 rfl ha29 rfl g22) rfl ?_
       refine ov (v_load Try.isAgg3 rfl hs30 (hc33 0 (by decide))) rfl ?_
       refine ov (v_neq rfl rfl) rfl ?_
       refine om rfl rfl ?_
       by_cases c34 : x2 ≠ (-1)
       · have r35 := ite_t r24 c34; clear r24
         refine shO_on (b := true) 20 rfl (Env.isT rfl c34) (om rfl rfl (shO_on (b := true) 20 rfl (Env.isT rfl c34) ?_))
         refine ov (v_fieldAddr fa_27_3 rfl) rfl ?_
         refine shO_on (b := true) 20 rfl (Env.isT rfl c34) ?_
         refine ov (v_load Try.isAgg24 rfl (Has.own 0 rfl) rfl) rfl ?_
         refine shO_on (b := true) 20 rfl (Env.isT rfl c34) (om rfl rfl (shO_on (b := true) 20 rfl (Env.isT rfl c34) ?_))
         obtain ⟨b36, o37, c38, vs39, ha40, hs41, hle42, rfl, hl43, hc44⟩ := RowR.at (iE_ok _) h_readings ([(b1, .cells #[.int .i64 houses, .int .i64 notices, .slice hears_a hears.length hears_c, .slice readings_a readings.length readings_c, .slice cries_a cries.length cries_c] 27 (0, 0))]) g22.1 hx23
         refine ov (v_indexO Try.underlying24 Try.sizeOf3 rfl ha40 rfl g22) rfl ?_
         refine shO_on (b := true) 20 rfl (Env.isT rfl c34) ?_
         refine ov (v_load Try.isAgg3 rfl hs41 (hc44 0 (by decide))) rfl ?_
         refine shO_on (b := true) 20 rfl (Env.isT rfl c34) ?_
         obtain ⟨ok, h45, r46⟩ := b1_ok r35; clear r35
         refine o_callV rfl Try.call85 rfl rfl rfl (oyezlaw07_near_w h45) ?_
         refine shO_on (b := true) 20 rfl (Env.isT rfl c34) ?_
         refine ov (v_notB rfl) rfl ?_
         refine ov (v_pick_t (evD_true rfl c34) rfl) rfl ?_
         refine om rfl rfl ?_
         rcases bool_two (!ok) with c47 | c47
         · have r48 := bt r46 c47; clear r46
           refine shO_off (b' := true) 30 rfl (EnvB rfl c47) rfl rfl (shO_off (b' := true) 30 rfl (EnvB rfl c47) rfl rfl (shO_off (b' := true) 30 rfl (EnvB rfl c47) rfl rfl (shO_offU 33 rfl rfl rfl (shO_offU 33 rfl rfl rfl (shO_offU 33 rfl rfl rfl (shO_offU 33 rfl rfl rfl (shO_offU 33 rfl rfl rfl (shO_offU 33 rfl rfl rfl (shO_offU 33 rfl rfl rfl ?_)))))))))
           refine shO_offU 33 rfl rfl rfl (shO_off (b' := true) 30 rfl (EnvB rfl c47) rfl rfl ?_)
           refine ov (v_pick_t (evB rfl c47) rfl) rfl ?_
           refine shO_nil ?_
           obtain rfl := inj1 r48
           exact mi kr ⟨rfl, rfl, (sc rfl (sc rfl (sc rfl (sc rfl (sc rfl (sc rfl (sn _)))))))⟩
         have r49 := bf r46 c47; clear r46
         refine shO_on (b := false) 30 rfl (EnvB rfl c47) (om rfl rfl (shO_on (b := false) 30 rfl (EnvB rfl c47) ?_))
         refine ov (v_gtrK rfl rfl) rfl ?_
         refine shO_on (b := false) 30 rfl (EnvB rfl c47) (om rfl rfl ?_)
         by_cases c50 : 0 < k
         · have r51 := ite_t r49 c50; clear r49
           refine shO_on (b := true) 33 rfl (Env.isT rfl c50) (om rfl rfl (shO_on (b := true) 33 rfl (Env.isT rfl c50) (om rfl rfl (shO_on (b := true) 33 rfl (Env.isT rfl c50) (om rfl rfl (shO_on (b := true) 33 rfl (Env.isT rfl c50) ?_))))))
           obtain ⟨g52, r53⟩ := gd_ok r51; clear r51
           refine ov (v_sub rfl rfl g52) rfl ?_
           refine shO_on (b := true) 33 rfl (Env.isT rfl c50) ?_
           obtain ⟨x3, g54, hx55, r56⟩ := ix_ok r53; clear r53
           obtain ⟨b57, o58, c59, vs60, ha61, hs62, hle63, rfl, hl64, hc65⟩ := RowR.at (iE_ok _) h_course ([(b1, .cells #[.int .i64 houses, .int .i64 notices, .slice hears_a hears.length hears_c, .slice readings_a readings.length readings_c, .slice cries_a cries.length cries_c] 27 (0, 0))]) g54.1 hx55
           refine ov (v_indexO Try.underlying24 Try.sizeOf3 rfl ha61 rfl g54) rfl ?_
           refine shO_on (b := true) 33 rfl (Env.isT rfl c50) ?_
           refine ov (v_load Try.isAgg3 rfl hs62 (hc65 0 (by decide))) rfl ?_
           refine shO_on (b := true) 33 rfl (Env.isT rfl c50) ?_
           obtain ⟨ok2, h66, r67⟩ := b1_ok r56; clear r56
           refine o_callV rfl Try.call85 rfl rfl rfl (oyezlaw07_near_w h66) ?_
           refine shO_on (b := true) 33 rfl (Env.isT rfl c50) ?_
           refine ov (v_notB rfl) rfl ?_
           refine shO_on (b := false) 30 rfl (EnvB rfl c47) ?_
           refine ov (v_pick_t (evD_true rfl c50) rfl) rfl ?_
           refine ov (v_pick_f (evB rfl c47) rfl) rfl ?_
           refine shO_nil ?_
           obtain rfl := inj1 r67
           exact mi kr ⟨rfl, rfl, (sc rfl (sc rfl (sc rfl (sc rfl (sc rfl (sc rfl (sn _)))))))⟩
         have r68 := ite_f r49 c50; clear r49
         refine shO_off (b' := false) 33 rfl (Env.isF rfl c50) rfl rfl (shO_off (b' := false) 33 rfl (Env.isF rfl c50) rfl rfl (shO_off (b' := false) 33 rfl (Env.isF rfl c50) rfl rfl (shO_off (b' := false) 33 rfl (Env.isF rfl c50) rfl rfl (shO_off (b' := false) 33 rfl (Env.isF rfl c50) rfl rfl (shO_off (b' := false) 33 rfl (Env.isF rfl c50) rfl rfl (shO_off (b' := false) 33 rfl (Env.isF rfl c50) rfl rfl (shO_off (b' := false) 33 rfl (Env.isF rfl c50) rfl rfl (shO_on (b := false) 30 rfl (EnvB rfl c47) ?_))))))))
         refine ov (v_pick_f (evD_false rfl c50) rfl) rfl ?_
         refine ov (v_pick_f (evB rfl c47) rfl) rfl ?_
         refine shO_nil ?_
         obtain rfl := inj1 r68
         exact mi kr ⟨rfl, rfl, (sc rfl (sc rfl (sc rfl (sc rfl (sc rfl (sc rfl (sn _)))))))⟩
       have r69 := ite_f r24 c34; clear r24
       refine shO_off (b' := false) 20 rfl (Env.isF rfl c34) rfl rfl (shO_off (b' := false) 20 rfl (Env.isF rfl c34) rfl rfl (shO_off (b' := false) 20 rfl (Env.isF rfl c34) rfl rfl (shO_off (b' := false) 20 rfl (Env.isF rfl c34) rfl rfl (shO_off (b' := false) 20 rfl (Env.isF rfl c34) rfl rfl (shO_off (b' := false) 20 rfl (Env.isF rfl c34) rfl rfl (shO_off (b' := false) 20 rfl (Env.isF rfl c34) rfl rfl (shO_off (b' := false) 20 rfl (Env.isF rfl c34) rfl rfl ?_)))))))
       refine ov (v_pick_f (evD_false rfl c34) rfl) rfl ?_
       refine om rfl rfl (shO_on (b := false) 30 rfl rfl (om rfl rfl (shO_on (b := false) 30 rfl rfl ?_)))
       refine ov (v_gtrK rfl rfl) rfl ?_
       refine shO_on (b := false) 30 rfl rfl (om rfl rfl ?_)
       by_cases c70 : 0 < k
       · have r71 := ite_t r69 c70; clear r69
         refine shO_on (b := true) 33 rfl (Env.isT rfl c70) (om rfl rfl (shO_on (b := true) 33 rfl (Env.isT rfl c70) (om rfl rfl (shO_on (b := true) 33 rfl (Env.isT rfl c70) (om rfl rfl (shO_on (b := true) 33 rfl (Env.isT rfl c70) ?_))))))
         obtain ⟨g72, r73⟩ := gd_ok r71; clear r71
         refine ov (v_sub rfl rfl g72) rfl ?_
         refine shO_on (b := true) 33 rfl (Env.isT rfl c70) ?_
         obtain ⟨x4, g74, hx75, r76⟩ := ix_ok r73; clear r73
         obtain ⟨b77, o78, c79, vs80, ha81, hs82, hle83, rfl, hl84, hc85⟩ := RowR.at (iE_ok _) h_course ([(b1, .cells #[.int .i64 houses, .int .i64 notices, .slice hears_a hears.length hears_c, .slice readings_a readings.length readings_c, .slice cries_a cries.length cries_c] 27 (0, 0))]) g74.1 hx75
         refine ov (v_indexO Try.underlying24 Try.sizeOf3 rfl ha81 rfl g74) rfl ?_
         refine shO_on (b := true) 33 rfl (Env.isT rfl c70) ?_
         refine ov (v_load Try.isAgg3 rfl hs82 (hc85 0 (by decide))) rfl ?_
         refine shO_on (b := true) 33 rfl (Env.isT rfl c70) ?_
         obtain ⟨ok3, h86, r87⟩ := b1_ok r76; clear r76
         refine o_callV rfl Try.call85 rfl rfl rfl (oyezlaw07_near_w h86) ?_
         refine shO_on (b := true) 33 rfl (Env.isT rfl c70) ?_
         refine ov (v_notB rfl) rfl ?_
         refine shO_on (b := false) 30 rfl rfl ?_
         refine ov (v_pick_t (evD_true rfl c70) rfl) rfl ?_
         refine ov (v_pick_f rfl rfl) rfl ?_
         refine shO_nil ?_
         obtain rfl := inj1 r87
         exact mi kr ⟨rfl, rfl, (sc rfl (sc rfl (sc rfl (sc rfl (sc rfl (sc rfl (sn _)))))))⟩
       have r88 := ite_f r69 c70; clear r69
       refine shO_off (b' := false) 33 rfl (Env.isF rfl c70) rfl rfl (shO_off (b' := false) 33 rfl (Env.isF rfl c70) rfl rfl (shO_off (b' := false) 33 rfl (Env.isF rfl c70) rfl rfl (shO_off (b' := false) 33 rfl (Env.isF rfl c70) rfl rfl (shO_off (b' := false) 33 rfl (Env.isF rfl c70) rfl rfl (shO_off (b' := false) 33 rfl (Env.isF rfl c70) rfl rfl (shO_off (b' := false) 33 rfl (Env.isF rfl c70) rfl rfl (shO_off (b' := false) 33 rfl (Env.isF rfl c70) rfl rfl (shO_on (b := false) 30 rfl rfl ?_))))))))
       refine ov (v_pick_f (evD_false rfl c70) rfl) rfl ?_
       refine ov (v_pick_f rfl rfl) rfl ?_
       refine shO_nil ?_
       obtain rfl := inj1 r88
       exact mi kr ⟨rfl, rfl, (sc rfl (sc rfl (sc rfl (sc rfl (sc rfl (sc rfl (sn _)))))))⟩
     rintro e1 _ _ ⟨rfl, rfl, he89⟩
     refine shW_env _ he89 ?_; clear he89
     refine shW_cond rfl (fun c90 => ?_) (fun c90 => ?_)
     · have r91 := bt r21 c90; clear r21
       refine wsr (oa rfl rfl (shO_nil ?_))
       refine kW kn ?_
       refine shW_ret (inBlock_ret (andThen_ret (andThen_ret (inBlock_ret (andThen_ret ?_)))))
       refine q_res1 Try.results52 (res_tmp rfl) (sr) ?_
       obtain rfl := inj1 r91
       exact rfl
     have r92 := bf r21 c90; clear r21
     refine shW_skip (inBlock_n (id := 1) (shW_region ?_))
     refine ov (v_add rfl rfl (Lst.r64 hk2 c7 (RowR.lt h_course))) rfl ?_
     refine om rfl rfl (shO_nil ?_)
     subst hn3; exact le kr ⟨_, _, rfl, hk8, r92, rfl, rfl, (sc rfl (sc rfl (sc rfl (sc rfl (sc rfl (sn _))))))⟩
   obtain rfl := Lst.zero hk2 c7
   rw [oyezlaw07_fit_l2] at r4
   refine shW_exit (andThen_exit (andThen_exit ?_))
   refine inBlock_exit ?_
   exact mi kn ⟨r4, rfl, rfl, (sn _)⟩
 rintro e1 _ _ ⟨r93, rfl, rfl, he94⟩
 refine shW_env _ he94 ?_; clear he94
 rw [oyezlaw07_fit_j1] at r93
 refine wsr (oa rfl rfl (shO_nil (shW_ret ?_)))
 refine q_res1 Try.results52 (res_tmp rfl) (sr) ?_
 obtain rfl := inj1 r93
 exact rfl
set_option maxHeartbeats 1000000 in
theorem oyezlaw07_right_w {houses : Int} {notices : Int} {hears_a : Option Addr} {hears_c : Nat} {hears : List (List (List Int))} {readings_a : Option Addr} {readings_c : Nat} {readings : List Int} {cries_a : Option Addr} {cries_c : Nat} {cries : List (Int × Int × Int)} {course_a : Option Addr} {course_c : Nat} {course : List Int} {F : FS} (h_hears : RowR 1 (slE 1 (slE 1 (iE .i64))) F hears_a hears_c hears) (h_readings : RowR 1 (iE .i64) F readings_a readings_c readings) (h_cries : RowR 3 (prE (iE .i64) (prE (iE .i64) (iE .i64))) F cries_a cries_c cries) (h_course : RowR 1 (iE .i64) F course_a course_c course) {r : Bool} (hr : oyezlaw07_right houses notices hears readings cries course = some r) :
    SpecV Try.prog 18 #[.agg #[.int .i64 houses, .int .i64 notices, .slice hears_a hears.length hears_c, .slice readings_a readings.length readings_c, .slice cries_a cries.length cries_c], .slice course_a course.length course_c] F (.bool r) := by
 refine spec_of_shW (args := [.agg #[.int .i64 houses, .int .i64 notices, .slice hears_a hears.length hears_c, .slice readings_a readings.length readings_c, .slice cries_a cries.length cries_c], .slice course_a course.length course_c]) Try.func18 rfl Try.ntmps18 (Nat.le_of_ble_eq_true rfl) ?_
 intro K _ _; rw [oyezlaw07_right] at hr
 refine wsr ?_
 refine o_box rfl rfl ?_; intro b1 hb1
 refine oa rfl rfl (nsr (om rfl rfl ?_))
 refine ov (v_lenS Try.underlying24 rfl) rfl ?_
 refine ov (v_fieldAddr fa_27_3 rfl) rfl ?_
 refine ov (v_load Try.isAgg24 rfl (Has.own 0 rfl) rfl) rfl ?_
 refine ov (v_lenS Try.underlying24 rfl) rfl ?_
 refine ov (v_eql rfl rfl) rfl ?_
 refine om rfl rfl ?_
 by_cases c2 : (course.length : Int) = (readings.length : Int)
 · have r3 := ite_t hr c2; clear hr
   refine shO_on (b := true) 11 rfl (Env.isT rfl c2) (om rfl rfl (shO_on (b := true) 11 rfl (Env.isT rfl c2) ?_))
   have hn4 : FnR Try.prog F 51 #[] #[] (iE .i64) Value.bool (fun xx_ : Int => oyezlaw07_right_1 xx_) := ⟨Try.call51, fun F2 h2 vs xx_ r ha hr => by obtain rfl := ha; exact oyezlaw07_right_1_w hr⟩
   obtain ⟨ok, h5, r6⟩ := b1_ok r3; clear r3
   refine o_callV rfl Try.call50 rfl rfl rfl (slices_ContainsFunc_int_int_w h_course hn4 h5) ?_
   refine shO_on (b := true) 11 rfl (Env.isT rfl c2) ?_
   refine ov (v_notB rfl) rfl ?_
   refine ov (v_pick_t (evD_true rfl c2) rfl) rfl ?_
   refine om rfl rfl ?_
   rcases bool_two (!ok) with c7 | c7
   · have r8 := bt r6 c7; clear r6
     refine shO_on (b := true) 16 rfl (EnvB rfl c7) ?_
     refine ov (v_loadA (cs := #[.int .i64 houses, .int .i64 notices, .slice hears_a hears.length hears_c, .slice readings_a readings.length readings_c, .slice cries_a cries.length cries_c]) Try.isAgg27 Try.sizeOf27 rfl (Has.own 0 rfl) (Nat.le_of_ble_eq_true rfl) rfl) rfl ?_
     refine shO_on (b := true) 16 rfl (EnvB rfl c7) (om rfl rfl (shO_on (b := true) 16 rfl (EnvB rfl c7) ?_))
     obtain ⟨ok2, h9, r10⟩ := b1_ok r8; clear r8
     refine o_callV rfl Try.call52 rfl rfl rfl (oyezlaw07_fit_w h_hears h_readings h_cries h_course h9) ?_
     refine ov (v_pick_t (evB rfl c7) rfl) rfl ?_
     refine oa rfl rfl (shO_nil ?_)
     refine kW kn ?_
     refine shW_ret ?_
     refine q_res1 Try.results18 (res_tmp rfl) (sr) ?_
     obtain rfl := inj1 r10
     exact rfl
   have r11 := bf r6 c7; clear r6
   refine shO_off (b' := false) 16 rfl (EnvB rfl c7) rfl rfl (shO_off (b' := false) 16 rfl (EnvB rfl c7) rfl rfl (shO_off (b' := false) 16 rfl (EnvB rfl c7) rfl rfl ?_))
   refine ov (v_pick_f (evB rfl c7) rfl) rfl ?_
   refine oa rfl rfl (shO_nil ?_)
   refine kW kn ?_
   refine shW_ret ?_
   refine q_res1 Try.results18 (res_tmp rfl) (sr) ?_
   obtain rfl := inj1 r11
   exact rfl
 have r12 := ite_f hr c2; clear hr
 refine shO_off (b' := false) 11 rfl (Env.isF rfl c2) rfl rfl (shO_off (b' := false) 11 rfl (Env.isF rfl c2) rfl rfl (shO_off (b' := false) 11 rfl (Env.isF rfl c2) rfl rfl ?_))
 refine ov (v_pick_f (evD_false rfl c2) rfl) rfl ?_
 refine om rfl rfl (shO_off (b' := false) 16 rfl rfl rfl rfl (shO_off (b' := false) 16 rfl rfl rfl rfl (shO_off (b' := false) 16 rfl rfl rfl rfl ?_)))
 refine ov (v_pick_f rfl rfl) rfl ?_
 refine oa rfl rfl (shO_nil ?_)
 refine kW kn ?_
 refine shW_ret ?_
 refine q_res1 Try.results18 (res_tmp rfl) (sr) ?_
 obtain rfl := inj1 r12
 exact rfl
set_option maxHeartbeats 1000000 in
theorem oyezlaw07_tried_w {b_q : Nat} {metal_a : Option Addr} {metal_c : Nat} {metal : List Int} {at_ : Int} {turn : Int} {houses : Int} {notices : Int} {hears_a : Option Addr} {hears_c : Nat} {hears : List (List (List Int))} {readings_a : Option Addr} {readings_c : Nat} {readings : List Int} {cries_a : Option Addr} {cries_c : Nat} {cries : List (Int × Int × Int)} {real_a : Option Addr} {real_c : Nat} {real : List Int} {many : Int} {F : FS} (h_metal : RowR 1 (iE .u8) F metal_a metal_c metal) (h_hears : RowR 1 (slE 1 (slE 1 (iE .i64))) F hears_a hears_c hears) (h_readings : RowR 1 (iE .i64) F readings_a readings_c readings) (h_cries : RowR 3 (prE (iE .i64) (prE (iE .i64) (iE .i64))) F cries_a cries_c cries) (h_real : RowR 1 (iE .i64) F real_a real_c real) {r : List (List Int)} {r2 : Int} {r3 : Int} (hr : oyezlaw07_tried metal at_ turn houses notices hears readings cries real many = some (r, r2, r3)) :
    SH.Spec Try.prog 21 #[.pointer (some ⟨b_q, 0, none⟩), .agg #[.int .i64 houses, .int .i64 notices, .slice hears_a hears.length hears_c, .slice readings_a readings.length readings_c, .slice cries_a cries.length cries_c], .slice real_a real.length real_c, .int .i64 many] F [(b_q, .cells #[.slice metal_a metal.length metal_c, .int .i64 at_, .int .u32 turn] 83 (0, 0))] fun F' L' v => ∃ (ra : Option Addr) (rn : Nat) (rc : Nat) (rL : LH), v = .slice ra rn rc ∧ L' = (b_q, .cells #[.slice metal_a metal.length metal_c, .int .i64 r2, .int .u32 r3] 83 (0, 0)) :: (rL ++ []) ∧ SlR 0 24 1 (slE 1 (iE .i64)) F' ra rn rc r rL := by
 refine spec_of_shW (args := [.pointer (some ⟨b_q, 0, none⟩), .agg #[.int .i64 houses, .int .i64 notices, .slice hears_a hears.length hears_c, .slice readings_a readings.length readings_c, .slice cries_a cries.length cries_c], .slice real_a real.length real_c, .int .i64 many]) Try.func21 rfl Try.ntmps21 (Nat.le_of_ble_eq_true rfl) ?_
 intro K _ _; rw [oyezlaw07_tried] at hr
 refine wsr ?_
 refine o_box rfl rfl ?_; intro b1 hb1
 refine oa rfl rfl (nsr (om rfl rfl ?_))
 refine o_buildSlice (cs := #[.slice real_a real.length real_c]) rfl rfl (buildSlice_all slt_42 [.slice real_a real.length real_c] rfl (by decide) (by simp [Value.cells]) (by decide)) ?_; intro b2 hb2
 have hz4 : SlR K.w0.heap.size 24 1 (slE 1 (iE .i64)) F (some ⟨b2, 0, none⟩) 1 1 [real] [(b2, .cells #[.slice real_a real.length real_c] 24 (0, 0))] := SlR.of_block (vss := [[.slice real_a real.length real_c]]) (slE_ok (iE_ok _)) hb2 (.cons ⟨_, _, rfl, h_real⟩ .nil) rfl rfl (by simp [maxLen])
 generalize hLLb3 : ([(b2, .cells #[.slice real_a real.length real_c] 24 (0, 0))] : LH) = Lb3 at hz4
 refine shO_perm (L' := Lb3 ++ [(b1, .cells #[.int .i64 houses, .int .i64 notices, .slice hears_a hears.length hears_c, .slice readings_a readings.length readings_c, .slice cries_a cries.length cries_c] 27 (0, 0)), (b_q, .cells #[.slice metal_a metal.length metal_c, .int .i64 at_, .int .u32 turn] 83 (0, 0))]) (by rw [← hLLb3]; exact fO) ?_
 refine shO_perm (L' := (b1, .cells #[.int .i64 houses, .int .i64 notices, .slice hears_a hears.length hears_c, .slice readings_a readings.length readings_c, .slice cries_a cries.length cries_c] 27 (0, 0)) :: ((b_q, .cells #[.slice metal_a metal.length metal_c, .int .i64 at_, .int .u32 turn] 83 (0, 0)) :: (Lb3 ++ []))) (List.Perm.symm (fC (fC fP))) ?_
 refine oa rfl rfl (shO_nil ?_)
 obtain ⟨out, q_at, q_turn, h12, r13⟩ := b3_ok hr; clear hr
 refine shW_join (fun e1 F1 L1 => ∃ (a6 : Option Addr) (n10 : Nat) (c7 : Nat) (Lb8 : LH), FExt F F1 ∧ L1 = ((b_q, .cells #[.slice metal_a metal.length metal_c, .int .i64 q_at, .int .u32 q_turn] 83 (0, 0)) :: (Lb8 ++ [])) ∧ e1.sub [(9, .slice a6 n10 c7)] ∧ SlR K.w0.heap.size 24 1 (slE 1 (iE .i64)) F1 a6 n10 c7 out Lb8) ?_ ?_
 · clear r13
   refine wsr (om rfl rfl (om rfl rfl (shO_nil ?_)))
   refine shW_block ?_
   obtain ⟨g20, r21⟩ := gd_ok h12; clear h12
   refine shW_lp (fun fu1 e1 F1 L1 => ∃ (k : Int), Ctr 0 many k fu1 ∧ ∃ (q_at2 : Int) (q_turn2 : Int) (out2 : List (List Int)) (a14 : Option Addr) (n18 : Nat) (c15 : Nat) (Lb16 : LH), oyezlaw07_tried_l1 metal houses notices hears readings cries real fu1 q_at2 q_turn2 out2 = some (out, q_at, q_turn) ∧ FExt F F1 ∧ L1 = ((b1, .cells #[.int .i64 houses, .int .i64 notices, .slice hears_a hears.length hears_c, .slice readings_a readings.length readings_c, .slice cries_a cries.length cries_c] 27 (0, 0)) :: ((b_q, .cells #[.slice metal_a metal.length metal_c, .int .i64 q_at2, .int .u32 q_turn2] 83 (0, 0)) :: (Lb16 ++ []))) ∧ e1.sub [(0, .pointer (some ⟨b_q, 0, none⟩)), (2, .slice real_a real.length real_c), (5, .pointer (some ⟨b1, 0, none⟩)), (9, .slice a14 n18 c15), (17, .int .i64 many), (18, .int .i64 k)] ∧ SlR K.w0.heap.size 24 1 (slE 1 (iE .i64)) F1 a14 n18 c15 out2 Lb16) _ (m0 kr ⟨_, Ctr.start _ _, at_, turn, [real], (some ⟨b2, 0, none⟩), 1, 1, Lb3, r21, FExt.refl _, rfl, (sc rfl (sc rfl (sc rfl (sc rfl (sc rfl (sc rfl (sn _))))))), hz4⟩) ?_
   rintro fu1 e1 F26 _ ⟨k, hk22, q_at2, q_turn2, out2, a14, n18, c15, Lb16, r24, hF27, rfl, he25, hz17⟩
   refine shW_env _ he25 ?_; clear he25
   replace h_metal := h_metal.mono (iE_ok _) hF27
   replace h_hears := h_hears.mono (slE_ok (slE_ok (iE_ok _))) hF27
   replace h_readings := h_readings.mono (iE_ok _) hF27
   replace h_cries := h_cries.mono (prE_ok (iE_ok _) (prE_ok (iE_ok _) (iE_ok _))) hF27
   replace h_real := h_real.mono (iE_ok _) hF27
   refine wsr ?_
   refine ov (v_lssK rfl rfl) rfl ?_
   refine shO_nil (shW_seq ?_)
   refine shW_condP rfl (fun c29 => ?_) (fun c29 => ?_)
   · obtain ⟨fu1, rfl, hk30⟩ := Ctr.succ hk22 c29
     rw [oyezlaw07_tried_l1] at r24
     refine shW_skip ?_
     obtain ⟨q_at3, q_turn3, out3, h37, r38⟩ := b3_ok r24; clear r24
     refine shW_join (fun e1 F1 L1 => ∃ (a31 : Option Addr) (n35 : Nat) (c32 : Nat) (Lb33 : LH), FExt F26 F1 ∧ L1 = ((b_q, .cells #[.slice metal_a metal.length metal_c, .int .i64 q_at3, .int .u32 q_turn3] 83 (0, 0)) :: ((b1, .cells #[.int .i64 houses, .int .i64 notices, .slice hears_a hears.length hears_c, .slice readings_a readings.length readings_c, .slice cries_a cries.length cries_c] 27 (0, 0)) :: (Lb33 ++ []))) ∧ e1.sub [(0, .pointer (some ⟨b_q, 0, none⟩)), (2, .slice real_a real.length real_c), (5, .pointer (some ⟨b1, 0, none⟩)), (9, .slice a31 n35 c32), (17, .int .i64 many), (18, .int .i64 k)] ∧ SlR K.w0.heap.size 24 1 (slE 1 (iE .i64)) F1 a31 n35 c32 out3 Lb33) ?_ ?_
     · clear r38
       refine shW_block ?_
       refine wsr (om rfl rfl ?_)
       obtain ⟨l, h39, r40⟩ := b1_ok h37; clear h37
       refine o_call0 rfl Try.call31 rfl rfl rfl (oyezkit_Copy_int_w h_real h39) ?_; rintro _ F41 _ hF42 hn43 ⟨a45, n49, c46, Lb47, rfl, rfl, hz48⟩
       replace h_metal := h_metal.mono (iE_ok _) hF42
       replace h_hears := h_hears.mono (slE_ok (slE_ok (iE_ok _))) hF42
       replace h_readings := h_readings.mono (iE_ok _) hF42
       replace h_cries := h_cries.mono (prE_ok (iE_ok _) (prE_ok (iE_ok _) (iE_ok _))) hF42
       replace hz17 := hz17.mono (slE_ok (iE_ok _)) hF42
       replace hz48 := hz48.new fun p hp => hn43 p (by simp [hp])
       refine shO_L (lp (ln rfl)) ?_
       refine kO (kf (fS fO) (kf (fS fO) kr)) ?_
       refine oa rfl rfl (shO_nil ?_)
       obtain ⟨q_at4, q_turn4, own, h53, r54⟩ := b3_ok r40; clear r40
       refine shW_join (fun e1 F1 L1 => ∃ (Lb51 : LH), FExt F41 F1 ∧ L1 = ((b_q, .cells #[.slice metal_a metal.length metal_c, .int .i64 q_at4, .int .u32 q_turn4] 83 (0, 0)) :: ((b1, .cells #[.int .i64 houses, .int .i64 notices, .slice hears_a hears.length hears_c, .slice readings_a readings.length readings_c, .slice cries_a cries.length cries_c] 27 (0, 0)) :: (Lb16 ++ (Lb51 ++ [])))) ∧ e1.sub [(0, .pointer (some ⟨b_q, 0, none⟩)), (2, .slice real_a real.length real_c), (5, .pointer (some ⟨b1, 0, none⟩)), (9, .slice a14 n18 c15), (10, .slice a45 n49 c46), (17, .int .i64 many), (18, .int .i64 k)] ∧ SlR K.w0.heap.size 3 1 (iE .i64) F1 a45 n49 c46 own Lb51) ?_ ?_
       · clear r54
         refine wsr (om rfl rfl ?_)
         obtain ⟨n, at_2, turn2, h55, r56⟩ := b3_ok h53; clear h53
         refine o_callG (Lb := [(b_q, .cells #[.slice metal_a metal.length metal_c, .int .i64 q_at2, .int .u32 q_turn2] 83 (0, 0))]) (Lr := (b1, .cells #[.int .i64 houses, .int .i64 notices, .slice hears_a hears.length hears_c, .slice readings_a readings.length readings_c, .slice cries_a cries.length cries_c] 27 (0, 0)) :: (Lb47 ++ (Lb16 ++ []))) rfl Try.call38 rfl rfl rfl (((fC fO).trans (pC pR))) (oyezkit_Bell_Strike_w h_metal h55) ?_; rintro _ F57 _ hF58 hd60 hn59 ⟨rfl, rfl⟩
         replace h_metal := h_metal.mono (iE_ok _) hF58
         replace hz48 := hz48.mono (iE_ok _) hF58
         refine shO_L (lb (ln rfl)) ?_
         refine om rfl rfl (shO_nil ?_)
         refine shW_block ?_
         obtain ⟨g63, r64⟩ := gd_ok r56; clear r56
         refine shW_lp (fun fu2 e1 F1 L1 => ∃ (k2 : Int), Ctr 0 n k2 fu2 ∧ ∃ (q_at5 : Int) (q_turn5 : Int) (own2 : List Int) (Lb61 : LH), oyezlaw07_tried_l2 metal fu2 q_at5 q_turn5 own2 = some (q_at4, q_turn4, own) ∧ FExt F57 F1 ∧ L1 = ((b_q, .cells #[.slice metal_a metal.length metal_c, .int .i64 q_at5, .int .u32 q_turn5] 83 (0, 0)) :: ((b1, .cells #[.int .i64 houses, .int .i64 notices, .slice hears_a hears.length hears_c, .slice readings_a readings.length readings_c, .slice cries_a cries.length cries_c] 27 (0, 0)) :: (Lb16 ++ (Lb61 ++ [])))) ∧ e1.sub [(0, .pointer (some ⟨b_q, 0, none⟩)), (2, .slice real_a real.length real_c), (5, .pointer (some ⟨b1, 0, none⟩)), (9, .slice a14 n18 c15), (10, .slice a45 n49 c46), (17, .int .i64 many), (18, .int .i64 k), (23, .int .i64 n), (24, .int .i64 k2)] ∧ SlR K.w0.heap.size 3 1 (iE .i64) F1 a45 n49 c46 own2 Lb61) _ (m0 (kc (kc (kg (fS fP) kr))) ⟨_, Ctr.start _ _, at_2, turn2, l, Lb47, r64, FExt.refl _, rfl, (sc rfl (sc rfl (sc rfl (sc rfl (sc rfl (sc rfl (sc rfl (sc rfl (sc rfl (sn _)))))))))), hz48⟩) ?_
         rintro fu2 e1 F69 _ ⟨k2, hk65, q_at5, q_turn5, own2, Lb61, r67, hF70, rfl, he68, hz62⟩
         refine shW_env _ he68 ?_; clear he68
         replace h_metal := h_metal.mono (iE_ok _) hF70
         refine wsr ?_
         refine ov (v_lssK rfl rfl) rfl ?_
         refine shO_nil (shW_seq ?_)
         refine shW_condP rfl (fun c72 => ?_) (fun c72 => ?_)
         · obtain ⟨fu2, rfl, hk73⟩ := Ctr.succ hk65 c72
           rw [oyezlaw07_tried_l2] at r67
           refine shW_skip ?_
           obtain ⟨q_at6, q_turn6, own3, h76, r77⟩ := b3_ok r67; clear r67
           refine shW_join (fun e1 F1 L1 => ∃ (Lb74 : LH), FExt F69 F1 ∧ L1 = ((b_q, .cells #[.slice metal_a metal.length metal_c, .int .i64 q_at6, .int .u32 q_turn6] 83 (0, 0)) :: ((b1, .cells #[.int .i64 houses, .int .i64 notices, .slice hears_a hears.length hears_c, .slice readings_a readings.length readings_c, .slice cries_a cries.length cries_c] 27 (0, 0)) :: (Lb16 ++ (Lb74 ++ [])))) ∧ e1.sub [(0, .pointer (some ⟨b_q, 0, none⟩)), (2, .slice real_a real.length real_c), (5, .pointer (some ⟨b1, 0, none⟩)), (9, .slice a14 n18 c15), (10, .slice a45 n49 c46), (17, .int .i64 many), (18, .int .i64 k), (23, .int .i64 n), (24, .int .i64 k2)] ∧ SlR K.w0.heap.size 3 1 (iE .i64) F1 a45 n49 c46 own3 Lb74) ?_ ?_
           · clear r77
             refine shW_block ?_
             refine wsr (om rfl rfl (om rfl rfl ?_))
             refine ov ((v_lenS Try.underlying24 rfl).i (SlR.lenI hz62)) rfl ?_
             obtain ⟨g78, r79⟩ := gd_ok h76; clear h76
             refine ov (v_sub rfl rfl g78) rfl ?_
             obtain ⟨n2, at_3, turn3, h80, r81⟩ := b3_ok r79; clear r79
             refine o_callG (Lb := [(b_q, .cells #[.slice metal_a metal.length metal_c, .int .i64 q_at5, .int .u32 q_turn5] 83 (0, 0))]) (Lr := (b1, .cells #[.int .i64 houses, .int .i64 notices, .slice hears_a hears.length hears_c, .slice readings_a readings.length readings_c, .slice cries_a cries.length cries_c] 27 (0, 0)) :: (Lb16 ++ (Lb61 ++ []))) rfl Try.call11 rfl rfl rfl (pR) (oyezkit_Bell_Stroke_w h_metal h80) ?_; rintro _ F82 _ hF83 hd85 hn84 ⟨rfl, rfl⟩
             replace h_metal := h_metal.mono (iE_ok _) hF83
             replace hz62 := hz62.mono (iE_ok _) hF83
             refine shO_L (lb (ln rfl)) ?_
             refine om rfl rfl (om rfl rfl ?_)
             refine ov ((v_lenS Try.underlying24 rfl).i (SlR.lenI hz62)) rfl ?_
             obtain ⟨g86, r87⟩ := gd_ok r81; clear r81
             refine ov (v_sub rfl rfl g86) rfl ?_
             obtain ⟨n3, at_4, turn4, h88, r89⟩ := b3_ok r87; clear r87
             refine o_callG (Lb := [(b_q, .cells #[.slice metal_a metal.length metal_c, .int .i64 at_3, .int .u32 turn3] 83 (0, 0))]) (Lr := (b1, .cells #[.int .i64 houses, .int .i64 notices, .slice hears_a hears.length hears_c, .slice readings_a readings.length readings_c, .slice cries_a cries.length cries_c] 27 (0, 0)) :: (Lb16 ++ (Lb61 ++ []))) rfl Try.call11 rfl rfl rfl (pR) (oyezkit_Bell_Stroke_w h_metal h88) ?_; rintro _ F90 _ hF91 hd93 hn92 ⟨rfl, rfl⟩
             replace h_metal := h_metal.mono (iE_ok _) hF91
             replace hz62 := hz62.mono (iE_ok _) hF91
             refine shO_L (lb (ln rfl)) ?_
             refine oa rfl rfl (oa rfl rfl (nsr (om rfl rfl ?_)))
             obtain ⟨n4, at_5, turn5, h94, r95⟩ := b3_ok r89; clear r89
             refine o_callG (Lb := [(b_q, .cells #[.slice metal_a metal.length metal_c, .int .i64 at_4, .int .u32 turn4] 83 (0, 0))]) (Lr := (b1, .cells #[.int .i64 houses, .int .i64 notices, .slice hears_a hears.length hears_c, .slice readings_a readings.length readings_c, .slice cries_a cries.length cries_c] 27 (0, 0)) :: (Lb16 ++ (Lb61 ++ []))) rfl Try.call38 rfl rfl rfl (pR) (oyezkit_Bell_Strike_w h_metal h94) ?_; rintro _ F96 _ hF97 hd99 hn98 ⟨rfl, rfl⟩
             replace hz62 := hz62.mono (iE_ok _) hF97
             refine shO_L (lb (ln rfl)) ?_
             refine oa rfl rfl (nsr (om rfl rfl (om rfl rfl ?_)))
             refine ov (v_min2 rfl rfl) rfl ?_
             refine oa rfl rfl (shO_nil ?_)
             refine shW_block ?_
             refine shW_lp (fun fu3 e1 F1 L1 => ∃ (own4 : List Int) (h : Int) (Lb100 : LH), oyezlaw07_tried_l3 n2 n3 n4 at_5 turn5 fu3 own4 h = some (q_at6, q_turn6, own3) ∧ F96 = F1 ∧ L1 = ((b_q, .cells #[.slice metal_a metal.length metal_c, .int .i64 at_5, .int .u32 turn5] 83 (0, 0)) :: ((b1, .cells #[.int .i64 houses, .int .i64 notices, .slice hears_a hears.length hears_c, .slice readings_a readings.length readings_c, .slice cries_a cries.length cries_c] 27 (0, 0)) :: (Lb16 ++ (Lb100 ++ [])))) ∧ e1.sub [(0, .pointer (some ⟨b_q, 0, none⟩)), (2, .slice real_a real.length real_c), (5, .pointer (some ⟨b1, 0, none⟩)), (9, .slice a14 n18 c15), (10, .slice a45 n49 c46), (11, .int .i64 n2), (12, .int .i64 n3), (13, .int .i64 n4), (14, .int .i64 h), (17, .int .i64 many), (18, .int .i64 k), (23, .int .i64 n), (24, .int .i64 k2)] ∧ SlR K.w0.heap.size 3 1 (iE .i64) F1 a45 n49 c46 own4 Lb100) FU (m0 kr ⟨own2, if n3 < n2 then n3 else n2, Lb61, r95, rfl, rfl, (sc rfl (sc rfl (sc rfl (sc rfl (sc rfl (sc rfl (sc rfl (sc rfl (sc rfl (sc rfl (sc rfl (sc rfl (sc rfl (sn _)))))))))))))), hz62⟩) ?_
             rintro fu3 e1 _ _ ⟨own4, h, Lb100, r104, rfl, rfl, he105, hz101⟩
             refine shW_env _ he105 ?_; clear he105
             rcases fu3 with _ | fu3
             · rw [oyezlaw07_tried_l3] at r104; cases r104
             rw [oyezlaw07_tried_l3] at r104
             refine shW_seq (wsr (om rfl rfl (om rfl rfl (om rfl rfl ?_))))
             refine ov (v_max2 rfl rfl) rfl ?_
             refine ov (v_leqK rfl rfl) rfl ?_
             refine shO_nil ?_
             refine shW_condP rfl (fun c106 => ?_) (fun c106 => ?_)
             · have r107 := ite_t r104 c106; clear r104
               refine shW_skip (shW_seq ?_)
               refine shW_block ?_
               refine shW_region (om rfl rfl (om rfl rfl (om rfl rfl (om rfl rfl ?_))))
               obtain ⟨x, g108, hx109, r110⟩ := ix_ok r107; clear r107
               obtain ⟨b111, o112, c113, vs114, ha115, hs116, hle117, rfl, hl118, hc119⟩ := SlR.at (iE_ok _) hz101 (L := (b_q, .cells #[.slice metal_a metal.length metal_c, .int .i64 at_5, .int .u32 turn5] 83 (0, 0)) :: ((b1, .cells #[.int .i64 houses, .int .i64 notices, .slice hears_a hears.length hears_c, .slice readings_a readings.length readings_c, .slice cries_a cries.length cries_c] 27 (0, 0)) :: (Lb16 ++ (Lb100 ++ [])))) (fC (fC (fS fP))) g108.1 hx109
               refine ov (v_indexO Try.underlying24 Try.sizeOf3 rfl ha115 rfl (SlR.idx hz101 g108)) rfl ?_
               refine ov (v_load Try.isAgg3 rfl hs116 (hc119 0 (by decide))) rfl ?_
               refine om rfl rfl ?_
               obtain ⟨g120, r121⟩ := gd_ok r110; clear r110
               refine ov (v_add rfl rfl g120) rfl ?_
               obtain ⟨n5, h122, r123⟩ := b1_ok r121; clear r121
               refine o_callV rfl Try.call30 rfl rfl rfl (oyezkit_Wind_w h122) ?_
               obtain ⟨b124, o125, c126, vs127, ha128, hs129, hle130, rfl, hl131, hc132⟩ := SlR.at (iE_ok _) hz101 (L := (b_q, .cells #[.slice metal_a metal.length metal_c, .int .i64 at_5, .int .u32 turn5] 83 (0, 0)) :: ((b1, .cells #[.int .i64 houses, .int .i64 notices, .slice hears_a hears.length hears_c, .slice readings_a readings.length readings_c, .slice cries_a cries.length cries_c] 27 (0, 0)) :: (Lb16 ++ (Lb100 ++ [])))) (fC (fC (fS fP))) g108.1 hx109
               refine ov (v_indexO Try.underlying24 Try.sizeOf3 rfl ha128 rfl (SlR.idx hz101 g108)) rfl ?_
               obtain ⟨own5, h133, r134⟩ := bv_ok r123; clear r123
               refine o_storeZ (u := n5) Try.sizeOf3 (iE_ok _) rfl ha128 rfl rfl (fun _ => .c (.c (.s .h))) hz101 h133 g108 ?_; intro Lb135 hz136
               refine shO_nil (inBlock_n (id := 5) (shW_region (om rfl rfl ?_)))
               obtain ⟨g137, r138⟩ := gd_ok r134; clear r134
               refine ov (v_add rfl rfl g137) rfl ?_
               refine oa rfl rfl (shO_nil ?_)
               exact le kr ⟨own5, h + 1, Lb135, r138, rfl, rfl, (sc rfl (sc rfl (sc rfl (sc rfl (sc rfl (sc rfl (sc rfl (sc rfl (sc rfl (sc rfl (sc rfl (sc rfl (sc rfl (sn _)))))))))))))), hz136⟩
             have r139 := ite_f r104 c106; clear r104
             refine shW_exit (andThen_exit (andThen_exit ?_))
             refine inBlock_exit ?_
             refine inBlock_n (id := 3) ?_
             obtain ⟨rfl, rfl, rfl⟩ := inj3 r139
             exact mi kr ⟨Lb100, ((hF83.trans hF91).trans hF97), rfl, (sc rfl (sc rfl (sc rfl (sc rfl (sc rfl (sc rfl (sc rfl (sc rfl (sc rfl (sn _)))))))))), hz101⟩
           rintro e1 F141 _ ⟨Lb74, hF142, rfl, he140, hz75⟩
           refine shW_env _ he140 ?_; clear he140
           refine shW_region ?_
           refine ov (v_add rfl rfl (Ctr.r64 hk65 c72 g63)) rfl ?_
           refine om rfl rfl (shO_nil ?_)
           exact le kr ⟨_, hk73, q_at6, q_turn6, own3, Lb74, r77, (hF70.trans hF142), rfl, (sc rfl (sc rfl (sc rfl (sc rfl (sc rfl (sc rfl (sc rfl (sc rfl (sc rfl (sn _)))))))))), hz75⟩
         obtain rfl := Ctr.zero hk65 c72
         rw [oyezlaw07_tried_l2] at r67
         refine shW_exit (andThen_exit (andThen_exit ?_))
         refine inBlock_exit ?_
         obtain ⟨rfl, rfl, rfl⟩ := inj3 r67
         exact mi kr ⟨Lb61, (hF58.trans hF70), rfl, (sc rfl (sc rfl (sc rfl (sc rfl (sc rfl (sc rfl (sc rfl (sn _)))))))), hz62⟩
       rintro e1 F144 _ ⟨Lb51, hF145, rfl, he143, hz52⟩
       refine shW_env _ he143 ?_; clear he143
       replace h_hears := h_hears.mono (slE_ok (slE_ok (iE_ok _))) hF145
       replace h_readings := h_readings.mono (iE_ok _) hF145
       replace h_cries := h_cries.mono (prE_ok (iE_ok _) (prE_ok (iE_ok _) (iE_ok _))) hF145
       replace hz17 := hz17.mono (slE_ok (iE_ok _)) hF145
       refine wsr ?_
       refine ov (v_loadA (cs := #[.int .i64 houses, .int .i64 notices, .slice hears_a hears.length hears_c, .slice readings_a readings.length readings_c, .slice cries_a cries.length cries_c]) Try.isAgg27 Try.sizeOf27 rfl (Has.own 1 rfl) (Nat.le_of_ble_eq_true rfl) rfl) rfl ?_
       refine om rfl rfl ?_
       obtain ⟨ok, h146, r147⟩ := b1_ok r54; clear r54
       refine o_callT (Lt := Lb51 ++ []) (Lr := (b_q, .cells #[.slice metal_a metal.length metal_c, .int .i64 q_at4, .int .u32 q_turn4] 83 (0, 0)) :: ((b1, .cells #[.int .i64 houses, .int .i64 notices, .slice hears_a hears.length hears_c, .slice readings_a readings.length readings_c, .slice cries_a cries.length cries_c] 27 (0, 0)) :: (Lb16 ++ []))) rfl Try.call52 rfl rfl rfl (pT ((fC (fC (fS fP))).trans (pA pR)) (lp (ln rfl))) (fun F2 h2 h3 => by rw [(SlR.caps hz52).1]; exact oyezlaw07_fit_w (h_hears.mono (slE_ok (slE_ok (iE_ok _))) h2) (h_readings.mono (iE_ok _) h2) (h_cries.mono (prE_ok (iE_ok _) (prE_ok (iE_ok _) (iE_ok _))) h2) (hz52.row (iE_ok _) h2 (fun p hp => h3 p (List.mem_append_left _ hp))) h146) ?_
       refine shO_nil ?_
       refine shW_cond rfl (fun c148 => ?_) (fun c148 => ?_)
       · have r149 := bt r147 c148; clear r147
         refine shW_region (om rfl rfl (om rfl rfl ?_))
         refine o_buildSlice (cs := #[.slice a45 n49 c46]) rfl rfl (buildSlice_all slt_42 [.slice a45 n49 c46] rfl (by decide) (by simp [Value.cells]) (by decide)) ?_; intro b150 hb150
         obtain rfl := (SlR.caps hz52).1
         refine shO_freezeR (Nat.le_refl _) (iE_ok _) (fC (fC (fC (fS fP)))) hz52 ?_; intro F151 hF152 h153
         replace hz17 := hz17.mono (slE_ok (iE_ok _)) hF152
         obtain ⟨out4, h154, g155, r156⟩ := ap_ok r149; clear r149
         refine o_appZ (xs := out2) (ys := [own]) (zs := out4) rfl slt_42 rfl rfl (Nat.le_refl _) (fun _ => .c (.c (.c .h))) hz17 (SrcR.box (vss := [[.slice a45 own.length c46]]) (ys := [own]) 0 rfl (slE_ok (iE_ok _)) (.cons ⟨_, _, rfl, h153⟩ .nil) rfl rfl) h154 g155 (by decide) ?_; intro a157 n161 c158 Lb159 hz160
         refine kO (kd kr) ?_
         refine oa rfl rfl (shO_nil (inBlock_n (id := 1) ?_))
         obtain ⟨rfl, rfl, rfl⟩ := inj3 r156
         exact mi kr ⟨a157, n161, c158, Lb159, ((hF42.trans hF145).trans hF152), rfl, (sc rfl (sc rfl (sc rfl (sc rfl (sc rfl (sc rfl (sn _))))))), hz160⟩
       have r163 := bf r147 c148; clear r147
       refine shW_skip (inBlock_n (id := 1) ?_)
       obtain ⟨rfl, rfl, rfl⟩ := inj3 r163
       exact mi (kc (kc (ka kn))) ⟨a14, n18, c15, Lb16, (hF42.trans hF145), rfl, (sc rfl (sc rfl (sc rfl (sc rfl (sc rfl (sc rfl (sn _))))))), hz17⟩
     rintro e1 F165 _ ⟨a31, n35, c32, Lb33, hF166, rfl, he164, hz34⟩
     refine shW_env _ he164 ?_; clear he164
     refine shW_region ?_
     refine ov (v_add rfl rfl (Ctr.r64 hk22 c29 g20)) rfl ?_
     refine om rfl rfl (shO_nil ?_)
     exact le (kf (fC fO) kr) ⟨_, hk30, q_at3, q_turn3, out3, a31, n35, c32, Lb33, r38, (hF27.trans hF166), rfl, (sc rfl (sc rfl (sc rfl (sc rfl (sc rfl (sc rfl (sn _))))))), hz34⟩
   obtain rfl := Ctr.zero hk22 c29
   rw [oyezlaw07_tried_l1] at r24
   refine shW_exit (andThen_exit (andThen_exit ?_))
   refine inBlock_exit ?_
   obtain ⟨rfl, rfl, rfl⟩ := inj3 r24
   exact mi (kd kr) ⟨a14, n18, c15, Lb16, hF27, rfl, (sc rfl (sn _)), hz17⟩
 rintro e1 F168 _ ⟨a6, n10, c7, Lb8, hF169, rfl, he167, hz9⟩
 refine shW_env _ he167 ?_; clear he167
 refine wsr (om rfl rfl (oa rfl rfl (shO_nil (shW_ret ?_))))
 refine q_res1 Try.results21 (res_tmp rfl) (sr) ?_
 obtain ⟨rfl, rfl, rfl⟩ := inj3 r13
 exact ⟨_, _, _, _, rfl, rfl, hz9.any⟩
set_option maxHeartbeats 1000000 in
theorem book_course_1_w {w : Int} {F : FS} {r : Bool} (hr : book_course_1 w = some r) :
    SpecV Try.prog 98 #[.int .i64 w] F (.bool r) := by
 refine spec_of_shW (args := [.int .i64 w]) Try.func98 rfl Try.ntmps98 (Nat.le_of_ble_eq_true rfl) ?_
 intro K _ _; rw [book_course_1] at hr
 refine wsr (oa rfl rfl (nsr (om rfl rfl ?_)))
 obtain ⟨ok, h1, r2⟩ := b1_ok hr; clear hr
 refine o_callV rfl Try.call86 rfl rfl rfl (book_in_w h1) ?_
 refine oa rfl rfl (shO_nil (shW_ret ?_))
 refine q_res1 Try.results98 (res_tmp rfl) (sr) ?_
 obtain rfl := inj1 r2
 exact rfl
set_option maxHeartbeats 1000000 in
theorem book_course_w {houses : Int} {notices : Int} {hears_a : Option Addr} {hears_c : Nat} {hears : List (List (List Int))} {readings_a : Option Addr} {readings_c : Nat} {readings : List Int} {cries_a : Option Addr} {cries_c : Nat} {cries : List (Int × Int × Int)} {l_a : Option Addr} {l_c : Nat} {l : List Int} {F : FS} (h_hears : RowR 1 (slE 1 (slE 1 (iE .i64))) F hears_a hears_c hears) (h_readings : RowR 1 (iE .i64) F readings_a readings_c readings) (h_cries : RowR 3 (prE (iE .i64) (prE (iE .i64) (iE .i64))) F cries_a cries_c cries) (h_l : RowR 1 (iE .i64) F l_a l_c l) {r : Option (Int × Int × (List (List (List Int))) × (List Int) × (List (Int × Int × Int)))} {r2 : Int} (hr : book_course houses notices hears readings cries l = some (r, r2)) :
    SH.Spec Try.prog 69 #[.agg #[.int .i64 houses, .int .i64 notices, .slice hears_a hears.length hears_c, .slice readings_a readings.length readings_c, .slice cries_a cries.length cries_c], .slice l_a l.length l_c] F [] fun F' L' v => ∃ (rv : Value), v = .tuple #[rv, .int .i64 r2] ∧ L' = [] ∧ PtrR 114 (prE (iE .i64) (prE (iE .i64) (prE (slE 1 (slE 1 (slE 1 (iE .i64)))) (prE (slE 1 (iE .i64)) (slE 3 (prE (iE .i64) (prE (iE .i64) (iE .i64)))))))) F' rv r := by
 refine spec_of_shW (args := [.agg #[.int .i64 houses, .int .i64 notices, .slice hears_a hears.length hears_c, .slice readings_a readings.length readings_c, .slice cries_a cries.length cries_c], .slice l_a l.length l_c]) Try.func69 rfl Try.ntmps69 (Nat.le_of_ble_eq_true rfl) ?_
 intro K _ _; rw [book_course] at hr
 refine wsr ?_
 refine o_box rfl rfl ?_; intro b1 hb1
 refine oa rfl rfl (oa rfl rfl (nsr ?_))
 refine ov (v_loadA (cs := #[.int .i64 houses, .int .i64 notices, .slice hears_a hears.length hears_c, .slice readings_a readings.length readings_c, .slice cries_a cries.length cries_c]) Try.isAgg27 Try.sizeOf27 rfl (Has.own 0 rfl) (Nat.le_of_ble_eq_true rfl) rfl) rfl ?_
 obtain ⟨d, n, h2, r3⟩ := b2_ok hr; clear hr
 refine o_call0 rfl Try.call43 rfl rfl rfl (book_opened_w h_hears h_readings h_cries h2) ?_; rintro _ F4 _ hF5 hn6 ⟨v8, rfl, rfl, hp9⟩
 replace h_l := h_l.mono (iE_ok _) hF5
 refine shO_L (ln rfl) ?_
 refine om rfl rfl (ox rfl rfl rfl (ox rfl rfl rfl (oa rfl rfl (oa rfl rfl (shO_nil (shW_seq ?_))))))
 refine shW_block ?_
 refine wsr (om rfl rfl ?_)
 refine ov (v_neq rfl rfl) rfl ?_
 refine oa rfl rfl (shO_nil ?_)
 refine shW_condP rfl (fun c10 => ?_) (fun c10 => ?_)
 · have r11 := ite_t r3 c10; clear r3
   refine wsr (om rfl rfl (oa rfl rfl (oa rfl rfl (shO_nil ?_))))
   refine kW kn ?_
   refine shW_ret (inBlock_ret (andThen_ret ?_))
   refine q_res2 Try.results69 (res_tmp rfl) (res_tmp rfl) (sr) ?_
   obtain ⟨rfl, rfl⟩ := inj2 r11
   exact ⟨_, rfl, rfl, rfl⟩
 have r12 := ite_f r3 c10; clear r3
 refine wsr (om rfl rfl ?_)
 refine ov (v_lenS Try.underlying24 rfl) rfl ?_
 refine ov (v_fieldAddr fa_27_3 rfl) rfl ?_
 refine ov (v_load Try.isAgg24 rfl (Has.own 0 rfl) rfl) rfl ?_
 refine ov (v_lenS Try.underlying24 rfl) rfl ?_
 refine ov (v_neq rfl rfl) rfl ?_
 refine oa rfl rfl (shO_nil ?_)
 refine shW_condP rfl (fun c13 => ?_) (fun c13 => ?_)
 · have r14 := ite_t r12 c13; clear r12
   refine wsr (oa rfl rfl (oa rfl rfl (shO_nil ?_)))
   refine kW kn ?_
   refine shW_ret (inBlock_ret (andThen_ret ?_))
   refine q_res2 Try.results69 (res_tmp rfl) (res_tmp rfl) (sr) ?_
   obtain ⟨rfl, rfl⟩ := inj2 r14
   exact ⟨_, rfl, rfl, rfl⟩
 have r15 := ite_f r12 c13; clear r12
 refine wsr (om rfl rfl ?_)
 have hn16 : FnR Try.prog F4 98 #[] #[] (iE .i64) Value.bool (fun xx_ : Int => book_course_1 xx_) := ⟨Try.call98, fun F2 h2 vs xx_ r ha hr => by obtain rfl := ha; exact book_course_1_w hr⟩
 obtain ⟨ok, h17, r18⟩ := b1_ok r15; clear r15
 refine o_callV rfl Try.call63 rfl rfl rfl (book_every_int_w h_l hn16 h17) ?_
 refine ov (v_notB rfl) rfl ?_
 refine oa rfl rfl (shO_nil ?_)
 refine shW_cond rfl (fun c19 => ?_) (fun c19 => ?_)
 · have r20 := bt r18 c19; clear r18
   refine wsr (oa rfl rfl (oa rfl rfl (shO_nil ?_)))
   refine kW kn ?_
   refine shW_ret (inBlock_ret (andThen_ret ?_))
   refine q_res2 Try.results69 (res_tmp rfl) (res_tmp rfl) (sr) ?_
   obtain ⟨rfl, rfl⟩ := inj2 r20
   exact ⟨_, rfl, rfl, rfl⟩
 have r21 := bf r18 c19; clear r18
 refine shW_skip (inBlock_n (id := 0) (wsr (om rfl rfl (oa rfl rfl (oa rfl rfl (shO_nil ?_))))))
 refine kW kn ?_
 refine shW_ret ?_
 refine q_res2 Try.results69 (res_tmp rfl) (res_tmp rfl) (sr) ?_
 obtain ⟨rfl, rfl⟩ := inj2 r21
 exact ⟨_, rfl, rfl, hp9⟩
set_option maxHeartbeats 1000000 in
theorem book_Fits_w {houses : Int} {notices : Int} {hears_a : Option Addr} {hears_c : Nat} {hears : List (List (List Int))} {readings_a : Option Addr} {readings_c : Nat} {readings : List Int} {cries_a : Option Addr} {cries_c : Nat} {cries : List (Int × Int × Int)} {l_a : Option Addr} {l_c : Nat} {l : List Int} {F : FS} (h_hears : RowR 1 (slE 1 (slE 1 (iE .i64))) F hears_a hears_c hears) (h_readings : RowR 1 (iE .i64) F readings_a readings_c readings) (h_cries : RowR 3 (prE (iE .i64) (prE (iE .i64) (iE .i64))) F cries_a cries_c cries) (h_l : RowR 1 (iE .i64) F l_a l_c l) {r : Bool} {r2 : Int} (hr : book_Fits houses notices hears readings cries l = some (r, r2)) :
    SpecV Try.prog 32 #[.agg #[.int .i64 houses, .int .i64 notices, .slice hears_a hears.length hears_c, .slice readings_a readings.length readings_c, .slice cries_a cries.length cries_c], .slice l_a l.length l_c] F (.tuple #[.bool r, .int .i64 r2]) := by
 refine spec_of_shW (args := [.agg #[.int .i64 houses, .int .i64 notices, .slice hears_a hears.length hears_c, .slice readings_a readings.length readings_c, .slice cries_a cries.length cries_c], .slice l_a l.length l_c]) Try.func32 rfl Try.ntmps32 (Nat.le_of_ble_eq_true rfl) ?_
 intro K _ _; rw [book_Fits] at hr
 refine wsr ?_
 refine o_box rfl rfl ?_; intro b1 hb1
 refine oa rfl rfl (oa rfl rfl (nsr ?_))
 refine ov (v_loadA (cs := #[.int .i64 houses, .int .i64 notices, .slice hears_a hears.length hears_c, .slice readings_a readings.length readings_c, .slice cries_a cries.length cries_c]) Try.isAgg27 Try.sizeOf27 rfl (Has.own 0 rfl) (Nat.le_of_ble_eq_true rfl) rfl) rfl ?_
 refine om rfl rfl ?_
 obtain ⟨d, n, h2, r3⟩ := b2_ok hr; clear hr
 refine o_call0 rfl Try.call69 rfl rfl rfl (book_course_w h_hears h_readings h_cries h_l h2) ?_; rintro _ F4 _ hF5 hn6 ⟨v8, rfl, rfl, hp9⟩
 replace h_l := h_l.mono (iE_ok _) hF5
 refine shO_L (ln rfl) ?_
 refine om rfl rfl (ox rfl rfl rfl (ox rfl rfl rfl (oa rfl rfl (oa rfl rfl (shO_nil (shW_seq (wsr (om rfl rfl ?_))))))))
 refine ov (v_neq rfl rfl) rfl ?_
 refine shO_nil ?_
 refine shW_condP rfl (fun c10 => ?_) (fun c10 => ?_)
 · have r11 := ite_t r3 c10; clear r3
   refine wsr (om rfl rfl (oa rfl rfl (oa rfl rfl (shO_nil ?_))))
   refine kW kn ?_
   refine shW_ret (andThen_ret ?_)
   refine q_res2 Try.results32 (res_tmp rfl) (res_tmp rfl) (sr) ?_
   obtain ⟨rfl, rfl⟩ := inj2 r11
   exact rfl
 have r12 := ite_f r3 c10; clear r3
 refine shW_skip ?_
 refine shW_join (fun e1 F1 L1 => book_Fits_j1 = some (r, r2) ∧ F4 = F1 ∧ L1 = [] ∧ e1.sub []) ?_ ?_
 · refine wsr (om rfl rfl ?_)
   refine ov (v_lenS Try.underlying24 rfl) rfl ?_
   refine om rfl rfl (shO_nil ?_)
   refine shW_block ?_
   refine kW kn ?_
   refine shW_lp (fun fu2 e1 F1 L1 => ∃ (tl : List Int) (k : Int), tl.length = fu2 ∧ Lst l k tl ∧ ∃ (v13 : Value), book_Fits_l2 l d tl k = some (r, r2) ∧ F4 = F1 ∧ L1 = [] ∧ e1.sub [(1, .slice l_a l.length l_c), (6, v13), (19, .slice l_a l.length l_c), (20, .int .i64 (l.length : Int)), (21, .int .i64 k)] ∧ PtrR 114 (prE (iE .i64) (prE (iE .i64) (prE (slE 1 (slE 1 (slE 1 (iE .i64)))) (prE (slE 1 (iE .i64)) (slE 3 (prE (iE .i64) (prE (iE .i64) (iE .i64)))))))) F1 v13 d) _ (m0 kr ⟨_, _, rfl, Lst.start _, v8, r12, rfl, rfl, (sc rfl (sc rfl (sc rfl (sc rfl (sc rfl (sn _)))))), hp9⟩) ?_
   rintro fu2 e1 _ _ ⟨tl, k, hn16, hk15, v13, r17, rfl, rfl, he18, hp14⟩
   refine shW_env _ he18 ?_; clear he18
   refine wsr ?_
   refine ov (v_lssK rfl rfl) rfl ?_
   refine shO_nil (shW_seq ?_)
   refine shW_condP rfl (fun c20 => ?_) (fun c20 => ?_)
   · obtain ⟨x, tl2, rfl, hx22, g23, hk21⟩ := Lst.succ hk15 c20
     rw [book_Fits_l2] at r17
     refine shW_skip (shW_seq ?_)
     refine shW_block ?_
     refine wsr (om rfl rfl ?_)
     obtain ⟨b24, o25, c26, vs27, ha28, hs29, hle30, rfl, hl31, hc32⟩ := RowR.at (iE_ok _) h_l ([]) g23.1 hx22
     refine ov (v_indexO Try.underlying24 Try.sizeOf3 rfl ha28 rfl g23) rfl ?_
     refine ov (v_load Try.isAgg3 rfl hs29 (hc32 0 (by decide))) rfl ?_
     refine oa rfl rfl (oa rfl rfl (shO_nil ?_))
     obtain ⟨k2, h35, r36⟩ := b1_ok r17; clear r17
     refine shW_join (fun e1 F1 L1 => ∃ (v33 : Value), F4 = F1 ∧ L1 = [] ∧ e1.sub [(1, .slice l_a l.length l_c), (6, v33), (19, .slice l_a l.length l_c), (20, .int .i64 (l.length : Int)), (21, .int .i64 k), (47, .bool k2)] ∧ PtrR 114 (prE (iE .i64) (prE (iE .i64) (prE (slE 1 (slE 1 (slE 1 (iE .i64)))) (prE (slE 1 (iE .i64)) (slE 3 (prE (iE .i64) (prE (iE .i64) (iE .i64)))))))) F1 v33 d) ?_ ?_
     · clear r36
       refine shW_region (om rfl rfl ?_)
       obtain ⟨houses2, notices2, hears2, readings2, cries2, h37, r38⟩ := b5_ok h35; clear h35
       have h53 := hp14; rw [h37] at h53; obtain ⟨b39, c40, m41, hv42, hz43, ⟨_, _, rfl, rfl, ⟨_, _, rfl, rfl, ⟨_, _, rfl, ⟨a44, c45, rfl, h46⟩, ⟨_, _, rfl, ⟨a47, c48, rfl, h49⟩, ⟨a50, c51, rfl, h52⟩⟩⟩⟩⟩⟩ := h53; subst hv42
       have hz43 : F4 b39 = some (.cells #[.int .i64 houses2, .int .i64 notices2, .slice a44 hears2.length c45, .slice a47 readings2.length c48, .slice a50 cries2.length c51] 114 m41) := hz43
       refine ov (v_nilCheck rfl) rfl ?_
       refine ov (v_fieldAddr fa_114_0 rfl) rfl ?_
       refine ov (v_loadA (cs := #[.int .i64 houses2, .int .i64 notices2, .slice a44 hears2.length c45, .slice a47 readings2.length c48, .slice a50 cries2.length c51]) Try.isAgg27 Try.sizeOf27 rfl (Has.frozen hz43) (Nat.le_of_ble_eq_true rfl) rfl) rfl ?_
       refine om rfl rfl (om rfl rfl ?_)
       obtain ⟨ok, h54, r55⟩ := b1_ok r38; clear r38
       refine o_callV rfl Try.call70 rfl rfl rfl (book_Book_can_w h46 h49 h52 h54) ?_
       refine ov (v_notB rfl) rfl ?_
       refine om rfl rfl ?_
       rcases bool_two (!ok) with c56 | c56
       · have r57 := bt r55 c56; clear r55
         refine shO_off (b' := true) 34 rfl (EnvB rfl c56) rfl rfl (shO_off (b' := true) 34 rfl (EnvB rfl c56) rfl rfl (shO_off (b' := true) 34 rfl (EnvB rfl c56) rfl rfl (shO_offU 37 rfl rfl rfl (shO_offU 37 rfl rfl rfl (shO_offU 37 rfl rfl rfl (shO_offU 37 rfl rfl rfl (shO_offU 37 rfl rfl rfl (shO_offU 37 rfl rfl rfl (shO_offU 37 rfl rfl rfl ?_)))))))))
         refine shO_offU 37 rfl rfl rfl (shO_off (b' := true) 34 rfl (EnvB rfl c56) rfl rfl ?_)
         refine ov (v_pick_t (evB rfl c56) rfl) rfl ?_
         refine shO_nil ?_
         obtain rfl := inj1 r57
         exact mi kr ⟨.pointer (some ⟨b39, 0, none⟩), rfl, rfl, (sc rfl (sc rfl (sc rfl (sc rfl (sc rfl (sc rfl (sn _))))))), hp14⟩
       have r58 := bf r55 c56; clear r55
       refine shO_on (b := false) 34 rfl (EnvB rfl c56) (om rfl rfl (shO_on (b := false) 34 rfl (EnvB rfl c56) ?_))
       refine ov (v_gtrK rfl rfl) rfl ?_
       refine shO_on (b := false) 34 rfl (EnvB rfl c56) (om rfl rfl ?_)
       by_cases c59 : 0 < k
       · have r60 := ite_t r58 c59; clear r58
         refine shO_on (b := true) 37 rfl (Env.isT rfl c59) (om rfl rfl (shO_on (b := true) 37 rfl (Env.isT rfl c59) (om rfl rfl (shO_on (b := true) 37 rfl (Env.isT rfl c59) (om rfl rfl (shO_on (b := true) 37 rfl (Env.isT rfl c59) ?_))))))
         obtain ⟨g61, r62⟩ := gd_ok r60; clear r60
         refine ov (v_sub rfl rfl g61) rfl ?_
         refine shO_on (b := true) 37 rfl (Env.isT rfl c59) ?_
         obtain ⟨x2, g63, hx64, r65⟩ := ix_ok r62; clear r62
         obtain ⟨b66, o67, c68, vs69, ha70, hs71, hle72, rfl, hl73, hc74⟩ := RowR.at (iE_ok _) h_l ([]) g63.1 hx64
         refine ov (v_indexO Try.underlying24 Try.sizeOf3 rfl ha70 rfl g63) rfl ?_
         refine shO_on (b := true) 37 rfl (Env.isT rfl c59) ?_
         refine ov (v_load Try.isAgg3 rfl hs71 (hc74 0 (by decide))) rfl ?_
         refine shO_on (b := true) 37 rfl (Env.isT rfl c59) ?_
         obtain ⟨ok2, h75, r76⟩ := b1_ok r65; clear r65
         refine o_callV rfl Try.call49 rfl rfl rfl (book_near_w h75) ?_
         refine shO_on (b := true) 37 rfl (Env.isT rfl c59) ?_
         refine ov (v_notB rfl) rfl ?_
         refine shO_on (b := false) 34 rfl (EnvB rfl c56) ?_
         refine ov (v_pick_t (evD_true rfl c59) rfl) rfl ?_
         refine ov (v_pick_f (evB rfl c56) rfl) rfl ?_
         refine shO_nil ?_
         obtain rfl := inj1 r76
         exact mi kr ⟨.pointer (some ⟨b39, 0, none⟩), rfl, rfl, (sc rfl (sc rfl (sc rfl (sc rfl (sc rfl (sc rfl (sn _))))))), hp14⟩
       have r77 := ite_f r58 c59; clear r58
       refine shO_off (b' := false) 37 rfl (Env.isF rfl c59) rfl rfl (shO_off (b' := false) 37 rfl (Env.isF rfl c59) rfl rfl (shO_off (b' := false) 37 rfl (Env.isF rfl c59) rfl rfl (shO_off (b' := false) 37 rfl (Env.isF rfl c59) rfl rfl (shO_off (b' := false) 37 rfl (Env.isF rfl c59) rfl rfl (shO_off (b' := false) 37 rfl (Env.isF rfl c59) rfl rfl (shO_off (b' := false) 37 rfl (Env.isF rfl c59) rfl rfl (shO_off (b' := false) 37 rfl (Env.isF rfl c59) rfl rfl (shO_on (b := false) 34 rfl (EnvB rfl c56) ?_))))))))
       refine ov (v_pick_f (evD_false rfl c59) rfl) rfl ?_
       refine ov (v_pick_f (evB rfl c56) rfl) rfl ?_
       refine shO_nil ?_
       obtain rfl := inj1 r77
       exact mi kr ⟨.pointer (some ⟨b39, 0, none⟩), rfl, rfl, (sc rfl (sc rfl (sc rfl (sc rfl (sc rfl (sc rfl (sn _))))))), hp14⟩
     rintro e1 _ _ ⟨v33, rfl, rfl, he78, hp34⟩
     refine shW_env _ he78 ?_; clear he78
     refine shW_cond rfl (fun c79 => ?_) (fun c79 => ?_)
     · have r80 := bt r36 c79; clear r36
       refine wsr (oa rfl rfl (oa rfl rfl (shO_nil (shW_ret (inBlock_ret (andThen_ret (andThen_ret (inBlock_ret (andThen_ret ?_)))))))))
       refine q_res2 Try.results32 (res_tmp rfl) (res_tmp rfl) (sr) ?_
       obtain ⟨rfl, rfl⟩ := inj2 r80
       exact rfl
     have r81 := bf r36 c79; clear r36
     refine shW_skip (inBlock_n (id := 1) (shW_region ?_))
     refine ov (v_add rfl rfl (Lst.r64 hk15 c20 (RowR.lt h_l))) rfl ?_
     refine om rfl rfl (shO_nil ?_)
     subst hn16; exact le kr ⟨_, _, rfl, hk21, v33, r81, rfl, rfl, (sc rfl (sc rfl (sc rfl (sc rfl (sc rfl (sn _)))))), hp34⟩
   obtain rfl := Lst.zero hk15 c20
   rw [book_Fits_l2] at r17
   refine shW_exit (andThen_exit (andThen_exit ?_))
   refine inBlock_exit ?_
   exact mi kr ⟨r17, rfl, rfl, (sn _)⟩
 rintro e1 _ _ ⟨r82, rfl, rfl, he83⟩
 refine shW_env _ he83 ?_; clear he83
 rw [book_Fits_j1] at r82
 refine wsr (oa rfl rfl (oa rfl rfl (shO_nil (shW_ret ?_))))
 refine q_res2 Try.results32 (res_tmp rfl) (res_tmp rfl) (sr) ?_
 obtain ⟨rfl, rfl⟩ := inj2 r82
 exact rfl
set_option maxHeartbeats 1000000 in
theorem oyezlaw07_heard_1_w {hour : Int} {stand : Int} {notice : Int} {b_notice : Nat} {notice2 : Int} {mb_notice : Nat × Nat} {b_b : Nat} {houses : Int} {notices : Int} {hears_a : Option Addr} {hears_c : Nat} {hears : List (List (List Int))} {readings_a : Option Addr} {readings_c : Nat} {readings : List Int} {cries_a : Option Addr} {cries_c : Nat} {cries : List (Int × Int × Int)} {mb_b : Nat × Nat} {b_course : Nat} {course_a : Option Addr} {course_c : Nat} {course : List Int} {mb_course : Nat × Nat} {b_house : Nat} {house : Int} {mb_house : Nat × Nat} {F : FS} (hb_notice : F b_notice = some (.cells #[.int .i64 notice2] 3 mb_notice)) (hb_b : F b_b = some (.cells #[.int .i64 houses, .int .i64 notices, .slice hears_a hears.length hears_c, .slice readings_a readings.length readings_c, .slice cries_a cries.length cries_c] 27 mb_b)) (h_hears : RowR 1 (slE 1 (slE 1 (iE .i64))) F hears_a hears_c hears) (_h_readings : RowR 1 (iE .i64) F readings_a readings_c readings) (_h_cries : RowR 3 (prE (iE .i64) (prE (iE .i64) (iE .i64))) F cries_a cries_c cries) (hb_course : F b_course = some (.cells #[.slice course_a course.length course_c] 24 mb_course)) (h_course : RowR 1 (iE .i64) F course_a course_c course) (hb_house : F b_house = some (.cells #[.int .i64 house] 3 mb_house)) {r : Bool} (hr : oyezlaw07_heard_1 hour stand notice notice2 houses notices hears readings cries course house = some r) :
    SpecV Try.prog 74 #[.agg #[.int .i64 hour, .int .i64 stand, .int .i64 notice], .pointer (some ⟨b_notice, 0, none⟩), .pointer (some ⟨b_b, 0, none⟩), .pointer (some ⟨b_course, 0, none⟩), .pointer (some ⟨b_house, 0, none⟩)] F (.bool r) := by
 refine spec_of_shW (args := [.agg #[.int .i64 hour, .int .i64 stand, .int .i64 notice], .pointer (some ⟨b_notice, 0, none⟩), .pointer (some ⟨b_b, 0, none⟩), .pointer (some ⟨b_course, 0, none⟩), .pointer (some ⟨b_house, 0, none⟩)]) Try.func74 rfl Try.ntmps74 (Nat.le_of_ble_eq_true rfl) ?_
 intro K _ _; rw [oyezlaw07_heard_1] at hr
 refine wsr ?_
 refine o_box rfl rfl ?_; intro b1 hb1
 refine oa rfl rfl ?_
 refine nsd (by kernel_rfl) (by kernel_rfl) (by kernel_rfl) ?_
 refine qv (v_fieldAddr fa_34_2 rfl) rfl ?_
 refine qv (v_load Try.isAgg3 rfl (Has.own 0 rfl) rfl) rfl ?_
 refine qv (v_load Try.isAgg3 rfl (Has.frozen hb_notice) rfl) rfl ?_
 refine qv (v_eql rfl rfl) rfl ?_
 refine qm rfl rfl ?_
 by_cases c2 : notice = notice2
 · have r3 := ite_t hr c2; clear hr
   refine shQ_on (b := true) 11 rfl (Env.isT rfl c2) ?_
   refine qv (v_fieldAddr fa_27_2 rfl) rfl ?_
   refine shQ_on (b := true) 11 rfl (Env.isT rfl c2) ?_
   refine qv (v_load Try.isAgg23 rfl (Has.frozen hb_b) rfl) rfl ?_
   refine shQ_on (b := true) 11 rfl (Env.isT rfl c2) ?_
   refine qv (v_fieldAddr fa_34_1 rfl) rfl ?_
   refine shQ_on (b := true) 11 rfl (Env.isT rfl c2) ?_
   refine qv (v_load Try.isAgg3 rfl (Has.own 0 rfl) rfl) rfl ?_
   refine shQ_on (b := true) 11 rfl (Env.isT rfl c2) ?_
   obtain ⟨x, g4, hx5, r6⟩ := ix_ok r3; clear r3
   obtain ⟨b7, o8, c9, vs10, ha11, hs12, hle13, ⟨a16, c17, rfl, h18⟩, hl14, hc15⟩ := RowR.at (slE_ok (slE_ok (iE_ok _))) h_hears ([(b1, .cells #[.int .i64 hour, .int .i64 stand, .int .i64 notice] 34 (0, 0))]) g4.1 hx5
   refine qv (v_indexO Try.underlying23 Try.sizeOf42 rfl ha11 rfl g4) rfl ?_
   refine shQ_on (b := true) 11 rfl (Env.isT rfl c2) ?_
   refine qv (v_load Try.isAgg42 rfl hs12 (hc15 0 (by decide))) rfl ?_
   refine shQ_on (b := true) 11 rfl (Env.isT rfl c2) ?_
   refine qv (v_load Try.isAgg24 rfl (Has.frozen hb_course) rfl) rfl ?_
   refine shQ_on (b := true) 11 rfl (Env.isT rfl c2) ?_
   refine qv (v_fieldAddr fa_34_0 rfl) rfl ?_
   refine shQ_on (b := true) 11 rfl (Env.isT rfl c2) ?_
   refine qv (v_load Try.isAgg3 rfl (Has.own 0 rfl) rfl) rfl ?_
   refine shQ_on (b := true) 11 rfl (Env.isT rfl c2) ?_
   obtain ⟨x2, g19, hx20, r21⟩ := ix_ok r6; clear r6
   obtain ⟨b22, o23, c24, vs25, ha26, hs27, hle28, rfl, hl29, hc30⟩ := RowR.at (iE_ok _) h_course ([(b1, .cells #[.int .i64 hour, .int .i64 stand, .int .i64 notice] 34 (0, 0))]) g19.1 hx20
   refine qv (v_indexO Try.underlying24 Try.sizeOf3 rfl ha26 rfl g19) rfl ?_
   refine shQ_on (b := true) 11 rfl (Env.isT rfl c2) ?_
   refine qv (v_load Try.isAgg3 rfl hs27 (hc30 0 (by decide))) rfl ?_
   refine shQ_on (b := true) 11 rfl (Env.isT rfl c2) ?_
   obtain ⟨x3, g31, hx32, r33⟩ := ix_ok r21; clear r21
   obtain ⟨b34, o35, c36, vs37, ha38, hs39, hle40, ⟨a43, c44, rfl, h45⟩, hl41, hc42⟩ := RowR.at (slE_ok (iE_ok _)) h18 ([(b1, .cells #[.int .i64 hour, .int .i64 stand, .int .i64 notice] 34 (0, 0))]) g31.1 hx32
   refine qv (v_indexO Try.underlying42 Try.sizeOf24 rfl ha38 rfl g31) rfl ?_
   refine shQ_on (b := true) 11 rfl (Env.isT rfl c2) ?_
   refine qv (v_load Try.isAgg24 rfl hs39 (hc42 0 (by decide))) rfl ?_
   refine shQ_on (b := true) 11 rfl (Env.isT rfl c2) ?_
   refine qv (v_load Try.isAgg3 rfl (Has.frozen hb_house) rfl) rfl ?_
   refine shQ_on (b := true) 11 rfl (Env.isT rfl c2) ?_
   obtain ⟨ok, h46, r47⟩ := b1_ok r33; clear r33
   refine shQ_callV rfl Try.call20 rfl rfl rfl (slices_Contains_int_int_w h45 h46) ?_
   refine qv (v_pick_t (evD_true rfl c2) rfl) rfl ?_
   refine qa rfl rfl (shQ_nil ?_)
   refine kW kn ?_
   refine shW_ret ?_
   refine q_res1 Try.results74 (res_tmp rfl) (sr) ?_
   obtain rfl := inj1 r47
   exact rfl
 have r48 := ite_f hr c2; clear hr
 refine shQ_off (b' := false) 11 rfl (Env.isF rfl c2) rfl rfl (shQ_off (b' := false) 11 rfl (Env.isF rfl c2) rfl rfl (shQ_off (b' := false) 11 rfl (Env.isF rfl c2) rfl rfl (shQ_off (b' := false) 11 rfl (Env.isF rfl c2) rfl rfl (shQ_off (b' := false) 11 rfl (Env.isF rfl c2) rfl rfl (shQ_off (b' := false) 11 rfl (Env.isF rfl c2) rfl rfl (shQ_off (b' := false) 11 rfl (Env.isF rfl c2) rfl rfl (shQ_off (b' := false) 11 rfl (Env.isF rfl c2) rfl rfl (shQ_off (b' := false) 11 rfl (Env.isF rfl c2) rfl rfl (shQ_off (b' := false) 11 rfl (Env.isF rfl c2) rfl rfl ?_)))))))))
 refine shQ_off (b' := false) 11 rfl (Env.isF rfl c2) rfl rfl (shQ_off (b' := false) 11 rfl (Env.isF rfl c2) rfl rfl (shQ_off (b' := false) 11 rfl (Env.isF rfl c2) rfl rfl (shQ_off (b' := false) 11 rfl (Env.isF rfl c2) rfl rfl (shQ_off (b' := false) 11 rfl (Env.isF rfl c2) rfl rfl ?_))))
 refine qv (v_pick_f (evD_false rfl c2) rfl) rfl ?_
 refine qa rfl rfl (shQ_nil ?_)
 refine kW kn ?_
 refine shW_ret ?_
 refine q_res1 Try.results74 (res_tmp rfl) (sr) ?_
 obtain rfl := inj1 r48
 exact rfl
set_option maxHeartbeats 1000000 in
theorem oyezlaw07_heard_w {houses : Int} {notices : Int} {hears_a : Option Addr} {hears_c : Nat} {hears : List (List (List Int))} {readings_a : Option Addr} {readings_c : Nat} {readings : List Int} {cries_a : Option Addr} {cries_c : Nat} {cries : List (Int × Int × Int)} {course_a : Option Addr} {course_c : Nat} {course : List Int} {house : Int} {notice : Int} {F : FS} (h_hears : RowR 1 (slE 1 (slE 1 (iE .i64))) F hears_a hears_c hears) (h_readings : RowR 1 (iE .i64) F readings_a readings_c readings) (h_cries : RowR 3 (prE (iE .i64) (prE (iE .i64) (iE .i64))) F cries_a cries_c cries) (h_course : RowR 1 (iE .i64) F course_a course_c course) {r : Bool} (hr : oyezlaw07_heard houses notices hears readings cries course house notice = some r) :
    SpecV Try.prog 34 #[.agg #[.int .i64 houses, .int .i64 notices, .slice hears_a hears.length hears_c, .slice readings_a readings.length readings_c, .slice cries_a cries.length cries_c], .slice course_a course.length course_c, .int .i64 house, .int .i64 notice] F (.bool r) := by
 refine spec_of_shW (args := [.agg #[.int .i64 houses, .int .i64 notices, .slice hears_a hears.length hears_c, .slice readings_a readings.length readings_c, .slice cries_a cries.length cries_c], .slice course_a course.length course_c, .int .i64 house, .int .i64 notice]) Try.func34 rfl Try.ntmps34 (Nat.le_of_ble_eq_true rfl) ?_
 intro K _ _; rw [oyezlaw07_heard] at hr
 refine wsr ?_
 refine o_box rfl rfl ?_; intro b1 hb1
 refine o_box rfl rfl ?_; intro b2 hb2
 refine o_box rfl rfl ?_; intro b3 hb3
 refine o_box rfl rfl ?_; intro b4 hb4
 refine oa rfl rfl (nsr ?_)
 refine ov (v_fieldAddr fa_27_4 rfl) rfl ?_
 refine ov (v_load Try.isAgg25 rfl (Has.own 3 rfl) rfl) rfl ?_
 refine ov (v_makeFunc rfl rfl) rfl ?_
 refine shO_freeze 0 rfl hb4 ?_; intro F5 hF6 hz7
 refine shO_L (L' := [(b3, .cells #[.int .i64 house] 3 (0, 0)), (b2, .cells #[.slice course_a course.length course_c] 24 (0, 0)), (b1, .cells #[.int .i64 houses, .int .i64 notices, .slice hears_a hears.length hears_c, .slice readings_a readings.length readings_c, .slice cries_a cries.length cries_c] 27 (0, 0))]) rfl ?_
 replace h_hears := h_hears.mono (slE_ok (slE_ok (iE_ok _))) hF6
 replace h_readings := h_readings.mono (iE_ok _) hF6
 replace h_cries := h_cries.mono (prE_ok (iE_ok _) (prE_ok (iE_ok _) (iE_ok _))) hF6
 replace h_course := h_course.mono (iE_ok _) hF6
 refine shO_freeze 2 rfl hb1 ?_; intro F8 hF9 hz10
 refine shO_L (L' := [(b3, .cells #[.int .i64 house] 3 (0, 0)), (b2, .cells #[.slice course_a course.length course_c] 24 (0, 0))]) rfl ?_
 replace h_hears := h_hears.mono (slE_ok (slE_ok (iE_ok _))) hF9
 replace h_readings := h_readings.mono (iE_ok _) hF9
 replace h_cries := h_cries.mono (prE_ok (iE_ok _) (prE_ok (iE_ok _) (iE_ok _))) hF9
 replace h_course := h_course.mono (iE_ok _) hF9
 replace hz7 := hF9 _ _ hz7
 refine shO_freeze 1 rfl hb2 ?_; intro F11 hF12 hz13
 refine shO_L (L' := [(b3, .cells #[.int .i64 house] 3 (0, 0))]) rfl ?_
 replace h_hears := h_hears.mono (slE_ok (slE_ok (iE_ok _))) hF12
 replace h_readings := h_readings.mono (iE_ok _) hF12
 replace h_cries := h_cries.mono (prE_ok (iE_ok _) (prE_ok (iE_ok _) (iE_ok _))) hF12
 replace h_course := h_course.mono (iE_ok _) hF12
 replace hz7 := hF12 _ _ hz7
 replace hz10 := hF12 _ _ hz10
 refine shO_freeze 0 rfl hb3 ?_; intro F14 hF15 hz16
 refine shO_L (L' := []) rfl ?_
 replace h_hears := h_hears.mono (slE_ok (slE_ok (iE_ok _))) hF15
 replace h_readings := h_readings.mono (iE_ok _) hF15
 replace h_cries := h_cries.mono (prE_ok (iE_ok _) (prE_ok (iE_ok _) (iE_ok _))) hF15
 replace h_course := h_course.mono (iE_ok _) hF15
 replace hz7 := hF15 _ _ hz7
 replace hz10 := hF15 _ _ hz10
 replace hz13 := hF15 _ _ hz13
 have hn17 : FnR Try.prog F14 74 #[] #[.pointer (some ⟨b4, 0, none⟩), .pointer (some ⟨b1, 0, none⟩), .pointer (some ⟨b2, 0, none⟩), .pointer (some ⟨b3, 0, none⟩)] (agE (prE (iE .i64) (prE (iE .i64) (iE .i64)))) Value.bool (fun xx_ : (Int × Int × Int) => oyezlaw07_heard_1 xx_.1 xx_.2.1 xx_.2.2 notice houses notices hears readings cries course house) := ⟨Try.call74, fun F2 h2 vs xx_ r ha hr => by obtain ⟨_, rfl, ⟨_, _, rfl, rfl, ⟨_, _, rfl, rfl, rfl⟩⟩⟩ := ha; exact oyezlaw07_heard_1_w (h2 _ _ hz7) (h2 _ _ hz10) (h_hears.mono (slE_ok (slE_ok (iE_ok _))) h2) (h_readings.mono (iE_ok _) h2) (h_cries.mono (prE_ok (iE_ok _) (prE_ok (iE_ok _) (iE_ok _))) h2) (h2 _ _ hz13) (h_course.mono (iE_ok _) h2) (h2 _ _ hz16) hr⟩
 obtain ⟨ok, h18, r19⟩ := b1_ok hr; clear hr
 refine o_callV rfl Try.call73 rfl rfl rfl (slices_ContainsFunc_book_Cry_book_Cry_w h_cries hn17 h18) ?_
 refine oa rfl rfl (shO_nil (shW_ret ?_))
 refine q_res1 Try.results34 (res_tmp rfl) (sr) ?_
 obtain rfl := inj1 r19
 exact rfl
set_option maxHeartbeats 1000000 in
theorem book_desk_along_w {b_d : Nat} {houses : Int} {notices : Int} {hears_a : Option Addr} {hears_c : Nat} {hears : List (List (List Int))} {readings_a : Option Addr} {readings_c : Nat} {readings : List Int} {cries_a : Option Addr} {cries_c : Nat} {cries : List (Int × Int × Int)} {mb_d : Nat × Nat} {course_a : Option Addr} {course_c : Nat} {course : List Int} {F : FS} (hb_d : F b_d = some (.cells #[.int .i64 houses, .int .i64 notices, .slice hears_a hears.length hears_c, .slice readings_a readings.length readings_c, .slice cries_a cries.length cries_c] 114 mb_d)) (h_hears : RowR 1 (slE 1 (slE 1 (iE .i64))) F hears_a hears_c hears) (h_readings : RowR 1 (iE .i64) F readings_a readings_c readings) (h_cries : RowR 3 (prE (iE .i64) (prE (iE .i64) (iE .i64))) F cries_a cries_c cries) (h_course : RowR 1 (iE .i64) F course_a course_c course) {r : List Bool} (hr : book_desk_along houses notices hears readings cries course = some r) :
    SH.Spec Try.prog 76 #[.pointer (some ⟨b_d, 0, none⟩), .slice course_a course.length course_c] F [] fun _ L' v => v = .agg (arr cB r) ∧ L' = [] ∧ r.length = 24 := by
 refine spec_of_shW (args := [.pointer (some ⟨b_d, 0, none⟩), .slice course_a course.length course_c]) Try.func76 rfl Try.ntmps76 (Nat.le_of_ble_eq_true rfl) ?_
 intro K _ _; rw [book_desk_along] at hr
 refine wsr ?_
 refine o_alloc rfl Try.zeroValue93 ?_; intro b1 hb1
 refine shO_L (L' := [(b1, .cells (arr cB (List.replicate 24 false)) 93 (0, 0))]) rfl ?_
 refine nsr ?_
 refine o_alloc rfl Try.zeroValue93 ?_; intro b2 hb2
 refine shO_L (L' := [(b2, .cells (arr cB (List.replicate 24 false)) 93 (0, 0)), (b1, .cells (arr cB (List.replicate 24 false)) 93 (0, 0))]) rfl ?_
 refine shO_nil ?_
 obtain ⟨g, h4, r5⟩ := b1_ok hr; clear hr
 refine shW_join (fun e1 F1 L1 => FExt F F1 ∧ L1 = [(b2, .cells (arr cB g) 93 (0, 0)), (b1, .cells (arr cB (List.replicate 24 false)) 93 (0, 0))] ∧ e1.sub [(4, .pointer (some ⟨b1, 0, none⟩)), (5, .pointer (some ⟨b2, 0, none⟩))] ∧ g.length = 24) ?_ ?_
 · clear r5
   refine wsr (om rfl rfl ?_)
   refine ov (v_lenS Try.underlying24 rfl) rfl ?_
   refine om rfl rfl (shO_nil ?_)
   refine shW_block ?_
   refine shW_lp (fun fu1 e1 F1 L1 => ∃ (tl : List Int) (k : Int), tl.length = fu1 ∧ Lst course k tl ∧ ∃ (g2 : List Bool), book_desk_along_l1 houses notices hears readings cries tl k g2 = some g ∧ FExt F F1 ∧ L1 = [(b2, .cells (arr cB g2) 93 (0, 0)), (b1, .cells (arr cB (List.replicate 24 false)) 93 (0, 0))] ∧ e1.sub [(0, .pointer (some ⟨b_d, 0, none⟩)), (4, .pointer (some ⟨b1, 0, none⟩)), (5, .pointer (some ⟨b2, 0, none⟩)), (8, .slice course_a course.length course_c), (9, .int .i64 (course.length : Int)), (10, .int .i64 k)] ∧ g2.length = 24) _ (m0 kr ⟨_, _, rfl, Lst.start _, List.replicate 24 false, h4, FExt.refl _, rfl, (sc rfl (sc rfl (sc rfl (sc rfl (sc rfl (sc rfl (sn _))))))), List.length_replicate⟩) ?_
   rintro fu1 e1 F11 _ ⟨tl, k, hn8, hk7, g2, r9, hF12, rfl, he10, h6⟩
   refine shW_env _ he10 ?_; clear he10
   replace h_hears := h_hears.mono (slE_ok (slE_ok (iE_ok _))) hF12
   replace h_readings := h_readings.mono (iE_ok _) hF12
   replace h_cries := h_cries.mono (prE_ok (iE_ok _) (prE_ok (iE_ok _) (iE_ok _))) hF12
   replace h_course := h_course.mono (iE_ok _) hF12
   replace hb_d := hF12 _ _ hb_d
   refine wsr ?_
   refine ov (v_lssK rfl rfl) rfl ?_
   refine shO_nil (shW_seq ?_)
   refine shW_condP rfl (fun c14 => ?_) (fun c14 => ?_)
   · obtain ⟨x, tl2, rfl, hx16, g17, hk15⟩ := Lst.succ hk7 c14
     rw [book_desk_along_l1] at r9
     refine shW_skip (shW_seq ?_)
     refine shW_block ?_
     refine wsr (om rfl rfl ?_)
     obtain ⟨b18, o19, c20, vs21, ha22, hs23, hle24, rfl, hl25, hc26⟩ := RowR.at (iE_ok _) h_course ([(b2, .cells (arr cB g2) 93 (0, 0)), (b1, .cells (arr cB (List.replicate 24 false)) 93 (0, 0))]) g17.1 hx16
     refine ov (v_indexO Try.underlying24 Try.sizeOf3 rfl ha22 rfl g17) rfl ?_
     refine ov (v_load Try.isAgg3 rfl hs23 (hc26 0 (by decide))) rfl ?_
     refine oa rfl rfl (oa rfl rfl (shO_nil (shW_region (om rfl rfl ?_))))
     refine ov (v_loadW Try.isAgg93 Try.sizeOf93 rfl (Has.own 0 rfl) (arr_sz cB_ok h6)) rfl ?_
     refine om rfl rfl (om rfl rfl ?_)
     obtain ⟨a, h27, r28⟩ := b1_ok r9; clear r9
     refine o_call0 rfl Try.call94 rfl rfl rfl (book_desk_hear_w hb_d h_hears h_readings h_cries h6 h27) ?_; rintro _ F29 _ hF30 hn31 ⟨rfl, rfl, h33⟩
     replace h_course := h_course.mono (iE_ok _) hF30
     refine shO_L (ln rfl) ?_
     refine o_storeW (i := 0) Try.sizeOf93 rfl rfl rfl (arr_sz cB_ok h6) (arr_sz cB_ok h33) (arr_one cB_ok) ?_
     refine shO_L (L' := [(b2, .cells (arr cB a) 93 (0, 0)), (b1, .cells (arr cB (List.replicate 24 false)) 93 (0, 0))]) rfl ?_
     refine shO_nil (inBlock_n (id := 1) (shW_region ?_))
     refine ov (v_add rfl rfl (Lst.r64 hk7 c14 (RowR.lt h_course))) rfl ?_
     refine om rfl rfl (shO_nil ?_)
     subst hn8; exact le kr ⟨_, _, rfl, hk15, a, r28, (hF12.trans hF30), rfl, (sc rfl (sc rfl (sc rfl (sc rfl (sc rfl (sc rfl (sn _))))))), h33⟩
   obtain rfl := Lst.zero hk7 c14
   rw [book_desk_along_l1] at r9
   refine shW_exit (andThen_exit (andThen_exit ?_))
   refine inBlock_exit ?_
   obtain rfl := inj1 r9
   exact mi kr ⟨hF12, rfl, (sc rfl (sc rfl (sn _))), h6⟩
 rintro e1 F35 _ ⟨hF36, rfl, he34, h3⟩
 refine shW_env _ he34 ?_; clear he34
 refine wsr ?_
 refine ov (v_loadW Try.isAgg93 Try.sizeOf93 rfl (Has.own 0 rfl) (arr_sz cB_ok h3)) rfl ?_
 refine o_storeW (i := 1) Try.sizeOf93 rfl rfl rfl (arr_sz cB_ok List.length_replicate) (arr_sz cB_ok h3) (arr_one cB_ok) ?_
 refine shO_L (L' := [(b2, .cells (arr cB g) 93 (0, 0)), (b1, .cells (arr cB g) 93 (0, 0))]) rfl ?_
 refine shO_nil ?_
 refine kW (kd kr) ?_
 refine shW_ret ?_
 refine q_res1 Try.results76 (res_cellA (cs := arr cB g) Try.isAgg93 Try.sizeOf93 rfl (Has.own 0 rfl) (li_le (li_end (lfl cB_ok h3))) (li_ext (lfl cB_ok h3) (li_end (lfl cB_ok h3)))) (s1 sr) ?_
 obtain rfl := inj1 r5
 exact ⟨rfl, rfl, h3⟩
set_option maxHeartbeats 1000000 in
theorem book_Heard_w {houses : Int} {notices : Int} {hears_a : Option Addr} {hears_c : Nat} {hears : List (List (List Int))} {readings_a : Option Addr} {readings_c : Nat} {readings : List Int} {cries_a : Option Addr} {cries_c : Nat} {cries : List (Int × Int × Int)} {l_a : Option Addr} {l_c : Nat} {l : List Int} {F : FS} (h_hears : RowR 1 (slE 1 (slE 1 (iE .i64))) F hears_a hears_c hears) (h_readings : RowR 1 (iE .i64) F readings_a readings_c readings) (h_cries : RowR 3 (prE (iE .i64) (prE (iE .i64) (iE .i64))) F cries_a cries_c cries) (h_l : RowR 1 (iE .i64) F l_a l_c l) {r : List (List Int)} {r2 : Int} (hr : book_Heard houses notices hears readings cries l = some (r, r2)) :
    SH.Spec Try.prog 37 #[.agg #[.int .i64 houses, .int .i64 notices, .slice hears_a hears.length hears_c, .slice readings_a readings.length readings_c, .slice cries_a cries.length cries_c], .slice l_a l.length l_c] F [] fun F' L' v => ∃ (ra : Option Addr) (rc : Nat), v = .tuple #[.slice ra r.length rc, .int .i64 r2] ∧ L' = [] ∧ RowR 1 (slE 1 (iE .i64)) F' ra rc r := by
 refine spec_of_shW (args := [.agg #[.int .i64 houses, .int .i64 notices, .slice hears_a hears.length hears_c, .slice readings_a readings.length readings_c, .slice cries_a cries.length cries_c], .slice l_a l.length l_c]) Try.func37 rfl Try.ntmps37 (Nat.le_of_ble_eq_true rfl) ?_
 intro K _ _; rw [book_Heard] at hr
 refine wsr ?_
 refine o_box rfl rfl ?_; intro b1 hb1
 refine oa rfl rfl (oa rfl rfl (nsr ?_))
 refine ov (v_loadA (cs := #[.int .i64 houses, .int .i64 notices, .slice hears_a hears.length hears_c, .slice readings_a readings.length readings_c, .slice cries_a cries.length cries_c]) Try.isAgg27 Try.sizeOf27 rfl (Has.own 0 rfl) (Nat.le_of_ble_eq_true rfl) rfl) rfl ?_
 refine om rfl rfl ?_
 obtain ⟨d, n, h2, r3⟩ := b2_ok hr; clear hr
 refine o_call0 rfl Try.call69 rfl rfl rfl (book_course_w h_hears h_readings h_cries h_l h2) ?_; rintro _ F4 _ hF5 hn6 ⟨v8, rfl, rfl, hp9⟩
 replace h_l := h_l.mono (iE_ok _) hF5
 refine shO_L (ln rfl) ?_
 refine om rfl rfl (ox rfl rfl rfl (ox rfl rfl rfl (oa rfl rfl (oa rfl rfl (shO_nil (shW_seq (wsr (om rfl rfl ?_))))))))
 refine ov (v_neq rfl rfl) rfl ?_
 refine shO_nil ?_
 refine shW_condP rfl (fun c10 => ?_) (fun c10 => ?_)
 · have r11 := ite_t r3 c10; clear r3
   refine wsr (om rfl rfl (oa rfl rfl (oa rfl rfl (shO_nil ?_))))
   refine kW kn ?_
   refine shW_ret (andThen_ret ?_)
   refine q_res2 Try.results37 (res_tmp rfl) (res_tmp rfl) (sr) ?_
   obtain ⟨rfl, rfl⟩ := inj2 r11
   exact ⟨_, _, rfl, rfl, RowR.nil _ _ _⟩
 have r12 := ite_f r3 c10; clear r3
 refine shW_skip (wsr (om rfl rfl (om rfl rfl ?_)))
 obtain ⟨houses2, notices2, hears2, readings2, cries2, h13, r14⟩ := b5_ok r12; clear r12
 have h29 := hp9; rw [h13] at h29; obtain ⟨b15, c16, m17, hv18, hz19, ⟨_, _, rfl, rfl, ⟨_, _, rfl, rfl, ⟨_, _, rfl, ⟨a20, c21, rfl, h22⟩, ⟨_, _, rfl, ⟨a23, c24, rfl, h25⟩, ⟨a26, c27, rfl, h28⟩⟩⟩⟩⟩⟩ := h29; subst hv18
 have hz19 : F4 b15 = some (.cells #[.int .i64 houses2, .int .i64 notices2, .slice a20 hears2.length c21, .slice a23 readings2.length c24, .slice a26 cries2.length c27] 114 m17) := hz19
 obtain ⟨a, h30, r31⟩ := b1_ok r14; clear r14
 refine o_call0 rfl Try.call76 rfl rfl rfl (book_desk_along_w hz19 h22 h25 h28 h_l h30) ?_; rintro _ F32 _ hF33 hn34 ⟨rfl, rfl, h36⟩
 refine shO_L (ln rfl) ?_
 refine o_alloc rfl Try.zeroValue93 ?_; intro b37 hb37
 refine shO_L (L' := [(b37, .cells (arr cB (List.replicate 24 false)) 93 (0, 0)), (b1, .cells #[.int .i64 houses, .int .i64 notices, .slice hears_a hears.length hears_c, .slice readings_a readings.length readings_c, .slice cries_a cries.length cries_c] 27 (0, 0))]) rfl ?_
 refine o_storeW (i := 0) Try.sizeOf93 rfl rfl rfl (arr_sz cB_ok List.length_replicate) (arr_sz cB_ok h36) (arr_one cB_ok) ?_
 refine shO_L (L' := [(b37, .cells (arr cB a) 93 (0, 0)), (b1, .cells #[.int .i64 houses, .int .i64 notices, .slice hears_a hears.length hears_c, .slice readings_a readings.length readings_c, .slice cries_a cries.length cries_c] 27 (0, 0))]) rfl ?_
 refine nsr ?_
 refine ov (v_fieldAddr fa_27_0 rfl) rfl ?_
 refine ov (v_load Try.isAgg3 rfl (Has.own 1 rfl) rfl) rfl ?_
 obtain ⟨g38, r39⟩ := gd_ok r31; clear r31
 obtain ⟨l2, h40, r41⟩ := bv_ok r39; clear r39
 refine o_makeZ (R := hdE) (z0 := (none, 0, 0)) (zs := List.replicate (houses : Int).toNat (none, 0, 0)) rfl slt_42 (by decide) hdE_ok (fun _ => rfl) rfl g38 rfl (fun _ => .c (.c .n)) ?_; intro a42 n45 Lb43 hO46
 have hz44 : NlR K.w0.heap.size 24 3 1 (iE .i64) F32 a42 n45 n45 l2 Lb43 := NlR.made hO46 h40
 refine oa rfl rfl (shO_nil ?_)
 obtain ⟨out, h50, r51⟩ := b1_ok r41; clear r41
 refine shW_join (fun e1 F1 L1 => ∃ (Lb48 : LH), F32 = F1 ∧ L1 = (Lb48 ++ []) ∧ e1.sub [(9, .slice a42 n45 n45)] ∧ NlR K.w0.heap.size 24 3 1 (iE .i64) F1 a42 n45 n45 out Lb48) ?_ ?_
 · clear r51
   refine wsr (om rfl rfl ?_)
   refine ov ((v_lenS Try.underlying42 rfl).i (NlR.lenI hz44)) rfl ?_
   refine om rfl rfl (shO_nil ?_)
   refine shW_block ?_
   obtain ⟨g54, r55⟩ := gd_ok h50; clear h50
   refine shW_lp (fun fu1 e1 F1 L1 => ∃ (k : Int), Ctr 0 (l2.length : Int) k fu1 ∧ ∃ (out2 : List (List Int)) (Lb52 : LH), book_Heard_l1 notices a fu1 k out2 = some out ∧ F32 = F1 ∧ L1 = ((b37, .cells (arr cB a) 93 (0, 0)) :: ((b1, .cells #[.int .i64 houses, .int .i64 notices, .slice hears_a hears.length hears_c, .slice readings_a readings.length readings_c, .slice cries_a cries.length cries_c] 27 (0, 0)) :: (Lb52 ++ []))) ∧ e1.sub [(2, .pointer (some ⟨b1, 0, none⟩)), (8, .pointer (some ⟨b37, 0, none⟩)), (9, .slice a42 n45 n45), (28, .int .i64 (l2.length : Int)), (29, .int .i64 k)] ∧ NlR K.w0.heap.size 24 3 1 (iE .i64) F1 a42 n45 n45 out2 Lb52) _ (m0 kr ⟨_, Ctr.start _ _, l2, Lb43, r55, rfl, rfl, (sc rfl (sc rfl (sc rfl (sc rfl (sc rfl (sn _)))))), hz44⟩) ?_
   rintro fu1 e1 _ _ ⟨k, hk56, out2, Lb52, r58, rfl, rfl, he59, hz53⟩
   refine shW_env _ he59 ?_; clear he59
   refine wsr ?_
   refine ov (v_lssK rfl rfl) rfl ?_
   refine shO_nil (shW_seq ?_)
   refine shW_condP rfl (fun c61 => ?_) (fun c61 => ?_)
   · obtain ⟨fu1, rfl, hk62⟩ := Ctr.succ hk56 c61
     rw [book_Heard_l1] at r58
     refine shW_skip ?_
     obtain ⟨out3, h65, r66⟩ := b1_ok r58; clear r58
     refine shW_join (fun e1 F1 L1 => ∃ (Lb63 : LH), F32 = F1 ∧ L1 = ((b37, .cells (arr cB a) 93 (0, 0)) :: ((b1, .cells #[.int .i64 houses, .int .i64 notices, .slice hears_a hears.length hears_c, .slice readings_a readings.length readings_c, .slice cries_a cries.length cries_c] 27 (0, 0)) :: (Lb63 ++ []))) ∧ e1.sub [(2, .pointer (some ⟨b1, 0, none⟩)), (8, .pointer (some ⟨b37, 0, none⟩)), (9, .slice a42 n45 n45), (28, .int .i64 (l2.length : Int)), (29, .int .i64 k)] ∧ NlR K.w0.heap.size 24 3 1 (iE .i64) F1 a42 n45 n45 out3 Lb63) ?_ ?_
     · clear r66
       refine shW_block ?_
       refine wsr (om rfl rfl (oa rfl rfl (nsr ?_)))
       refine ov (v_fieldAddr fa_27_1 rfl) rfl ?_
       refine ov (v_load Try.isAgg3 rfl (Has.own 1 rfl) rfl) rfl ?_
       refine om rfl rfl (shO_nil ?_)
       refine shW_block ?_
       obtain ⟨g69, r70⟩ := gd_ok h65; clear h65
       refine shW_lp (fun fu2 e1 F1 L1 => ∃ (k2 : Int), Ctr 0 notices k2 fu2 ∧ ∃ (out4 : List (List Int)) (Lb67 : LH), book_Heard_l2 a k fu2 k2 out4 = some out3 ∧ F32 = F1 ∧ L1 = ((b37, .cells (arr cB a) 93 (0, 0)) :: ((b1, .cells #[.int .i64 houses, .int .i64 notices, .slice hears_a hears.length hears_c, .slice readings_a readings.length readings_c, .slice cries_a cries.length cries_c] 27 (0, 0)) :: (Lb67 ++ []))) ∧ e1.sub [(2, .pointer (some ⟨b1, 0, none⟩)), (8, .pointer (some ⟨b37, 0, none⟩)), (9, .slice a42 n45 n45), (10, .int .i64 k), (28, .int .i64 (l2.length : Int)), (29, .int .i64 k), (33, .int .i64 notices), (34, .int .i64 k2)] ∧ NlR K.w0.heap.size 24 3 1 (iE .i64) F1 a42 n45 n45 out4 Lb67) _ (m0 kr ⟨_, Ctr.start _ _, out2, Lb52, r70, rfl, rfl, (sc rfl (sc rfl (sc rfl (sc rfl (sc rfl (sc rfl (sc rfl (sc rfl (sn _))))))))), hz53⟩) ?_
       rintro fu2 e1 _ _ ⟨k2, hk71, out4, Lb67, r73, rfl, rfl, he74, hz68⟩
       refine shW_env _ he74 ?_; clear he74
       refine wsr ?_
       refine ov (v_lssK rfl rfl) rfl ?_
       refine shO_nil (shW_seq ?_)
       refine shW_condP rfl (fun c76 => ?_) (fun c76 => ?_)
       · obtain ⟨fu2, rfl, hk77⟩ := Ctr.succ hk71 c76
         rw [book_Heard_l2] at r73
         refine shW_skip (shW_seq ?_)
         refine shW_block ?_
         refine wsr (om rfl rfl (oa rfl rfl (nsr (om rfl rfl (om rfl rfl ?_)))))
         obtain ⟨g78, r79⟩ := gd_ok r73; clear r73
         refine ov (v_indexA Try.underlying93 Try.sizeOf91 rfl rfl g78) rfl ?_
         obtain ⟨g80, r81⟩ := gd_ok r79; clear r79
         obtain ⟨x, g82, hx83, r84⟩ := ix_ok r81; clear r81
         have hq86 : (k * 4 + k2 : Int).toNat = (k : Int).toNat * 4 + (k2 : Int).toNat := by have := g78; have := g80; omega
         have hc85 := el_at2 cB_ok h36 hq86 hx83 (li_arr (li_end (lfl cB_ok h36))) (li_le (li_end (lfl cB_ok h36)))
         refine ov (v_indexA Try.underlying91 Try.sizeOf4 rfl rfl g80) rfl ?_
         refine ov (v_load Try.isAgg4 rfl (Has.own 0 rfl) ((hc85).2.2 0 (by decide))) rfl ?_
         refine shO_nil ?_
         refine shW_cond rfl (fun c87 => ?_) (fun c87 => ?_)
         · have r88 := bt r84 c87; clear r84
           refine shW_region (om rfl rfl (om rfl rfl (om rfl rfl (om rfl rfl ?_))))
           obtain ⟨x2, g89, hx90, r91⟩ := ix_ok r88; clear r88
           have hn103 := (NlR.caps hz68).1
           refine shO_open (fC (fC fP)) hz68 hx90 ?_; intro hs92 Lo93 Lc94 a95 n96 c97 Lb98 hh99 hO100 hz101 hI102
           refine kO (kf (fS (fS (fS fO))) (kf (fS (fS (fS fO))) kr)) ?_
           obtain ⟨b105, o106, c107, vs108, ha109, hs110, hle111, rfl, hl112, hc113⟩ := SlR.at hdE_ok hO100 (L := (b37, .cells (arr cB a) 93 (0, 0)) :: ((b1, .cells #[.int .i64 houses, .int .i64 notices, .slice hears_a hears.length hears_c, .slice readings_a readings.length readings_c, .slice cries_a cries.length cries_c] 27 (0, 0)) :: (Lo93 ++ (Lb98 ++ (Lc94 ++ []))))) (fC (fC fP)) g89.1 hh99
           refine ov (v_indexO Try.underlying42 Try.sizeOf24 rfl ha109 rfl (idxN hn103 g89)) rfl ?_
           refine ov (v_load Try.isAgg24 rfl hs110 (hc113 0 (by decide))) rfl ?_
           refine om rfl rfl ?_
           refine o_buildSlice (cs := #[.int .i64 k2]) rfl rfl (buildSlice_all slt_24 [.int .i64 k2] rfl (by decide) (by simp [Value.cells]) (by decide)) ?_; intro b114 hb114
           obtain ⟨l3, h115, g116, r117⟩ := ap_ok r91; clear r91
           refine o_appZ (xs := x2) (ys := [k2]) (zs := l3) rfl slt_24 rfl rfl (Nat.le_refl _) (fun _ => .c (.c (.c (.s .h)))) hz101 (SrcR.box (vss := [[.int .i64 k2]]) (ys := [k2]) 0 rfl (iE_ok _) (.cons rfl .nil) rfl rfl) h115 g116 (by decide) ?_; intro a118 n122 c119 Lb120 hz121
           refine kO (kd kr) ?_
           obtain ⟨b124, o125, c126, vs127, ha128, hs129, hle130, rfl, hl131, hc132⟩ := SlR.at hdE_ok hO100 (L := (b37, .cells (arr cB a) 93 (0, 0)) :: ((b1, .cells #[.int .i64 houses, .int .i64 notices, .slice hears_a hears.length hears_c, .slice readings_a readings.length readings_c, .slice cries_a cries.length cries_c] 27 (0, 0)) :: (Lo93 ++ (Lb120 ++ (Lc94 ++ []))))) (fC (fC fP)) g89.1 hh99
           refine ov (v_indexO Try.underlying42 Try.sizeOf24 rfl ha128 rfl (idxN hn103 g89)) rfl ?_
           refine o_storeZ (zs := hs92.set (k : Int).toNat (a118, n122, c119)) (u := (a118, n122, c119)) Try.sizeOf24 hdE_ok rfl ha128 rfl rfl (fun _ => .c (.c .h)) hO100 rfl (idxH hn103 hO100 g89) ?_; intro Lo133 hO134
           obtain ⟨out5, h135, r136⟩ := bv_ok r117; clear r117
           refine shO_fold (p := fun X => NlR K.w0.heap.size 24 3 1 (iE .i64) F32 a42 n45 n45 out5 X) (InH.back hI102 hO134 hz121 h135) (pT ((fC (fC fP)).trans (pA ((fC (fC fP)).trans (pA ((fC (fC fP)).trans (pA pR)))))) (lp (lp (lp (ln rfl))))) ?_; intro Lb137 hz138
           refine kO (kf (fS fO) (kf (fS fO) kr)) ?_
           refine shO_nil (inBlock_n (id := 3) (shW_region ?_))
           refine ov (v_add rfl rfl (Ctr.r64 hk71 c76 g69)) rfl ?_
           refine om rfl rfl (shO_nil ?_)
           exact le kr ⟨_, hk77, out5, Lb137, r136, rfl, rfl, (sc rfl (sc rfl (sc rfl (sc rfl (sc rfl (sc rfl (sc rfl (sc rfl (sn _))))))))), hz138⟩
         have r139 := bf r84 c87; clear r84
         refine shW_skip (inBlock_n (id := 3) (shW_region ?_))
         refine ov (v_add rfl rfl (Ctr.r64 hk71 c76 g69)) rfl ?_
         refine om rfl rfl (shO_nil ?_)
         exact le kr ⟨_, hk77, out4, Lb67, r139, rfl, rfl, (sc rfl (sc rfl (sc rfl (sc rfl (sc rfl (sc rfl (sc rfl (sc rfl (sn _))))))))), hz68⟩
       obtain rfl := Ctr.zero hk71 c76
       rw [book_Heard_l2] at r73
       refine shW_exit (andThen_exit (andThen_exit ?_))
       refine inBlock_exit ?_
       refine inBlock_n (id := 1) ?_
       obtain rfl := inj1 r73
       exact mi kr ⟨Lb67, rfl, rfl, (sc rfl (sc rfl (sc rfl (sc rfl (sc rfl (sn _)))))), hz68⟩
     rintro e1 _ _ ⟨Lb63, rfl, rfl, he140, hz64⟩
     refine shW_env _ he140 ?_; clear he140
     refine shW_region ?_
     refine ov (v_add rfl rfl (Ctr.r64 hk56 c61 g54)) rfl ?_
     refine om rfl rfl (shO_nil ?_)
     exact le kr ⟨_, hk62, out3, Lb63, r66, rfl, rfl, (sc rfl (sc rfl (sc rfl (sc rfl (sc rfl (sn _)))))), hz64⟩
   obtain rfl := Ctr.zero hk56 c61
   rw [book_Heard_l1] at r58
   refine shW_exit (andThen_exit (andThen_exit ?_))
   refine inBlock_exit ?_
   obtain rfl := inj1 r58
   exact mi (kd (kd kr)) ⟨Lb52, rfl, rfl, (sc rfl (sn _)), hz53⟩
 rintro e1 _ _ ⟨Lb48, rfl, rfl, he141, hz49⟩
 refine shW_env _ he141 ?_; clear he141
 refine wsr (om rfl rfl (oa rfl rfl (oa rfl rfl (shO_nil ?_))))
 obtain rfl := (NlR.caps hz49).1
 refine shW_freezeN (Nat.le_refl _) (iE_ok _) fP hz49 ?_; intro F142 hF143 h144
 refine shW_ret ?_
 refine q_res2 Try.results37 (res_tmp rfl) (res_tmp rfl) (sr) ?_
 obtain ⟨rfl, rfl⟩ := inj2 r51
 exact ⟨_, _, rfl, rfl, h144⟩
set_option maxHeartbeats 1000000 in
theorem oyezlaw07_BookTold_w {numbers_a : Option Addr} {numbers_c : Nat} {numbers : List Int} {tries_a : Option Addr} {tries_c : Nat} {tries : List Int} {F : FS} (h_numbers : RowR 1 (iE .u8) F numbers_a numbers_c numbers) (h_tries : RowR 1 (iE .u8) F tries_a tries_c tries) {r : Bool} (hr : oyezlaw07_BookTold numbers tries = some r) :
    SpecV Try.prog 8 #[.slice numbers_a numbers.length numbers_c, .slice tries_a tries.length tries_c] F (.bool r) := by
 refine spec_of_shW (args := [.slice numbers_a numbers.length numbers_c, .slice tries_a tries.length tries_c]) Try.func8 rfl Try.ntmps8 (Nat.le_of_ble_eq_true rfl) ?_
 intro K _ _; rw [oyezlaw07_BookTold] at hr
 refine wsr (oa rfl rfl (nsr (om rfl rfl ?_)))
 obtain ⟨metal, at_, turn, h1, r2⟩ := b3_ok hr; clear hr
 refine o_call0 rfl Try.call10 rfl rfl rfl (oyezkit_Hang_w h_numbers h1) ?_; rintro _ F3 _ hF4 hn5 ⟨b7, a8, c9, rfl, rfl, h10⟩
 replace h_tries := h_tries.mono (iE_ok _) hF4
 refine shO_L (lb (ln rfl)) ?_
 obtain ⟨n, n2, l, l2, l3, l4, at_2, turn2, h11, r12⟩ := b8_ok r2; clear r2
 refine o_callG (Lb := [(b7, .cells #[.slice a8 metal.length c9, .int .i64 at_, .int .u32 turn] 83 (0, 0))]) (Lr := []) rfl Try.call9 rfl rfl rfl (pR) (oyezlaw07_Made_w h10 h11) ?_; rintro _ F13 _ hF14 hd16 hn15 ⟨a17, n21, c18, Lb19, a23, n27, c24, Lb25, a29, n33, c30, Lb31, a35, n39, c36, Lb37, rfl, rfl, hz20, hz26, hz32, hz38⟩
 replace h_tries := h_tries.mono (iE_ok _) hF14
 have hn41 := newp (Lb' := [(b7, .cells #[.slice a8 metal.length c9, .int .i64 at_2, .int .u32 turn2] 83 (0, 0))]) (by rfl) hd16 hn15
 replace hz20 := hz20.new fun p hp => hn41 p (by simp [hp])
 replace hz26 := hz26.new fun p hp => hn41 p (by simp [hp])
 replace hz32 := hz32.new fun p hp => hn41 p (by simp [hp])
 replace hz38 := hz38.new fun p hp => hn41 p (by simp [hp])
 refine shO_L (lb (lp (lp (lp (lp (ln rfl)))))) ?_
 refine om rfl rfl (ox rfl rfl rfl (ox rfl rfl rfl ?_))
 refine o_alloc rfl Try.zeroValue27 ?_; intro b42 hb42
 refine o_storeA (i := 0) Try.sizeOf27 rfl rfl rfl (by simp [Value.oneCell']) rfl (Nat.le_of_ble_eq_true rfl) ?_
 refine shO_L (L' := (b42, .cells #[.int .i64 n, .int .i64 n2, .slice a17 n21 c18, .slice a23 n27 c24, .slice a29 n33 c30] 27 (0, 0)) :: ((b7, .cells #[.slice a8 metal.length c9, .int .i64 at_2, .int .u32 turn2] 83 (0, 0)) :: (Lb19 ++ (Lb25 ++ (Lb31 ++ (Lb37 ++ [])))))) rfl ?_
 refine oa rfl rfl (nsr ?_)
 refine ov (v_loadA (cs := #[.int .i64 n, .int .i64 n2, .slice a17 n21 c18, .slice a23 n27 c24, .slice a29 n33 c30]) Try.isAgg27 Try.sizeOf27 rfl (Has.own 0 rfl) (Nat.le_of_ble_eq_true rfl) rfl) rfl ?_
 obtain rfl := (SlR.caps hz20).1
 refine shO_freezeR (Nat.le_refl _) (slE_ok (slE_ok (iE_ok _))) (fC (fC fP)) hz20 ?_; intro F43 hF44 h45
 replace h_tries := h_tries.mono (iE_ok _) hF44
 replace hz26 := hz26.mono (iE_ok _) hF44
 replace hz32 := hz32.mono (prE_ok (iE_ok _) (prE_ok (iE_ok _) (iE_ok _))) hF44
 replace hz38 := hz38.mono (iE_ok _) hF44
 obtain rfl := (SlR.caps hz26).1
 refine shO_freezeR (Nat.le_refl _) (iE_ok _) (fC (fC fP)) hz26 ?_; intro F46 hF47 h48
 replace h_tries := h_tries.mono (iE_ok _) hF47
 replace h45 := h45.mono (slE_ok (slE_ok (iE_ok _))) hF47
 replace hz32 := hz32.mono (prE_ok (iE_ok _) (prE_ok (iE_ok _) (iE_ok _))) hF47
 replace hz38 := hz38.mono (iE_ok _) hF47
 obtain rfl := (SlR.caps hz32).1
 refine shO_freezeR (Nat.le_refl _) (prE_ok (iE_ok _) (prE_ok (iE_ok _) (iE_ok _))) (fC (fC fP)) hz32 ?_; intro F49 hF50 h51
 replace h_tries := h_tries.mono (iE_ok _) hF50
 replace h45 := h45.mono (slE_ok (slE_ok (iE_ok _))) hF50
 replace h48 := h48.mono (iE_ok _) hF50
 replace hz38 := hz38.mono (iE_ok _) hF50
 obtain ⟨l5, n3, h52, r53⟩ := b2_ok r12; clear r12
 refine o_call0 rfl Try.call13 rfl rfl rfl (book_Verdicts_w h45 h48 h51 h52) ?_; rintro _ F54 _ hF55 hn56 ⟨a58, c59, rfl, rfl, h60⟩
 replace h_tries := h_tries.mono (iE_ok _) hF55
 replace h45 := h45.mono (slE_ok (slE_ok (iE_ok _))) hF55
 replace h48 := h48.mono (iE_ok _) hF55
 replace h51 := h51.mono (prE_ok (iE_ok _) (prE_ok (iE_ok _) (iE_ok _))) hF55
 replace hz38 := hz38.mono (iE_ok _) hF55
 refine shO_L (ln rfl) ?_
 refine om rfl rfl (ox rfl rfl rfl (ox rfl rfl rfl (oa rfl rfl (oa rfl rfl (shO_nil (shW_seq ?_))))))
 obtain ⟨k, h61, r62⟩ := b1_ok r53; clear r53
 refine shW_join (fun e1 F1 L1 => F54 = F1 ∧ L1 = ((b42, .cells #[.int .i64 n, .int .i64 n2, .slice a17 l.length c18, .slice a23 l2.length c24, .slice a29 l3.length c30] 27 (0, 0)) :: (Lb37 ++ [])) ∧ e1.sub [(1, .slice tries_a tries.length tries_c), (5, .pointer (some ⟨b42, 0, none⟩)), (6, .slice a35 n39 c36), (7, .slice a58 l5.length c59), (53, .bool k)]) ?_ ?_
 · clear r62
   refine shW_region (om rfl rfl ?_)
   refine ov (v_neq rfl rfl) rfl ?_
   refine om rfl rfl ?_
   by_cases c63 : n3 ≠ 0
   · have r64 := ite_t h61 c63; clear h61
     refine shO_off (b' := true) 47 rfl (Env.isT rfl c63) rfl rfl (shO_off (b' := true) 47 rfl (Env.isT rfl c63) rfl rfl (shO_off (b' := true) 47 rfl (Env.isT rfl c63) rfl rfl (shO_off (b' := true) 47 rfl (Env.isT rfl c63) rfl rfl (shO_off (b' := true) 47 rfl (Env.isT rfl c63) rfl rfl ?_))))
     refine ov (v_pick_t (evD_true rfl c63) rfl) rfl ?_
     refine shO_nil ?_
     obtain rfl := inj1 r64
     exact mi (kc (kd kr)) ⟨rfl, rfl, (sc rfl (sc rfl (sc rfl (sc rfl (sc rfl (sn _))))))⟩
   have r65 := ite_f h61 c63; clear h61
   refine shO_on (b := false) 47 rfl (Env.isF rfl c63) (om rfl rfl (shO_on (b := false) 47 rfl (Env.isF rfl c63) ?_))
   refine ov (v_lenS Try.underlying36 rfl) rfl ?_
   refine shO_on (b := false) 47 rfl (Env.isF rfl c63) ?_
   refine ov (v_fieldAddr fa_27_0 rfl) rfl ?_
   refine shO_on (b := false) 47 rfl (Env.isF rfl c63) ?_
   refine ov (v_load Try.isAgg3 rfl (Has.own 0 rfl) rfl) rfl ?_
   refine shO_on (b := false) 47 rfl (Env.isF rfl c63) ?_
   refine ov (v_neq rfl rfl) rfl ?_
   refine ov (v_pick_f (evD_false rfl c63) rfl) rfl ?_
   refine shO_nil ?_
   obtain rfl := inj1 r65
   exact mi (kc (kd kr)) ⟨rfl, rfl, (sc rfl (sc rfl (sc rfl (sc rfl (sc rfl (sn _))))))⟩
 rintro e1 _ _ ⟨rfl, rfl, he66⟩
 refine shW_env _ he66 ?_; clear he66
 refine shW_cond rfl (fun c67 => ?_) (fun c67 => ?_)
 · have r68 := bt r62 c67; clear r62
   refine wsr (oa rfl rfl (shO_nil ?_))
   refine kW kn ?_
   refine shW_ret (andThen_ret ?_)
   refine q_res1 Try.results8 (res_tmp rfl) (sr) ?_
   obtain rfl := inj1 r68
   exact rfl
 have r69 := bf r62 c67; clear r62
 refine shW_skip (shW_seq ?_)
 refine shW_drawM [(.still, 0), (.still, 2), (.still, 3), (.seq, 1), (.seq, 4), (.still, 5)] (by kernel_rfl) (by kernel_rfl) (trivial) (by rfl) (by kernel_rfl) ?_
 refine shM_v (v := .slice tries_a tries.length tries_c) (ek := [(1, .slice tries_a tries.length tries_c)]) (Ls := []) rfl rfl rfl rfl ((sc rfl (sn _))) (by kernel_rfl) sm (fun H F' L' hF' hL' => v_move rfl) ?_
 refine shM_v (v := .agg #[.int .i64 n, .int .i64 n2, .slice a17 l.length c18, .slice a23 l2.length c24, .slice a29 l3.length c30]) (ek := [(5, .pointer (some ⟨b42, 0, none⟩))]) (Ls := [(b42, .cells #[.int .i64 n, .int .i64 n2, .slice a17 l.length c18, .slice a23 l2.length c24, .slice a29 l3.length c30] 27 (0, 0))]) rfl rfl rfl rfl ((sc rfl (sn _))) (by kernel_rfl) (s0 (s2 (s3 sr))) (fun H F' L' hF' hL' => v_loadA (cs := #[.int .i64 n, .int .i64 n2, .slice a17 l.length c18, .slice a23 l2.length c24, .slice a29 l3.length c30]) Try.isAgg27 Try.sizeOf27 rfl ((Has.own 0 rfl).ext hF' hL') (Nat.le_of_ble_eq_true rfl) rfl) ?_
 refine shM_v (v := .slice a35 n39 c36) (ek := [(6, .slice a35 n39 c36)]) (Ls := []) rfl rfl rfl rfl ((sc rfl (sn _))) (by kernel_rfl) sm (fun H F' L' hF' hL' => v_move rfl) ?_
 refine ⟨_, [(54, .slice tries_a tries.length tries_c)], rfl, rfl, (sc rfl (sn _)), by kernel_rfl, ?_⟩; intro H
 obtain ⟨metal2, at_3, turn3, h70, r71⟩ := b3_ok r69; clear r69
 refine o_call0 rfl Try.call10 rfl rfl rfl (oyezkit_Hang_w h_tries h70) ?_; rintro _ F72 _ hF73 hn74 ⟨b76, a77, c78, rfl, rfl, h79⟩
 replace h45 := h45.mono (slE_ok (slE_ok (iE_ok _))) hF73
 replace h48 := h48.mono (iE_ok _) hF73
 replace h51 := h51.mono (prE_ok (iE_ok _) (prE_ok (iE_ok _) (iE_ok _))) hF73
 replace h60 := h60.mono (slE_ok (iE_ok _)) hF73
 replace hz38 := hz38.mono (iE_ok _) hF73
 refine shO_L (lb (ln rfl)) ?_
 refine shO_nil ⟨_, rfl, hF73, [3, 2], by kernel_rfl, .inl (.inr (fun d h => by cases h; rfl)), (List.forall_mem_cons.2 ⟨sm, (List.forall_mem_cons.2 ⟨s0 (s1 (s2 (s3 sr))), (fun _ h => absurd h List.not_mem_nil)⟩)⟩), ?_⟩
 refine ⟨_, [(55, .pointer (some ⟨b76, 0, none⟩)), (56, .agg #[.int .i64 n, .int .i64 n2, .slice a17 l.length c18, .slice a23 l2.length c24, .slice a29 l3.length c30]), (57, .slice a35 n39 c36)], rfl, rfl, (sc rfl (sc rfl (sc rfl (sn _)))), by kernel_rfl, ?_⟩; intro H
 obtain rfl := (SlR.caps hz38).1
 refine shO_freezeR (Nat.le_refl _) (iE_ok _) (fC (fC fP)) hz38 ?_; intro F80 hF81 h82
 replace h45 := h45.mono (slE_ok (slE_ok (iE_ok _))) hF81
 replace h48 := h48.mono (iE_ok _) hF81
 replace h51 := h51.mono (prE_ok (iE_ok _) (prE_ok (iE_ok _) (iE_ok _))) hF81
 replace h60 := h60.mono (slE_ok (iE_ok _)) hF81
 replace h79 := h79.mono (iE_ok _) hF81
 obtain ⟨l6, at_4, turn4, h83, r84⟩ := b3_ok r71; clear r71
 refine o_callG (Lb := [(b76, .cells #[.slice a77 metal2.length c78, .int .i64 at_3, .int .u32 turn3] 83 (0, 0))]) (Lr := [(b42, .cells #[.int .i64 n, .int .i64 n2, .slice a17 l.length c18, .slice a23 l2.length c24, .slice a29 l3.length c30] 27 (0, 0))]) rfl Try.call21 rfl rfl rfl (pR) (oyezlaw07_tried_w h79 h45 h48 h51 h82 h83) ?_; rintro _ F85 _ hF86 hd88 hn87 ⟨a89, n93, c90, Lb91, rfl, rfl, hz92⟩
 replace h45 := h45.mono (slE_ok (slE_ok (iE_ok _))) hF86
 replace h48 := h48.mono (iE_ok _) hF86
 replace h51 := h51.mono (prE_ok (iE_ok _) (prE_ok (iE_ok _) (iE_ok _))) hF86
 replace h60 := h60.mono (slE_ok (iE_ok _)) hF86
 have hn95 := newp (Lb' := [(b76, .cells #[.slice a77 metal2.length c78, .int .i64 at_4, .int .u32 turn4] 83 (0, 0))]) (by rfl) hd88 hn87
 replace hz92 := hz92.new fun p hp => hn95 p (by simp [hp])
 refine shO_L (lb (lp (ln rfl))) ?_
 refine kO (kc (kf (fS fO) kr)) ?_
 refine shO_nil ⟨_, rfl, (hF81.trans hF86), [], by kernel_rfl, .inl (.inl rfl), (fun _ h => absurd h List.not_mem_nil), ?_⟩
 refine shM_v (v := .slice a89 n93 c90) (ek := [(58, .slice a89 n93 c90)]) (Ls := []) rfl rfl rfl rfl ((sc rfl (sn _))) (by kernel_rfl) sm (fun H F' L' hF' hL' => v_assign rfl) ?_
 refine shM_nil ?_
 refine shW_join (fun e1 F1 L1 => oyezlaw07_BookTold_j1 n n2 l l2 l3 l6 = some r ∧ FExt F85 F1 ∧ L1 = ((b42, .cells #[.int .i64 n, .int .i64 n2, .slice a17 l.length c18, .slice a23 l2.length c24, .slice a29 l3.length c30] 27 (0, 0)) :: (Lb91 ++ [])) ∧ e1.sub [(5, .pointer (some ⟨b42, 0, none⟩)), (9, .slice a89 n93 c90)]) ?_ ?_
 · refine wsr (om rfl rfl ?_)
   refine ov (v_lenS Try.underlying36 rfl) rfl ?_
   refine om rfl rfl (shO_nil ?_)
   refine shW_block ?_
   refine kW (kd kr) ?_
   refine shW_lp (fun fu2 e1 F1 L1 => ∃ (tl : List (List Int)) (k2 : Int), tl.length = fu2 ∧ Lst l5 k2 tl ∧ oyezlaw07_BookTold_l2 n n2 l l2 l3 l6 tl k2 = some r ∧ FExt F85 F1 ∧ L1 = ((b42, .cells #[.int .i64 n, .int .i64 n2, .slice a17 l.length c18, .slice a23 l2.length c24, .slice a29 l3.length c30] 27 (0, 0)) :: (Lb91 ++ [])) ∧ e1.sub [(5, .pointer (some ⟨b42, 0, none⟩)), (9, .slice a89 n93 c90), (59, .slice a58 l5.length c59), (60, .int .i64 (l5.length : Int)), (61, .int .i64 k2)]) _ (m0 kr ⟨_, _, rfl, Lst.start _, r84, FExt.refl _, rfl, (sc rfl (sc rfl (sc rfl (sc rfl (sc rfl (sn _))))))⟩) ?_
   rintro fu2 e1 F100 _ ⟨tl, k2, hn97, hk96, r98, hF101, rfl, he99⟩
   refine shW_env _ he99 ?_; clear he99
   replace h45 := h45.mono (slE_ok (slE_ok (iE_ok _))) hF101
   replace h48 := h48.mono (iE_ok _) hF101
   replace h51 := h51.mono (prE_ok (iE_ok _) (prE_ok (iE_ok _) (iE_ok _))) hF101
   replace h60 := h60.mono (slE_ok (iE_ok _)) hF101
   replace hz92 := hz92.mono (slE_ok (iE_ok _)) hF101
   refine wsr ?_
   refine ov (v_lssK rfl rfl) rfl ?_
   refine shO_nil (shW_seq ?_)
   refine shW_condP rfl (fun c103 => ?_) (fun c103 => ?_)
   · obtain ⟨x, tl2, rfl, hx105, g106, hk104⟩ := Lst.succ hk96 c103
     rw [oyezlaw07_BookTold_l2] at r98
     refine shW_skip ?_
     refine shW_join (fun e1 F1 L1 => oyezlaw07_BookTold_j3 k2 (oyezlaw07_BookTold_l2 n n2 l l2 l3 l6 tl2) = some r ∧ FExt F100 F1 ∧ L1 = ((b42, .cells #[.int .i64 n, .int .i64 n2, .slice a17 l.length c18, .slice a23 l2.length c24, .slice a29 l3.length c30] 27 (0, 0)) :: (Lb91 ++ [])) ∧ e1.sub [(5, .pointer (some ⟨b42, 0, none⟩)), (9, .slice a89 n93 c90), (59, .slice a58 l5.length c59), (60, .int .i64 (l5.length : Int)), (61, .int .i64 k2)]) ?_ ?_
     · refine shW_block ?_
       refine wsr (om rfl rfl ?_)
       obtain ⟨b107, o108, c109, vs110, ha111, hs112, hle113, ⟨a116, c117, rfl, h118⟩, hl114, hc115⟩ := RowR.at (slE_ok (iE_ok _)) h60 ((b42, .cells #[.int .i64 n, .int .i64 n2, .slice a17 l.length c18, .slice a23 l2.length c24, .slice a29 l3.length c30] 27 (0, 0)) :: (Lb91 ++ [])) g106.1 hx105
       refine ov (v_indexO Try.underlying36 Try.sizeOf47 rfl ha111 rfl g106) rfl ?_
       refine ov (v_load Try.isAgg47 rfl hs112 (hc115 0 (by decide))) rfl ?_
       refine oa rfl rfl (oa rfl rfl (shO_nil (shW_seq (wsr (om rfl rfl ?_)))))
       refine ov (v_lenS Try.underlying47 rfl) rfl ?_
       refine ov (v_fieldAddr fa_27_1 rfl) rfl ?_
       refine ov (v_load Try.isAgg3 rfl (Has.own 0 rfl) rfl) rfl ?_
       refine ov (v_neq rfl rfl) rfl ?_
       refine shO_nil ?_
       refine shW_condP rfl (fun c119 => ?_) (fun c119 => ?_)
       · have r120 := ite_t r98 c119; clear r98
         refine wsr (oa rfl rfl (shO_nil ?_))
         refine kW kn ?_
         refine shW_ret (andThen_ret (inBlock_ret (andThen_ret (andThen_ret (inBlock_ret (andThen_ret ?_))))))
         refine q_res1 Try.results8 (res_tmp rfl) (sr) ?_
         obtain rfl := inj1 r120
         exact rfl
       have r121 := ite_f r98 c119; clear r98
       refine shW_skip (wsr (om rfl rfl ?_))
       refine ov (v_lenS Try.underlying47 rfl) rfl ?_
       refine om rfl rfl (shO_nil ?_)
       refine shW_block ?_
       refine shW_lp (fun fu4 e1 F1 L1 => ∃ (tl3 : List Int) (k3 : Int), tl3.length = fu4 ∧ Lst x k3 tl3 ∧ oyezlaw07_BookTold_l4 n n2 l l2 l3 l6 k2 (oyezlaw07_BookTold_l2 n n2 l l2 l3 l6 tl2) tl3 k3 = some r ∧ FExt F100 F1 ∧ L1 = ((b42, .cells #[.int .i64 n, .int .i64 n2, .slice a17 l.length c18, .slice a23 l2.length c24, .slice a29 l3.length c30] 27 (0, 0)) :: (Lb91 ++ [])) ∧ e1.sub [(5, .pointer (some ⟨b42, 0, none⟩)), (9, .slice a89 n93 c90), (10, .int .i64 k2), (59, .slice a58 l5.length c59), (60, .int .i64 (l5.length : Int)), (61, .int .i64 k2), (71, .slice a116 x.length c117), (72, .int .i64 (x.length : Int)), (73, .int .i64 k3)]) _ (m0 kr ⟨_, _, rfl, Lst.start _, r121, FExt.refl _, rfl, (sc rfl (sc rfl (sc rfl (sc rfl (sc rfl (sc rfl (sc rfl (sc rfl (sc rfl (sn _))))))))))⟩) ?_
       rintro fu4 e1 F126 _ ⟨tl3, k3, hn123, hk122, r124, hF127, rfl, he125⟩
       refine shW_env _ he125 ?_; clear he125
       replace h45 := h45.mono (slE_ok (slE_ok (iE_ok _))) hF127
       replace h48 := h48.mono (iE_ok _) hF127
       replace h51 := h51.mono (prE_ok (iE_ok _) (prE_ok (iE_ok _) (iE_ok _))) hF127
       replace h118 := h118.mono (iE_ok _) hF127
       replace hz92 := hz92.mono (slE_ok (iE_ok _)) hF127
       refine wsr ?_
       refine ov (v_lssK rfl rfl) rfl ?_
       refine shO_nil (shW_seq ?_)
       refine shW_condP rfl (fun c129 => ?_) (fun c129 => ?_)
       · obtain ⟨x2, tl4, rfl, hx131, g132, hk130⟩ := Lst.succ hk122 c129
         rw [oyezlaw07_BookTold_l4] at r124
         refine shW_skip ?_
         refine shW_join (fun e1 F1 L1 => oyezlaw07_BookTold_j5 k3 (oyezlaw07_BookTold_l4 n n2 l l2 l3 l6 k2 (oyezlaw07_BookTold_l2 n n2 l l2 l3 l6 tl2) tl4) = some r ∧ FExt F126 F1 ∧ L1 = ((b42, .cells #[.int .i64 n, .int .i64 n2, .slice a17 l.length c18, .slice a23 l2.length c24, .slice a29 l3.length c30] 27 (0, 0)) :: (Lb91 ++ [])) ∧ e1.sub [(5, .pointer (some ⟨b42, 0, none⟩)), (9, .slice a89 n93 c90), (10, .int .i64 k2), (59, .slice a58 l5.length c59), (60, .int .i64 (l5.length : Int)), (61, .int .i64 k2), (71, .slice a116 x.length c117), (72, .int .i64 (x.length : Int)), (73, .int .i64 k3)]) ?_ ?_
         · refine shW_block ?_
           refine wsr (om rfl rfl ?_)
           obtain ⟨b133, o134, c135, vs136, ha137, hs138, hle139, rfl, hl140, hc141⟩ := RowR.at (iE_ok _) h118 ((b42, .cells #[.int .i64 n, .int .i64 n2, .slice a17 l.length c18, .slice a23 l2.length c24, .slice a29 l3.length c30] 27 (0, 0)) :: (Lb91 ++ [])) g132.1 hx131
           refine ov (v_indexO Try.underlying47 Try.sizeOf48 rfl ha137 rfl g132) rfl ?_
           refine ov (v_load Try.isAgg48 rfl hs138 (hc141 0 (by decide))) rfl ?_
           refine oa rfl rfl (oa rfl rfl (shO_nil ?_))
           refine shW_join (fun e1 F1 L1 => oyezlaw07_BookTold_j6 n n2 l l2 l3 k2 k3 x2 (oyezlaw07_BookTold_l4 n n2 l l2 l3 l6 k2 (oyezlaw07_BookTold_l2 n n2 l l2 l3 l6 tl2) tl4) = some r ∧ F126 = F1 ∧ L1 = ((b42, .cells #[.int .i64 n, .int .i64 n2, .slice a17 l.length c18, .slice a23 l2.length c24, .slice a29 l3.length c30] 27 (0, 0)) :: (Lb91 ++ [])) ∧ e1.sub [(5, .pointer (some ⟨b42, 0, none⟩)), (9, .slice a89 n93 c90), (10, .int .i64 k2), (12, .int .i64 k3), (13, .int .i64 x2), (59, .slice a58 l5.length c59), (60, .int .i64 (l5.length : Int)), (61, .int .i64 k2), (71, .slice a116 x.length c117), (72, .int .i64 (x.length : Int)), (73, .int .i64 k3)]) ?_ ?_
           · refine wsr (om rfl rfl ?_)
             refine ov ((v_lenS Try.underlying42 rfl).i (SlR.lenI hz92)) rfl ?_
             refine om rfl rfl (shO_nil ?_)
             refine shW_block ?_
             refine shW_lp (fun fu7 e1 F1 L1 => ∃ (tl5 : List (List Int)) (k4 : Int), tl5.length = fu7 ∧ Lst l6 k4 tl5 ∧ oyezlaw07_BookTold_l7 n n2 l l2 l3 k2 k3 x2 (oyezlaw07_BookTold_l4 n n2 l l2 l3 l6 k2 (oyezlaw07_BookTold_l2 n n2 l l2 l3 l6 tl2) tl4) tl5 = some r ∧ F126 = F1 ∧ L1 = ((b42, .cells #[.int .i64 n, .int .i64 n2, .slice a17 l.length c18, .slice a23 l2.length c24, .slice a29 l3.length c30] 27 (0, 0)) :: (Lb91 ++ [])) ∧ e1.sub [(5, .pointer (some ⟨b42, 0, none⟩)), (9, .slice a89 n93 c90), (10, .int .i64 k2), (12, .int .i64 k3), (13, .int .i64 x2), (59, .slice a58 l5.length c59), (60, .int .i64 (l5.length : Int)), (61, .int .i64 k2), (71, .slice a116 x.length c117), (72, .int .i64 (x.length : Int)), (73, .int .i64 k3), (78, .slice a89 n93 c90), (79, .int .i64 (l6.length : Int)), (80, .int .i64 k4)]) _ (m0 kr ⟨_, _, rfl, Lst.start _, r124, rfl, rfl, (sc rfl (sc rfl (sc rfl (sc rfl (sc rfl (sc rfl (sc rfl (sc rfl (sc rfl (sc rfl (sc rfl (sc rfl (sc rfl (sc rfl (sn _)))))))))))))))⟩) ?_
             rintro fu7 e1 _ _ ⟨tl5, k4, hn143, hk142, r144, rfl, rfl, he145⟩
             refine shW_env _ he145 ?_; clear he145
             refine wsr ?_
             refine ov (v_lssK rfl rfl) rfl ?_
             refine shO_nil (shW_seq ?_)
             refine shW_condP rfl (fun c147 => ?_) (fun c147 => ?_)
             · obtain ⟨x3, tl6, rfl, hx149, g150, hk148⟩ := Lst.succ hk142 c147
               rw [oyezlaw07_BookTold_l7] at r144
               refine shW_skip (shW_seq ?_)
               refine shW_block ?_
               refine wsr ?_
               obtain ⟨b151, o152, c153, vs154, ha155, hs156, hle157, ⟨a160, c161, rfl, h162⟩, hl158, hc159⟩ := SlR.at (slE_ok (iE_ok _)) hz92 (L := (b42, .cells #[.int .i64 n, .int .i64 n2, .slice a17 l.length c18, .slice a23 l2.length c24, .slice a29 l3.length c30] 27 (0, 0)) :: (Lb91 ++ [])) (fC fP) g150.1 hx149
               refine ov (v_indexO Try.underlying42 Try.sizeOf24 rfl ha155 rfl (SlR.idx hz92 g150)) rfl ?_
               refine ov (v_load Try.isAgg24 rfl hs156 (hc159 0 (by decide))) rfl ?_
               refine oa rfl rfl (nsr ?_)
               refine ov (v_loadA (cs := #[.int .i64 n, .int .i64 n2, .slice a17 l.length c18, .slice a23 l2.length c24, .slice a29 l3.length c30]) Try.isAgg27 Try.sizeOf27 rfl (Has.own 0 rfl) (Nat.le_of_ble_eq_true rfl) rfl) rfl ?_
               refine om rfl rfl (om rfl rfl (om rfl rfl ?_))
               obtain ⟨ok, h163, r164⟩ := b1_ok r144; clear r144
               refine o_callV rfl Try.call34 rfl rfl rfl (oyezlaw07_heard_w h45 h48 h51 h162 h163) ?_
               refine oa rfl rfl (shO_nil ?_)
               obtain ⟨k5, h165, r166⟩ := b1_ok r164; clear r164
               refine shW_join (fun e1 F1 L1 => F126 = F1 ∧ L1 = ((b42, .cells #[.int .i64 n, .int .i64 n2, .slice a17 l.length c18, .slice a23 l2.length c24, .slice a29 l3.length c30] 27 (0, 0)) :: (Lb91 ++ [])) ∧ e1.sub [(5, .pointer (some ⟨b42, 0, none⟩)), (9, .slice a89 n93 c90), (10, .int .i64 k2), (12, .int .i64 k3), (13, .int .i64 x2), (59, .slice a58 l5.length c59), (60, .int .i64 (l5.length : Int)), (61, .int .i64 k2), (71, .slice a116 x.length c117), (72, .int .i64 (x.length : Int)), (73, .int .i64 k3), (78, .slice a89 n93 c90), (79, .int .i64 (l6.length : Int)), (80, .int .i64 k4), (101, .bool k5)]) ?_ ?_
               · clear r166
                 refine shW_region (om rfl rfl ?_)
                 refine ov (v_eql rfl rfl) rfl ?_
                 refine om rfl rfl ?_
                 by_cases c167 : x2 = 1
                 · have r168 := ite_t h165 c167; clear h165
                   refine shO_on (b := true) 91 rfl (Env.isT rfl c167) (om rfl rfl (shO_on (b := true) 91 rfl (Env.isT rfl c167) ?_))
                   refine ov (v_notB rfl) rfl ?_
                   refine ov (v_pick_t (evD_true rfl c167) rfl) rfl ?_
                   refine om rfl rfl ?_
                   rcases bool_two (!ok) with c169 | c169
                   · have r170 := bt r168 c169; clear r168
                     refine shO_off (b' := true) 95 rfl (EnvB rfl c169) rfl rfl (shO_off (b' := true) 95 rfl (EnvB rfl c169) rfl rfl (shO_off (b' := true) 95 rfl (EnvB rfl c169) rfl rfl (shO_offU 98 rfl rfl rfl (shO_off (b' := true) 95 rfl (EnvB rfl c169) rfl rfl ?_))))
                     refine ov (v_pick_t (evB rfl c169) rfl) rfl ?_
                     refine shO_nil ?_
                     obtain rfl := inj1 r170
                     exact mi kr ⟨rfl, rfl, (sc rfl (sc rfl (sc rfl (sc rfl (sc rfl (sc rfl (sc rfl (sc rfl (sc rfl (sc rfl (sc rfl (sc rfl (sc rfl (sc rfl (sc rfl (sn _))))))))))))))))⟩
                   have r171 := bf r168 c169; clear r168
                   refine shO_on (b := false) 95 rfl (EnvB rfl c169) (om rfl rfl (shO_on (b := false) 95 rfl (EnvB rfl c169) ?_))
                   refine ov (v_eql rfl rfl) rfl ?_
                   refine shO_on (b := false) 95 rfl (EnvB rfl c169) (om rfl rfl ?_)
                   by_cases c172 : x2 = 2
                   · have r173 := ite_t r171 c172; clear r171
                     refine shO_on (b := true) 98 rfl (Env.isT rfl c172) (om rfl rfl (shO_on (b := false) 95 rfl (EnvB rfl c169) ?_))
                     refine ov (v_pick_t (evD_true rfl c172) rfl) rfl ?_
                     refine ov (v_pick_f (evB rfl c169) rfl) rfl ?_
                     refine shO_nil ?_
                     obtain rfl := inj1 r173
                     exact mi kr ⟨rfl, rfl, (sc rfl (sc rfl (sc rfl (sc rfl (sc rfl (sc rfl (sc rfl (sc rfl (sc rfl (sc rfl (sc rfl (sc rfl (sc rfl (sc rfl (sc rfl (sn _))))))))))))))))⟩
                   have r174 := ite_f r171 c172; clear r171
                   refine shO_off (b' := false) 98 rfl (Env.isF rfl c172) rfl rfl (shO_on (b := false) 95 rfl (EnvB rfl c169) ?_)
                   refine ov (v_pick_f (evD_false rfl c172) rfl) rfl ?_
                   refine ov (v_pick_f (evB rfl c169) rfl) rfl ?_
                   refine shO_nil ?_
                   obtain rfl := inj1 r174
                   exact mi kr ⟨rfl, rfl, (sc rfl (sc rfl (sc rfl (sc rfl (sc rfl (sc rfl (sc rfl (sc rfl (sc rfl (sc rfl (sc rfl (sc rfl (sc rfl (sc rfl (sc rfl (sn _))))))))))))))))⟩
                 have r175 := ite_f h165 c167; clear h165
                 refine shO_off (b' := false) 91 rfl (Env.isF rfl c167) rfl rfl (shO_off (b' := false) 91 rfl (Env.isF rfl c167) rfl rfl ?_)
                 refine ov (v_pick_f (evD_false rfl c167) rfl) rfl ?_
                 refine om rfl rfl (shO_on (b := false) 95 rfl rfl (om rfl rfl (shO_on (b := false) 95 rfl rfl ?_)))
                 refine ov (v_eql rfl rfl) rfl ?_
                 refine shO_on (b := false) 95 rfl rfl (om rfl rfl ?_)
                 by_cases c176 : x2 = 2
                 · have r177 := ite_t r175 c176; clear r175
                   refine shO_on (b := true) 98 rfl (Env.isT rfl c176) (om rfl rfl (shO_on (b := false) 95 rfl rfl ?_))
                   refine ov (v_pick_t (evD_true rfl c176) rfl) rfl ?_
                   refine ov (v_pick_f rfl rfl) rfl ?_
                   refine shO_nil ?_
                   obtain rfl := inj1 r177
                   exact mi kr ⟨rfl, rfl, (sc rfl (sc rfl (sc rfl (sc rfl (sc rfl (sc rfl (sc rfl (sc rfl (sc rfl (sc rfl (sc rfl (sc rfl (sc rfl (sc rfl (sc rfl (sn _))))))))))))))))⟩
                 have r178 := ite_f r175 c176; clear r175
                 refine shO_off (b' := false) 98 rfl (Env.isF rfl c176) rfl rfl (shO_on (b := false) 95 rfl rfl ?_)
                 refine ov (v_pick_f (evD_false rfl c176) rfl) rfl ?_
                 refine ov (v_pick_f rfl rfl) rfl ?_
                 refine shO_nil ?_
                 obtain rfl := inj1 r178
                 exact mi kr ⟨rfl, rfl, (sc rfl (sc rfl (sc rfl (sc rfl (sc rfl (sc rfl (sc rfl (sc rfl (sc rfl (sc rfl (sc rfl (sc rfl (sc rfl (sc rfl (sc rfl (sn _))))))))))))))))⟩
               rintro e1 _ _ ⟨rfl, rfl, he179⟩
               refine shW_env _ he179 ?_; clear he179
               refine shW_cond rfl (fun c180 => ?_) (fun c180 => ?_)
               · have r181 := bt r166 c180; clear r166
                 refine wsr (oa rfl rfl (shO_nil ?_))
                 refine kW kn ?_
                 refine shW_ret (inBlock_ret (andThen_ret (andThen_ret (inBlock_ret (andThen_ret (inBlock_ret (andThen_ret (andThen_ret (inBlock_ret ?_)))))))))
                 refine inBlock_ret (andThen_ret (andThen_ret (inBlock_ret (andThen_ret ?_))))
                 refine q_res1 Try.results8 (res_tmp rfl) (sr) ?_
                 obtain rfl := inj1 r181
                 exact rfl
               have r182 := bf r166 c180; clear r166
               refine shW_skip (inBlock_n (id := 5) (shW_region ?_))
               refine ov (v_add rfl rfl (Lst.r64 hk142 c147 (SlR.llt hz92))) rfl ?_
               refine om rfl rfl (shO_nil ?_)
               subst hn143; exact le kr ⟨_, _, rfl, hk148, r182, rfl, rfl, (sc rfl (sc rfl (sc rfl (sc rfl (sc rfl (sc rfl (sc rfl (sc rfl (sc rfl (sc rfl (sc rfl (sc rfl (sc rfl (sc rfl (sn _)))))))))))))))⟩
             obtain rfl := Lst.zero hk142 c147
             rw [oyezlaw07_BookTold_l7] at r144
             refine shW_exit (andThen_exit (andThen_exit ?_))
             refine inBlock_exit ?_
             exact mi kr ⟨r144, rfl, rfl, (sc rfl (sc rfl (sc rfl (sc rfl (sc rfl (sc rfl (sc rfl (sc rfl (sc rfl (sc rfl (sc rfl (sn _))))))))))))⟩
           rintro e1 _ _ ⟨r183, rfl, rfl, he184⟩
           refine shW_env _ he184 ?_; clear he184
           rw [oyezlaw07_BookTold_j6] at r183
           refine wsr ?_
           refine o_buildSlice (cs := #[.bool true, .bool false]) rfl rfl (buildSlice_all slt_75 [.bool true, .bool false] rfl (by decide) (by simp [Value.cells]) (by decide)) ?_; intro b185 hb185
           refine ov (v_lenS Try.underlying75 rfl) rfl ?_
           refine om rfl rfl (shO_nil ?_)
           refine shW_block ?_
           refine shW_freeze 0 rfl hb185 ?_; intro F186 hF187 hz188
           refine shW_L (L' := (b42, .cells #[.int .i64 n, .int .i64 n2, .slice a17 l.length c18, .slice a23 l2.length c24, .slice a29 l3.length c30] 27 (0, 0)) :: (Lb91 ++ [])) rfl ?_
           replace h45 := h45.mono (slE_ok (slE_ok (iE_ok _))) hF187
           replace h48 := h48.mono (iE_ok _) hF187
           replace h51 := h51.mono (prE_ok (iE_ok _) (prE_ok (iE_ok _) (iE_ok _))) hF187
           have h189 : RowR 1 bE F186 (some ⟨b185, 0, none⟩) 2 [true, false] := RowR.of_block bE_ok (vss := [[.bool true], [.bool false]]) (xs := [true, false]) hz188 (.cons rfl (.cons rfl .nil)) rfl (by simp [maxLen])
           obtain ⟨g190, r191⟩ := gd_ok r183; clear r183
           refine shW_lp (fun fu8 e1 F1 L1 => ∃ (k6 : Int), Ctr 0 2 k6 fu8 ∧ oyezlaw07_BookTold_l8 n n2 l l2 l3 k2 k3 x2 (oyezlaw07_BookTold_l4 n n2 l l2 l3 l6 k2 (oyezlaw07_BookTold_l2 n n2 l l2 l3 l6 tl2) tl4) fu8 k6 = some r ∧ FExt F186 F1 ∧ L1 = ((b42, .cells #[.int .i64 n, .int .i64 n2, .slice a17 l.length c18, .slice a23 l2.length c24, .slice a29 l3.length c30] 27 (0, 0)) :: (Lb91 ++ [])) ∧ e1.sub [(5, .pointer (some ⟨b42, 0, none⟩)), (9, .slice a89 n93 c90), (10, .int .i64 k2), (12, .int .i64 k3), (13, .int .i64 x2), (59, .slice a58 l5.length c59), (60, .int .i64 (l5.length : Int)), (61, .int .i64 k2), (71, .slice a116 x.length c117), (72, .int .i64 (x.length : Int)), (73, .int .i64 k3), (103, .slice (some ⟨b185, 0, none⟩) [true, false].length 2), (104, .int .i64 2), (105, .int .i64 k6)]) _ (m0 kr ⟨_, Ctr.start _ _, r191, FExt.refl _, rfl, (sc rfl (sc rfl (sc rfl (sc rfl (sc rfl (sc rfl (sc rfl (sc rfl (sc rfl (sc rfl (sc rfl (sc rfl (sc rfl (sc rfl (sn _)))))))))))))))⟩) ?_
           rintro fu8 e1 F196 _ ⟨k6, hk192, r194, hF197, rfl, he195⟩
           refine shW_env _ he195 ?_; clear he195
           replace h45 := h45.mono (slE_ok (slE_ok (iE_ok _))) hF197
           replace h48 := h48.mono (iE_ok _) hF197
           replace h51 := h51.mono (prE_ok (iE_ok _) (prE_ok (iE_ok _) (iE_ok _))) hF197
           replace h189 := h189.mono bE_ok hF197
           refine wsr ?_
           refine ov (v_lssK rfl rfl) rfl ?_
           refine shO_nil (shW_seq ?_)
           refine shW_condP rfl (fun c199 => ?_) (fun c199 => ?_)
           · obtain ⟨fu8, rfl, hk200⟩ := Ctr.succ hk192 c199
             rw [oyezlaw07_BookTold_l8] at r194
             refine shW_skip (shW_seq ?_)
             refine shW_block ?_
             refine wsr ?_
             obtain ⟨x4, g201, hx202, r203⟩ := ix_ok r194; clear r194
             obtain ⟨b204, o205, c206, vs207, ha208, hs209, hle210, rfl, hl211, hc212⟩ := RowR.at bE_ok h189 ((b42, .cells #[.int .i64 n, .int .i64 n2, .slice a17 l.length c18, .slice a23 l2.length c24, .slice a29 l3.length c30] 27 (0, 0)) :: (Lb91 ++ [])) g201.1 hx202
             refine ov (v_indexO Try.underlying75 Try.sizeOf4 rfl ha208 rfl g201) rfl ?_
             refine ov (v_load Try.isAgg4 rfl hs209 (hc212 0 (by decide))) rfl ?_
             refine oa rfl rfl (nsr (om rfl rfl (om rfl rfl (om rfl rfl ?_))))
             refine ov (v_build (v := .agg #[.int .i64 k2, .int .i64 k3, .bool x4]) rfl (by intro w; kernel_rfl)) rfl ?_
             refine o_alloc rfl Try.zeroValue77 ?_; intro b213 hb213
             refine o_storeA (i := 0) Try.sizeOf77 rfl rfl rfl (by simp [Value.oneCell']) rfl (Nat.le_of_ble_eq_true rfl) ?_
             refine shO_L (L' := (b213, .cells #[.int .i64 k2, .int .i64 k3, .bool x4] 77 (0, 0)) :: ((b42, .cells #[.int .i64 n, .int .i64 n2, .slice a17 l.length c18, .slice a23 l2.length c24, .slice a29 l3.length c30] 27 (0, 0)) :: (Lb91 ++ []))) rfl ?_
             refine nsr ?_
             refine ov (v_loadA (cs := #[.int .i64 n, .int .i64 n2, .slice a17 l.length c18, .slice a23 l2.length c24, .slice a29 l3.length c30]) Try.isAgg27 Try.sizeOf27 rfl (Has.own 1 rfl) (Nat.le_of_ble_eq_true rfl) rfl) rfl ?_
             refine ov (v_loadA (cs := #[.int .i64 k2, .int .i64 k3, .bool x4]) Try.isAgg77 Try.sizeOf77 rfl (Has.own 0 rfl) (Nat.le_of_ble_eq_true rfl) rfl) rfl ?_
             obtain ⟨ok2, n4, h214, r215⟩ := b2_ok r203; clear r203
             refine o_callV rfl Try.call35 rfl rfl rfl (book_Refuted_w h45 h48 h51 h214) ?_
             refine om rfl rfl (ox rfl rfl rfl (ox rfl rfl rfl (oa rfl rfl (oa rfl rfl (nsr ?_)))))
             refine ov (v_loadA (cs := #[.int .i64 n, .int .i64 n2, .slice a17 l.length c18, .slice a23 l2.length c24, .slice a29 l3.length c30]) Try.isAgg27 Try.sizeOf27 rfl (Has.own 1 rfl) (Nat.le_of_ble_eq_true rfl) rfl) rfl ?_
             refine ov (v_loadA (cs := #[.int .i64 k2, .int .i64 k3, .bool x4]) Try.isAgg77 Try.sizeOf77 rfl (Has.own 0 rfl) (Nat.le_of_ble_eq_true rfl) rfl) rfl ?_
             obtain ⟨l7, n5, h216, r217⟩ := b2_ok r215; clear r215
             refine o_call0 rfl Try.call36 rfl rfl rfl (book_Witness_w h45 h48 h51 h216) ?_; rintro _ F218 _ hF219 hn220 ⟨a222, c223, rfl, rfl, h224⟩
             replace h45 := h45.mono (slE_ok (slE_ok (iE_ok _))) hF219
             replace h48 := h48.mono (iE_ok _) hF219
             replace h51 := h51.mono (prE_ok (iE_ok _) (prE_ok (iE_ok _) (iE_ok _))) hF219
             refine shO_L (ln rfl) ?_
             refine om rfl rfl (ox rfl rfl rfl (ox rfl rfl rfl (oa rfl rfl (oa rfl rfl (shO_nil ?_)))))
             obtain ⟨want, h225, r226⟩ := b1_ok r217; clear r217
             refine shW_join (fun e1 F1 L1 => F218 = F1 ∧ L1 = ((b42, .cells #[.int .i64 n, .int .i64 n2, .slice a17 l.length c18, .slice a23 l2.length c24, .slice a29 l3.length c30] 27 (0, 0)) :: (Lb91 ++ [])) ∧ e1.sub [(5, .pointer (some ⟨b42, 0, none⟩)), (9, .slice a89 n93 c90), (10, .int .i64 k2), (12, .int .i64 k3), (13, .int .i64 x2), (18, .bool x4), (20, .bool ok2), (21, .int .i64 n4), (22, .slice a222 l7.length c223), (23, .int .i64 n5), (24, .bool want), (59, .slice a58 l5.length c59), (60, .int .i64 (l5.length : Int)), (61, .int .i64 k2), (71, .slice a116 x.length c117), (72, .int .i64 (x.length : Int)), (73, .int .i64 k3), (103, .slice (some ⟨b185, 0, none⟩) [true, false].length 2), (104, .int .i64 2), (105, .int .i64 k6)]) ?_ ?_
             · clear r226
               refine shW_region (om rfl rfl ?_)
               refine ov (v_eql rfl rfl) rfl ?_
               refine om rfl rfl ?_
               by_cases c227 : x2 = 2
               · have r228 := ite_t h225 c227; clear h225
                 refine shO_on (b := true) 127 rfl (Env.isT rfl c227) (om rfl rfl ?_)
                 refine ov (v_pick_t (evD_true rfl c227) rfl) rfl ?_
                 refine om rfl rfl ?_
                 rcases bool_two x4 with c229 | c229
                 · have r230 := bt r228 c229; clear r228
                   refine shO_off (b' := true) 130 rfl (EnvB rfl c229) rfl rfl (shO_off (b' := true) 130 rfl (EnvB rfl c229) rfl rfl (shO_off (b' := true) 130 rfl (EnvB rfl c229) rfl rfl (shO_offU 133 rfl rfl rfl (shO_offU 133 rfl rfl rfl (shO_off (b' := true) 130 rfl (EnvB rfl c229) rfl rfl ?_)))))
                   refine ov (v_pick_t (evB rfl c229) rfl) rfl ?_
                   refine oa rfl rfl (shO_nil ?_)
                   obtain rfl := inj1 r230
                   exact mi (kd kr) ⟨rfl, rfl, (sc rfl (sc rfl (sc rfl (sc rfl (sc rfl (sc rfl (sc rfl (sc rfl (sc rfl (sc rfl (sc rfl (sc rfl (sc rfl (sc rfl (sc rfl (sc rfl (sc rfl (sc rfl (sc rfl (sc rfl (sn _)))))))))))))))))))))⟩
                 have r231 := bf r228 c229; clear r228
                 refine shO_on (b := false) 130 rfl (EnvB rfl c229) (om rfl rfl (shO_on (b := false) 130 rfl (EnvB rfl c229) ?_))
                 refine ov (v_eql rfl rfl) rfl ?_
                 refine shO_on (b := false) 130 rfl (EnvB rfl c229) (om rfl rfl ?_)
                 by_cases c232 : x2 = 1
                 · have r233 := ite_t r231 c232; clear r231
                   refine shO_on (b := true) 133 rfl (Env.isT rfl c232) (om rfl rfl (shO_on (b := true) 133 rfl (Env.isT rfl c232) ?_))
                   refine ov (v_notB rfl) rfl ?_
                   refine shO_on (b := false) 130 rfl (EnvB rfl c229) ?_
                   refine ov (v_pick_t (evD_true rfl c232) rfl) rfl ?_
                   refine ov (v_pick_f (evB rfl c229) rfl) rfl ?_
                   refine oa rfl rfl (shO_nil ?_)
                   obtain rfl := inj1 r233
                   exact mi (kd kr) ⟨rfl, rfl, (sc rfl (sc rfl (sc rfl (sc rfl (sc rfl (sc rfl (sc rfl (sc rfl (sc rfl (sc rfl (sc rfl (sc rfl (sc rfl (sc rfl (sc rfl (sc rfl (sc rfl (sc rfl (sc rfl (sc rfl (sn _)))))))))))))))))))))⟩
                 have r234 := ite_f r231 c232; clear r231
                 refine shO_off (b' := false) 133 rfl (Env.isF rfl c232) rfl rfl (shO_off (b' := false) 133 rfl (Env.isF rfl c232) rfl rfl (shO_on (b := false) 130 rfl (EnvB rfl c229) ?_))
                 refine ov (v_pick_f (evD_false rfl c232) rfl) rfl ?_
                 refine ov (v_pick_f (evB rfl c229) rfl) rfl ?_
                 refine oa rfl rfl (shO_nil ?_)
                 obtain rfl := inj1 r234
                 exact mi (kd kr) ⟨rfl, rfl, (sc rfl (sc rfl (sc rfl (sc rfl (sc rfl (sc rfl (sc rfl (sc rfl (sc rfl (sc rfl (sc rfl (sc rfl (sc rfl (sc rfl (sc rfl (sc rfl (sc rfl (sc rfl (sc rfl (sc rfl (sn _)))))))))))))))))))))⟩
               have r235 := ite_f h225 c227; clear h225
               refine shO_off (b' := false) 127 rfl (Env.isF rfl c227) rfl rfl ?_
               refine ov (v_pick_f (evD_false rfl c227) rfl) rfl ?_
               refine om rfl rfl (shO_on (b := false) 130 rfl rfl (om rfl rfl (shO_on (b := false) 130 rfl rfl ?_)))
               refine ov (v_eql rfl rfl) rfl ?_
               refine shO_on (b := false) 130 rfl rfl (om rfl rfl ?_)
               by_cases c236 : x2 = 1
               · have r237 := ite_t r235 c236; clear r235
                 refine shO_on (b := true) 133 rfl (Env.isT rfl c236) (om rfl rfl (shO_on (b := true) 133 rfl (Env.isT rfl c236) ?_))
                 refine ov (v_notB rfl) rfl ?_
                 refine shO_on (b := false) 130 rfl rfl ?_
                 refine ov (v_pick_t (evD_true rfl c236) rfl) rfl ?_
                 refine ov (v_pick_f rfl rfl) rfl ?_
                 refine oa rfl rfl (shO_nil ?_)
                 obtain rfl := inj1 r237
                 exact mi (kd kr) ⟨rfl, rfl, (sc rfl (sc rfl (sc rfl (sc rfl (sc rfl (sc rfl (sc rfl (sc rfl (sc rfl (sc rfl (sc rfl (sc rfl (sc rfl (sc rfl (sc rfl (sc rfl (sc rfl (sc rfl (sc rfl (sc rfl (sn _)))))))))))))))))))))⟩
               have r238 := ite_f r235 c236; clear r235
               refine shO_off (b' := false) 133 rfl (Env.isF rfl c236) rfl rfl (shO_off (b' := false) 133 rfl (Env.isF rfl c236) rfl rfl (shO_on (b := false) 130 rfl rfl ?_))
               refine ov (v_pick_f (evD_false rfl c236) rfl) rfl ?_
               refine ov (v_pick_f rfl rfl) rfl ?_
               refine oa rfl rfl (shO_nil ?_)
               obtain rfl := inj1 r238
               exact mi (kd kr) ⟨rfl, rfl, (sc rfl (sc rfl (sc rfl (sc rfl (sc rfl (sc rfl (sc rfl (sc rfl (sc rfl (sc rfl (sc rfl (sc rfl (sc rfl (sc rfl (sc rfl (sc rfl (sc rfl (sc rfl (sc rfl (sc rfl (sn _)))))))))))))))))))))⟩
             rintro e1 _ _ ⟨rfl, rfl, he239⟩
             refine shW_env _ he239 ?_; clear he239
             obtain ⟨k7, h240, r241⟩ := b1_ok r226; clear r226
             refine shW_join (fun e1 F1 L1 => F218 = F1 ∧ L1 = ((b42, .cells #[.int .i64 n, .int .i64 n2, .slice a17 l.length c18, .slice a23 l2.length c24, .slice a29 l3.length c30] 27 (0, 0)) :: (Lb91 ++ [])) ∧ e1.sub [(5, .pointer (some ⟨b42, 0, none⟩)), (9, .slice a89 n93 c90), (10, .int .i64 k2), (12, .int .i64 k3), (13, .int .i64 x2), (59, .slice a58 l5.length c59), (60, .int .i64 (l5.length : Int)), (61, .int .i64 k2), (71, .slice a116 x.length c117), (72, .int .i64 (x.length : Int)), (73, .int .i64 k3), (103, .slice (some ⟨b185, 0, none⟩) [true, false].length 2), (104, .int .i64 2), (105, .int .i64 k6), (174, .bool k7)]) ?_ ?_
             · clear r241
               refine shW_region (om rfl rfl ?_)
               refine ov (v_neq rfl rfl) rfl ?_
               refine om rfl rfl ?_
               by_cases c242 : n4 ≠ 0
               · have r243 := ite_t h240 c242; clear h240
                 refine shO_off (b' := true) 140 rfl (Env.isT rfl c242) rfl rfl (shO_off (b' := true) 140 rfl (Env.isT rfl c242) rfl rfl (shO_off (b' := true) 140 rfl (Env.isT rfl c242) rfl rfl ?_))
                 refine ov (v_pick_t (evD_true rfl c242) rfl) rfl ?_
                 refine om rfl rfl (shO_off (b' := true) 145 rfl rfl rfl rfl (shO_off (b' := true) 145 rfl rfl rfl rfl (shO_offU 147 rfl rfl rfl (shO_offU 147 rfl rfl rfl (shO_off (b' := true) 145 rfl rfl rfl rfl ?_)))))
                 refine ov (v_pick_t rfl rfl) rfl ?_
                 refine om rfl rfl (shO_off (b' := true) 152 rfl rfl rfl rfl (shO_off (b' := true) 152 rfl rfl rfl rfl (shO_off (b' := true) 152 rfl rfl rfl rfl (shO_offU 155 rfl rfl rfl (shO_offU 155 rfl rfl rfl (shO_offU 155 rfl rfl rfl (shO_offU 158 rfl rfl rfl (shO_offU 158 rfl rfl rfl (shO_offU 158 rfl rfl rfl ?_)))))))))
                 refine shO_offU 158 rfl rfl rfl (shO_offU 155 rfl rfl rfl (shO_offU 155 rfl rfl rfl (shO_offU 164 rfl rfl rfl (shO_offU 164 rfl rfl rfl (shO_offU 164 rfl rfl rfl (shO_offU 164 rfl rfl rfl (shO_offU 164 rfl rfl rfl (shO_offU 164 rfl rfl rfl (shO_offU 164 rfl rfl rfl ?_)))))))))
                 refine shO_offU 155 rfl rfl rfl (shO_off (b' := true) 152 rfl rfl rfl rfl ?_)
                 refine ov (v_pick_t rfl rfl) rfl ?_
                 refine shO_nil ?_
                 obtain rfl := inj1 r243
                 exact mi kr ⟨rfl, rfl, (sc rfl (sc rfl (sc rfl (sc rfl (sc rfl (sc rfl (sc rfl (sc rfl (sc rfl (sc rfl (sc rfl (sc rfl (sc rfl (sc rfl (sc rfl (sn _))))))))))))))))⟩
               have r244 := ite_f h240 c242; clear h240
               refine shO_on (b := false) 140 rfl (Env.isF rfl c242) (om rfl rfl (shO_on (b := false) 140 rfl (Env.isF rfl c242) (om rfl rfl (shO_on (b := false) 140 rfl (Env.isF rfl c242) ?_))))
               refine ov (v_neqB Try.underlying4 rfl rfl) rfl ?_
               refine ov (v_pick_f (evD_false rfl c242) rfl) rfl ?_
               refine om rfl rfl ?_
               by_cases c245 : ok2 ≠ want
               · have r246 := ite_t r244 c245; clear r244
                 refine shO_off (b' := true) 145 rfl (Env.isT rfl c245) rfl rfl (shO_off (b' := true) 145 rfl (Env.isT rfl c245) rfl rfl (shO_offU 147 rfl rfl rfl (shO_offU 147 rfl rfl rfl (shO_off (b' := true) 145 rfl (Env.isT rfl c245) rfl rfl ?_))))
                 refine ov (v_pick_t (evD_true rfl c245) rfl) rfl ?_
                 refine om rfl rfl (shO_off (b' := true) 152 rfl rfl rfl rfl (shO_off (b' := true) 152 rfl rfl rfl rfl (shO_off (b' := true) 152 rfl rfl rfl rfl (shO_offU 155 rfl rfl rfl (shO_offU 155 rfl rfl rfl (shO_offU 155 rfl rfl rfl (shO_offU 158 rfl rfl rfl (shO_offU 158 rfl rfl rfl (shO_offU 158 rfl rfl rfl ?_)))))))))
                 refine shO_offU 158 rfl rfl rfl (shO_offU 155 rfl rfl rfl (shO_offU 155 rfl rfl rfl (shO_offU 164 rfl rfl rfl (shO_offU 164 rfl rfl rfl (shO_offU 164 rfl rfl rfl (shO_offU 164 rfl rfl rfl (shO_offU 164 rfl rfl rfl (shO_offU 164 rfl rfl rfl (shO_offU 164 rfl rfl rfl ?_)))))))))
                 refine shO_offU 155 rfl rfl rfl (shO_off (b' := true) 152 rfl rfl rfl rfl ?_)
                 refine ov (v_pick_t rfl rfl) rfl ?_
                 refine shO_nil ?_
                 obtain rfl := inj1 r246
                 exact mi kr ⟨rfl, rfl, (sc rfl (sc rfl (sc rfl (sc rfl (sc rfl (sc rfl (sc rfl (sc rfl (sc rfl (sc rfl (sc rfl (sc rfl (sc rfl (sc rfl (sc rfl (sn _))))))))))))))))⟩
               have r247 := ite_f r244 c245; clear r244
               refine shO_on (b := false) 145 rfl (Env.isF rfl c245) (om rfl rfl (shO_on (b := false) 145 rfl (Env.isF rfl c245) (om rfl rfl ?_)))
               rcases bool_two want with c248 | c248
               · have r249 := bt r247 c248; clear r247
                 refine shO_on (b := true) 147 rfl (EnvB rfl c248) (om rfl rfl (shO_on (b := true) 147 rfl (EnvB rfl c248) ?_))
                 refine ov (v_neq rfl rfl) rfl ?_
                 refine shO_on (b := false) 145 rfl (Env.isF rfl c245) ?_
                 refine ov (v_pick_t (evB rfl c248) rfl) rfl ?_
                 refine ov (v_pick_f (evD_false rfl c245) rfl) rfl ?_
                 refine om rfl rfl ?_
                 by_cases c250 : n5 ≠ 6
                 · have r251 := ite_t r249 c250; clear r249
                   refine shO_off (b' := true) 152 rfl (Env.isT rfl c250) rfl rfl (shO_off (b' := true) 152 rfl (Env.isT rfl c250) rfl rfl (shO_off (b' := true) 152 rfl (Env.isT rfl c250) rfl rfl (shO_offU 155 rfl rfl rfl (shO_offU 155 rfl rfl rfl (shO_offU 155 rfl rfl rfl (shO_offU 158 rfl rfl rfl (shO_offU 158 rfl rfl rfl (shO_offU 158 rfl rfl rfl (shO_offU 158 rfl rfl rfl ?_)))))))))
                   refine shO_offU 155 rfl rfl rfl (shO_offU 155 rfl rfl rfl (shO_offU 164 rfl rfl rfl (shO_offU 164 rfl rfl rfl (shO_offU 164 rfl rfl rfl (shO_offU 164 rfl rfl rfl (shO_offU 164 rfl rfl rfl (shO_offU 164 rfl rfl rfl (shO_offU 164 rfl rfl rfl (shO_offU 155 rfl rfl rfl ?_)))))))))
                   refine shO_off (b' := true) 152 rfl (Env.isT rfl c250) rfl rfl ?_
                   refine ov (v_pick_t (evD_true rfl c250) rfl) rfl ?_
                   refine shO_nil ?_
                   obtain rfl := inj1 r251
                   exact mi kr ⟨rfl, rfl, (sc rfl (sc rfl (sc rfl (sc rfl (sc rfl (sc rfl (sc rfl (sc rfl (sc rfl (sc rfl (sc rfl (sc rfl (sc rfl (sc rfl (sc rfl (sn _))))))))))))))))⟩
                 have r252 := ite_f r249 c250; clear r249
                 refine shO_on (b := false) 152 rfl (Env.isF rfl c250) (om rfl rfl (shO_on (b := false) 152 rfl (Env.isF rfl c250) ?_))
                 refine ov (v_notB rfl) rfl ?_
                 refine shO_on (b := false) 152 rfl (Env.isF rfl c250) (om rfl rfl ?_)
                 rcases bool_two (!want) with c253 | c253
                 · have r254 := bt r252 c253; clear r252
                   refine shO_on (b := true) 155 rfl (EnvB rfl c253) (om rfl rfl (shO_on (b := true) 155 rfl (EnvB rfl c253) ?_))
                   refine ov (v_neq rfl rfl) rfl ?_
                   refine shO_on (b := true) 155 rfl (EnvB rfl c253) (om rfl rfl ?_)
                   by_cases c255 : n5 ≠ 0
                   · have r256 := ite_t r254 c255; clear r254
                     refine shO_off (b' := true) 158 rfl (Env.isT rfl c255) rfl rfl (shO_off (b' := true) 158 rfl (Env.isT rfl c255) rfl rfl (shO_off (b' := true) 158 rfl (Env.isT rfl c255) rfl rfl (shO_off (b' := true) 158 rfl (Env.isT rfl c255) rfl rfl (shO_on (b := true) 155 rfl (EnvB rfl c253) ?_))))
                     refine ov (v_pick_t (evD_true rfl c255) rfl) rfl ?_
                     refine shO_on (b := true) 155 rfl (EnvB rfl c253) (om rfl rfl (shO_off (b' := true) 164 rfl rfl rfl rfl (shO_off (b' := true) 164 rfl rfl rfl rfl (shO_off (b' := true) 164 rfl rfl rfl rfl (shO_off (b' := true) 164 rfl rfl rfl rfl (shO_off (b' := true) 164 rfl rfl rfl rfl (shO_off (b' := true) 164 rfl rfl rfl rfl (shO_off (b' := true) 164 rfl rfl rfl rfl (shO_on (b := true) 155 rfl (EnvB rfl c253) ?_)))))))))
                     refine ov (v_pick_t rfl rfl) rfl ?_
                     refine shO_on (b := false) 152 rfl (Env.isF rfl c250) ?_
                     refine ov (v_pick_t (evB rfl c253) rfl) rfl ?_
                     refine ov (v_pick_f (evD_false rfl c250) rfl) rfl ?_
                     refine shO_nil ?_
                     obtain rfl := inj1 r256
                     exact mi kr ⟨rfl, rfl, (sc rfl (sc rfl (sc rfl (sc rfl (sc rfl (sc rfl (sc rfl (sc rfl (sc rfl (sc rfl (sc rfl (sc rfl (sc rfl (sc rfl (sc rfl (sn _))))))))))))))))⟩
                   have r257 := ite_f r254 c255; clear r254
                   refine shO_on (b := false) 158 rfl (Env.isF rfl c255) ?_
                   refine ov (v_loadA (cs := #[.int .i64 n, .int .i64 n2, .slice a17 l.length c18, .slice a23 l2.length c24, .slice a29 l3.length c30]) Try.isAgg27 Try.sizeOf27 rfl (Has.own 0 rfl) (Nat.le_of_ble_eq_true rfl) rfl) rfl ?_
                   refine shO_on (b := false) 158 rfl (Env.isF rfl c255) (om rfl rfl (shO_on (b := false) 158 rfl (Env.isF rfl c255) ?_))
                   obtain ⟨ok3, h258, r259⟩ := b1_ok r257; clear r257
                   refine o_callV rfl Try.call18 rfl rfl rfl (oyezlaw07_right_w h45 h48 h51 h224 h258) ?_
                   refine shO_on (b := false) 158 rfl (Env.isF rfl c255) ?_
                   refine ov (v_notB rfl) rfl ?_
                   refine shO_on (b := true) 155 rfl (EnvB rfl c253) ?_
                   refine ov (v_pick_f (evD_false rfl c255) rfl) rfl ?_
                   refine shO_on (b := true) 155 rfl (EnvB rfl c253) (om rfl rfl ?_)
                   rcases bool_two (!ok3) with c260 | c260
                   · have r261 := bt r259 c260; clear r259
                     refine shO_off (b' := true) 164 rfl (EnvB rfl c260) rfl rfl (shO_off (b' := true) 164 rfl (EnvB rfl c260) rfl rfl (shO_off (b' := true) 164 rfl (EnvB rfl c260) rfl rfl (shO_off (b' := true) 164 rfl (EnvB rfl c260) rfl rfl (shO_off (b' := true) 164 rfl (EnvB rfl c260) rfl rfl (shO_off (b' := true) 164 rfl (EnvB rfl c260) rfl rfl (shO_off (b' := true) 164 rfl (EnvB rfl c260) rfl rfl (shO_on (b := true) 155 rfl (EnvB rfl c253) ?_)))))))
                     refine ov (v_pick_t (evB rfl c260) rfl) rfl ?_
                     refine shO_on (b := false) 152 rfl (Env.isF rfl c250) ?_
                     refine ov (v_pick_t (evB rfl c253) rfl) rfl ?_
                     refine ov (v_pick_f (evD_false rfl c250) rfl) rfl ?_
                     refine shO_nil ?_
                     obtain rfl := inj1 r261
                     exact mi kr ⟨rfl, rfl, (sc rfl (sc rfl (sc rfl (sc rfl (sc rfl (sc rfl (sc rfl (sc rfl (sc rfl (sc rfl (sc rfl (sc rfl (sc rfl (sc rfl (sc rfl (sn _))))))))))))))))⟩
                   have r262 := bf r259 c260; clear r259
                   refine shO_on (b := false) 164 rfl (EnvB rfl c260) ?_
                   refine ov (v_loadA (cs := #[.int .i64 n, .int .i64 n2, .slice a17 l.length c18, .slice a23 l2.length c24, .slice a29 l3.length c30]) Try.isAgg27 Try.sizeOf27 rfl (Has.own 0 rfl) (Nat.le_of_ble_eq_true rfl) rfl) rfl ?_
                   refine shO_on (b := false) 164 rfl (EnvB rfl c260) (om rfl rfl (shO_on (b := false) 164 rfl (EnvB rfl c260) (om rfl rfl (shO_on (b := false) 164 rfl (EnvB rfl c260) (om rfl rfl (shO_on (b := false) 164 rfl (EnvB rfl c260) ?_))))))
                   obtain ⟨ok4, h263, r264⟩ := b1_ok r262; clear r262
                   refine o_callV rfl Try.call34 rfl rfl rfl (oyezlaw07_heard_w h45 h48 h51 h224 h263) ?_
                   refine shO_on (b := false) 164 rfl (EnvB rfl c260) (om rfl rfl (shO_on (b := false) 164 rfl (EnvB rfl c260) ?_))
                   refine ov (v_neqB Try.underlying4 rfl rfl) rfl ?_
                   refine shO_on (b := true) 155 rfl (EnvB rfl c253) ?_
                   refine ov (v_pick_f (evB rfl c260) rfl) rfl ?_
                   refine shO_on (b := false) 152 rfl (Env.isF rfl c250) ?_
                   refine ov (v_pick_t (evB rfl c253) rfl) rfl ?_
                   refine ov (v_pick_f (evD_false rfl c250) rfl) rfl ?_
                   refine shO_nil ?_
                   obtain rfl := inj1 r264
                   exact mi kr ⟨rfl, rfl, (sc rfl (sc rfl (sc rfl (sc rfl (sc rfl (sc rfl (sc rfl (sc rfl (sc rfl (sc rfl (sc rfl (sc rfl (sc rfl (sc rfl (sc rfl (sn _))))))))))))))))⟩
                 have r265 := bf r252 c253; clear r252
                 refine shO_off (b' := false) 155 rfl (EnvB rfl c253) rfl rfl (shO_off (b' := false) 155 rfl (EnvB rfl c253) rfl rfl (shO_off (b' := false) 155 rfl (EnvB rfl c253) rfl rfl (shO_offU 158 rfl rfl rfl (shO_offU 158 rfl rfl rfl (shO_offU 158 rfl rfl rfl (shO_offU 158 rfl rfl rfl (shO_off (b' := false) 155 rfl (EnvB rfl c253) rfl rfl (shO_off (b' := false) 155 rfl (EnvB rfl c253) rfl rfl (shO_offU 164 rfl rfl rfl ?_)))))))))
                 refine shO_offU 164 rfl rfl rfl (shO_offU 164 rfl rfl rfl (shO_offU 164 rfl rfl rfl (shO_offU 164 rfl rfl rfl (shO_offU 164 rfl rfl rfl (shO_offU 164 rfl rfl rfl (shO_off (b' := false) 155 rfl (EnvB rfl c253) rfl rfl (shO_on (b := false) 152 rfl (Env.isF rfl c250) ?_)))))))
                 refine ov (v_pick_f (evB rfl c253) rfl) rfl ?_
                 refine ov (v_pick_f (evD_false rfl c250) rfl) rfl ?_
                 refine shO_nil ?_
                 obtain rfl := inj1 r265
                 exact mi kr ⟨rfl, rfl, (sc rfl (sc rfl (sc rfl (sc rfl (sc rfl (sc rfl (sc rfl (sc rfl (sc rfl (sc rfl (sc rfl (sc rfl (sc rfl (sc rfl (sc rfl (sn _))))))))))))))))⟩
               have r266 := bf r247 c248; clear r247
               refine shO_off (b' := false) 147 rfl (EnvB rfl c248) rfl rfl (shO_off (b' := false) 147 rfl (EnvB rfl c248) rfl rfl (shO_on (b := false) 145 rfl (Env.isF rfl c245) ?_))
               refine ov (v_pick_f (evB rfl c248) rfl) rfl ?_
               refine ov (v_pick_f (evD_false rfl c245) rfl) rfl ?_
               refine om rfl rfl (shO_on (b := false) 152 rfl rfl (om rfl rfl (shO_on (b := false) 152 rfl rfl ?_)))
               refine ov (v_notB rfl) rfl ?_
               refine shO_on (b := false) 152 rfl rfl (om rfl rfl ?_)
               rcases bool_two (!want) with c267 | c267
               · have r268 := bt r266 c267; clear r266
                 refine shO_on (b := true) 155 rfl (EnvB rfl c267) (om rfl rfl (shO_on (b := true) 155 rfl (EnvB rfl c267) ?_))
                 refine ov (v_neq rfl rfl) rfl ?_
                 refine shO_on (b := true) 155 rfl (EnvB rfl c267) (om rfl rfl ?_)
                 by_cases c269 : n5 ≠ 0
                 · have r270 := ite_t r268 c269; clear r268
                   refine shO_off (b' := true) 158 rfl (Env.isT rfl c269) rfl rfl (shO_off (b' := true) 158 rfl (Env.isT rfl c269) rfl rfl (shO_off (b' := true) 158 rfl (Env.isT rfl c269) rfl rfl (shO_off (b' := true) 158 rfl (Env.isT rfl c269) rfl rfl (shO_on (b := true) 155 rfl (EnvB rfl c267) ?_))))
                   refine ov (v_pick_t (evD_true rfl c269) rfl) rfl ?_
                   refine shO_on (b := true) 155 rfl (EnvB rfl c267) (om rfl rfl (shO_off (b' := true) 164 rfl rfl rfl rfl (shO_off (b' := true) 164 rfl rfl rfl rfl (shO_off (b' := true) 164 rfl rfl rfl rfl (shO_off (b' := true) 164 rfl rfl rfl rfl (shO_off (b' := true) 164 rfl rfl rfl rfl (shO_off (b' := true) 164 rfl rfl rfl rfl (shO_off (b' := true) 164 rfl rfl rfl rfl (shO_on (b := true) 155 rfl (EnvB rfl c267) ?_)))))))))
                   refine ov (v_pick_t rfl rfl) rfl ?_
                   refine shO_on (b := false) 152 rfl rfl ?_
                   refine ov (v_pick_t (evB rfl c267) rfl) rfl ?_
                   refine ov (v_pick_f rfl rfl) rfl ?_
                   refine shO_nil ?_
                   obtain rfl := inj1 r270
                   exact mi kr ⟨rfl, rfl, (sc rfl (sc rfl (sc rfl (sc rfl (sc rfl (sc rfl (sc rfl (sc rfl (sc rfl (sc rfl (sc rfl (sc rfl (sc rfl (sc rfl (sc rfl (sn _))))))))))))))))⟩
                 have r271 := ite_f r268 c269; clear r268
                 refine shO_on (b := false) 158 rfl (Env.isF rfl c269) ?_
                 refine ov (v_loadA (cs := #[.int .i64 n, .int .i64 n2, .slice a17 l.length c18, .slice a23 l2.length c24, .slice a29 l3.length c30]) Try.isAgg27 Try.sizeOf27 rfl (Has.own 0 rfl) (Nat.le_of_ble_eq_true rfl) rfl) rfl ?_
                 refine shO_on (b := false) 158 rfl (Env.isF rfl c269) (om rfl rfl (shO_on (b := false) 158 rfl (Env.isF rfl c269) ?_))
                 obtain ⟨ok5, h272, r273⟩ := b1_ok r271; clear r271
                 refine o_callV rfl Try.call18 rfl rfl rfl (oyezlaw07_right_w h45 h48 h51 h224 h272) ?_
                 refine shO_on (b := false) 158 rfl (Env.isF rfl c269) ?_
                 refine ov (v_notB rfl) rfl ?_
                 refine shO_on (b := true) 155 rfl (EnvB rfl c267) ?_
                 refine ov (v_pick_f (evD_false rfl c269) rfl) rfl ?_
                 refine shO_on (b := true) 155 rfl (EnvB rfl c267) (om rfl rfl ?_)
                 rcases bool_two (!ok5) with c274 | c274
                 · have r275 := bt r273 c274; clear r273
                   refine shO_off (b' := true) 164 rfl (EnvB rfl c274) rfl rfl (shO_off (b' := true) 164 rfl (EnvB rfl c274) rfl rfl (shO_off (b' := true) 164 rfl (EnvB rfl c274) rfl rfl (shO_off (b' := true) 164 rfl (EnvB rfl c274) rfl rfl (shO_off (b' := true) 164 rfl (EnvB rfl c274) rfl rfl (shO_off (b' := true) 164 rfl (EnvB rfl c274) rfl rfl (shO_off (b' := true) 164 rfl (EnvB rfl c274) rfl rfl (shO_on (b := true) 155 rfl (EnvB rfl c267) ?_)))))))
                   refine ov (v_pick_t (evB rfl c274) rfl) rfl ?_
                   refine shO_on (b := false) 152 rfl rfl ?_
                   refine ov (v_pick_t (evB rfl c267) rfl) rfl ?_
                   refine ov (v_pick_f rfl rfl) rfl ?_
                   refine shO_nil ?_
                   obtain rfl := inj1 r275
                   exact mi kr ⟨rfl, rfl, (sc rfl (sc rfl (sc rfl (sc rfl (sc rfl (sc rfl (sc rfl (sc rfl (sc rfl (sc rfl (sc rfl (sc rfl (sc rfl (sc rfl (sc rfl (sn _))))))))))))))))⟩
                 have r276 := bf r273 c274; clear r273
                 refine shO_on (b := false) 164 rfl (EnvB rfl c274) ?_
                 refine ov (v_loadA (cs := #[.int .i64 n, .int .i64 n2, .slice a17 l.length c18, .slice a23 l2.length c24, .slice a29 l3.length c30]) Try.isAgg27 Try.sizeOf27 rfl (Has.own 0 rfl) (Nat.le_of_ble_eq_true rfl) rfl) rfl ?_
                 refine shO_on (b := false) 164 rfl (EnvB rfl c274) (om rfl rfl (shO_on (b := false) 164 rfl (EnvB rfl c274) (om rfl rfl (shO_on (b := false) 164 rfl (EnvB rfl c274) (om rfl rfl (shO_on (b := false) 164 rfl (EnvB rfl c274) ?_))))))
                 obtain ⟨ok6, h277, r278⟩ := b1_ok r276; clear r276
                 refine o_callV rfl Try.call34 rfl rfl rfl (oyezlaw07_heard_w h45 h48 h51 h224 h277) ?_
                 refine shO_on (b := false) 164 rfl (EnvB rfl c274) (om rfl rfl (shO_on (b := false) 164 rfl (EnvB rfl c274) ?_))
                 refine ov (v_neqB Try.underlying4 rfl rfl) rfl ?_
                 refine shO_on (b := true) 155 rfl (EnvB rfl c267) ?_
                 refine ov (v_pick_f (evB rfl c274) rfl) rfl ?_
                 refine shO_on (b := false) 152 rfl rfl ?_
                 refine ov (v_pick_t (evB rfl c267) rfl) rfl ?_
                 refine ov (v_pick_f rfl rfl) rfl ?_
                 refine shO_nil ?_
                 obtain rfl := inj1 r278
                 exact mi kr ⟨rfl, rfl, (sc rfl (sc rfl (sc rfl (sc rfl (sc rfl (sc rfl (sc rfl (sc rfl (sc rfl (sc rfl (sc rfl (sc rfl (sc rfl (sc rfl (sc rfl (sn _))))))))))))))))⟩
               have r279 := bf r266 c267; clear r266
               refine shO_off (b' := false) 155 rfl (EnvB rfl c267) rfl rfl (shO_off (b' := false) 155 rfl (EnvB rfl c267) rfl rfl (shO_off (b' := false) 155 rfl (EnvB rfl c267) rfl rfl (shO_offU 158 rfl rfl rfl (shO_offU 158 rfl rfl rfl (shO_offU 158 rfl rfl rfl (shO_offU 158 rfl rfl rfl (shO_off (b' := false) 155 rfl (EnvB rfl c267) rfl rfl (shO_off (b' := false) 155 rfl (EnvB rfl c267) rfl rfl (shO_offU 164 rfl rfl rfl ?_)))))))))
               refine shO_offU 164 rfl rfl rfl (shO_offU 164 rfl rfl rfl (shO_offU 164 rfl rfl rfl (shO_offU 164 rfl rfl rfl (shO_offU 164 rfl rfl rfl (shO_offU 164 rfl rfl rfl (shO_off (b' := false) 155 rfl (EnvB rfl c267) rfl rfl (shO_on (b := false) 152 rfl rfl ?_)))))))
               refine ov (v_pick_f (evB rfl c267) rfl) rfl ?_
               refine ov (v_pick_f rfl rfl) rfl ?_
               refine shO_nil ?_
               obtain rfl := inj1 r279
               exact mi kr ⟨rfl, rfl, (sc rfl (sc rfl (sc rfl (sc rfl (sc rfl (sc rfl (sc rfl (sc rfl (sc rfl (sc rfl (sc rfl (sc rfl (sc rfl (sc rfl (sc rfl (sn _))))))))))))))))⟩
             rintro e1 _ _ ⟨rfl, rfl, he280⟩
             refine shW_env _ he280 ?_; clear he280
             refine shW_cond rfl (fun c281 => ?_) (fun c281 => ?_)
             · have r282 := bt r241 c281; clear r241
               refine wsr (oa rfl rfl (shO_nil ?_))
               refine kW kn ?_
               refine shW_ret (inBlock_ret (andThen_ret (andThen_ret (inBlock_ret (inBlock_ret (andThen_ret (andThen_ret (inBlock_ret (inBlock_ret ?_)))))))))
               refine andThen_ret (andThen_ret (inBlock_ret (andThen_ret ?_)))
               refine q_res1 Try.results8 (res_tmp rfl) (sr) ?_
               obtain rfl := inj1 r282
               exact rfl
             have r283 := bf r241 c281; clear r241
             refine shW_skip (inBlock_n (id := 7) (shW_region ?_))
             refine ov (v_add rfl rfl (Ctr.r64 hk192 c199 g190)) rfl ?_
             refine om rfl rfl (shO_nil ?_)
             exact le kr ⟨_, hk200, r283, (hF197.trans hF219), rfl, (sc rfl (sc rfl (sc rfl (sc rfl (sc rfl (sc rfl (sc rfl (sc rfl (sc rfl (sc rfl (sc rfl (sc rfl (sc rfl (sc rfl (sn _)))))))))))))))⟩
           obtain rfl := Ctr.zero hk192 c199
           rw [oyezlaw07_BookTold_l8] at r194
           refine shW_exit (andThen_exit (andThen_exit ?_))
           refine inBlock_exit ?_
           refine inBlock_n (id := 3) ?_
           exact mi kr ⟨r194, (hF187.trans hF197), rfl, (sc rfl (sc rfl (sc rfl (sc rfl (sc rfl (sc rfl (sc rfl (sc rfl (sc rfl (sn _))))))))))⟩
         rintro e1 F286 _ ⟨r284, hF287, rfl, he285⟩
         refine shW_env _ he285 ?_; clear he285
         replace h118 := h118.mono (iE_ok _) hF287
         rw [oyezlaw07_BookTold_j5] at r284
         refine shW_region ?_
         refine ov (v_add rfl rfl (Lst.r64 hk122 c129 (RowR.lt h118))) rfl ?_
         refine om rfl rfl (shO_nil ?_)
         subst hn123; exact le kr ⟨_, _, rfl, hk130, r284, (hF127.trans hF287), rfl, (sc rfl (sc rfl (sc rfl (sc rfl (sc rfl (sc rfl (sc rfl (sc rfl (sc rfl (sn _))))))))))⟩
       obtain rfl := Lst.zero hk122 c129
       rw [oyezlaw07_BookTold_l4] at r124
       refine shW_exit (andThen_exit (andThen_exit ?_))
       refine inBlock_exit ?_
       refine inBlock_n (id := 1) ?_
       exact mi kr ⟨r124, hF127, rfl, (sc rfl (sc rfl (sc rfl (sc rfl (sc rfl (sn _))))))⟩
     rintro e1 F290 _ ⟨r288, hF291, rfl, he289⟩
     refine shW_env _ he289 ?_; clear he289
     replace h60 := h60.mono (slE_ok (iE_ok _)) hF291
     rw [oyezlaw07_BookTold_j3] at r288
     refine shW_region ?_
     refine ov (v_add rfl rfl (Lst.r64 hk96 c103 (RowR.lt h60))) rfl ?_
     refine om rfl rfl (shO_nil ?_)
     subst hn97; exact le kr ⟨_, _, rfl, hk104, r288, (hF101.trans hF291), rfl, (sc rfl (sc rfl (sc rfl (sc rfl (sc rfl (sn _))))))⟩
   obtain rfl := Lst.zero hk96 c103
   rw [oyezlaw07_BookTold_l2] at r98
   refine shW_exit (andThen_exit (andThen_exit ?_))
   refine inBlock_exit ?_
   exact mi kr ⟨r98, hF101, rfl, (sc rfl (sc rfl (sn _)))⟩
 rintro e1 F294 _ ⟨r292, hF295, rfl, he293⟩
 refine shW_env _ he293 ?_; clear he293
 replace h45 := h45.mono (slE_ok (slE_ok (iE_ok _))) hF295
 replace h48 := h48.mono (iE_ok _) hF295
 replace h51 := h51.mono (prE_ok (iE_ok _) (prE_ok (iE_ok _) (iE_ok _))) hF295
 replace hz92 := hz92.mono (slE_ok (iE_ok _)) hF295
 rw [oyezlaw07_BookTold_j1] at r292
 refine shW_join (fun e1 F1 L1 => oyezlaw07_BookTold_j9 = some r ∧ FExt F294 F1 ∧ L1 = [] ∧ e1.sub []) ?_ ?_
 · refine wsr (om rfl rfl ?_)
   refine ov ((v_lenS Try.underlying42 rfl).i (SlR.lenI hz92)) rfl ?_
   refine om rfl rfl (shO_nil ?_)
   refine shW_block ?_
   refine shW_lp (fun fu10 e1 F1 L1 => ∃ (tl7 : List (List Int)) (k8 : Int), tl7.length = fu10 ∧ Lst l6 k8 tl7 ∧ oyezlaw07_BookTold_l10 n n2 l l2 l3 tl7 = some r ∧ FExt F294 F1 ∧ L1 = ((b42, .cells #[.int .i64 n, .int .i64 n2, .slice a17 l.length c18, .slice a23 l2.length c24, .slice a29 l3.length c30] 27 (0, 0)) :: (Lb91 ++ [])) ∧ e1.sub [(5, .pointer (some ⟨b42, 0, none⟩)), (178, .slice a89 n93 c90), (179, .int .i64 (l6.length : Int)), (180, .int .i64 k8)]) _ (m0 kr ⟨_, _, rfl, Lst.start _, r292, FExt.refl _, rfl, (sc rfl (sc rfl (sc rfl (sc rfl (sn _)))))⟩) ?_
   rintro fu10 e1 F300 _ ⟨tl7, k8, hn297, hk296, r298, hF301, rfl, he299⟩
   refine shW_env _ he299 ?_; clear he299
   replace h45 := h45.mono (slE_ok (slE_ok (iE_ok _))) hF301
   replace h48 := h48.mono (iE_ok _) hF301
   replace h51 := h51.mono (prE_ok (iE_ok _) (prE_ok (iE_ok _) (iE_ok _))) hF301
   replace hz92 := hz92.mono (slE_ok (iE_ok _)) hF301
   refine wsr ?_
   refine ov (v_lssK rfl rfl) rfl ?_
   refine shO_nil (shW_seq ?_)
   refine shW_condP rfl (fun c303 => ?_) (fun c303 => ?_)
   · obtain ⟨x5, tl8, rfl, hx305, g306, hk304⟩ := Lst.succ hk296 c303
     rw [oyezlaw07_BookTold_l10] at r298
     refine shW_skip ?_
     refine shW_join (fun e1 F1 L1 => oyezlaw07_BookTold_j11 (oyezlaw07_BookTold_l10 n n2 l l2 l3 tl8) = some r ∧ FExt F300 F1 ∧ L1 = ((b42, .cells #[.int .i64 n, .int .i64 n2, .slice a17 l.length c18, .slice a23 l2.length c24, .slice a29 l3.length c30] 27 (0, 0)) :: (Lb91 ++ [])) ∧ e1.sub [(5, .pointer (some ⟨b42, 0, none⟩)), (178, .slice a89 n93 c90), (179, .int .i64 (l6.length : Int)), (180, .int .i64 k8)]) ?_ ?_
     · refine shW_block ?_
       refine wsr ?_
       obtain ⟨b307, o308, c309, vs310, ha311, hs312, hle313, ⟨a316, c317, rfl, h318⟩, hl314, hc315⟩ := SlR.at (slE_ok (iE_ok _)) hz92 (L := (b42, .cells #[.int .i64 n, .int .i64 n2, .slice a17 l.length c18, .slice a23 l2.length c24, .slice a29 l3.length c30] 27 (0, 0)) :: (Lb91 ++ [])) (fC fP) g306.1 hx305
       refine ov (v_indexO Try.underlying42 Try.sizeOf24 rfl ha311 rfl (SlR.idx hz92 g306)) rfl ?_
       refine ov (v_load Try.isAgg24 rfl hs312 (hc315 0 (by decide))) rfl ?_
       refine oa rfl rfl (nsr ?_)
       refine ov (v_loadA (cs := #[.int .i64 n, .int .i64 n2, .slice a17 l.length c18, .slice a23 l2.length c24, .slice a29 l3.length c30]) Try.isAgg27 Try.sizeOf27 rfl (Has.own 0 rfl) (Nat.le_of_ble_eq_true rfl) rfl) rfl ?_
       refine om rfl rfl ?_
       obtain ⟨l8, n6, h319, r320⟩ := b2_ok r298; clear r298
       refine o_call0 rfl Try.call37 rfl rfl rfl (book_Heard_w h45 h48 h51 h318 h319) ?_; rintro _ F321 _ hF322 hn323 ⟨a325, c326, rfl, rfl, h327⟩
       replace h45 := h45.mono (slE_ok (slE_ok (iE_ok _))) hF322
       replace h48 := h48.mono (iE_ok _) hF322
       replace h51 := h51.mono (prE_ok (iE_ok _) (prE_ok (iE_ok _) (iE_ok _))) hF322
       replace h318 := h318.mono (iE_ok _) hF322
       refine shO_L (ln rfl) ?_
       refine om rfl rfl (ox rfl rfl rfl (ox rfl rfl rfl (oa rfl rfl (oa rfl rfl (nsr ?_)))))
       refine ov (v_loadA (cs := #[.int .i64 n, .int .i64 n2, .slice a17 l.length c18, .slice a23 l2.length c24, .slice a29 l3.length c30]) Try.isAgg27 Try.sizeOf27 rfl (Has.own 0 rfl) (Nat.le_of_ble_eq_true rfl) rfl) rfl ?_
       refine om rfl rfl ?_
       obtain ⟨ok7, n7, h328, r329⟩ := b2_ok r320; clear r320
       refine o_callV rfl Try.call32 rfl rfl rfl (book_Fits_w h45 h48 h51 h318 h328) ?_
       refine om rfl rfl (ox rfl rfl rfl (ox rfl rfl rfl (oa rfl rfl (oa rfl rfl (shO_nil (shW_seq ?_))))))
       obtain ⟨k9, h330, r331⟩ := b1_ok r329; clear r329
       refine shW_join (fun e1 F1 L1 => F321 = F1 ∧ L1 = ((b42, .cells #[.int .i64 n, .int .i64 n2, .slice a17 l.length c18, .slice a23 l2.length c24, .slice a29 l3.length c30] 27 (0, 0)) :: (Lb91 ++ [])) ∧ e1.sub [(5, .pointer (some ⟨b42, 0, none⟩)), (26, .slice a316 x5.length c317), (27, .slice a325 l8.length c326), (178, .slice a89 n93 c90), (179, .int .i64 (l6.length : Int)), (180, .int .i64 k8), (212, .bool k9)]) ?_ ?_
       · clear r331
         refine shW_region (om rfl rfl ?_)
         refine ov (v_neq rfl rfl) rfl ?_
         refine om rfl rfl ?_
         by_cases c332 : n6 ≠ 0
         · have r333 := ite_t h330 c332; clear h330
           refine shO_off (b' := true) 198 rfl (Env.isT rfl c332) rfl rfl (shO_off (b' := true) 198 rfl (Env.isT rfl c332) rfl rfl ?_)
           refine ov (v_pick_t (evD_true rfl c332) rfl) rfl ?_
           refine om rfl rfl (shO_off (b' := true) 202 rfl rfl rfl rfl (shO_off (b' := true) 202 rfl rfl rfl rfl ?_))
           refine ov (v_pick_t rfl rfl) rfl ?_
           refine om rfl rfl (shO_off (b' := true) 206 rfl rfl rfl rfl (shO_off (b' := true) 206 rfl rfl rfl rfl (shO_off (b' := true) 206 rfl rfl rfl rfl (shO_off (b' := true) 206 rfl rfl rfl rfl (shO_off (b' := true) 206 rfl rfl rfl rfl ?_)))))
           refine ov (v_pick_t rfl rfl) rfl ?_
           refine shO_nil ?_
           obtain rfl := inj1 r333
           exact mi kr ⟨rfl, rfl, (sc rfl (sc rfl (sc rfl (sc rfl (sc rfl (sc rfl (sc rfl (sn _))))))))⟩
         have r334 := ite_f h330 c332; clear h330
         refine shO_on (b := false) 198 rfl (Env.isF rfl c332) (om rfl rfl (shO_on (b := false) 198 rfl (Env.isF rfl c332) ?_))
         refine ov (v_neq rfl rfl) rfl ?_
         refine ov (v_pick_f (evD_false rfl c332) rfl) rfl ?_
         refine om rfl rfl ?_
         by_cases c335 : n7 ≠ 0
         · have r336 := ite_t r334 c335; clear r334
           refine shO_off (b' := true) 202 rfl (Env.isT rfl c335) rfl rfl (shO_off (b' := true) 202 rfl (Env.isT rfl c335) rfl rfl ?_)
           refine ov (v_pick_t (evD_true rfl c335) rfl) rfl ?_
           refine om rfl rfl (shO_off (b' := true) 206 rfl rfl rfl rfl (shO_off (b' := true) 206 rfl rfl rfl rfl (shO_off (b' := true) 206 rfl rfl rfl rfl (shO_off (b' := true) 206 rfl rfl rfl rfl (shO_off (b' := true) 206 rfl rfl rfl rfl ?_)))))
           refine ov (v_pick_t rfl rfl) rfl ?_
           refine shO_nil ?_
           obtain rfl := inj1 r336
           exact mi kr ⟨rfl, rfl, (sc rfl (sc rfl (sc rfl (sc rfl (sc rfl (sc rfl (sc rfl (sn _))))))))⟩
         have r337 := ite_f r334 c335; clear r334
         refine shO_on (b := false) 202 rfl (Env.isF rfl c335) (om rfl rfl (shO_on (b := false) 202 rfl (Env.isF rfl c335) ?_))
         refine ov (v_notB rfl) rfl ?_
         refine ov (v_pick_f (evD_false rfl c335) rfl) rfl ?_
         refine om rfl rfl ?_
         rcases bool_two (!ok7) with c338 | c338
         · have r339 := bt r337 c338; clear r337
           refine shO_off (b' := true) 206 rfl (EnvB rfl c338) rfl rfl (shO_off (b' := true) 206 rfl (EnvB rfl c338) rfl rfl (shO_off (b' := true) 206 rfl (EnvB rfl c338) rfl rfl (shO_off (b' := true) 206 rfl (EnvB rfl c338) rfl rfl (shO_off (b' := true) 206 rfl (EnvB rfl c338) rfl rfl ?_))))
           refine ov (v_pick_t (evB rfl c338) rfl) rfl ?_
           refine shO_nil ?_
           obtain rfl := inj1 r339
           exact mi kr ⟨rfl, rfl, (sc rfl (sc rfl (sc rfl (sc rfl (sc rfl (sc rfl (sc rfl (sn _))))))))⟩
         have r340 := bf r337 c338; clear r337
         refine shO_on (b := false) 206 rfl (EnvB rfl c338) (om rfl rfl (shO_on (b := false) 206 rfl (EnvB rfl c338) ?_))
         refine ov (v_lenS Try.underlying42 rfl) rfl ?_
         refine shO_on (b := false) 206 rfl (EnvB rfl c338) ?_
         refine ov (v_fieldAddr fa_27_0 rfl) rfl ?_
         refine shO_on (b := false) 206 rfl (EnvB rfl c338) ?_
         refine ov (v_load Try.isAgg3 rfl (Has.own 0 rfl) rfl) rfl ?_
         refine shO_on (b := false) 206 rfl (EnvB rfl c338) ?_
         refine ov (v_neq rfl rfl) rfl ?_
         refine ov (v_pick_f (evB rfl c338) rfl) rfl ?_
         refine shO_nil ?_
         obtain rfl := inj1 r340
         exact mi kr ⟨rfl, rfl, (sc rfl (sc rfl (sc rfl (sc rfl (sc rfl (sc rfl (sc rfl (sn _))))))))⟩
       rintro e1 _ _ ⟨rfl, rfl, he341⟩
       refine shW_env _ he341 ?_; clear he341
       refine shW_cond rfl (fun c342 => ?_) (fun c342 => ?_)
       · have r343 := bt r331 c342; clear r331
         refine wsr (oa rfl rfl (shO_nil ?_))
         refine kW kn ?_
         refine shW_ret (andThen_ret (inBlock_ret (andThen_ret (andThen_ret (inBlock_ret (andThen_ret ?_))))))
         refine q_res1 Try.results8 (res_tmp rfl) (sr) ?_
         obtain rfl := inj1 r343
         exact rfl
       have r344 := bf r331 c342; clear r331
       refine shW_skip (wsr (om rfl rfl ?_))
       refine ov (v_lenS Try.underlying42 rfl) rfl ?_
       refine om rfl rfl (shO_nil ?_)
       refine shW_block ?_
       refine shW_lp (fun fu12 e1 F1 L1 => ∃ (tl9 : List (List Int)) (k10 : Int), tl9.length = fu12 ∧ Lst l8 k10 tl9 ∧ oyezlaw07_BookTold_l12 n n2 l l2 l3 x5 (oyezlaw07_BookTold_l10 n n2 l l2 l3 tl8) tl9 k10 = some r ∧ F321 = F1 ∧ L1 = ((b42, .cells #[.int .i64 n, .int .i64 n2, .slice a17 l.length c18, .slice a23 l2.length c24, .slice a29 l3.length c30] 27 (0, 0)) :: (Lb91 ++ [])) ∧ e1.sub [(5, .pointer (some ⟨b42, 0, none⟩)), (26, .slice a316 x5.length c317), (178, .slice a89 n93 c90), (179, .int .i64 (l6.length : Int)), (180, .int .i64 k8), (213, .slice a325 l8.length c326), (214, .int .i64 (l8.length : Int)), (215, .int .i64 k10)]) _ (m0 kr ⟨_, _, rfl, Lst.start _, r344, rfl, rfl, (sc rfl (sc rfl (sc rfl (sc rfl (sc rfl (sc rfl (sc rfl (sc rfl (sn _)))))))))⟩) ?_
       rintro fu12 e1 _ _ ⟨tl9, k10, hn346, hk345, r347, rfl, rfl, he348⟩
       refine shW_env _ he348 ?_; clear he348
       refine wsr ?_
       refine ov (v_lssK rfl rfl) rfl ?_
       refine shO_nil (shW_seq ?_)
       refine shW_condP rfl (fun c350 => ?_) (fun c350 => ?_)
       · obtain ⟨x6, tl10, rfl, hx352, g353, hk351⟩ := Lst.succ hk345 c350
         rw [oyezlaw07_BookTold_l12] at r347
         refine shW_skip ?_
         refine shW_join (fun e1 F1 L1 => oyezlaw07_BookTold_j13 k10 (oyezlaw07_BookTold_l12 n n2 l l2 l3 x5 (oyezlaw07_BookTold_l10 n n2 l l2 l3 tl8) tl10) = some r ∧ F321 = F1 ∧ L1 = ((b42, .cells #[.int .i64 n, .int .i64 n2, .slice a17 l.length c18, .slice a23 l2.length c24, .slice a29 l3.length c30] 27 (0, 0)) :: (Lb91 ++ [])) ∧ e1.sub [(5, .pointer (some ⟨b42, 0, none⟩)), (26, .slice a316 x5.length c317), (178, .slice a89 n93 c90), (179, .int .i64 (l6.length : Int)), (180, .int .i64 k8), (213, .slice a325 l8.length c326), (214, .int .i64 (l8.length : Int)), (215, .int .i64 k10)]) ?_ ?_
         · refine shW_block ?_
           refine wsr (om rfl rfl ?_)
           obtain ⟨b354, o355, c356, vs357, ha358, hs359, hle360, ⟨a363, c364, rfl, h365⟩, hl361, hc362⟩ := RowR.at (slE_ok (iE_ok _)) h327 ((b42, .cells #[.int .i64 n, .int .i64 n2, .slice a17 l.length c18, .slice a23 l2.length c24, .slice a29 l3.length c30] 27 (0, 0)) :: (Lb91 ++ [])) g353.1 hx352
           refine ov (v_indexO Try.underlying42 Try.sizeOf24 rfl ha358 rfl g353) rfl ?_
           refine ov (v_load Try.isAgg24 rfl hs359 (hc362 0 (by decide))) rfl ?_
           refine oa rfl rfl (oa rfl rfl (nsr ?_))
           refine ov (v_fieldAddr fa_27_1 rfl) rfl ?_
           refine ov (v_load Try.isAgg3 rfl (Has.own 0 rfl) rfl) rfl ?_
           refine om rfl rfl (shO_nil ?_)
           refine shW_block ?_
           obtain ⟨g366, r367⟩ := gd_ok r347; clear r347
           refine shW_lp (fun fu14 e1 F1 L1 => ∃ (k11 : Int), Ctr 0 n2 k11 fu14 ∧ oyezlaw07_BookTold_l14 n n2 l l2 l3 x5 k10 x6 (oyezlaw07_BookTold_l12 n n2 l l2 l3 x5 (oyezlaw07_BookTold_l10 n n2 l l2 l3 tl8) tl10) fu14 k11 = some r ∧ F321 = F1 ∧ L1 = ((b42, .cells #[.int .i64 n, .int .i64 n2, .slice a17 l.length c18, .slice a23 l2.length c24, .slice a29 l3.length c30] 27 (0, 0)) :: (Lb91 ++ [])) ∧ e1.sub [(5, .pointer (some ⟨b42, 0, none⟩)), (26, .slice a316 x5.length c317), (31, .int .i64 k10), (32, .slice a363 x6.length c364), (178, .slice a89 n93 c90), (179, .int .i64 (l6.length : Int)), (180, .int .i64 k8), (213, .slice a325 l8.length c326), (214, .int .i64 (l8.length : Int)), (215, .int .i64 k10), (221, .int .i64 n2), (222, .int .i64 k11)]) _ (m0 kr ⟨_, Ctr.start _ _, r367, rfl, rfl, (sc rfl (sc rfl (sc rfl (sc rfl (sc rfl (sc rfl (sc rfl (sc rfl (sc rfl (sc rfl (sc rfl (sc rfl (sn _)))))))))))))⟩) ?_
           rintro fu14 e1 _ _ ⟨k11, hk368, r370, rfl, rfl, he371⟩
           refine shW_env _ he371 ?_; clear he371
           refine wsr ?_
           refine ov (v_lssK rfl rfl) rfl ?_
           refine shO_nil (shW_seq ?_)
           refine shW_condP rfl (fun c373 => ?_) (fun c373 => ?_)
           · obtain ⟨fu14, rfl, hk374⟩ := Ctr.succ hk368 c373
             rw [oyezlaw07_BookTold_l14] at r370
             refine shW_skip (shW_seq ?_)
             refine shW_block ?_
             refine wsr (om rfl rfl (oa rfl rfl ?_))
             refine nsd (by kernel_rfl) (by kernel_rfl) (by kernel_rfl) ?_
             refine qm rfl rfl (qm rfl rfl ?_)
             obtain ⟨ok8, h375, r376⟩ := b1_ok r370; clear r370
             refine shQ_callV rfl Try.call20 rfl rfl rfl (slices_Contains_int_int_w h365 h375) ?_
             refine qv (v_loadA (cs := #[.int .i64 n, .int .i64 n2, .slice a17 l.length c18, .slice a23 l2.length c24, .slice a29 l3.length c30]) Try.isAgg27 Try.sizeOf27 rfl (Has.own 0 rfl) (Nat.le_of_ble_eq_true rfl) rfl) rfl ?_
             refine qm rfl rfl (qm rfl rfl (qm rfl rfl ?_))
             obtain ⟨ok9, h377, r378⟩ := b1_ok r376; clear r376
             refine shQ_callV rfl Try.call34 rfl rfl rfl (oyezlaw07_heard_w h45 h48 h51 h318 h377) ?_
             refine qv (v_neqB Try.underlying4 rfl rfl) rfl ?_
             refine shQ_nil ?_
             refine shW_condP rfl (fun c379 => ?_) (fun c379 => ?_)
             · have r380 := ite_t r378 c379; clear r378
               refine wsr (oa rfl rfl (shO_nil ?_))
               refine kW kn ?_
               refine shW_ret (inBlock_ret (andThen_ret (andThen_ret (inBlock_ret (inBlock_ret (andThen_ret (andThen_ret (inBlock_ret (inBlock_ret ?_)))))))))
               refine andThen_ret (andThen_ret (inBlock_ret (andThen_ret ?_)))
               refine q_res1 Try.results8 (res_tmp rfl) (sr) ?_
               obtain rfl := inj1 r380
               exact rfl
             have r381 := ite_f r378 c379; clear r378
             refine shW_skip (inBlock_n (id := 13) (shW_region ?_))
             refine ov (v_add rfl rfl (Ctr.r64 hk368 c373 g366)) rfl ?_
             refine om rfl rfl (shO_nil ?_)
             exact le kr ⟨_, hk374, r381, rfl, rfl, (sc rfl (sc rfl (sc rfl (sc rfl (sc rfl (sc rfl (sc rfl (sc rfl (sc rfl (sc rfl (sc rfl (sc rfl (sn _)))))))))))))⟩
           obtain rfl := Ctr.zero hk368 c373
           rw [oyezlaw07_BookTold_l14] at r370
           refine shW_exit (andThen_exit (andThen_exit ?_))
           refine inBlock_exit ?_
           refine inBlock_n (id := 11) ?_
           exact mi kr ⟨r370, rfl, rfl, (sc rfl (sc rfl (sc rfl (sc rfl (sc rfl (sc rfl (sc rfl (sc rfl (sn _)))))))))⟩
         rintro e1 _ _ ⟨r382, rfl, rfl, he383⟩
         refine shW_env _ he383 ?_; clear he383
         rw [oyezlaw07_BookTold_j13] at r382
         refine shW_region ?_
         refine ov (v_add rfl rfl (Lst.r64 hk345 c350 (RowR.lt h327))) rfl ?_
         refine om rfl rfl (shO_nil ?_)
         subst hn346; exact le kr ⟨_, _, rfl, hk351, r382, rfl, rfl, (sc rfl (sc rfl (sc rfl (sc rfl (sc rfl (sc rfl (sc rfl (sc rfl (sn _)))))))))⟩
       obtain rfl := Lst.zero hk345 c350
       rw [oyezlaw07_BookTold_l12] at r347
       refine shW_exit (andThen_exit (andThen_exit ?_))
       refine inBlock_exit ?_
       refine inBlock_n (id := 9) ?_
       exact mi kr ⟨r347, hF322, rfl, (sc rfl (sc rfl (sc rfl (sc rfl (sn _)))))⟩
     rintro e1 F386 _ ⟨r384, hF387, rfl, he385⟩
     refine shW_env _ he385 ?_; clear he385
     replace hz92 := hz92.mono (slE_ok (iE_ok _)) hF387
     rw [oyezlaw07_BookTold_j11] at r384
     refine shW_region ?_
     refine ov (v_add rfl rfl (Lst.r64 hk296 c303 (SlR.llt hz92))) rfl ?_
     refine om rfl rfl (shO_nil ?_)
     subst hn297; exact le kr ⟨_, _, rfl, hk304, r384, (hF301.trans hF387), rfl, (sc rfl (sc rfl (sc rfl (sc rfl (sn _)))))⟩
   obtain rfl := Lst.zero hk296 c303
   rw [oyezlaw07_BookTold_l10] at r298
   refine shW_exit (andThen_exit (andThen_exit ?_))
   refine inBlock_exit ?_
   exact mi kn ⟨r298, hF301, rfl, (sn _)⟩
 rintro e1 F390 _ ⟨r388, hF391, rfl, he389⟩
 refine shW_env _ he389 ?_; clear he389
 rw [oyezlaw07_BookTold_j9] at r388
 refine wsr ?_
 obtain ⟨ok10, h392, r393⟩ := b1_ok r388; clear r388
 refine o_callV rfl Try.call16 rfl rfl rfl (oyezlaw07_awake_w h392) ?_
 refine oa rfl rfl (shO_nil (shW_ret ?_))
 refine q_res1 Try.results8 (res_tmp rfl) (sr) ?_
 obtain rfl := inj1 r393
 exact rfl
end Go.Proofs.Ytodhcoakjlmcdaa
