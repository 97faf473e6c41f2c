/- The walks that this claim needs, printed by a program of mine; part 3. -/
import Derived.Test.YtodhcoakjlmcdaaZDND2
namespace Go.Proofs.Ytodhcoakjlmcdaa
open Go.SH Go.PL
set_option maxHeartbeats 1000000 in
theorem oyezlaw07_awake_w {F : FS} {r : Bool} (hr : oyezlaw07_awake = some r) :
    SpecV Try.prog 16 #[] F (.bool r) := by
 refine spec_of_shW (args := []) Try.func16 rfl Try.ntmps16 (Nat.le_of_ble_eq_true rfl) ?_
 intro K _ _; rw [oyezlaw07_awake] at hr
 refine wsr (oa rfl rfl (nsr ?_))
 obtain ⟨n, n2, l, l2, l3, h1, r2⟩ := b5_ok hr; clear hr
 refine o_call0 rfl Try.call45 rfl rfl rfl (oyezlaw07_Bell_w h1) ?_; rintro _ F3 _ hF4 hn5 ⟨a7, n11, c8, Lb9, a13, n17, c14, Lb15, a19, n23, c20, Lb21, rfl, rfl, hz10, hz16, hz22⟩
 replace hz10 := hz10.new fun p hp => hn5 p (by simp [hp])
 replace hz16 := hz16.new fun p hp => hn5 p (by simp [hp])
 replace hz22 := hz22.new fun p hp => hn5 p (by simp [hp])
 refine shO_L (lp (lp (lp (ln rfl)))) ?_
 obtain ⟨n3, n4, h25, r26⟩ := b2_ok r2; clear r2
 refine o_callT (Lt := Lb9 ++ (Lb15 ++ (Lb21 ++ []))) (Lr := []) rfl Try.call14 rfl rfl rfl (pT pR (lp (lp (lp (ln rfl))))) (fun F2 h2 h3 => by rw [(SlR.caps hz10).1]; rw [(SlR.caps hz16).1]; rw [(SlR.caps hz22).1]; exact book_Count_w (hz10.row (slE_ok (slE_ok (iE_ok _))) h2 (fun p hp => h3 p (List.mem_append_left _ hp))) (hz16.row (iE_ok _) h2 (fun p hp => h3 p (List.mem_append_right _ (List.mem_append_left _ hp)))) (hz22.row (prE_ok (iE_ok _) (prE_ok (iE_ok _) (iE_ok _))) h2 (fun p hp => h3 p (List.mem_append_right _ (List.mem_append_right _ (List.mem_append_left _ hp))))) h25) ?_
 refine om rfl rfl (ox rfl rfl rfl (ox rfl rfl rfl (oa rfl rfl (oa rfl rfl (nsr ?_)))))
 obtain ⟨n5, n6, l4, l5, l6, h27, r28⟩ := b5_ok r26; clear r26
 refine o_call0 rfl Try.call45 rfl rfl rfl (oyezlaw07_Bell_w h27) ?_; rintro _ F29 _ hF30 hn31 ⟨a33, n37, c34, Lb35, a39, n43, c40, Lb41, a45, n49, c46, Lb47, rfl, rfl, hz36, hz42, hz48⟩
 replace hz36 := hz36.new fun p hp => hn31 p (by simp [hp])
 replace hz42 := hz42.new fun p hp => hn31 p (by simp [hp])
 replace hz48 := hz48.new fun p hp => hn31 p (by simp [hp])
 refine shO_L (lp (lp (lp (ln rfl)))) ?_
 obtain ⟨l7, n7, h51, r52⟩ := b2_ok r28; clear r28
 refine o_callTO (Lb := []) (Lt := Lb35 ++ (Lb41 ++ (Lb47 ++ []))) (Lr := Lb9 ++ (Lb15 ++ (Lb21 ++ []))) rfl Try.call17 rfl rfl rfl (pT pR (ln (lp (lp (lp (ln rfl)))))) (fun F2 h2 h3 => by rw [(SlR.caps hz36).1]; rw [(SlR.caps hz42).1]; rw [(SlR.caps hz48).1]; exact book_First_w (hz36.row (slE_ok (slE_ok (iE_ok _))) h2 (fun p hp => h3 p (List.mem_append_left _ hp))) (hz42.row (iE_ok _) h2 (fun p hp => h3 p (List.mem_append_right _ (List.mem_append_left _ hp)))) (hz48.row (prE_ok (iE_ok _) (prE_ok (iE_ok _) (iE_ok _))) h2 (fun p hp => h3 p (List.mem_append_right _ (List.mem_append_right _ (List.mem_append_left _ hp))))) h51) (fun _ _ _ _ hq => by obtain ⟨a57, n61, c58, Lb59, rfl, rfl, hz60⟩ := hq; exact ⟨_, _, _, _, rfl, rfl, hz60.flat (fun _ _ h => h)⟩) ?_; rintro _ F53 _ hF54 hd56 hn55 ⟨a57, n61, c58, Lb59, rfl, rfl, hz60⟩
 have hn63 := newp (Lb' := []) (by rfl) hd56 hn55
 replace hz60 := hz60.new fun p hp => hn63 p (by simp [hp])
 refine shO_L (lp (ln (lp (lp (lp (ln rfl)))))) ?_
 refine om rfl rfl (ox rfl rfl rfl (ox rfl rfl rfl (oa rfl rfl (oa rfl rfl (nsr ?_)))))
 obtain ⟨n8, n9, l8, l9, l10, h64, r65⟩ := b5_ok r52; clear r52
 refine o_call0 rfl Try.call45 rfl rfl rfl (oyezlaw07_Bell_w h64) ?_; rintro _ F66 _ hF67 hn68 ⟨a70, n74, c71, Lb72, a76, n80, c77, Lb78, a82, n86, c83, Lb84, rfl, rfl, hz73, hz79, hz85⟩
 replace hz60 := hz60.mono (iE_ok _) hF67
 replace hz73 := hz73.new fun p hp => hn68 p (by simp [hp])
 replace hz79 := hz79.new fun p hp => hn68 p (by simp [hp])
 replace hz85 := hz85.new fun p hp => hn68 p (by simp [hp])
 refine shO_L (lp (lp (lp (ln rfl)))) ?_
 obtain rfl := (SlR.caps hz73).1
 refine shO_freezeR (Nat.le_refl _) (slE_ok (slE_ok (iE_ok _))) fP hz73 ?_; intro F88 hF89 h90
 replace hz60 := hz60.mono (iE_ok _) hF89
 replace hz79 := hz79.mono (iE_ok _) hF89
 replace hz85 := hz85.mono (prE_ok (iE_ok _) (prE_ok (iE_ok _) (iE_ok _))) hF89
 obtain rfl := (SlR.caps hz79).1
 refine shO_freezeR (Nat.le_refl _) (iE_ok _) fP hz79 ?_; intro F91 hF92 h93
 replace h90 := h90.mono (slE_ok (slE_ok (iE_ok _))) hF92
 replace hz60 := hz60.mono (iE_ok _) hF92
 replace hz85 := hz85.mono (prE_ok (iE_ok _) (prE_ok (iE_ok _) (iE_ok _))) hF92
 obtain rfl := (SlR.caps hz85).1
 refine shO_freezeR (Nat.le_refl _) (prE_ok (iE_ok _) (prE_ok (iE_ok _) (iE_ok _))) fP hz85 ?_; intro F94 hF95 h96
 replace h90 := h90.mono (slE_ok (slE_ok (iE_ok _))) hF95
 replace h93 := h93.mono (iE_ok _) hF95
 replace hz60 := hz60.mono (iE_ok _) hF95
 obtain ⟨l11, n10, h97, r98⟩ := b2_ok r65; clear r65
 refine o_call0 rfl Try.call13 rfl rfl rfl (book_Verdicts_w h90 h93 h96 h97) ?_; rintro _ F99 _ hF100 hn101 ⟨a103, c104, rfl, rfl, h105⟩
 replace hz60 := hz60.mono (iE_ok _) hF100
 refine shO_L (ln rfl) ?_
 refine om rfl rfl (ox rfl rfl rfl (ox rfl rfl rfl (oa rfl rfl (oa rfl rfl (nsr ?_)))))
 obtain ⟨n11, n12, l12, l13, l14, h106, r107⟩ := b5_ok r98; clear r98
 refine o_call0 rfl Try.call45 rfl rfl rfl (oyezlaw07_Bell_w h106) ?_; rintro _ F108 _ hF109 hn110 ⟨a112, n116, c113, Lb114, a118, n122, c119, Lb120, a124, n128, c125, Lb126, rfl, rfl, hz115, hz121, hz127⟩
 replace h105 := h105.mono (slE_ok (iE_ok _)) hF109
 replace hz60 := hz60.mono (iE_ok _) hF109
 replace hz115 := hz115.new fun p hp => hn110 p (by simp [hp])
 replace hz121 := hz121.new fun p hp => hn110 p (by simp [hp])
 replace hz127 := hz127.new fun p hp => hn110 p (by simp [hp])
 refine shO_L (lp (lp (lp (ln rfl)))) ?_
 obtain rfl := (SlR.caps hz115).1
 refine shO_freezeR (Nat.le_refl _) (slE_ok (slE_ok (iE_ok _))) fP hz115 ?_; intro F130 hF131 h132
 replace h105 := h105.mono (slE_ok (iE_ok _)) hF131
 replace hz60 := hz60.mono (iE_ok _) hF131
 replace hz121 := hz121.mono (iE_ok _) hF131
 replace hz127 := hz127.mono (prE_ok (iE_ok _) (prE_ok (iE_ok _) (iE_ok _))) hF131
 obtain rfl := (SlR.caps hz121).1
 refine shO_freezeR (Nat.le_refl _) (iE_ok _) fP hz121 ?_; intro F133 hF134 h135
 replace h105 := h105.mono (slE_ok (iE_ok _)) hF134
 replace h132 := h132.mono (slE_ok (slE_ok (iE_ok _))) hF134
 replace hz60 := hz60.mono (iE_ok _) hF134
 replace hz127 := hz127.mono (prE_ok (iE_ok _) (prE_ok (iE_ok _) (iE_ok _))) hF134
 obtain rfl := (SlR.caps hz127).1
 refine shO_freezeR (Nat.le_refl _) (prE_ok (iE_ok _) (prE_ok (iE_ok _) (iE_ok _))) fP hz127 ?_; intro F136 hF137 h138
 replace h105 := h105.mono (slE_ok (iE_ok _)) hF137
 replace h132 := h132.mono (slE_ok (slE_ok (iE_ok _))) hF137
 replace h135 := h135.mono (iE_ok _) hF137
 replace hz60 := hz60.mono (iE_ok _) hF137
 obtain ⟨l15, n13, h139, r140⟩ := b2_ok r107; clear r107
 refine o_call0 rfl Try.call15 rfl rfl rfl (book_Winds_w h132 h135 h138 h139) ?_; rintro _ F141 _ hF142 hn143 ⟨a145, n149, c146, Lb147, rfl, rfl, hz148⟩
 replace h105 := h105.mono (slE_ok (iE_ok _)) hF142
 replace hz60 := hz60.mono (iE_ok _) hF142
 replace hz148 := hz148.new fun p hp => hn143 p (by simp [hp])
 refine shO_L (lp (ln rfl)) ?_
 refine om rfl rfl (ox rfl rfl rfl (ox rfl rfl rfl (oa rfl rfl (oa rfl rfl (shO_nil (shW_seq ?_))))))
 obtain ⟨k, h151, r152⟩ := b1_ok r140; clear r140
 refine shW_join (fun e1 F1 L1 => FExt F141 F1 ∧ L1 = [] ∧ e1.sub [(73, .bool k)]) ?_ ?_
 · clear r152
   refine shW_region (om rfl rfl ?_)
   refine ov (v_neq rfl rfl) rfl ?_
   refine om rfl rfl ?_
   by_cases c153 : n4 ≠ 0
   · have r154 := ite_t h151 c153; clear h151
     refine shO_off (b' := true) 35 rfl (Env.isT rfl c153) rfl rfl (shO_off (b' := true) 35 rfl (Env.isT rfl c153) rfl rfl ?_)
     refine ov (v_pick_t (evD_true rfl c153) rfl) rfl ?_
     refine om rfl rfl (shO_off (b' := true) 39 rfl rfl rfl rfl (shO_off (b' := true) 39 rfl rfl rfl rfl ?_))
     refine ov (v_pick_t rfl rfl) rfl ?_
     refine om rfl rfl (shO_off (b' := true) 43 rfl rfl rfl rfl (shO_off (b' := true) 43 rfl rfl rfl rfl ?_))
     refine ov (v_pick_t rfl rfl) rfl ?_
     refine om rfl rfl (shO_off (b' := true) 47 rfl rfl rfl rfl (shO_off (b' := true) 47 rfl rfl rfl rfl ?_))
     refine ov (v_pick_t rfl rfl) rfl ?_
     refine om rfl rfl (shO_off (b' := true) 51 rfl rfl rfl rfl (shO_off (b' := true) 51 rfl rfl rfl rfl (shO_off (b' := true) 51 rfl rfl rfl rfl (shO_off (b' := true) 51 rfl rfl rfl rfl ?_))))
     refine ov (v_pick_t rfl rfl) rfl ?_
     refine om rfl rfl (shO_off (b' := true) 57 rfl rfl rfl rfl (shO_off (b' := true) 57 rfl rfl rfl rfl (shO_off (b' := true) 57 rfl rfl rfl rfl (shO_off (b' := true) 57 rfl rfl rfl rfl (shO_off (b' := true) 57 rfl rfl rfl rfl (shO_off (b' := true) 57 rfl rfl rfl rfl ?_))))))
     refine ov (v_pick_t rfl rfl) rfl ?_
     refine om rfl rfl (shO_off (b' := true) 65 rfl rfl rfl rfl (shO_off (b' := true) 65 rfl rfl rfl rfl (shO_off (b' := true) 65 rfl rfl rfl rfl (shO_off (b' := true) 65 rfl rfl rfl rfl (shO_off (b' := true) 65 rfl rfl rfl rfl (shO_off (b' := true) 65 rfl rfl rfl rfl (shO_off (b' := true) 65 rfl rfl rfl rfl ?_)))))))
     refine ov (v_pick_t rfl rfl) rfl ?_
     refine shO_nil ?_
     obtain rfl := inj1 r154
     exact mi kn ⟨FExt.refl _, rfl, (sc rfl (sn _))⟩
   have r155 := ite_f h151 c153; clear h151
   refine shO_on (b := false) 35 rfl (Env.isF rfl c153) (om rfl rfl (shO_on (b := false) 35 rfl (Env.isF rfl c153) ?_))
   refine ov (v_neq rfl rfl) rfl ?_
   refine ov (v_pick_f (evD_false rfl c153) rfl) rfl ?_
   refine om rfl rfl ?_
   by_cases c156 : n7 ≠ 0
   · have r157 := ite_t r155 c156; clear r155
     refine shO_off (b' := true) 39 rfl (Env.isT rfl c156) rfl rfl (shO_off (b' := true) 39 rfl (Env.isT rfl c156) rfl rfl ?_)
     refine ov (v_pick_t (evD_true rfl c156) rfl) rfl ?_
     refine om rfl rfl (shO_off (b' := true) 43 rfl rfl rfl rfl (shO_off (b' := true) 43 rfl rfl rfl rfl ?_))
     refine ov (v_pick_t rfl rfl) rfl ?_
     refine om rfl rfl (shO_off (b' := true) 47 rfl rfl rfl rfl (shO_off (b' := true) 47 rfl rfl rfl rfl ?_))
     refine ov (v_pick_t rfl rfl) rfl ?_
     refine om rfl rfl (shO_off (b' := true) 51 rfl rfl rfl rfl (shO_off (b' := true) 51 rfl rfl rfl rfl (shO_off (b' := true) 51 rfl rfl rfl rfl (shO_off (b' := true) 51 rfl rfl rfl rfl ?_))))
     refine ov (v_pick_t rfl rfl) rfl ?_
     refine om rfl rfl (shO_off (b' := true) 57 rfl rfl rfl rfl (shO_off (b' := true) 57 rfl rfl rfl rfl (shO_off (b' := true) 57 rfl rfl rfl rfl (shO_off (b' := true) 57 rfl rfl rfl rfl (shO_off (b' := true) 57 rfl rfl rfl rfl (shO_off (b' := true) 57 rfl rfl rfl rfl ?_))))))
     refine ov (v_pick_t rfl rfl) rfl ?_
     refine om rfl rfl (shO_off (b' := true) 65 rfl rfl rfl rfl (shO_off (b' := true) 65 rfl rfl rfl rfl (shO_off (b' := true) 65 rfl rfl rfl rfl (shO_off (b' := true) 65 rfl rfl rfl rfl (shO_off (b' := true) 65 rfl rfl rfl rfl (shO_off (b' := true) 65 rfl rfl rfl rfl (shO_off (b' := true) 65 rfl rfl rfl rfl ?_)))))))
     refine ov (v_pick_t rfl rfl) rfl ?_
     refine shO_nil ?_
     obtain rfl := inj1 r157
     exact mi kn ⟨FExt.refl _, rfl, (sc rfl (sn _))⟩
   have r158 := ite_f r155 c156; clear r155
   refine shO_on (b := false) 39 rfl (Env.isF rfl c156) (om rfl rfl (shO_on (b := false) 39 rfl (Env.isF rfl c156) ?_))
   refine ov (v_neq rfl rfl) rfl ?_
   refine ov (v_pick_f (evD_false rfl c156) rfl) rfl ?_
   refine om rfl rfl ?_
   by_cases c159 : n10 ≠ 0
   · have r160 := ite_t r158 c159; clear r158
     refine shO_off (b' := true) 43 rfl (Env.isT rfl c159) rfl rfl (shO_off (b' := true) 43 rfl (Env.isT rfl c159) rfl rfl ?_)
     refine ov (v_pick_t (evD_true rfl c159) rfl) rfl ?_
     refine om rfl rfl (shO_off (b' := true) 47 rfl rfl rfl rfl (shO_off (b' := true) 47 rfl rfl rfl rfl ?_))
     refine ov (v_pick_t rfl rfl) rfl ?_
     refine om rfl rfl (shO_off (b' := true) 51 rfl rfl rfl rfl (shO_off (b' := true) 51 rfl rfl rfl rfl (shO_off (b' := true) 51 rfl rfl rfl rfl (shO_off (b' := true) 51 rfl rfl rfl rfl ?_))))
     refine ov (v_pick_t rfl rfl) rfl ?_
     refine om rfl rfl (shO_off (b' := true) 57 rfl rfl rfl rfl (shO_off (b' := true) 57 rfl rfl rfl rfl (shO_off (b' := true) 57 rfl rfl rfl rfl (shO_off (b' := true) 57 rfl rfl rfl rfl (shO_off (b' := true) 57 rfl rfl rfl rfl (shO_off (b' := true) 57 rfl rfl rfl rfl ?_))))))
     refine ov (v_pick_t rfl rfl) rfl ?_
     refine om rfl rfl (shO_off (b' := true) 65 rfl rfl rfl rfl (shO_off (b' := true) 65 rfl rfl rfl rfl (shO_off (b' := true) 65 rfl rfl rfl rfl (shO_off (b' := true) 65 rfl rfl rfl rfl (shO_off (b' := true) 65 rfl rfl rfl rfl (shO_off (b' := true) 65 rfl rfl rfl rfl (shO_off (b' := true) 65 rfl rfl rfl rfl ?_)))))))
     refine ov (v_pick_t rfl rfl) rfl ?_
     refine shO_nil ?_
     obtain rfl := inj1 r160
     exact mi kn ⟨FExt.refl _, rfl, (sc rfl (sn _))⟩
   have r161 := ite_f r158 c159; clear r158
   refine shO_on (b := false) 43 rfl (Env.isF rfl c159) (om rfl rfl (shO_on (b := false) 43 rfl (Env.isF rfl c159) ?_))
   refine ov (v_neq rfl rfl) rfl ?_
   refine ov (v_pick_f (evD_false rfl c159) rfl) rfl ?_
   refine om rfl rfl ?_
   by_cases c162 : n13 ≠ 0
   · have r163 := ite_t r161 c162; clear r161
     refine shO_off (b' := true) 47 rfl (Env.isT rfl c162) rfl rfl (shO_off (b' := true) 47 rfl (Env.isT rfl c162) rfl rfl ?_)
     refine ov (v_pick_t (evD_true rfl c162) rfl) rfl ?_
     refine om rfl rfl (shO_off (b' := true) 51 rfl rfl rfl rfl (shO_off (b' := true) 51 rfl rfl rfl rfl (shO_off (b' := true) 51 rfl rfl rfl rfl (shO_off (b' := true) 51 rfl rfl rfl rfl ?_))))
     refine ov (v_pick_t rfl rfl) rfl ?_
     refine om rfl rfl (shO_off (b' := true) 57 rfl rfl rfl rfl (shO_off (b' := true) 57 rfl rfl rfl rfl (shO_off (b' := true) 57 rfl rfl rfl rfl (shO_off (b' := true) 57 rfl rfl rfl rfl (shO_off (b' := true) 57 rfl rfl rfl rfl (shO_off (b' := true) 57 rfl rfl rfl rfl ?_))))))
     refine ov (v_pick_t rfl rfl) rfl ?_
     refine om rfl rfl (shO_off (b' := true) 65 rfl rfl rfl rfl (shO_off (b' := true) 65 rfl rfl rfl rfl (shO_off (b' := true) 65 rfl rfl rfl rfl (shO_off (b' := true) 65 rfl rfl rfl rfl (shO_off (b' := true) 65 rfl rfl rfl rfl (shO_off (b' := true) 65 rfl rfl rfl rfl (shO_off (b' := true) 65 rfl rfl rfl rfl ?_)))))))
     refine ov (v_pick_t rfl rfl) rfl ?_
     refine shO_nil ?_
     obtain rfl := inj1 r163
     exact mi kn ⟨FExt.refl _, rfl, (sc rfl (sn _))⟩
   have r164 := ite_f r161 c162; clear r161
   refine shO_on (b := false) 47 rfl (Env.isF rfl c162) (om rfl rfl (shO_on (b := false) 47 rfl (Env.isF rfl c162) ?_))
   refine ov (v_neq rfl rfl) rfl ?_
   refine ov (v_pick_f (evD_false rfl c162) rfl) rfl ?_
   refine om rfl rfl ?_
   by_cases c165 : n3 ≠ 4
   · have r166 := ite_t r164 c165; clear r164
     refine shO_off (b' := true) 51 rfl (Env.isT rfl c165) rfl rfl (shO_off (b' := true) 51 rfl (Env.isT rfl c165) rfl rfl (shO_off (b' := true) 51 rfl (Env.isT rfl c165) rfl rfl (shO_off (b' := true) 51 rfl (Env.isT rfl c165) rfl rfl ?_)))
     refine ov (v_pick_t (evD_true rfl c165) rfl) rfl ?_
     refine om rfl rfl (shO_off (b' := true) 57 rfl rfl rfl rfl (shO_off (b' := true) 57 rfl rfl rfl rfl (shO_off (b' := true) 57 rfl rfl rfl rfl (shO_off (b' := true) 57 rfl rfl rfl rfl (shO_off (b' := true) 57 rfl rfl rfl rfl (shO_off (b' := true) 57 rfl rfl rfl rfl ?_))))))
     refine ov (v_pick_t rfl rfl) rfl ?_
     refine om rfl rfl (shO_off (b' := true) 65 rfl rfl rfl rfl (shO_off (b' := true) 65 rfl rfl rfl rfl (shO_off (b' := true) 65 rfl rfl rfl rfl (shO_off (b' := true) 65 rfl rfl rfl rfl (shO_off (b' := true) 65 rfl rfl rfl rfl (shO_off (b' := true) 65 rfl rfl rfl rfl (shO_off (b' := true) 65 rfl rfl rfl rfl ?_)))))))
     refine ov (v_pick_t rfl rfl) rfl ?_
     refine shO_nil ?_
     obtain rfl := inj1 r166
     exact mi kn ⟨FExt.refl _, rfl, (sc rfl (sn _))⟩
   have r167 := ite_f r164 c165; clear r164
   refine shO_on (b := false) 51 rfl (Env.isF rfl c165) (om rfl rfl (shO_on (b := false) 51 rfl (Env.isF rfl c165) ?_))
   refine o_buildSlice (cs := #[.int .i64 1, .int .i64 2, .int .i64 3]) rfl rfl (buildSlice_all slt_24 [.int .i64 1, .int .i64 2, .int .i64 3] rfl (by decide) (by simp [Value.cells]) (by decide)) ?_; intro b168 hb168
   refine shO_on (b := false) 51 rfl (Env.isF rfl c165) ?_
   refine shO_freeze 0 rfl hb168 ?_; intro F169 hF170 hz171
   refine shO_L (L' := Lb147 ++ (Lb59 ++ (Lb35 ++ (Lb41 ++ (Lb47 ++ (Lb9 ++ (Lb15 ++ (Lb21 ++ [])))))))) rfl ?_
   replace h105 := h105.mono (slE_ok (iE_ok _)) hF170
   replace hz60 := hz60.mono (iE_ok _) hF170
   replace hz148 := hz148.mono (slE_ok (iE_ok _)) hF170
   have h172 : RowR 1 (iE .i64) F169 (some ⟨b168, 0, none⟩) 3 [1, 2, 3] := RowR.of_block (iE_ok _) (vss := [[.int .i64 1], [.int .i64 2], [.int .i64 3]]) (xs := [1, 2, 3]) hz171 (.cons rfl (.cons rfl (.cons rfl .nil))) rfl (by simp [maxLen])
   obtain ⟨ok, h173, r174⟩ := b1_ok r167; clear r167
   refine o_callT (Lt := Lb59 ++ []) (Lr := Lb147 ++ (Lb35 ++ (Lb41 ++ (Lb47 ++ (Lb9 ++ (Lb15 ++ (Lb21 ++ []))))))) rfl Try.call46 rfl rfl rfl (pT ((fS fP).trans (pA pR)) (lp (ln rfl))) (fun F2 h2 h3 => by rw [(SlR.caps hz60).1]; exact oyezkit_Like_int_w (hz60.row (iE_ok _) h2 (fun p hp => h3 p (List.mem_append_left _ hp))) (h172.mono (iE_ok _) h2) h173) ?_
   refine shO_on (b := false) 51 rfl (Env.isF rfl c165) ?_
   refine ov (v_notB rfl) rfl ?_
   refine ov (v_pick_f (evD_false rfl c165) rfl) rfl ?_
   refine om rfl rfl ?_
   rcases bool_two (!ok) with c175 | c175
   · have r176 := bt r174 c175; clear r174
     refine shO_off (b' := true) 57 rfl (EnvB rfl c175) rfl rfl (shO_off (b' := true) 57 rfl (EnvB rfl c175) rfl rfl (shO_off (b' := true) 57 rfl (EnvB rfl c175) rfl rfl (shO_off (b' := true) 57 rfl (EnvB rfl c175) rfl rfl (shO_off (b' := true) 57 rfl (EnvB rfl c175) rfl rfl (shO_off (b' := true) 57 rfl (EnvB rfl c175) rfl rfl ?_)))))
     refine ov (v_pick_t (evB rfl c175) rfl) rfl ?_
     refine om rfl rfl (shO_off (b' := true) 65 rfl rfl rfl rfl (shO_off (b' := true) 65 rfl rfl rfl rfl (shO_off (b' := true) 65 rfl rfl rfl rfl (shO_off (b' := true) 65 rfl rfl rfl rfl (shO_off (b' := true) 65 rfl rfl rfl rfl (shO_off (b' := true) 65 rfl rfl rfl rfl (shO_off (b' := true) 65 rfl rfl rfl rfl ?_)))))))
     refine ov (v_pick_t rfl rfl) rfl ?_
     refine shO_nil ?_
     obtain rfl := inj1 r176
     exact mi kn ⟨hF170, rfl, (sc rfl (sn _))⟩
   have r177 := bf r174 c175; clear r174
   refine shO_on (b := false) 57 rfl (EnvB rfl c175) (om rfl rfl (shO_on (b := false) 57 rfl (EnvB rfl c175) ?_))
   refine o_buildSlice (cs := #[.int .i64 0]) rfl rfl (buildSlice_all slt_47 [.int .i64 0] rfl (by decide) (by simp [Value.cells]) (by decide)) ?_; intro b178 hb178
   refine shO_on (b := false) 57 rfl (EnvB rfl c175) ?_
   refine o_buildSlice (cs := #[.int .i64 1]) rfl rfl (buildSlice_all slt_47 [.int .i64 1] rfl (by decide) (by simp [Value.cells]) (by decide)) ?_; intro b179 hb179
   refine shO_on (b := false) 57 rfl (EnvB rfl c175) ?_
   refine o_buildSlice (cs := #[.slice (some ⟨b178, 0, none⟩) 1 1, .slice (some ⟨b179, 0, none⟩) 1 1]) rfl rfl (buildSlice_all slt_36 [.slice (some ⟨b178, 0, none⟩) 1 1, .slice (some ⟨b179, 0, none⟩) 1 1] rfl (by decide) (by simp [Value.cells]) (by decide)) ?_; intro b180 hb180
   refine shO_on (b := false) 57 rfl (EnvB rfl c175) ?_
   refine shO_freeze 2 rfl hb178 ?_; intro F181 hF182 hz183
   refine shO_L (L' := (b180, .cells #[.slice (some ⟨b178, 0, none⟩) 1 1, .slice (some ⟨b179, 0, none⟩) 1 1] 47 (0, 0)) :: ((b179, .cells #[.int .i64 1] 48 (0, 0)) :: (Lb147 ++ (Lb59 ++ (Lb35 ++ (Lb41 ++ (Lb47 ++ (Lb9 ++ (Lb15 ++ (Lb21 ++ [])))))))))) rfl ?_
   replace h105 := h105.mono (slE_ok (iE_ok _)) hF182
   replace hz148 := hz148.mono (slE_ok (iE_ok _)) hF182
   have h184 : RowR 1 (iE .i64) F181 (some ⟨b178, 0, none⟩) 1 [0] := RowR.of_block (iE_ok _) (vss := [[.int .i64 0]]) (xs := [0]) hz183 (.cons rfl .nil) rfl (by simp [maxLen])
   refine shO_freeze 1 rfl hb179 ?_; intro F185 hF186 hz187
   refine shO_L (L' := (b180, .cells (#[.slice (some ⟨b178, 0, none⟩) [0].length 1, .slice (some ⟨b179, 0, none⟩) 1 1]) 47 (0, 0)) :: (Lb147 ++ (Lb59 ++ (Lb35 ++ (Lb41 ++ (Lb47 ++ (Lb9 ++ (Lb15 ++ (Lb21 ++ []))))))))) rfl ?_
   replace h105 := h105.mono (slE_ok (iE_ok _)) hF186
   replace h184 := h184.mono (iE_ok _) hF186
   replace hz148 := hz148.mono (slE_ok (iE_ok _)) hF186
   have h188 : RowR 1 (iE .i64) F185 (some ⟨b179, 0, none⟩) 1 [1] := RowR.of_block (iE_ok _) (vss := [[.int .i64 1]]) (xs := [1]) hz187 (.cons rfl .nil) rfl (by simp [maxLen])
   refine shO_freeze 0 rfl hb180 ?_; intro F189 hF190 hz191
   refine shO_L (L' := Lb147 ++ (Lb59 ++ (Lb35 ++ (Lb41 ++ (Lb47 ++ (Lb9 ++ (Lb15 ++ (Lb21 ++ [])))))))) rfl ?_
   replace h105 := h105.mono (slE_ok (iE_ok _)) hF190
   replace h184 := h184.mono (iE_ok _) hF190
   replace h188 := h188.mono (iE_ok _) hF190
   replace hz148 := hz148.mono (slE_ok (iE_ok _)) hF190
   have h192 : RowR 1 (slE 1 (iE .i64)) F189 (some ⟨b180, 0, none⟩) 2 [[0], [1]] := RowR.of_block (slE_ok (iE_ok _)) (vss := [[.slice (some ⟨b178, 0, none⟩) [0].length 1], [.slice (some ⟨b179, 0, none⟩) [1].length 1]]) (xs := [[0], [1]]) hz191 (.cons ⟨_, _, rfl, h184⟩ (.cons ⟨_, _, rfl, h188⟩ .nil)) rfl (by simp [maxLen])
   obtain ⟨ok2, h193, r194⟩ := b1_ok r177; clear r177
   refine o_callV rfl Try.call33 rfl rfl rfl (oyezkit_LikeRows_Verdict_w h105 h192 h193) ?_
   refine shO_on (b := false) 57 rfl (EnvB rfl c175) ?_
   refine ov (v_notB rfl) rfl ?_
   refine ov (v_pick_f (evB rfl c175) rfl) rfl ?_
   refine om rfl rfl ?_
   rcases bool_two (!ok2) with c195 | c195
   · have r196 := bt r194 c195; clear r194
     refine shO_off (b' := true) 65 rfl (EnvB rfl c195) rfl rfl (shO_off (b' := true) 65 rfl (EnvB rfl c195) rfl rfl (shO_off (b' := true) 65 rfl (EnvB rfl c195) rfl rfl (shO_off (b' := true) 65 rfl (EnvB rfl c195) rfl rfl (shO_off (b' := true) 65 rfl (EnvB rfl c195) rfl rfl (shO_off (b' := true) 65 rfl (EnvB rfl c195) rfl rfl (shO_off (b' := true) 65 rfl (EnvB rfl c195) rfl rfl ?_))))))
     refine ov (v_pick_t (evB rfl c195) rfl) rfl ?_
     refine shO_nil ?_
     obtain rfl := inj1 r196
     exact mi kn ⟨(((hF170.trans hF182).trans hF186).trans hF190), rfl, (sc rfl (sn _))⟩
   have r197 := bf r194 c195; clear r194
   refine shO_on (b := false) 65 rfl (EnvB rfl c195) (om rfl rfl (shO_on (b := false) 65 rfl (EnvB rfl c195) ?_))
   refine o_buildSlice (cs := #[.int .i64 1, .int .i64 2]) rfl rfl (buildSlice_all slt_24 [.int .i64 1, .int .i64 2] rfl (by decide) (by simp [Value.cells]) (by decide)) ?_; intro b198 hb198
   refine shO_on (b := false) 65 rfl (EnvB rfl c195) ?_
   refine o_buildSlice (cs := #[.int .i64 2, .int .i64 3]) rfl rfl (buildSlice_all slt_24 [.int .i64 2, .int .i64 3] rfl (by decide) (by simp [Value.cells]) (by decide)) ?_; intro b199 hb199
   refine shO_on (b := false) 65 rfl (EnvB rfl c195) ?_
   refine o_buildSlice (cs := #[.int .i64 3, .int .i64 4]) rfl rfl (buildSlice_all slt_24 [.int .i64 3, .int .i64 4] rfl (by decide) (by simp [Value.cells]) (by decide)) ?_; intro b200 hb200
   refine shO_on (b := false) 65 rfl (EnvB rfl c195) ?_
   refine o_buildSlice (cs := #[.slice (some ⟨b198, 0, none⟩) 2 2, .slice (some ⟨b199, 0, none⟩) 2 2, .slice (some ⟨b200, 0, none⟩) 2 2]) rfl rfl (buildSlice_all slt_42 [.slice (some ⟨b198, 0, none⟩) 2 2, .slice (some ⟨b199, 0, none⟩) 2 2, .slice (some ⟨b200, 0, none⟩) 2 2] rfl (by decide) (by simp [Value.cells]) (by decide)) ?_; intro b201 hb201
   refine shO_on (b := false) 65 rfl (EnvB rfl c195) ?_
   refine shO_freeze 3 rfl hb198 ?_; intro F202 hF203 hz204
   refine shO_L (L' := (b201, .cells #[.slice (some ⟨b198, 0, none⟩) 2 2, .slice (some ⟨b199, 0, none⟩) 2 2, .slice (some ⟨b200, 0, none⟩) 2 2] 24 (0, 0)) :: ((b200, .cells #[.int .i64 3, .int .i64 4] 3 (0, 0)) :: ((b199, .cells #[.int .i64 2, .int .i64 3] 3 (0, 0)) :: (Lb147 ++ (Lb59 ++ (Lb35 ++ (Lb41 ++ (Lb47 ++ (Lb9 ++ (Lb15 ++ (Lb21 ++ []))))))))))) rfl ?_
   replace hz148 := hz148.mono (slE_ok (iE_ok _)) hF203
   have h205 : RowR 1 (iE .i64) F202 (some ⟨b198, 0, none⟩) 2 [1, 2] := RowR.of_block (iE_ok _) (vss := [[.int .i64 1], [.int .i64 2]]) (xs := [1, 2]) hz204 (.cons rfl (.cons rfl .nil)) rfl (by simp [maxLen])
   refine shO_freeze 2 rfl hb199 ?_; intro F206 hF207 hz208
   refine shO_L (L' := (b201, .cells (#[.slice (some ⟨b198, 0, none⟩) [1, 2].length 2, .slice (some ⟨b199, 0, none⟩) 2 2, .slice (some ⟨b200, 0, none⟩) 2 2]) 24 (0, 0)) :: ((b200, .cells #[.int .i64 3, .int .i64 4] 3 (0, 0)) :: (Lb147 ++ (Lb59 ++ (Lb35 ++ (Lb41 ++ (Lb47 ++ (Lb9 ++ (Lb15 ++ (Lb21 ++ [])))))))))) rfl ?_
   replace h205 := h205.mono (iE_ok _) hF207
   replace hz148 := hz148.mono (slE_ok (iE_ok _)) hF207
   have h209 : RowR 1 (iE .i64) F206 (some ⟨b199, 0, none⟩) 2 [2, 3] := RowR.of_block (iE_ok _) (vss := [[.int .i64 2], [.int .i64 3]]) (xs := [2, 3]) hz208 (.cons rfl (.cons rfl .nil)) rfl (by simp [maxLen])
   refine shO_freeze 1 rfl hb200 ?_; intro F210 hF211 hz212
   refine shO_L (L' := (b201, .cells (#[.slice (some ⟨b198, 0, none⟩) [1, 2].length 2, .slice (some ⟨b199, 0, none⟩) [2, 3].length 2, .slice (some ⟨b200, 0, none⟩) 2 2]) 24 (0, 0)) :: (Lb147 ++ (Lb59 ++ (Lb35 ++ (Lb41 ++ (Lb47 ++ (Lb9 ++ (Lb15 ++ (Lb21 ++ []))))))))) rfl ?_
   replace h205 := h205.mono (iE_ok _) hF211
   replace h209 := h209.mono (iE_ok _) hF211
   replace hz148 := hz148.mono (slE_ok (iE_ok _)) hF211
   have h213 : RowR 1 (iE .i64) F210 (some ⟨b200, 0, none⟩) 2 [3, 4] := RowR.of_block (iE_ok _) (vss := [[.int .i64 3], [.int .i64 4]]) (xs := [3, 4]) hz212 (.cons rfl (.cons rfl .nil)) rfl (by simp [maxLen])
   refine shO_freeze 0 rfl hb201 ?_; intro F214 hF215 hz216
   refine shO_L (L' := Lb147 ++ (Lb59 ++ (Lb35 ++ (Lb41 ++ (Lb47 ++ (Lb9 ++ (Lb15 ++ (Lb21 ++ [])))))))) rfl ?_
   replace h205 := h205.mono (iE_ok _) hF215
   replace h209 := h209.mono (iE_ok _) hF215
   replace h213 := h213.mono (iE_ok _) hF215
   replace hz148 := hz148.mono (slE_ok (iE_ok _)) hF215
   have h217 : RowR 1 (slE 1 (iE .i64)) F214 (some ⟨b201, 0, none⟩) 3 [[1, 2], [2, 3], [3, 4]] := RowR.of_block (slE_ok (iE_ok _)) (vss := [[.slice (some ⟨b198, 0, none⟩) [1, 2].length 2], [.slice (some ⟨b199, 0, none⟩) [2, 3].length 2], [.slice (some ⟨b200, 0, none⟩) [3, 4].length 2]]) (xs := [[1, 2], [2, 3], [3, 4]]) hz216 (.cons ⟨_, _, rfl, h205⟩ (.cons ⟨_, _, rfl, h209⟩ (.cons ⟨_, _, rfl, h213⟩ .nil))) rfl (by simp [maxLen])
   obtain ⟨ok3, h218, r219⟩ := b1_ok r197; clear r197
   refine o_callT (Lt := Lb147 ++ []) (Lr := Lb59 ++ (Lb35 ++ (Lb41 ++ (Lb47 ++ (Lb9 ++ (Lb15 ++ (Lb21 ++ []))))))) rfl Try.call47 rfl rfl rfl (pT pR (lp (ln rfl))) (fun F2 h2 h3 => by rw [(SlR.caps hz148).1]; exact oyezkit_LikeRows_int_w (hz148.row (slE_ok (iE_ok _)) h2 (fun p hp => h3 p (List.mem_append_left _ hp))) (h217.mono (slE_ok (iE_ok _)) h2) h218) ?_
   refine shO_on (b := false) 65 rfl (EnvB rfl c195) ?_
   refine ov (v_notB rfl) rfl ?_
   refine ov (v_pick_f (evB rfl c195) rfl) rfl ?_
   refine shO_nil ?_
   obtain rfl := inj1 r219
   exact mi kn ⟨(((((((hF170.trans hF182).trans hF186).trans hF190).trans hF203).trans hF207).trans hF211).trans hF215), rfl, (sc rfl (sn _))⟩
 rintro e1 F221 _ ⟨hF222, rfl, he220⟩
 refine shW_env _ he220 ?_; clear he220
 refine shW_cond rfl (fun c223 => ?_) (fun c223 => ?_)
 · have r224 := bt r152 c223; clear r152
   refine wsr (oa rfl rfl (shO_nil (shW_ret (andThen_ret ?_))))
   refine q_res1 Try.results16 (res_tmp rfl) (sr) ?_
   obtain rfl := inj1 r224
   exact rfl
 have r225 := bf r152 c223; clear r152
 refine shW_skip (wsr ?_)
 refine ov (v_build (v := .agg #[.int .i64 0, .int .i64 0, .bool true]) rfl (by intro w; kernel_rfl)) rfl ?_
 refine ov (v_build (v := .agg #[.int .i64 0, .int .i64 0, .bool false]) rfl (by intro w; kernel_rfl)) rfl ?_
 refine o_buildSlice (cs := #[.int .i64 0, .int .i64 0, .bool true, .int .i64 0, .int .i64 0, .bool false]) rfl rfl (buildSlice_all slt_105 [.agg #[.int .i64 0, .int .i64 0, .bool true], .agg #[.int .i64 0, .int .i64 0, .bool false]] rfl (by decide) (by simp [Value.cells]) (by decide)) ?_; intro b226 hb226
 have hz228 : SlR K.w0.heap.size 77 3 (prE (iE .i64) (prE (iE .i64) bE)) F221 (some ⟨b226, 0, none⟩) 2 2 [(0, 0, true), (0, 0, false)] [(b226, .cells #[.int .i64 0, .int .i64 0, .bool true, .int .i64 0, .int .i64 0, .bool false] 77 (0, 0))] := SlR.of_block (vss := [[.int .i64 0, .int .i64 0, .bool true], [.int .i64 0, .int .i64 0, .bool false]]) (prE_ok (iE_ok _) (prE_ok (iE_ok _) bE_ok)) hb226 (.cons ⟨_, _, rfl, rfl, ⟨_, _, rfl, rfl, rfl⟩⟩ (.cons ⟨_, _, rfl, rfl, ⟨_, _, rfl, rfl, rfl⟩⟩ .nil)) rfl rfl (by simp [maxLen])
 generalize hLLb227 : ([(b226, .cells #[.int .i64 0, .int .i64 0, .bool true, .int .i64 0, .int .i64 0, .bool false] 77 (0, 0))] : LH) = Lb227 at hz228
 refine shO_perm (L' := Lb227 ++ []) (by rw [← hLLb227]; exact fO) ?_
 refine oa rfl rfl (nsr ?_)
 obtain ⟨n14, n15, l16, l17, l18, h230, r231⟩ := b5_ok r225; clear r225
 refine o_call0 rfl Try.call45 rfl rfl rfl (oyezlaw07_Bell_w h230) ?_; rintro _ F232 _ hF233 hn234 ⟨a236, n240, c237, Lb238, a242, n246, c243, Lb244, a248, n252, c249, Lb250, rfl, rfl, hz239, hz245, hz251⟩
 replace hz228 := hz228.mono (prE_ok (iE_ok _) (prE_ok (iE_ok _) bE_ok)) hF233
 replace hz239 := hz239.new fun p hp => hn234 p (by simp [hp])
 replace hz245 := hz245.new fun p hp => hn234 p (by simp [hp])
 replace hz251 := hz251.new fun p hp => hn234 p (by simp [hp])
 refine shO_L (lp (lp (lp (ln rfl)))) ?_
 refine om rfl rfl ?_
 obtain ⟨l19, n16, h254, r255⟩ := b2_ok r231; clear r231
 refine o_callTO (Lb := []) (Lt := Lb238 ++ (Lb244 ++ (Lb250 ++ (Lb227 ++ [])))) (Lr := []) rfl Try.call48 rfl rfl rfl (pT pR (ln (lp (lp (lp (lp (ln rfl))))))) (fun F2 h2 h3 => by rw [(SlR.caps hz239).1]; rw [(SlR.caps hz245).1]; rw [(SlR.caps hz251).1]; rw [(SlR.caps hz228).1]; exact book_Fewest_w (hz239.row (slE_ok (slE_ok (iE_ok _))) h2 (fun p hp => h3 p (List.mem_append_left _ hp))) (hz245.row (iE_ok _) h2 (fun p hp => h3 p (List.mem_append_right _ (List.mem_append_left _ hp)))) (hz251.row (prE_ok (iE_ok _) (prE_ok (iE_ok _) (iE_ok _))) h2 (fun p hp => h3 p (List.mem_append_right _ (List.mem_append_right _ (List.mem_append_left _ hp))))) (hz228.row (prE_ok (iE_ok _) (prE_ok (iE_ok _) bE_ok)) h2 (fun p hp => h3 p (List.mem_append_right _ (List.mem_append_right _ (List.mem_append_right _ (List.mem_append_left _ hp)))))) h254) (fun _ _ _ _ hq => by obtain ⟨a260, n264, c261, Lb262, rfl, rfl, hz263⟩ := hq; exact ⟨_, _, _, _, rfl, rfl, hz263.flat (fun _ _ h => h)⟩) ?_; rintro _ F256 _ hF257 hd259 hn258 ⟨a260, n264, c261, Lb262, rfl, rfl, hz263⟩
 replace hz228 := hz228.mono (prE_ok (iE_ok _) (prE_ok (iE_ok _) bE_ok)) hF257
 have hn266 := newp (Lb' := []) (by rfl) hd259 hn258
 replace hz263 := hz263.new fun p hp => hn266 p (by simp [hp])
 refine shO_L (lp (ln (lp (lp (lp (lp (ln rfl))))))) ?_
 refine om rfl rfl (ox rfl rfl rfl (ox rfl rfl rfl (oa rfl rfl (oa rfl rfl (nsr ?_)))))
 obtain ⟨n17, n18, l20, l21, l22, h267, r268⟩ := b5_ok r255; clear r255
 refine o_call0 rfl Try.call45 rfl rfl rfl (oyezlaw07_Bell_w h267) ?_; rintro _ F269 _ hF270 hn271 ⟨a273, n277, c274, Lb275, a279, n283, c280, Lb281, a285, n289, c286, Lb287, rfl, rfl, hz276, hz282, hz288⟩
 replace hz228 := hz228.mono (prE_ok (iE_ok _) (prE_ok (iE_ok _) bE_ok)) hF270
 replace hz263 := hz263.mono (iE_ok _) hF270
 replace hz276 := hz276.new fun p hp => hn271 p (by simp [hp])
 replace hz282 := hz282.new fun p hp => hn271 p (by simp [hp])
 replace hz288 := hz288.new fun p hp => hn271 p (by simp [hp])
 refine shO_L (lp (lp (lp (ln rfl)))) ?_
 refine ov (v_build (v := .agg #[.int .i64 1, .int .i64 0, .bool false]) rfl (by intro w; kernel_rfl)) rfl ?_
 obtain ⟨ok4, n19, h291, r292⟩ := b2_ok r268; clear r268
 refine o_callT (Lt := Lb275 ++ (Lb281 ++ (Lb287 ++ []))) (Lr := Lb262 ++ (Lb238 ++ (Lb244 ++ (Lb250 ++ (Lb227 ++ []))))) rfl Try.call35 rfl rfl rfl (pT pR (lp (lp (lp (ln rfl))))) (fun F2 h2 h3 => by rw [(SlR.caps hz276).1]; rw [(SlR.caps hz282).1]; rw [(SlR.caps hz288).1]; exact book_Refuted_w (hz276.row (slE_ok (slE_ok (iE_ok _))) h2 (fun p hp => h3 p (List.mem_append_left _ hp))) (hz282.row (iE_ok _) h2 (fun p hp => h3 p (List.mem_append_right _ (List.mem_append_left _ hp)))) (hz288.row (prE_ok (iE_ok _) (prE_ok (iE_ok _) (iE_ok _))) h2 (fun p hp => h3 p (List.mem_append_right _ (List.mem_append_right _ (List.mem_append_left _ hp))))) h291) ?_
 refine om rfl rfl (ox rfl rfl rfl (ox rfl rfl rfl (oa rfl rfl (oa rfl rfl (shO_nil (shW_seq ?_))))))
 refine shW_drawM [(.still, 1), (.still, 2), (.still, 3), (.seq, 0), (.seq, 4), (.still, 5), (.still, 6), (.still, 7), (.still, 8), (.still, 9)] (by kernel_rfl) (by kernel_rfl) (trivial) (by rfl) (by kernel_rfl) ?_
 refine shM_v (v := .slice (some ⟨b226, 0, none⟩) 2 2) (ek := [(9, .slice (some ⟨b226, 0, none⟩) 2 2)]) (Ls := []) rfl rfl rfl rfl ((sc rfl (sn _))) (by kernel_rfl) sm (fun H F' L' hF' hL' => v_move rfl) ?_
 obtain ⟨x, g293, hx294, r295⟩ := ix_ok r292; clear r292
 obtain ⟨b296, o297, c298, vs299, ha300, hs301, hle302, ⟨_, _, rfl, rfl, ⟨_, _, rfl, rfl, rfl⟩⟩, hl303, hc304⟩ := SlR.at (prE_ok (iE_ok _) (prE_ok (iE_ok _) bE_ok)) hz228 (L := Lb227 ++ []) fP g293.1 hx294
 refine shM_v (v := .pointer (some ⟨b296, o297 + (0 : Int).toNat * 3, none⟩)) (ek := [(91, .slice (some ⟨b226, 0, none⟩) 2 2)]) (Ls := []) rfl rfl rfl rfl ((sc rfl (sn _))) (by kernel_rfl) sm (fun H F' L' hF' hL' => v_indexO Try.underlying105 Try.sizeOf77 rfl ha300 rfl (SlR.idx hz228 g293)) ?_
 refine shM_v (v := .agg #[.int .i64 x.1, .int .i64 x.2.1, .bool x.2.2]) (ek := [(92, .pointer (some ⟨b296, o297 + (0 : Int).toNat * 3, none⟩))]) (Ls := Lb227 ++ []) rfl rfl rfl rfl ((sc rfl (sn _))) (by kernel_rfl) (s0 (s3 (s3 (s3 (s3 (s3 (s3 (s3 (s4 sr))))))))) (fun H F' L' hF' hL' => v_loadA (cs := #[.int .i64 x.1, .int .i64 x.2.1, .bool x.2.2]) Try.isAgg77 Try.sizeOf77 rfl (hs301.ext hF' hL') hle302 (extract_cells hle302 hl303 hc304)) ?_
 refine ⟨_, [], rfl, rfl, (sn _), by kernel_rfl, ?_⟩; intro H
 obtain ⟨n20, n21, l23, l24, l25, h305, r306⟩ := b5_ok r295; clear r295
 refine o_call0 rfl Try.call45 rfl rfl rfl (oyezlaw07_Bell_w h305) ?_; rintro _ F307 _ hF308 hn309 ⟨a311, n315, c312, Lb313, a317, n321, c318, Lb319, a323, n327, c324, Lb325, rfl, rfl, hz314, hz320, hz326⟩
 replace hz263 := hz263.mono (iE_ok _) hF308
 replace hz314 := hz314.new fun p hp => hn309 p (by simp [hp])
 replace hz320 := hz320.new fun p hp => hn309 p (by simp [hp])
 replace hz326 := hz326.new fun p hp => hn309 p (by simp [hp])
 refine shO_L (lp (lp (lp (ln rfl)))) ?_
 refine shO_nil ⟨_, rfl, hF308, [3, 2, 1], by kernel_rfl, .inl (.inr (fun d h => by cases h; rfl)), (List.forall_mem_cons.2 ⟨s0 (s3 (s3 (s3 (s3 (s3 (s3 (s3 (s3 (s3 (s3 (s4 sr))))))))))), (List.forall_mem_cons.2 ⟨sm, (List.forall_mem_cons.2 ⟨sm, (fun _ h => absurd h List.not_mem_nil)⟩)⟩)⟩), ?_⟩
 refine ⟨_, [(90, .agg #[.int .i64 n20, .int .i64 n21, .slice a311 n315 c312, .slice a317 n321 c318, .slice a323 n327 c324]), (93, .agg #[.int .i64 x.1, .int .i64 x.2.1, .bool x.2.2])], rfl, rfl, (sc rfl (sc rfl (sn _))), by kernel_rfl, ?_⟩; intro H
 obtain rfl := (SlR.caps hz314).1
 refine shO_freezeR (Nat.le_refl _) (slE_ok (slE_ok (iE_ok _))) fP hz314 ?_; intro F329 hF330 h331
 replace hz263 := hz263.mono (iE_ok _) hF330
 replace hz320 := hz320.mono (iE_ok _) hF330
 replace hz326 := hz326.mono (prE_ok (iE_ok _) (prE_ok (iE_ok _) (iE_ok _))) hF330
 obtain rfl := (SlR.caps hz320).1
 refine shO_freezeR (Nat.le_refl _) (iE_ok _) fP hz320 ?_; intro F332 hF333 h334
 replace h331 := h331.mono (slE_ok (slE_ok (iE_ok _))) hF333
 replace hz263 := hz263.mono (iE_ok _) hF333
 replace hz326 := hz326.mono (prE_ok (iE_ok _) (prE_ok (iE_ok _) (iE_ok _))) hF333
 obtain rfl := (SlR.caps hz326).1
 refine shO_freezeR (Nat.le_refl _) (prE_ok (iE_ok _) (prE_ok (iE_ok _) (iE_ok _))) fP hz326 ?_; intro F335 hF336 h337
 replace h331 := h331.mono (slE_ok (slE_ok (iE_ok _))) hF336
 replace h334 := h334.mono (iE_ok _) hF336
 replace hz263 := hz263.mono (iE_ok _) hF336
 obtain ⟨l26, n22, h338, r339⟩ := b2_ok r306; clear r306
 refine o_call0 rfl Try.call36 rfl rfl rfl (book_Witness_w h331 h334 h337 h338) ?_; rintro _ F340 _ hF341 hn342 ⟨a344, c345, rfl, rfl, h346⟩
 replace hz263 := hz263.mono (iE_ok _) hF341
 refine shO_L (ln rfl) ?_
 refine shO_nil ⟨_, rfl, (((hF330.trans hF333).trans hF336).trans hF341), [], by kernel_rfl, .inl (.inl rfl), (fun _ h => absurd h List.not_mem_nil), ?_⟩
 refine shM_v (v := .tuple #[.slice a344 l26.length c345, .int .i64 n22]) (ek := [(94, .tuple #[.slice a344 l26.length c345, .int .i64 n22])]) (Ls := []) rfl rfl rfl rfl ((sc rfl (sn _))) (by kernel_rfl) sm (fun H F' L' hF' hL' => v_move rfl) ?_
 refine shM_v (v := .slice a344 l26.length c345) (ek := [(89, .tuple #[.slice a344 l26.length c345, .int .i64 n22])]) (Ls := []) rfl rfl rfl rfl ((sc rfl (sn _))) (by kernel_rfl) sm (fun H F' L' hF' hL' => v_extract rfl rfl) ?_
 refine shM_v (v := .int .i64 n22) (ek := [(89, .tuple #[.slice a344 l26.length c345, .int .i64 n22])]) (Ls := []) rfl rfl rfl rfl ((sc rfl (sn _))) (by kernel_rfl) sm (fun H F' L' hF' hL' => v_extract rfl rfl) ?_
 refine shM_v (v := .slice a344 l26.length c345) (ek := [(95, .slice a344 l26.length c345)]) (Ls := []) rfl rfl rfl rfl ((sc rfl (sn _))) (by kernel_rfl) sm (fun H F' L' hF' hL' => v_assign rfl) ?_
 refine shM_v (v := .int .i64 n22) (ek := [(96, .int .i64 n22)]) (Ls := []) rfl rfl rfl rfl ((sc rfl (sn _))) (by kernel_rfl) sm (fun H F' L' hF' hL' => v_assign rfl) ?_
 refine shM_nil ?_
 refine wsr ?_
 obtain ⟨n23, n24, l27, l28, l29, h347, r348⟩ := b5_ok r339; clear r339
 refine o_call0 rfl Try.call45 rfl rfl rfl (oyezlaw07_Bell_w h347) ?_; rintro _ F349 _ hF350 hn351 ⟨a353, n357, c354, Lb355, a359, n363, c360, Lb361, a365, n369, c366, Lb367, rfl, rfl, hz356, hz362, hz368⟩
 replace h346 := h346.mono (iE_ok _) hF350
 replace hz263 := hz263.mono (iE_ok _) hF350
 replace hz356 := hz356.new fun p hp => hn351 p (by simp [hp])
 replace hz362 := hz362.new fun p hp => hn351 p (by simp [hp])
 replace hz368 := hz368.new fun p hp => hn351 p (by simp [hp])
 refine shO_L (lp (lp (lp (ln rfl)))) ?_
 refine o_buildSlice (cs := #[.int .i64 0]) rfl rfl (buildSlice_all slt_24 [.int .i64 0] rfl (by decide) (by simp [Value.cells]) (by decide)) ?_; intro b371 hb371
 obtain rfl := (SlR.caps hz356).1
 refine shO_freezeR (Nat.le_refl _) (slE_ok (slE_ok (iE_ok _))) (fC fP) hz356 ?_; intro F372 hF373 h374
 replace h346 := h346.mono (iE_ok _) hF373
 replace hz263 := hz263.mono (iE_ok _) hF373
 replace hz362 := hz362.mono (iE_ok _) hF373
 replace hz368 := hz368.mono (prE_ok (iE_ok _) (prE_ok (iE_ok _) (iE_ok _))) hF373
 obtain rfl := (SlR.caps hz362).1
 refine shO_freezeR (Nat.le_refl _) (iE_ok _) (fC fP) hz362 ?_; intro F375 hF376 h377
 replace h346 := h346.mono (iE_ok _) hF376
 replace h374 := h374.mono (slE_ok (slE_ok (iE_ok _))) hF376
 replace hz263 := hz263.mono (iE_ok _) hF376
 replace hz368 := hz368.mono (prE_ok (iE_ok _) (prE_ok (iE_ok _) (iE_ok _))) hF376
 obtain rfl := (SlR.caps hz368).1
 refine shO_freezeR (Nat.le_refl _) (prE_ok (iE_ok _) (prE_ok (iE_ok _) (iE_ok _))) (fC fP) hz368 ?_; intro F378 hF379 h380
 replace h346 := h346.mono (iE_ok _) hF379
 replace h374 := h374.mono (slE_ok (slE_ok (iE_ok _))) hF379
 replace h377 := h377.mono (iE_ok _) hF379
 replace hz263 := hz263.mono (iE_ok _) hF379
 refine shO_freeze 0 rfl hb371 ?_; intro F381 hF382 hz383
 refine shO_L (L' := Lb275 ++ (Lb281 ++ (Lb287 ++ (Lb262 ++ (Lb238 ++ (Lb244 ++ (Lb250 ++ (Lb227 ++ [])))))))) rfl ?_
 replace h346 := h346.mono (iE_ok _) hF382
 replace h374 := h374.mono (slE_ok (slE_ok (iE_ok _))) hF382
 replace h377 := h377.mono (iE_ok _) hF382
 replace h380 := h380.mono (prE_ok (iE_ok _) (prE_ok (iE_ok _) (iE_ok _))) hF382
 replace hz263 := hz263.mono (iE_ok _) hF382
 have h384 : RowR 1 (iE .i64) F381 (some ⟨b371, 0, none⟩) 1 [0] := RowR.of_block (iE_ok _) (vss := [[.int .i64 0]]) (xs := [0]) hz383 (.cons rfl .nil) rfl (by simp [maxLen])
 obtain ⟨l30, n25, h385, r386⟩ := b2_ok r348; clear r348
 refine o_call0 rfl Try.call24 rfl rfl rfl (book_Again_w h374 h377 h380 h384 h385) ?_; rintro _ F387 _ hF388 hn389 ⟨a391, c392, rfl, rfl, h393⟩
 replace h346 := h346.mono (iE_ok _) hF388
 replace hz263 := hz263.mono (iE_ok _) hF388
 refine shO_L (ln rfl) ?_
 refine om rfl rfl (ox rfl rfl rfl (ox rfl rfl rfl (oa rfl rfl (nsr (om rfl rfl ?_)))))
 refine ov (v_eql rfl rfl) rfl ?_
 refine om rfl rfl ?_
 by_cases c394 : n16 = 0
 · have r395 := ite_t r386 c394; clear r386
   refine shO_on (b := true) 105 rfl (Env.isT rfl c394) (om rfl rfl (shO_on (b := true) 105 rfl (Env.isT rfl c394) ?_))
   refine ov (v_eql rfl rfl) rfl ?_
   refine ov (v_pick_t (evD_true rfl c394) rfl) rfl ?_
   refine om rfl rfl ?_
   by_cases c396 : n19 = 0
   · have r397 := ite_t r395 c396; clear r395
     refine shO_on (b := true) 109 rfl (Env.isT rfl c396) (om rfl rfl (shO_on (b := true) 109 rfl (Env.isT rfl c396) ?_))
     refine ov (v_eql rfl rfl) rfl ?_
     refine ov (v_pick_t (evD_true rfl c396) rfl) rfl ?_
     refine om rfl rfl ?_
     by_cases c398 : n22 = 0
     · have r399 := ite_t r397 c398; clear r397
       refine shO_on (b := true) 113 rfl (Env.isT rfl c398) (om rfl rfl (shO_on (b := true) 113 rfl (Env.isT rfl c398) ?_))
       refine ov (v_eql rfl rfl) rfl ?_
       refine ov (v_pick_t (evD_true rfl c398) rfl) rfl ?_
       refine om rfl rfl ?_
       by_cases c400 : n25 = 6
       · have r401 := ite_t r399 c400; clear r399
         refine shO_on (b := true) 117 rfl (Env.isT rfl c400) (om rfl rfl ?_)
         refine ov (v_pick_t (evD_true rfl c400) rfl) rfl ?_
         refine om rfl rfl ?_
         rcases bool_two ok4 with c402 | c402
         · have r403 := bt r401 c402; clear r401
           refine shO_on (b := true) 120 rfl (EnvB rfl c402) (om rfl rfl (shO_on (b := true) 120 rfl (EnvB rfl c402) ?_))
           refine o_buildSlice (cs := #[.int .i64 0]) rfl rfl (buildSlice_all slt_24 [.int .i64 0] rfl (by decide) (by simp [Value.cells]) (by decide)) ?_; intro b404 hb404
           refine shO_on (b := true) 120 rfl (EnvB rfl c402) ?_
           refine shO_freeze 0 rfl hb404 ?_; intro F405 hF406 hz407
           refine shO_L (L' := Lb275 ++ (Lb281 ++ (Lb287 ++ (Lb262 ++ (Lb238 ++ (Lb244 ++ (Lb250 ++ (Lb227 ++ [])))))))) rfl ?_
           replace h346 := h346.mono (iE_ok _) hF406
           replace hz263 := hz263.mono (iE_ok _) hF406
           have h408 : RowR 1 (iE .i64) F405 (some ⟨b404, 0, none⟩) 1 [0] := RowR.of_block (iE_ok _) (vss := [[.int .i64 0]]) (xs := [0]) hz407 (.cons rfl .nil) rfl (by simp [maxLen])
           obtain ⟨ok5, h409, r410⟩ := b1_ok r403; clear r403
           refine o_callT (Lt := Lb262 ++ []) (Lr := Lb275 ++ (Lb281 ++ (Lb287 ++ (Lb238 ++ (Lb244 ++ (Lb250 ++ (Lb227 ++ []))))))) rfl Try.call46 rfl rfl rfl (pT ((fS (fS (fS fP))).trans (pA pR)) (lp (ln rfl))) (fun F2 h2 h3 => by rw [(SlR.caps hz263).1]; exact oyezkit_Like_int_w (hz263.row (iE_ok _) h2 (fun p hp => h3 p (List.mem_append_left _ hp))) (h408.mono (iE_ok _) h2) h409) ?_
           refine ov (v_pick_t (evB rfl c402) rfl) rfl ?_
           refine om rfl rfl ?_
           rcases bool_two ok5 with c411 | c411
           · have r412 := bt r410 c411; clear r410
             refine shO_on (b := true) 125 rfl (EnvB rfl c411) (om rfl rfl (shO_on (b := true) 125 rfl (EnvB rfl c411) ?_))
             refine o_buildSlice (cs := #[.int .i64 1, .int .i64 2, .int .i64 3]) rfl rfl (buildSlice_all slt_24 [.int .i64 1, .int .i64 2, .int .i64 3] rfl (by decide) (by simp [Value.cells]) (by decide)) ?_; intro b413 hb413
             refine shO_on (b := true) 125 rfl (EnvB rfl c411) ?_
             refine shO_freeze 0 rfl hb413 ?_; intro F414 hF415 hz416
             refine shO_L (L' := Lb275 ++ (Lb281 ++ (Lb287 ++ (Lb262 ++ (Lb238 ++ (Lb244 ++ (Lb250 ++ (Lb227 ++ [])))))))) rfl ?_
             replace h346 := h346.mono (iE_ok _) hF415
             have h417 : RowR 1 (iE .i64) F414 (some ⟨b413, 0, none⟩) 3 [1, 2, 3] := RowR.of_block (iE_ok _) (vss := [[.int .i64 1], [.int .i64 2], [.int .i64 3]]) (xs := [1, 2, 3]) hz416 (.cons rfl (.cons rfl (.cons rfl .nil))) rfl (by simp [maxLen])
             obtain ⟨ok6, h418, r419⟩ := b1_ok r412; clear r412
             refine o_callV rfl Try.call46 rfl rfl rfl (oyezkit_Like_int_w h346 h417 h418) ?_
             refine ov (v_pick_t (evB rfl c411) rfl) rfl ?_
             refine oa rfl rfl (shO_nil ?_)
             refine kW kn ?_
             refine shW_ret ?_
             refine q_res1 Try.results16 (res_tmp rfl) (sr) ?_
             obtain rfl := inj1 r419
             exact rfl
           have r420 := bf r410 c411; clear r410
           refine shO_off (b' := false) 125 rfl (EnvB rfl c411) rfl rfl (shO_off (b' := false) 125 rfl (EnvB rfl c411) rfl rfl (shO_off (b' := false) 125 rfl (EnvB rfl c411) rfl rfl ?_))
           refine ov (v_pick_f (evB rfl c411) rfl) rfl ?_
           refine oa rfl rfl (shO_nil ?_)
           refine kW kn ?_
           refine shW_ret ?_
           refine q_res1 Try.results16 (res_tmp rfl) (sr) ?_
           obtain rfl := inj1 r420
           exact rfl
         have r421 := bf r401 c402; clear r401
         refine shO_off (b' := false) 120 rfl (EnvB rfl c402) rfl rfl (shO_off (b' := false) 120 rfl (EnvB rfl c402) rfl rfl (shO_off (b' := false) 120 rfl (EnvB rfl c402) rfl rfl ?_))
         refine ov (v_pick_f (evB rfl c402) rfl) rfl ?_
         refine om rfl rfl (shO_off (b' := false) 125 rfl rfl rfl rfl (shO_off (b' := false) 125 rfl rfl rfl rfl (shO_off (b' := false) 125 rfl rfl rfl rfl ?_)))
         refine ov (v_pick_f rfl rfl) rfl ?_
         refine oa rfl rfl (shO_nil ?_)
         refine kW kn ?_
         refine shW_ret ?_
         refine q_res1 Try.results16 (res_tmp rfl) (sr) ?_
         obtain rfl := inj1 r421
         exact rfl
       have r422 := ite_f r399 c400; clear r399
       refine shO_off (b' := false) 117 rfl (Env.isF rfl c400) rfl rfl ?_
       refine ov (v_pick_f (evD_false rfl c400) rfl) rfl ?_
       refine om rfl rfl (shO_off (b' := false) 120 rfl rfl rfl rfl (shO_off (b' := false) 120 rfl rfl rfl rfl (shO_off (b' := false) 120 rfl rfl rfl rfl ?_)))
       refine ov (v_pick_f rfl rfl) rfl ?_
       refine om rfl rfl (shO_off (b' := false) 125 rfl rfl rfl rfl (shO_off (b' := false) 125 rfl rfl rfl rfl (shO_off (b' := false) 125 rfl rfl rfl rfl ?_)))
       refine ov (v_pick_f rfl rfl) rfl ?_
       refine oa rfl rfl (shO_nil ?_)
       refine kW kn ?_
       refine shW_ret ?_
       refine q_res1 Try.results16 (res_tmp rfl) (sr) ?_
       obtain rfl := inj1 r422
       exact rfl
     have r423 := ite_f r397 c398; clear r397
     refine shO_off (b' := false) 113 rfl (Env.isF rfl c398) rfl rfl (shO_off (b' := false) 113 rfl (Env.isF rfl c398) rfl rfl ?_)
     refine ov (v_pick_f (evD_false rfl c398) rfl) rfl ?_
     refine om rfl rfl (shO_off (b' := false) 117 rfl rfl rfl rfl ?_)
     refine ov (v_pick_f rfl rfl) rfl ?_
     refine om rfl rfl (shO_off (b' := false) 120 rfl rfl rfl rfl (shO_off (b' := false) 120 rfl rfl rfl rfl (shO_off (b' := false) 120 rfl rfl rfl rfl ?_)))
     refine ov (v_pick_f rfl rfl) rfl ?_
     refine om rfl rfl (shO_off (b' := false) 125 rfl rfl rfl rfl (shO_off (b' := false) 125 rfl rfl rfl rfl (shO_off (b' := false) 125 rfl rfl rfl rfl ?_)))
     refine ov (v_pick_f rfl rfl) rfl ?_
     refine oa rfl rfl (shO_nil ?_)
     refine kW kn ?_
     refine shW_ret ?_
     refine q_res1 Try.results16 (res_tmp rfl) (sr) ?_
     obtain rfl := inj1 r423
     exact rfl
   have r424 := ite_f r395 c396; clear r395
   refine shO_off (b' := false) 109 rfl (Env.isF rfl c396) rfl rfl (shO_off (b' := false) 109 rfl (Env.isF rfl c396) rfl rfl ?_)
   refine ov (v_pick_f (evD_false rfl c396) rfl) rfl ?_
   refine om rfl rfl (shO_off (b' := false) 113 rfl rfl rfl rfl (shO_off (b' := false) 113 rfl rfl rfl rfl ?_))
   refine ov (v_pick_f rfl rfl) rfl ?_
   refine om rfl rfl (shO_off (b' := false) 117 rfl rfl rfl rfl ?_)
   refine ov (v_pick_f rfl rfl) rfl ?_
   refine om rfl rfl (shO_off (b' := false) 120 rfl rfl rfl rfl (shO_off (b' := false) 120 rfl rfl rfl rfl (shO_off (b' := false) 120 rfl rfl rfl rfl ?_)))
   refine ov (v_pick_f rfl rfl) rfl ?_
   refine om rfl rfl (shO_off (b' := false) 125 rfl rfl rfl rfl (shO_off (b' := false) 125 rfl rfl rfl rfl (shO_off (b' := false) 125 rfl rfl rfl rfl ?_)))
   refine ov (v_pick_f rfl rfl) rfl ?_
   refine oa rfl rfl (shO_nil ?_)
   refine kW kn ?_
   refine shW_ret ?_
   refine q_res1 Try.results16 (res_tmp rfl) (sr) ?_
   obtain rfl := inj1 r424
   exact rfl
 have r425 := ite_f r386 c394; clear r386
 refine shO_off (b' := false) 105 rfl (Env.isF rfl c394) rfl rfl (shO_off (b' := false) 105 rfl (Env.isF rfl c394) rfl rfl ?_)
 refine ov (v_pick_f (evD_false rfl c394) rfl) rfl ?_
 refine om rfl rfl (shO_off (b' := false) 109 rfl rfl rfl rfl (shO_off (b' := false) 109 rfl rfl rfl rfl ?_))
 refine ov (v_pick_f rfl rfl) rfl ?_
 refine om rfl rfl (shO_off (b' := false) 113 rfl rfl rfl rfl (shO_off (b' := false) 113 rfl rfl rfl rfl ?_))
 refine ov (v_pick_f rfl rfl) rfl ?_
 refine om rfl rfl (shO_off (b' := false) 117 rfl rfl rfl rfl ?_)
 refine ov (v_pick_f rfl rfl) rfl ?_
 refine om rfl rfl (shO_off (b' := false) 120 rfl rfl rfl rfl (shO_off (b' := false) 120 rfl rfl rfl rfl (shO_off (b' := false) 120 rfl rfl rfl rfl ?_)))
 refine ov (v_pick_f rfl rfl) rfl ?_
 refine om rfl rfl (shO_off (b' := false) 125 rfl rfl rfl rfl (shO_off (b' := false) 125 rfl rfl rfl rfl (shO_off (b' := false) 125 rfl rfl rfl rfl ?_)))
 refine ov (v_pick_f rfl rfl) rfl ?_
 refine oa rfl rfl (shO_nil ?_)
 refine kW kn ?_
 refine shW_ret ?_
 refine q_res1 Try.results16 (res_tmp rfl) (sr) ?_
 obtain rfl := inj1 r425
 exact rfl
set_option maxHeartbeats 1000000 in
theorem oyezlaw07_BookCried_w {numbers_a : Option Addr} {numbers_c : Nat} {numbers : List Int} {more_a : Option Addr} {more_c : Nat} {more : List Int} {F : FS} (h_numbers : RowR 1 (iE .u8) F numbers_a numbers_c numbers) (h_more : RowR 1 (iE .u8) F more_a more_c more) {r : Bool} (hr : oyezlaw07_BookCried numbers more = some r) :
    SpecV Try.prog 3 #[.slice numbers_a numbers.length numbers_c, .slice more_a more.length more_c] F (.bool r) := by
 refine spec_of_shW (args := [.slice numbers_a numbers.length numbers_c, .slice more_a more.length more_c]) Try.func3 rfl Try.ntmps3 (Nat.le_of_ble_eq_true rfl) ?_
 intro K _ _; rw [oyezlaw07_BookCried] at hr
 refine wsr (oa rfl rfl (nsr (om rfl rfl ?_)))
 obtain ⟨metal, at_, turn, h1, r2⟩ := b3_ok hr; clear hr
 refine o_call0 rfl Try.call10 rfl rfl rfl (oyezkit_Hang_w h_numbers h1) ?_; rintro _ F3 _ hF4 hn5 ⟨b7, a8, c9, rfl, rfl, h10⟩
 replace h_more := h_more.mono (iE_ok _) hF4
 refine shO_L (lb (ln rfl)) ?_
 obtain ⟨n, n2, l, l2, l3, l4, at_2, turn2, h11, r12⟩ := b8_ok r2; clear r2
 refine o_callG (Lb := [(b7, .cells #[.slice a8 metal.length c9, .int .i64 at_, .int .u32 turn] 83 (0, 0))]) (Lr := []) rfl Try.call9 rfl rfl rfl (pR) (oyezlaw07_Made_w h10 h11) ?_; rintro _ F13 _ hF14 hd16 hn15 ⟨a17, n21, c18, Lb19, a23, n27, c24, Lb25, a29, n33, c30, Lb31, a35, n39, c36, Lb37, rfl, rfl, hz20, hz26, hz32, hz38⟩
 replace h_more := h_more.mono (iE_ok _) hF14
 have hn41 := newp (Lb' := [(b7, .cells #[.slice a8 metal.length c9, .int .i64 at_2, .int .u32 turn2] 83 (0, 0))]) (by rfl) hd16 hn15
 replace hz20 := hz20.new fun p hp => hn41 p (by simp [hp])
 replace hz26 := hz26.new fun p hp => hn41 p (by simp [hp])
 replace hz32 := hz32.new fun p hp => hn41 p (by simp [hp])
 refine shO_L (lb (lp (lp (lp (lp (ln rfl)))))) ?_
 refine om rfl rfl (ox rfl rfl rfl (ox rfl rfl rfl ?_))
 refine o_alloc rfl Try.zeroValue27 ?_; intro b42 hb42
 refine o_storeA (i := 0) Try.sizeOf27 rfl rfl rfl (by simp [Value.oneCell']) rfl (Nat.le_of_ble_eq_true rfl) ?_
 refine shO_L (L' := (b42, .cells #[.int .i64 n, .int .i64 n2, .slice a17 n21 c18, .slice a23 n27 c24, .slice a29 n33 c30] 27 (0, 0)) :: ((b7, .cells #[.slice a8 metal.length c9, .int .i64 at_2, .int .u32 turn2] 83 (0, 0)) :: (Lb19 ++ (Lb25 ++ (Lb31 ++ (Lb37 ++ [])))))) rfl ?_
 refine oa rfl rfl (nsr (om rfl rfl ?_))
 obtain ⟨metal2, at_3, turn3, h43, r44⟩ := b3_ok r12; clear r12
 refine o_call0 rfl Try.call10 rfl rfl rfl (oyezkit_Hang_w h_more h43) ?_; rintro _ F45 _ hF46 hn47 ⟨b49, a50, c51, rfl, rfl, h52⟩
 replace hz20 := hz20.mono (slE_ok (slE_ok (iE_ok _))) hF46
 replace hz26 := hz26.mono (iE_ok _) hF46
 replace hz32 := hz32.mono (prE_ok (iE_ok _) (prE_ok (iE_ok _) (iE_ok _))) hF46
 refine shO_L (lb (ln rfl)) ?_
 refine oa rfl rfl (shO_nil (shW_seq ?_))
 refine shW_drawM [(.pre, 18), (.still, 0), (.still, 1), (.still, 2), (.still, 3), (.still, 4), (.still, 6), (.still, 7), (.still, 8), (.still, 9), (.still, 10), (.still, 12), (.still, 13), (.still, 14), (.still, 15), (.seq, 5), (.seq, 11), (.seq, 16), (.still, 17), (.alloc (.cells (.agg #[.int .i64 0, .int .i64 0, .int .i64 0] : Value).cells 34 (0, 0)) (fun b => .pointer (some ⟨b, 0, none⟩)) [], 18), (.seq, 19)] (by kernel_rfl) (by kernel_rfl) (⟨⟨_, _, rfl, rfl, rfl, rfl, rfl, mk_alloc Try.zeroValue34⟩, trivial⟩) (by rfl) (by kernel_rfl) ?_
 refine ⟨⟨[], rfl, sn _, by kernel_rfl⟩, ?_⟩
 refine shM_v (v := .pointer (some ⟨b49, 0, none⟩)) (ek := [(7, .pointer (some ⟨b49, 0, none⟩))]) (Ls := []) rfl rfl rfl rfl ((sc rfl (sn _))) (by kernel_rfl) sm (fun H F' L' hF' hL' => v_move rfl) ?_
 refine shM_v (v := .pointer (some ⟨b42, 3, none⟩)) (ek := [(5, .pointer (some ⟨b42, 0, none⟩))]) (Ls := []) rfl rfl rfl rfl ((sc rfl (sn _))) (by kernel_rfl) sm (fun H F' L' hF' hL' => v_fieldAddr fa_27_3 rfl) ?_
 refine shM_v (v := .slice a23 n27 c24) (ek := [(39, .pointer (some ⟨b42, 3, none⟩))]) (Ls := [(b42, .cells #[.int .i64 n, .int .i64 n2, .slice a17 n21 c18, .slice a23 n27 c24, .slice a29 n33 c30] 27 (0, 0))]) rfl rfl rfl rfl ((sc rfl (sn _))) (by kernel_rfl) (s0 (s1 (s2 (s1 (s3 (s3 (s3 (s3 sr)))))))) (fun H F' L' hF' hL' => v_load Try.isAgg24 rfl ((Has.own 0 rfl).ext hF' hL') rfl) ?_
 refine shM_v (v := .int .i64 (l2.length : Int)) (ek := [(40, .slice a23 n27 c24)]) (Ls := []) rfl rfl rfl rfl ((sc rfl (sn _))) (by kernel_rfl) sm (fun H F' L' hF' hL' => (v_lenS Try.underlying24 rfl).i (SlR.lenI hz26)) ?_
 obtain ⟨g53, r54⟩ := gd_ok r44; clear r44
 refine shM_v (v := .int .i64 ((l2.length : Int) - 1)) (ek := [(41, .int .i64 (l2.length : Int))]) (Ls := []) rfl rfl rfl rfl ((sc rfl (sn _))) (by kernel_rfl) sm (fun H F' L' hF' hL' => v_sub rfl rfl g53) ?_
 refine shM_v (v := .pointer (some ⟨b49, 0, none⟩)) (ek := [(7, .pointer (some ⟨b49, 0, none⟩))]) (Ls := []) rfl rfl rfl rfl ((sc rfl (sn _))) (by kernel_rfl) sm (fun H F' L' hF' hL' => v_move rfl) ?_
 refine shM_v (v := .pointer (some ⟨b42, 2, none⟩)) (ek := [(5, .pointer (some ⟨b42, 0, none⟩))]) (Ls := []) rfl rfl rfl rfl ((sc rfl (sn _))) (by kernel_rfl) sm (fun H F' L' hF' hL' => v_fieldAddr fa_27_2 rfl) ?_
 refine shM_v (v := .slice a17 n21 c18) (ek := [(45, .pointer (some ⟨b42, 2, none⟩))]) (Ls := [(b42, .cells #[.int .i64 n, .int .i64 n2, .slice a17 n21 c18, .slice a23 n27 c24, .slice a29 n33 c30] 27 (0, 0))]) rfl rfl rfl rfl ((sc rfl (sn _))) (by kernel_rfl) (s0 (s1 (s2 (s1 (s3 (s3 (s3 (s3 sr)))))))) (fun H F' L' hF' hL' => v_load Try.isAgg23 rfl ((Has.own 0 rfl).ext hF' hL') rfl) ?_
 refine shM_v (v := .int .i64 (l.length : Int)) (ek := [(46, .slice a17 n21 c18)]) (Ls := []) rfl rfl rfl rfl ((sc rfl (sn _))) (by kernel_rfl) sm (fun H F' L' hF' hL' => (v_lenS Try.underlying23 rfl).i (SlR.lenI hz20)) ?_
 obtain ⟨g55, r56⟩ := gd_ok r54; clear r54
 refine shM_v (v := .int .i64 ((l.length : Int) - 1)) (ek := [(47, .int .i64 (l.length : Int))]) (Ls := []) rfl rfl rfl rfl ((sc rfl (sn _))) (by kernel_rfl) sm (fun H F' L' hF' hL' => v_sub rfl rfl g55) ?_
 refine shM_v (v := .pointer (some ⟨b49, 0, none⟩)) (ek := [(7, .pointer (some ⟨b49, 0, none⟩))]) (Ls := []) rfl rfl rfl rfl ((sc rfl (sn _))) (by kernel_rfl) sm (fun H F' L' hF' hL' => v_move rfl) ?_
 refine shM_v (v := .pointer (some ⟨b42, 1, none⟩)) (ek := [(5, .pointer (some ⟨b42, 0, none⟩))]) (Ls := []) rfl rfl rfl rfl ((sc rfl (sn _))) (by kernel_rfl) sm (fun H F' L' hF' hL' => v_fieldAddr fa_27_1 rfl) ?_
 refine shM_v (v := .int .i64 n2) (ek := [(51, .pointer (some ⟨b42, 1, none⟩))]) (Ls := [(b42, .cells #[.int .i64 n, .int .i64 n2, .slice a17 n21 c18, .slice a23 n27 c24, .slice a29 n33 c30] 27 (0, 0))]) rfl rfl rfl rfl ((sc rfl (sn _))) (by kernel_rfl) (s0 (s1 (s2 (s1 (s3 (s3 (s3 (s3 sr)))))))) (fun H F' L' hF' hL' => v_load Try.isAgg3 rfl ((Has.own 0 rfl).ext hF' hL') rfl) ?_
 obtain ⟨g57, r58⟩ := gd_ok r56; clear r56
 refine shM_v (v := .int .i64 (n2 - 1)) (ek := [(52, .int .i64 n2)]) (Ls := []) rfl rfl rfl rfl ((sc rfl (sn _))) (by kernel_rfl) sm (fun H F' L' hF' hL' => v_sub rfl rfl g57) ?_
 refine ⟨_, [(38, .pointer (some ⟨b49, 0, none⟩)), (42, .int .i64 ((l2.length : Int) - 1))], rfl, rfl, (sc rfl (sc rfl (sn _))), by kernel_rfl, ?_⟩; intro H
 obtain ⟨n3, at_4, turn4, h59, r60⟩ := b3_ok r58; clear r58
 refine o_callG (Lb := [(b49, .cells #[.slice a50 metal2.length c51, .int .i64 at_3, .int .u32 turn3] 83 (0, 0))]) (Lr := (b42, .cells #[.int .i64 n, .int .i64 n2, .slice a17 n21 c18, .slice a23 n27 c24, .slice a29 n33 c30] 27 (0, 0)) :: ((b7, .cells #[.slice a8 metal.length c9, .int .i64 at_2, .int .u32 turn2] 83 (0, 0)) :: (Lb19 ++ (Lb25 ++ (Lb31 ++ (Lb37 ++ [])))))) rfl Try.call11 rfl rfl rfl (pR) (oyezkit_Bell_Stroke_w h52 h59) ?_; rintro _ F61 _ hF62 hd64 hn63 ⟨rfl, rfl⟩
 replace h52 := h52.mono (iE_ok _) hF62
 replace hz20 := hz20.mono (slE_ok (slE_ok (iE_ok _))) hF62
 replace hz26 := hz26.mono (iE_ok _) hF62
 replace hz32 := hz32.mono (prE_ok (iE_ok _) (prE_ok (iE_ok _) (iE_ok _))) hF62
 refine shO_L (lb (ln rfl)) ?_
 refine shO_nil ⟨_, rfl, hF62, [15, 14, 13, 12, 10, 9, 8, 7, 6], by kernel_rfl, .inl (.inr (fun d h => by cases h; rfl)), (List.forall_mem_cons.2 ⟨sm, (List.forall_mem_cons.2 ⟨s0 (s1 (s2 (s1 (s3 (s3 (s3 (s3 sr))))))), (List.forall_mem_cons.2 ⟨sm, (List.forall_mem_cons.2 ⟨sm, (List.forall_mem_cons.2 ⟨sm, (List.forall_mem_cons.2 ⟨sm, (List.forall_mem_cons.2 ⟨s0 (s1 (s2 (s1 (s3 (s3 (s3 (s3 sr))))))), (List.forall_mem_cons.2 ⟨sm, (List.forall_mem_cons.2 ⟨sm, (fun _ h => absurd h List.not_mem_nil)⟩)⟩)⟩)⟩)⟩)⟩)⟩)⟩)⟩), ?_⟩
 refine ⟨_, [(44, .pointer (some ⟨b49, 0, none⟩)), (48, .int .i64 ((l.length : Int) - 1))], rfl, rfl, (sc rfl (sc rfl (sn _))), by kernel_rfl, ?_⟩; intro H
 obtain ⟨n4, at_5, turn5, h65, r66⟩ := b3_ok r60; clear r60
 refine o_callG (Lb := [(b49, .cells #[.slice a50 metal2.length c51, .int .i64 at_4, .int .u32 turn4] 83 (0, 0))]) (Lr := (b42, .cells #[.int .i64 n, .int .i64 n2, .slice a17 n21 c18, .slice a23 n27 c24, .slice a29 n33 c30] 27 (0, 0)) :: ((b7, .cells #[.slice a8 metal.length c9, .int .i64 at_2, .int .u32 turn2] 83 (0, 0)) :: (Lb19 ++ (Lb25 ++ (Lb31 ++ (Lb37 ++ [])))))) rfl Try.call11 rfl rfl rfl (pR) (oyezkit_Bell_Stroke_w h52 h65) ?_; rintro _ F67 _ hF68 hd70 hn69 ⟨rfl, rfl⟩
 replace h52 := h52.mono (iE_ok _) hF68
 replace hz20 := hz20.mono (slE_ok (slE_ok (iE_ok _))) hF68
 replace hz26 := hz26.mono (iE_ok _) hF68
 replace hz32 := hz32.mono (prE_ok (iE_ok _) (prE_ok (iE_ok _) (iE_ok _))) hF68
 refine shO_L (lb (ln rfl)) ?_
 refine shO_nil ⟨_, rfl, hF68, [15, 14, 13, 12], by kernel_rfl, .inl (.inr (fun d h => by cases h; rfl)), (List.forall_mem_cons.2 ⟨sm, (List.forall_mem_cons.2 ⟨s0 (s1 (s2 (s1 (s3 (s3 (s3 (s3 sr))))))), (List.forall_mem_cons.2 ⟨sm, (List.forall_mem_cons.2 ⟨sm, (fun _ h => absurd h List.not_mem_nil)⟩)⟩)⟩)⟩), ?_⟩
 refine ⟨_, [(50, .pointer (some ⟨b49, 0, none⟩)), (53, .int .i64 (n2 - 1))], rfl, rfl, (sc rfl (sc rfl (sn _))), by kernel_rfl, ?_⟩; intro H
 obtain ⟨n5, at_6, turn6, h71, r72⟩ := b3_ok r66; clear r66
 refine o_callG (Lb := [(b49, .cells #[.slice a50 metal2.length c51, .int .i64 at_5, .int .u32 turn5] 83 (0, 0))]) (Lr := (b42, .cells #[.int .i64 n, .int .i64 n2, .slice a17 n21 c18, .slice a23 n27 c24, .slice a29 n33 c30] 27 (0, 0)) :: ((b7, .cells #[.slice a8 metal.length c9, .int .i64 at_2, .int .u32 turn2] 83 (0, 0)) :: (Lb19 ++ (Lb25 ++ (Lb31 ++ (Lb37 ++ [])))))) rfl Try.call11 rfl rfl rfl (pR) (oyezkit_Bell_Stroke_w h52 h71) ?_; rintro _ F73 _ hF74 hd76 hn75 ⟨rfl, rfl⟩
 replace hz20 := hz20.mono (slE_ok (slE_ok (iE_ok _))) hF74
 replace hz26 := hz26.mono (iE_ok _) hF74
 replace hz32 := hz32.mono (prE_ok (iE_ok _) (prE_ok (iE_ok _) (iE_ok _))) hF74
 refine shO_L (lb (ln rfl)) ?_
 refine shO_nil ⟨_, rfl, hF74, [], by kernel_rfl, .inl (.inl rfl), (fun _ h => absurd h List.not_mem_nil), ?_⟩
 refine shM_v (v := .agg #[.int .i64 n3, .int .i64 n4, .int .i64 n5]) (ek := [(43, .int .i64 n3), (49, .int .i64 n4), (54, .int .i64 n5)]) (Ls := []) rfl rfl rfl rfl ((sc rfl (sc rfl (sc rfl (sn _))))) (by kernel_rfl) sm (fun H F' L' hF' hL' => v_build (v := .agg #[.int .i64 n3, .int .i64 n4, .int .i64 n5]) rfl (by intro w; kernel_rfl)) ?_
 refine shM_ptr rfl ?_; intro b77 hb77
 refine shM_L (L' := (b77, .cells #[.int .i64 0, .int .i64 0, .int .i64 0] 34 (0, 0)) :: ((b49, .cells #[.slice a50 metal2.length c51, .int .i64 at_6, .int .u32 turn6] 83 (0, 0)) :: ((b42, .cells #[.int .i64 n, .int .i64 n2, .slice a17 n21 c18, .slice a23 n27 c24, .slice a29 n33 c30] 27 (0, 0)) :: ((b7, .cells #[.slice a8 metal.length c9, .int .i64 at_2, .int .u32 turn2] 83 (0, 0)) :: (Lb19 ++ (Lb25 ++ (Lb31 ++ (Lb37 ++ [])))))))) rfl ?_
 refine ⟨_, [(8, .pointer (some ⟨b77, 0, none⟩)), (55, .agg #[.int .i64 n3, .int .i64 n4, .int .i64 n5])], rfl, rfl, (sc rfl (sc rfl (sn _))), by kernel_rfl, ?_⟩; intro H
 refine o_storeA (i := 0) Try.sizeOf34 rfl rfl rfl (by simp [Value.oneCell']) rfl (Nat.le_of_ble_eq_true rfl) ?_
 refine shO_L (L' := (b77, .cells #[.int .i64 n3, .int .i64 n4, .int .i64 n5] 34 (0, 0)) :: ((b49, .cells #[.slice a50 metal2.length c51, .int .i64 at_6, .int .u32 turn6] 83 (0, 0)) :: ((b42, .cells #[.int .i64 n, .int .i64 n2, .slice a17 n21 c18, .slice a23 n27 c24, .slice a29 n33 c30] 27 (0, 0)) :: ((b7, .cells #[.slice a8 metal.length c9, .int .i64 at_2, .int .u32 turn2] 83 (0, 0)) :: (Lb19 ++ (Lb25 ++ (Lb31 ++ (Lb37 ++ [])))))))) rfl ?_
 refine shO_nil ⟨undef, rfl, FExt.refl _, [], by kernel_rfl, .inl (.inl rfl), (fun _ h => absurd h List.not_mem_nil), ?_⟩
 refine shM_nil ?_
 refine wsr ?_
 refine ov (v_loadA (cs := #[.int .i64 n, .int .i64 n2, .slice a17 n21 c18, .slice a23 n27 c24, .slice a29 n33 c30]) Try.isAgg27 Try.sizeOf27 rfl (Has.own 2 rfl) (Nat.le_of_ble_eq_true rfl) rfl) rfl ?_
 obtain rfl := (SlR.caps hz20).1
 refine shO_freezeR (Nat.le_refl _) (slE_ok (slE_ok (iE_ok _))) (fC (fC (fC (fC fP)))) hz20 ?_; intro F78 hF79 h80
 replace hz26 := hz26.mono (iE_ok _) hF79
 replace hz32 := hz32.mono (prE_ok (iE_ok _) (prE_ok (iE_ok _) (iE_ok _))) hF79
 obtain rfl := (SlR.caps hz26).1
 refine shO_freezeR (Nat.le_refl _) (iE_ok _) (fC (fC (fC (fC fP)))) hz26 ?_; intro F81 hF82 h83
 replace h80 := h80.mono (slE_ok (slE_ok (iE_ok _))) hF82
 replace hz32 := hz32.mono (prE_ok (iE_ok _) (prE_ok (iE_ok _) (iE_ok _))) hF82
 obtain rfl := (SlR.caps hz32).1
 refine shO_freezeR (Nat.le_refl _) (prE_ok (iE_ok _) (prE_ok (iE_ok _) (iE_ok _))) (fC (fC (fC (fC fP)))) hz32 ?_; intro F84 hF85 h86
 replace h80 := h80.mono (slE_ok (slE_ok (iE_ok _))) hF85
 replace h83 := h83.mono (iE_ok _) hF85
 obtain ⟨n6, n7, l5, l6, l7, h87, r88⟩ := b5_ok r72; clear r72
 refine o_call0 rfl Try.call12 rfl rfl rfl (oyezlaw07_Own_w h80 h83 h86 h87) ?_; rintro _ F89 _ hF90 hn91 ⟨a93, n97, c94, Lb95, a99, n103, c100, Lb101, a105, n109, c106, Lb107, rfl, rfl, hz96, hz102, hz108⟩
 replace h80 := h80.mono (slE_ok (slE_ok (iE_ok _))) hF90
 replace h83 := h83.mono (iE_ok _) hF90
 replace h86 := h86.mono (prE_ok (iE_ok _) (prE_ok (iE_ok _) (iE_ok _))) hF90
 replace hz96 := hz96.new fun p hp => hn91 p (by simp [hp])
 replace hz102 := hz102.new fun p hp => hn91 p (by simp [hp])
 replace hz108 := hz108.new fun p hp => hn91 p (by simp [hp])
 refine shO_L (lp (lp (lp (ln rfl)))) ?_
 refine kO (kf (fS (fS (fS fO))) (kf (fS (fS (fS fO))) (kf (fS (fS (fS fO))) (kf (fS (fS (fS fO))) kr)))) ?_
 refine o_alloc rfl Try.zeroValue27 ?_; intro b111 hb111
 refine o_storeA (i := 0) Try.sizeOf27 rfl rfl rfl (by simp [Value.oneCell']) rfl (Nat.le_of_ble_eq_true rfl) ?_
 refine shO_L (L' := (b111, .cells #[.int .i64 n6, .int .i64 n7, .slice a93 n97 c94, .slice a99 n103 c100, .slice a105 n109 c106] 27 (0, 0)) :: ((b77, .cells #[.int .i64 n3, .int .i64 n4, .int .i64 n5] 34 (0, 0)) :: ((b49, .cells #[.slice a50 metal2.length c51, .int .i64 at_6, .int .u32 turn6] 83 (0, 0)) :: ((b42, .cells #[.int .i64 n, .int .i64 n2, .slice a17 l.length c18, .slice a23 l2.length c24, .slice a29 l3.length c30] 27 (0, 0)) :: ((b7, .cells #[.slice a8 metal.length c9, .int .i64 at_2, .int .u32 turn2] 83 (0, 0)) :: (Lb95 ++ (Lb101 ++ (Lb107 ++ (Lb37 ++ []))))))))) rfl ?_
 refine nsr ?_
 refine ov (v_fieldAddr fa_27_4 rfl) rfl ?_
 refine ov (v_load Try.isAgg25 rfl (Has.own 0 rfl) rfl) rfl ?_
 refine ov (v_loadA (cs := #[.int .i64 n3, .int .i64 n4, .int .i64 n5]) Try.isAgg34 Try.sizeOf34 rfl (Has.own 1 rfl) (Nat.le_of_ble_eq_true rfl) rfl) rfl ?_
 refine o_buildSlice (cs := #[.int .i64 n3, .int .i64 n4, .int .i64 n5]) rfl rfl (buildSlice_all slt_25 [.agg #[.int .i64 n3, .int .i64 n4, .int .i64 n5]] rfl (by decide) (by simp [Value.cells]) (by decide)) ?_; intro b112 hb112
 obtain ⟨u, h113, g114, r115⟩ := ap_ok r88; clear r88
 refine o_appZ (xs := l7) (ys := [(n3, n4, n5)]) (zs := u) rfl slt_25 rfl rfl (Nat.le_refl _) (fun _ => .c (.c (.c (.c (.c (.c (.s (.s .h)))))))) hz108 (SrcR.box (vss := [[.int .i64 n3, .int .i64 n4, .int .i64 n5]]) (ys := [(n3, n4, n5)]) 0 rfl (prE_ok (iE_ok _) (prE_ok (iE_ok _) (iE_ok _))) (.cons ⟨_, _, rfl, rfl, ⟨_, _, rfl, rfl, rfl⟩⟩ .nil) rfl rfl) h113 g114 (by decide) ?_; intro a116 n120 c117 Lb118 hz119
 refine kO (kd kr) ?_
 refine ov (v_fieldAddr fa_27_4 rfl) rfl ?_
 refine o_store (i := 0) Try.sizeOf25 rfl rfl rfl rfl (Nat.le_of_ble_eq_true rfl) ?_
 refine shO_L (L' := (b111, .cells #[.int .i64 n6, .int .i64 n7, .slice a93 n97 c94, .slice a99 n103 c100, .slice a116 n120 c117] 27 (0, 0)) :: ((b77, .cells #[.int .i64 n3, .int .i64 n4, .int .i64 n5] 34 (0, 0)) :: ((b49, .cells #[.slice a50 metal2.length c51, .int .i64 at_6, .int .u32 turn6] 83 (0, 0)) :: ((b42, .cells #[.int .i64 n, .int .i64 n2, .slice a17 l.length c18, .slice a23 l2.length c24, .slice a29 l3.length c30] 27 (0, 0)) :: ((b7, .cells #[.slice a8 metal.length c9, .int .i64 at_2, .int .u32 turn2] 83 (0, 0)) :: (Lb95 ++ (Lb101 ++ (Lb118 ++ (Lb37 ++ []))))))))) rfl ?_
 refine nsr ?_
 refine ov (v_loadA (cs := #[.int .i64 n, .int .i64 n2, .slice a17 l.length c18, .slice a23 l2.length c24, .slice a29 l3.length c30]) Try.isAgg27 Try.sizeOf27 rfl (Has.own 3 rfl) (Nat.le_of_ble_eq_true rfl) rfl) rfl ?_
 obtain ⟨l8, n8, h122, r123⟩ := b2_ok r115; clear r115
 refine o_call0 rfl Try.call13 rfl rfl rfl (book_Verdicts_w h80 h83 h86 h122) ?_; rintro _ F124 _ hF125 hn126 ⟨a128, c129, rfl, rfl, h130⟩
 replace h80 := h80.mono (slE_ok (slE_ok (iE_ok _))) hF125
 replace h83 := h83.mono (iE_ok _) hF125
 replace h86 := h86.mono (prE_ok (iE_ok _) (prE_ok (iE_ok _) (iE_ok _))) hF125
 replace hz96 := hz96.mono (slE_ok (slE_ok (iE_ok _))) hF125
 replace hz102 := hz102.mono (iE_ok _) hF125
 replace hz119 := hz119.mono (prE_ok (iE_ok _) (prE_ok (iE_ok _) (iE_ok _))) hF125
 refine shO_L (ln rfl) ?_
 refine om rfl rfl (ox rfl rfl rfl (ox rfl rfl rfl (oa rfl rfl (oa rfl rfl (nsr ?_)))))
 refine ov (v_loadA (cs := #[.int .i64 n6, .int .i64 n7, .slice a93 n97 c94, .slice a99 n103 c100, .slice a116 n120 c117]) Try.isAgg27 Try.sizeOf27 rfl (Has.own 0 rfl) (Nat.le_of_ble_eq_true rfl) rfl) rfl ?_
 obtain rfl := (SlR.caps hz96).1
 refine shO_freezeR (Nat.le_refl _) (slE_ok (slE_ok (iE_ok _))) (fC (fC (fC (fC (fC fP))))) hz96 ?_; intro F131 hF132 h133
 replace h80 := h80.mono (slE_ok (slE_ok (iE_ok _))) hF132
 replace h83 := h83.mono (iE_ok _) hF132
 replace h86 := h86.mono (prE_ok (iE_ok _) (prE_ok (iE_ok _) (iE_ok _))) hF132
 replace h130 := h130.mono (slE_ok (iE_ok _)) hF132
 replace hz102 := hz102.mono (iE_ok _) hF132
 replace hz119 := hz119.mono (prE_ok (iE_ok _) (prE_ok (iE_ok _) (iE_ok _))) hF132
 obtain rfl := (SlR.caps hz102).1
 refine shO_freezeR (Nat.le_refl _) (iE_ok _) (fC (fC (fC (fC (fC fP))))) hz102 ?_; intro F134 hF135 h136
 replace h80 := h80.mono (slE_ok (slE_ok (iE_ok _))) hF135
 replace h83 := h83.mono (iE_ok _) hF135
 replace h86 := h86.mono (prE_ok (iE_ok _) (prE_ok (iE_ok _) (iE_ok _))) hF135
 replace h130 := h130.mono (slE_ok (iE_ok _)) hF135
 replace h133 := h133.mono (slE_ok (slE_ok (iE_ok _))) hF135
 replace hz119 := hz119.mono (prE_ok (iE_ok _) (prE_ok (iE_ok _) (iE_ok _))) hF135
 obtain rfl := (SlR.caps hz119).1
 refine shO_freezeR (Nat.le_refl _) (prE_ok (iE_ok _) (prE_ok (iE_ok _) (iE_ok _))) (fC (fC (fC (fC (fC fP))))) hz119 ?_; intro F137 hF138 h139
 replace h80 := h80.mono (slE_ok (slE_ok (iE_ok _))) hF138
 replace h83 := h83.mono (iE_ok _) hF138
 replace h86 := h86.mono (prE_ok (iE_ok _) (prE_ok (iE_ok _) (iE_ok _))) hF138
 replace h130 := h130.mono (slE_ok (iE_ok _)) hF138
 replace h133 := h133.mono (slE_ok (slE_ok (iE_ok _))) hF138
 replace h136 := h136.mono (iE_ok _) hF138
 obtain ⟨l9, n9, h140, r141⟩ := b2_ok r123; clear r123
 refine o_call0 rfl Try.call13 rfl rfl rfl (book_Verdicts_w h133 h136 h139 h140) ?_; rintro _ F142 _ hF143 hn144 ⟨a146, c147, rfl, rfl, h148⟩
 replace h80 := h80.mono (slE_ok (slE_ok (iE_ok _))) hF143
 replace h83 := h83.mono (iE_ok _) hF143
 replace h86 := h86.mono (prE_ok (iE_ok _) (prE_ok (iE_ok _) (iE_ok _))) hF143
 replace h130 := h130.mono (slE_ok (iE_ok _)) hF143
 replace h133 := h133.mono (slE_ok (slE_ok (iE_ok _))) hF143
 replace h136 := h136.mono (iE_ok _) hF143
 replace h139 := h139.mono (prE_ok (iE_ok _) (prE_ok (iE_ok _) (iE_ok _))) hF143
 refine shO_L (ln rfl) ?_
 refine om rfl rfl (ox rfl rfl rfl (ox rfl rfl rfl (oa rfl rfl (oa rfl rfl (nsr ?_)))))
 refine ov (v_loadA (cs := #[.int .i64 n, .int .i64 n2, .slice a17 l.length c18, .slice a23 l2.length c24, .slice a29 l3.length c30]) Try.isAgg27 Try.sizeOf27 rfl (Has.own 3 rfl) (Nat.le_of_ble_eq_true rfl) rfl) rfl ?_
 obtain ⟨n10, n11, h149, r150⟩ := b2_ok r141; clear r141
 refine o_callV rfl Try.call14 rfl rfl rfl (book_Count_w h80 h83 h86 h149) ?_
 refine om rfl rfl (ox rfl rfl rfl (ox rfl rfl rfl (oa rfl rfl (oa rfl rfl (nsr ?_)))))
 refine ov (v_loadA (cs := #[.int .i64 n6, .int .i64 n7, .slice a93 l5.length c94, .slice a99 l6.length c100, .slice a116 u.length c117]) Try.isAgg27 Try.sizeOf27 rfl (Has.own 0 rfl) (Nat.le_of_ble_eq_true rfl) rfl) rfl ?_
 obtain ⟨n12, n13, h151, r152⟩ := b2_ok r150; clear r150
 refine o_callV rfl Try.call14 rfl rfl rfl (book_Count_w h133 h136 h139 h151) ?_
 refine om rfl rfl (ox rfl rfl rfl (ox rfl rfl rfl (oa rfl rfl (oa rfl rfl (nsr ?_)))))
 refine ov (v_loadA (cs := #[.int .i64 n, .int .i64 n2, .slice a17 l.length c18, .slice a23 l2.length c24, .slice a29 l3.length c30]) Try.isAgg27 Try.sizeOf27 rfl (Has.own 3 rfl) (Nat.le_of_ble_eq_true rfl) rfl) rfl ?_
 obtain ⟨l10, n14, h153, r154⟩ := b2_ok r152; clear r152
 refine o_call0 rfl Try.call15 rfl rfl rfl (book_Winds_w h80 h83 h86 h153) ?_; rintro _ F155 _ hF156 hn157 ⟨a159, n163, c160, Lb161, rfl, rfl, hz162⟩
 replace h80 := h80.mono (slE_ok (slE_ok (iE_ok _))) hF156
 replace h130 := h130.mono (slE_ok (iE_ok _)) hF156
 replace h148 := h148.mono (slE_ok (iE_ok _)) hF156
 replace hz162 := hz162.new fun p hp => hn157 p (by simp [hp])
 refine shO_L (lp (ln rfl)) ?_
 refine kO (kf (fS fO) (kf (fS fO) (kf (fS fO) (kf (fS fO) (kf (fS fO) kr))))) ?_
 refine om rfl rfl (ox rfl rfl rfl (ox rfl rfl rfl (oa rfl rfl (oa rfl rfl (shO_nil (shW_seq ?_))))))
 obtain ⟨k, h165, r166⟩ := b1_ok r154; clear r154
 refine shW_join (fun e1 F1 L1 => F155 = F1 ∧ L1 = ((b77, .cells #[.int .i64 n3, .int .i64 n4, .int .i64 n5] 34 (0, 0)) :: ((b42, .cells #[.int .i64 n, .int .i64 n2, .slice a17 l.length c18, .slice a23 l2.length c24, .slice a29 l3.length c30] 27 (0, 0)) :: (Lb161 ++ []))) ∧ e1.sub [(5, .pointer (some ⟨b42, 0, none⟩)), (8, .pointer (some ⟨b77, 0, none⟩)), (10, .slice a128 l8.length c129), (12, .slice a146 l9.length c147), (18, .slice a159 n163 c160), (133, .bool k)]) ?_ ?_
 · clear r166
   refine shW_region (om rfl rfl ?_)
   refine ov (v_neq rfl rfl) rfl ?_
   refine om rfl rfl ?_
   by_cases c167 : n8 ≠ 0
   · have r168 := ite_t h165 c167; clear h165
     refine shO_off (b' := true) 91 rfl (Env.isT rfl c167) rfl rfl (shO_off (b' := true) 91 rfl (Env.isT rfl c167) rfl rfl ?_)
     refine ov (v_pick_t (evD_true rfl c167) rfl) rfl ?_
     refine om rfl rfl (shO_off (b' := true) 95 rfl rfl rfl rfl (shO_off (b' := true) 95 rfl rfl rfl rfl ?_))
     refine ov (v_pick_t rfl rfl) rfl ?_
     refine om rfl rfl (shO_off (b' := true) 99 rfl rfl rfl rfl (shO_off (b' := true) 99 rfl rfl rfl rfl ?_))
     refine ov (v_pick_t rfl rfl) rfl ?_
     refine om rfl rfl (shO_off (b' := true) 103 rfl rfl rfl rfl (shO_off (b' := true) 103 rfl rfl rfl rfl ?_))
     refine ov (v_pick_t rfl rfl) rfl ?_
     refine om rfl rfl (shO_off (b' := true) 107 rfl rfl rfl rfl (shO_off (b' := true) 107 rfl rfl rfl rfl (shO_off (b' := true) 107 rfl rfl rfl rfl ?_)))
     refine ov (v_pick_t rfl rfl) rfl ?_
     refine om rfl rfl (shO_off (b' := true) 112 rfl rfl rfl rfl (shO_off (b' := true) 112 rfl rfl rfl rfl (shO_off (b' := true) 112 rfl rfl rfl rfl (shO_off (b' := true) 112 rfl rfl rfl rfl (shO_off (b' := true) 112 rfl rfl rfl rfl ?_)))))
     refine ov (v_pick_t rfl rfl) rfl ?_
     refine om rfl rfl (shO_off (b' := true) 119 rfl rfl rfl rfl (shO_off (b' := true) 119 rfl rfl rfl rfl (shO_off (b' := true) 119 rfl rfl rfl rfl (shO_off (b' := true) 119 rfl rfl rfl rfl (shO_off (b' := true) 119 rfl rfl rfl rfl ?_)))))
     refine ov (v_pick_t rfl rfl) rfl ?_
     refine om rfl rfl (shO_off (b' := true) 126 rfl rfl rfl rfl (shO_off (b' := true) 126 rfl rfl rfl rfl (shO_off (b' := true) 126 rfl rfl rfl rfl (shO_off (b' := true) 126 rfl rfl rfl rfl (shO_off (b' := true) 126 rfl rfl rfl rfl (shO_off (b' := true) 126 rfl rfl rfl rfl ?_))))))
     refine ov (v_pick_t rfl rfl) rfl ?_
     refine shO_nil ?_
     obtain rfl := inj1 r168
     exact mi (kd (kc (kd (kc (kd (ka kn)))))) ⟨rfl, rfl, (sc rfl (sc rfl (sc rfl (sc rfl (sc rfl (sc rfl (sn _)))))))⟩
   have r169 := ite_f h165 c167; clear h165
   refine shO_on (b := false) 91 rfl (Env.isF rfl c167) (om rfl rfl (shO_on (b := false) 91 rfl (Env.isF rfl c167) ?_))
   refine ov (v_neq rfl rfl) rfl ?_
   refine ov (v_pick_f (evD_false rfl c167) rfl) rfl ?_
   refine om rfl rfl ?_
   by_cases c170 : n9 ≠ 0
   · have r171 := ite_t r169 c170; clear r169
     refine shO_off (b' := true) 95 rfl (Env.isT rfl c170) rfl rfl (shO_off (b' := true) 95 rfl (Env.isT rfl c170) rfl rfl ?_)
     refine ov (v_pick_t (evD_true rfl c170) rfl) rfl ?_
     refine om rfl rfl (shO_off (b' := true) 99 rfl rfl rfl rfl (shO_off (b' := true) 99 rfl rfl rfl rfl ?_))
     refine ov (v_pick_t rfl rfl) rfl ?_
     refine om rfl rfl (shO_off (b' := true) 103 rfl rfl rfl rfl (shO_off (b' := true) 103 rfl rfl rfl rfl ?_))
     refine ov (v_pick_t rfl rfl) rfl ?_
     refine om rfl rfl (shO_off (b' := true) 107 rfl rfl rfl rfl (shO_off (b' := true) 107 rfl rfl rfl rfl (shO_off (b' := true) 107 rfl rfl rfl rfl ?_)))
     refine ov (v_pick_t rfl rfl) rfl ?_
     refine om rfl rfl (shO_off (b' := true) 112 rfl rfl rfl rfl (shO_off (b' := true) 112 rfl rfl rfl rfl (shO_off (b' := true) 112 rfl rfl rfl rfl (shO_off (b' := true) 112 rfl rfl rfl rfl (shO_off (b' := true) 112 rfl rfl rfl rfl ?_)))))
     refine ov (v_pick_t rfl rfl) rfl ?_
     refine om rfl rfl (shO_off (b' := true) 119 rfl rfl rfl rfl (shO_off (b' := true) 119 rfl rfl rfl rfl (shO_off (b' := true) 119 rfl rfl rfl rfl (shO_off (b' := true) 119 rfl rfl rfl rfl (shO_off (b' := true) 119 rfl rfl rfl rfl ?_)))))
     refine ov (v_pick_t rfl rfl) rfl ?_
     refine om rfl rfl (shO_off (b' := true) 126 rfl rfl rfl rfl (shO_off (b' := true) 126 rfl rfl rfl rfl (shO_off (b' := true) 126 rfl rfl rfl rfl (shO_off (b' := true) 126 rfl rfl rfl rfl (shO_off (b' := true) 126 rfl rfl rfl rfl (shO_off (b' := true) 126 rfl rfl rfl rfl ?_))))))
     refine ov (v_pick_t rfl rfl) rfl ?_
     refine shO_nil ?_
     obtain rfl := inj1 r171
     exact mi (kd (kc (kd (kc (kd (ka kn)))))) ⟨rfl, rfl, (sc rfl (sc rfl (sc rfl (sc rfl (sc rfl (sc rfl (sn _)))))))⟩
   have r172 := ite_f r169 c170; clear r169
   refine shO_on (b := false) 95 rfl (Env.isF rfl c170) (om rfl rfl (shO_on (b := false) 95 rfl (Env.isF rfl c170) ?_))
   refine ov (v_neq rfl rfl) rfl ?_
   refine ov (v_pick_f (evD_false rfl c170) rfl) rfl ?_
   refine om rfl rfl ?_
   by_cases c173 : n11 ≠ 0
   · have r174 := ite_t r172 c173; clear r172
     refine shO_off (b' := true) 99 rfl (Env.isT rfl c173) rfl rfl (shO_off (b' := true) 99 rfl (Env.isT rfl c173) rfl rfl ?_)
     refine ov (v_pick_t (evD_true rfl c173) rfl) rfl ?_
     refine om rfl rfl (shO_off (b' := true) 103 rfl rfl rfl rfl (shO_off (b' := true) 103 rfl rfl rfl rfl ?_))
     refine ov (v_pick_t rfl rfl) rfl ?_
     refine om rfl rfl (shO_off (b' := true) 107 rfl rfl rfl rfl (shO_off (b' := true) 107 rfl rfl rfl rfl (shO_off (b' := true) 107 rfl rfl rfl rfl ?_)))
     refine ov (v_pick_t rfl rfl) rfl ?_
     refine om rfl rfl (shO_off (b' := true) 112 rfl rfl rfl rfl (shO_off (b' := true) 112 rfl rfl rfl rfl (shO_off (b' := true) 112 rfl rfl rfl rfl (shO_off (b' := true) 112 rfl rfl rfl rfl (shO_off (b' := true) 112 rfl rfl rfl rfl ?_)))))
     refine ov (v_pick_t rfl rfl) rfl ?_
     refine om rfl rfl (shO_off (b' := true) 119 rfl rfl rfl rfl (shO_off (b' := true) 119 rfl rfl rfl rfl (shO_off (b' := true) 119 rfl rfl rfl rfl (shO_off (b' := true) 119 rfl rfl rfl rfl (shO_off (b' := true) 119 rfl rfl rfl rfl ?_)))))
     refine ov (v_pick_t rfl rfl) rfl ?_
     refine om rfl rfl (shO_off (b' := true) 126 rfl rfl rfl rfl (shO_off (b' := true) 126 rfl rfl rfl rfl (shO_off (b' := true) 126 rfl rfl rfl rfl (shO_off (b' := true) 126 rfl rfl rfl rfl (shO_off (b' := true) 126 rfl rfl rfl rfl (shO_off (b' := true) 126 rfl rfl rfl rfl ?_))))))
     refine ov (v_pick_t rfl rfl) rfl ?_
     refine shO_nil ?_
     obtain rfl := inj1 r174
     exact mi (kd (kc (kd (kc (kd (ka kn)))))) ⟨rfl, rfl, (sc rfl (sc rfl (sc rfl (sc rfl (sc rfl (sc rfl (sn _)))))))⟩
   have r175 := ite_f r172 c173; clear r172
   refine shO_on (b := false) 99 rfl (Env.isF rfl c173) (om rfl rfl (shO_on (b := false) 99 rfl (Env.isF rfl c173) ?_))
   refine ov (v_neq rfl rfl) rfl ?_
   refine ov (v_pick_f (evD_false rfl c173) rfl) rfl ?_
   refine om rfl rfl ?_
   by_cases c176 : n13 ≠ 0
   · have r177 := ite_t r175 c176; clear r175
     refine shO_off (b' := true) 103 rfl (Env.isT rfl c176) rfl rfl (shO_off (b' := true) 103 rfl (Env.isT rfl c176) rfl rfl ?_)
     refine ov (v_pick_t (evD_true rfl c176) rfl) rfl ?_
     refine om rfl rfl (shO_off (b' := true) 107 rfl rfl rfl rfl (shO_off (b' := true) 107 rfl rfl rfl rfl (shO_off (b' := true) 107 rfl rfl rfl rfl ?_)))
     refine ov (v_pick_t rfl rfl) rfl ?_
     refine om rfl rfl (shO_off (b' := true) 112 rfl rfl rfl rfl (shO_off (b' := true) 112 rfl rfl rfl rfl (shO_off (b' := true) 112 rfl rfl rfl rfl (shO_off (b' := true) 112 rfl rfl rfl rfl (shO_off (b' := true) 112 rfl rfl rfl rfl ?_)))))
     refine ov (v_pick_t rfl rfl) rfl ?_
     refine om rfl rfl (shO_off (b' := true) 119 rfl rfl rfl rfl (shO_off (b' := true) 119 rfl rfl rfl rfl (shO_off (b' := true) 119 rfl rfl rfl rfl (shO_off (b' := true) 119 rfl rfl rfl rfl (shO_off (b' := true) 119 rfl rfl rfl rfl ?_)))))
     refine ov (v_pick_t rfl rfl) rfl ?_
     refine om rfl rfl (shO_off (b' := true) 126 rfl rfl rfl rfl (shO_off (b' := true) 126 rfl rfl rfl rfl (shO_off (b' := true) 126 rfl rfl rfl rfl (shO_off (b' := true) 126 rfl rfl rfl rfl (shO_off (b' := true) 126 rfl rfl rfl rfl (shO_off (b' := true) 126 rfl rfl rfl rfl ?_))))))
     refine ov (v_pick_t rfl rfl) rfl ?_
     refine shO_nil ?_
     obtain rfl := inj1 r177
     exact mi (kd (kc (kd (kc (kd (ka kn)))))) ⟨rfl, rfl, (sc rfl (sc rfl (sc rfl (sc rfl (sc rfl (sc rfl (sn _)))))))⟩
   have r178 := ite_f r175 c176; clear r175
   refine shO_on (b := false) 103 rfl (Env.isF rfl c176) (om rfl rfl (shO_on (b := false) 103 rfl (Env.isF rfl c176) ?_))
   refine ov (v_neq rfl rfl) rfl ?_
   refine ov (v_pick_f (evD_false rfl c176) rfl) rfl ?_
   refine om rfl rfl ?_
   by_cases c179 : n14 ≠ 0
   · have r180 := ite_t r178 c179; clear r178
     refine shO_off (b' := true) 107 rfl (Env.isT rfl c179) rfl rfl (shO_off (b' := true) 107 rfl (Env.isT rfl c179) rfl rfl (shO_off (b' := true) 107 rfl (Env.isT rfl c179) rfl rfl ?_))
     refine ov (v_pick_t (evD_true rfl c179) rfl) rfl ?_
     refine om rfl rfl (shO_off (b' := true) 112 rfl rfl rfl rfl (shO_off (b' := true) 112 rfl rfl rfl rfl (shO_off (b' := true) 112 rfl rfl rfl rfl (shO_off (b' := true) 112 rfl rfl rfl rfl (shO_off (b' := true) 112 rfl rfl rfl rfl ?_)))))
     refine ov (v_pick_t rfl rfl) rfl ?_
     refine om rfl rfl (shO_off (b' := true) 119 rfl rfl rfl rfl (shO_off (b' := true) 119 rfl rfl rfl rfl (shO_off (b' := true) 119 rfl rfl rfl rfl (shO_off (b' := true) 119 rfl rfl rfl rfl (shO_off (b' := true) 119 rfl rfl rfl rfl ?_)))))
     refine ov (v_pick_t rfl rfl) rfl ?_
     refine om rfl rfl (shO_off (b' := true) 126 rfl rfl rfl rfl (shO_off (b' := true) 126 rfl rfl rfl rfl (shO_off (b' := true) 126 rfl rfl rfl rfl (shO_off (b' := true) 126 rfl rfl rfl rfl (shO_off (b' := true) 126 rfl rfl rfl rfl (shO_off (b' := true) 126 rfl rfl rfl rfl ?_))))))
     refine ov (v_pick_t rfl rfl) rfl ?_
     refine shO_nil ?_
     obtain rfl := inj1 r180
     exact mi (kd (kc (kd (kc (kd (ka kn)))))) ⟨rfl, rfl, (sc rfl (sc rfl (sc rfl (sc rfl (sc rfl (sc rfl (sn _)))))))⟩
   have r181 := ite_f r178 c179; clear r178
   refine shO_on (b := false) 107 rfl (Env.isF rfl c179) (om rfl rfl (shO_on (b := false) 107 rfl (Env.isF rfl c179) (om rfl rfl (shO_on (b := false) 107 rfl (Env.isF rfl c179) ?_))))
   refine ov (v_neq rfl rfl) rfl ?_
   refine ov (v_pick_f (evD_false rfl c179) rfl) rfl ?_
   refine om rfl rfl ?_
   by_cases c182 : n10 ≠ n12
   · have r183 := ite_t r181 c182; clear r181
     refine shO_off (b' := true) 112 rfl (Env.isT rfl c182) rfl rfl (shO_off (b' := true) 112 rfl (Env.isT rfl c182) rfl rfl (shO_off (b' := true) 112 rfl (Env.isT rfl c182) rfl rfl (shO_off (b' := true) 112 rfl (Env.isT rfl c182) rfl rfl (shO_off (b' := true) 112 rfl (Env.isT rfl c182) rfl rfl ?_))))
     refine ov (v_pick_t (evD_true rfl c182) rfl) rfl ?_
     refine om rfl rfl (shO_off (b' := true) 119 rfl rfl rfl rfl (shO_off (b' := true) 119 rfl rfl rfl rfl (shO_off (b' := true) 119 rfl rfl rfl rfl (shO_off (b' := true) 119 rfl rfl rfl rfl (shO_off (b' := true) 119 rfl rfl rfl rfl ?_)))))
     refine ov (v_pick_t rfl rfl) rfl ?_
     refine om rfl rfl (shO_off (b' := true) 126 rfl rfl rfl rfl (shO_off (b' := true) 126 rfl rfl rfl rfl (shO_off (b' := true) 126 rfl rfl rfl rfl (shO_off (b' := true) 126 rfl rfl rfl rfl (shO_off (b' := true) 126 rfl rfl rfl rfl (shO_off (b' := true) 126 rfl rfl rfl rfl ?_))))))
     refine ov (v_pick_t rfl rfl) rfl ?_
     refine shO_nil ?_
     obtain rfl := inj1 r183
     exact mi (kd (kc (kd (kc (kd (ka kn)))))) ⟨rfl, rfl, (sc rfl (sc rfl (sc rfl (sc rfl (sc rfl (sc rfl (sn _)))))))⟩
   have r184 := ite_f r181 c182; clear r181
   refine shO_on (b := false) 112 rfl (Env.isF rfl c182) (om rfl rfl (shO_on (b := false) 112 rfl (Env.isF rfl c182) ?_))
   refine ov (v_lenS Try.underlying36 rfl) rfl ?_
   refine shO_on (b := false) 112 rfl (Env.isF rfl c182) ?_
   refine ov (v_fieldAddr fa_27_0 rfl) rfl ?_
   refine shO_on (b := false) 112 rfl (Env.isF rfl c182) ?_
   refine ov (v_load Try.isAgg3 rfl (Has.own 3 rfl) rfl) rfl ?_
   refine shO_on (b := false) 112 rfl (Env.isF rfl c182) ?_
   refine ov (v_neq rfl rfl) rfl ?_
   refine ov (v_pick_f (evD_false rfl c182) rfl) rfl ?_
   refine om rfl rfl ?_
   by_cases c185 : (l8.length : Int) ≠ n
   · have r186 := ite_t r184 c185; clear r184
     refine shO_off (b' := true) 119 rfl (Env.isT rfl c185) rfl rfl (shO_off (b' := true) 119 rfl (Env.isT rfl c185) rfl rfl (shO_off (b' := true) 119 rfl (Env.isT rfl c185) rfl rfl (shO_off (b' := true) 119 rfl (Env.isT rfl c185) rfl rfl (shO_off (b' := true) 119 rfl (Env.isT rfl c185) rfl rfl ?_))))
     refine ov (v_pick_t (evD_true rfl c185) rfl) rfl ?_
     refine om rfl rfl (shO_off (b' := true) 126 rfl rfl rfl rfl (shO_off (b' := true) 126 rfl rfl rfl rfl (shO_off (b' := true) 126 rfl rfl rfl rfl (shO_off (b' := true) 126 rfl rfl rfl rfl (shO_off (b' := true) 126 rfl rfl rfl rfl (shO_off (b' := true) 126 rfl rfl rfl rfl ?_))))))
     refine ov (v_pick_t rfl rfl) rfl ?_
     refine shO_nil ?_
     obtain rfl := inj1 r186
     exact mi (kd (kc (kd (kc (kd (ka kn)))))) ⟨rfl, rfl, (sc rfl (sc rfl (sc rfl (sc rfl (sc rfl (sc rfl (sn _)))))))⟩
   have r187 := ite_f r184 c185; clear r184
   refine shO_on (b := false) 119 rfl (Env.isF rfl c185) (om rfl rfl (shO_on (b := false) 119 rfl (Env.isF rfl c185) ?_))
   refine ov (v_lenS Try.underlying36 rfl) rfl ?_
   refine shO_on (b := false) 119 rfl (Env.isF rfl c185) ?_
   refine ov (v_fieldAddr fa_27_0 rfl) rfl ?_
   refine shO_on (b := false) 119 rfl (Env.isF rfl c185) ?_
   refine ov (v_load Try.isAgg3 rfl (Has.own 3 rfl) rfl) rfl ?_
   refine shO_on (b := false) 119 rfl (Env.isF rfl c185) ?_
   refine ov (v_neq rfl rfl) rfl ?_
   refine ov (v_pick_f (evD_false rfl c185) rfl) rfl ?_
   refine om rfl rfl ?_
   by_cases c188 : (l9.length : Int) ≠ n
   · have r189 := ite_t r187 c188; clear r187
     refine shO_off (b' := true) 126 rfl (Env.isT rfl c188) rfl rfl (shO_off (b' := true) 126 rfl (Env.isT rfl c188) rfl rfl (shO_off (b' := true) 126 rfl (Env.isT rfl c188) rfl rfl (shO_off (b' := true) 126 rfl (Env.isT rfl c188) rfl rfl (shO_off (b' := true) 126 rfl (Env.isT rfl c188) rfl rfl (shO_off (b' := true) 126 rfl (Env.isT rfl c188) rfl rfl ?_)))))
     refine ov (v_pick_t (evD_true rfl c188) rfl) rfl ?_
     refine shO_nil ?_
     obtain rfl := inj1 r189
     exact mi (kd (kc (kd (kc (kd (ka kn)))))) ⟨rfl, rfl, (sc rfl (sc rfl (sc rfl (sc rfl (sc rfl (sc rfl (sn _)))))))⟩
   have r190 := ite_f r187 c188; clear r187
   refine shO_on (b := false) 126 rfl (Env.isF rfl c188) (om rfl rfl (shO_on (b := false) 126 rfl (Env.isF rfl c188) ?_))
   refine ov ((v_lenS Try.underlying42 rfl).i (SlR.lenI hz162)) rfl ?_
   refine shO_on (b := false) 126 rfl (Env.isF rfl c188) ?_
   refine ov (v_fieldAddr fa_27_3 rfl) rfl ?_
   refine shO_on (b := false) 126 rfl (Env.isF rfl c188) ?_
   refine ov (v_load Try.isAgg24 rfl (Has.own 3 rfl) rfl) rfl ?_
   refine shO_on (b := false) 126 rfl (Env.isF rfl c188) ?_
   refine ov (v_lenS Try.underlying24 rfl) rfl ?_
   refine shO_on (b := false) 126 rfl (Env.isF rfl c188) ?_
   refine ov (v_neq rfl rfl) rfl ?_
   refine ov (v_pick_f (evD_false rfl c188) rfl) rfl ?_
   refine shO_nil ?_
   obtain rfl := inj1 r190
   exact mi (kd (kc (kd (kc (kd (ka kn)))))) ⟨rfl, rfl, (sc rfl (sc rfl (sc rfl (sc rfl (sc rfl (sc rfl (sn _)))))))⟩
 rintro e1 _ _ ⟨rfl, rfl, he191⟩
 refine shW_env _ he191 ?_; clear he191
 refine shW_cond rfl (fun c192 => ?_) (fun c192 => ?_)
 · have r193 := bt r166 c192; clear r166
   refine wsr (oa rfl rfl (shO_nil ?_))
   refine kW kn ?_
   refine shW_ret (andThen_ret ?_)
   refine q_res1 Try.results3 (res_tmp rfl) (sr) ?_
   obtain rfl := inj1 r193
   exact rfl
 have r194 := bf r166 c192; clear r166
 refine shW_skip (wsr ?_)
 refine o_makeMap rfl ?_; intro b195 hb195
 refine o_makeMap rfl ?_; intro b196 hb196
 refine oa rfl rfl (oa rfl rfl (shO_nil ?_))
 refine shW_join (fun e1 F1 L1 => ∃ (can : List (Int × Bool)) (must : List (Int × Int)) (es197 : Array MapEntry) (cl198 : Nat) (es200 : Array MapEntry) (cl201 : Nat), oyezlaw07_BookCried_j1 n2 n3 n5 l8 l9 l10 can must = some r ∧ F155 = F1 ∧ L1 = ((b196, .map es200 cl201) :: ((b195, .map es197 cl198) :: ((b77, .cells #[.int .i64 n3, .int .i64 n4, .int .i64 n5] 34 (0, 0)) :: ((b42, .cells #[.int .i64 n, .int .i64 n2, .slice a17 l.length c18, .slice a23 l2.length c24, .slice a29 l3.length c30] 27 (0, 0)) :: (Lb161 ++ []))))) ∧ e1.sub [(5, .pointer (some ⟨b42, 0, none⟩)), (8, .pointer (some ⟨b77, 0, none⟩)), (10, .slice a128 l8.length c129), (12, .slice a146 l9.length c147), (18, .slice a159 n163 c160), (20, .map (some b195)), (21, .map (some b196))] ∧ MapR (Value.int .i64) Value.bool es197 can ∧ MapR (Value.int .i64) (Value.int .i64) es200 must) ?_ ?_
 · refine wsr (om rfl rfl ?_)
   refine ov (v_fieldAddr fa_34_0 rfl) rfl ?_
   refine ov (v_load Try.isAgg3 rfl (Has.own 2 rfl) rfl) rfl ?_
   obtain ⟨x, g203, hx204, r205⟩ := ix_ok r194; clear r194
   obtain ⟨b206, o207, c208, vs209, ha210, hs211, hle212, ⟨a215, c216, rfl, h217⟩, hl213, hc214⟩ := SlR.at (slE_ok (iE_ok _)) hz162 (L := (b196, .map #[] 0) :: ((b195, .map #[] 0) :: ((b77, .cells #[.int .i64 n3, .int .i64 n4, .int .i64 n5] 34 (0, 0)) :: ((b42, .cells #[.int .i64 n, .int .i64 n2, .slice a17 l.length c18, .slice a23 l2.length c24, .slice a29 l3.length c30] 27 (0, 0)) :: (Lb161 ++ []))))) (fC (fC (fC (fC fP)))) g203.1 hx204
   refine ov (v_indexO Try.underlying42 Try.sizeOf24 rfl ha210 rfl (SlR.idx hz162 g203)) rfl ?_
   refine ov (v_load Try.isAgg24 rfl hs211 (hc214 0 (by decide))) rfl ?_
   refine ov (v_lenS Try.underlying24 rfl) rfl ?_
   refine om rfl rfl (shO_nil ?_)
   refine shW_block ?_
   refine shW_lp (fun fu2 e1 F1 L1 => ∃ (tl : List Int) (k2 : Int), tl.length = fu2 ∧ Lst x k2 tl ∧ ∃ (can2 : List (Int × Bool)) (must2 : List (Int × Int)) (es218 : Array MapEntry) (cl219 : Nat) (es221 : Array MapEntry) (cl222 : Nat), oyezlaw07_BookCried_l2 n2 l n3 n4 n5 l8 l9 l10 tl can2 must2 = some r ∧ F155 = F1 ∧ L1 = ((b196, .map es221 cl222) :: ((b195, .map es218 cl219) :: ((b77, .cells #[.int .i64 n3, .int .i64 n4, .int .i64 n5] 34 (0, 0)) :: ((b42, .cells #[.int .i64 n, .int .i64 n2, .slice a17 l.length c18, .slice a23 l2.length c24, .slice a29 l3.length c30] 27 (0, 0)) :: (Lb161 ++ []))))) ∧ e1.sub [(5, .pointer (some ⟨b42, 0, none⟩)), (8, .pointer (some ⟨b77, 0, none⟩)), (10, .slice a128 l8.length c129), (12, .slice a146 l9.length c147), (18, .slice a159 n163 c160), (20, .map (some b195)), (21, .map (some b196)), (140, .slice a215 x.length c216), (141, .int .i64 (x.length : Int)), (142, .int .i64 k2)] ∧ MapR (Value.int .i64) Value.bool es218 can2 ∧ MapR (Value.int .i64) (Value.int .i64) es221 must2) _ (m0 kr ⟨_, _, rfl, Lst.start _, [], [], #[], 0, #[], 0, r205, rfl, rfl, (sc rfl (sc rfl (sc rfl (sc rfl (sc rfl (sc rfl (sc rfl (sc rfl (sc rfl (sc rfl (sn _))))))))))), MapR.nil, MapR.nil⟩) ?_
   rintro fu2 e1 _ _ ⟨tl, k2, hn225, hk224, can2, must2, es218, cl219, es221, cl222, r226, rfl, rfl, he227, hR220, hR223⟩
   refine shW_env _ he227 ?_; clear he227
   refine wsr ?_
   refine ov (v_lssK rfl rfl) rfl ?_
   refine shO_nil (shW_seq ?_)
   refine shW_condP rfl (fun c229 => ?_) (fun c229 => ?_)
   · obtain ⟨x2, tl2, rfl, hx231, g232, hk230⟩ := Lst.succ hk224 c229
     rw [oyezlaw07_BookCried_l2] at r226
     refine shW_skip ?_
     refine shW_join (fun e1 F1 L1 => ∃ (can3 : List (Int × Bool)) (must3 : List (Int × Int)) (es233 : Array MapEntry) (cl234 : Nat) (es236 : Array MapEntry) (cl237 : Nat), oyezlaw07_BookCried_j3 (oyezlaw07_BookCried_l2 n2 l n3 n4 n5 l8 l9 l10 tl2) can3 must3 = some r ∧ F155 = F1 ∧ L1 = ((b196, .map es236 cl237) :: ((b195, .map es233 cl234) :: ((b77, .cells #[.int .i64 n3, .int .i64 n4, .int .i64 n5] 34 (0, 0)) :: ((b42, .cells #[.int .i64 n, .int .i64 n2, .slice a17 l.length c18, .slice a23 l2.length c24, .slice a29 l3.length c30] 27 (0, 0)) :: (Lb161 ++ []))))) ∧ e1.sub [(5, .pointer (some ⟨b42, 0, none⟩)), (8, .pointer (some ⟨b77, 0, none⟩)), (10, .slice a128 l8.length c129), (12, .slice a146 l9.length c147), (18, .slice a159 n163 c160), (20, .map (some b195)), (21, .map (some b196)), (140, .slice a215 x.length c216), (141, .int .i64 (x.length : Int)), (142, .int .i64 k2)] ∧ MapR (Value.int .i64) Value.bool es233 can3 ∧ MapR (Value.int .i64) (Value.int .i64) es236 must3) ?_ ?_
     · refine shW_block ?_
       refine wsr ?_
       obtain ⟨b239, o240, c241, vs242, ha243, hs244, hle245, rfl, hl246, hc247⟩ := RowR.at (iE_ok _) h217 ((b196, .map es221 cl222) :: ((b195, .map es218 cl219) :: ((b77, .cells #[.int .i64 n3, .int .i64 n4, .int .i64 n5] 34 (0, 0)) :: ((b42, .cells #[.int .i64 n, .int .i64 n2, .slice a17 l.length c18, .slice a23 l2.length c24, .slice a29 l3.length c30] 27 (0, 0)) :: (Lb161 ++ []))))) g232.1 hx231
       refine ov (v_indexO Try.underlying24 Try.sizeOf3 rfl ha243 rfl g232) rfl ?_
       refine ov (v_load Try.isAgg3 rfl hs244 (hc247 0 (by decide))) rfl ?_
       refine oa rfl rfl (shO_nil (shW_seq ?_))
       obtain ⟨k3, h248, r249⟩ := b1_ok r226; clear r226
       refine shW_join (fun e1 F1 L1 => F155 = F1 ∧ L1 = ((b196, .map es221 cl222) :: ((b195, .map es218 cl219) :: ((b77, .cells #[.int .i64 n3, .int .i64 n4, .int .i64 n5] 34 (0, 0)) :: ((b42, .cells #[.int .i64 n, .int .i64 n2, .slice a17 l.length c18, .slice a23 l2.length c24, .slice a29 l3.length c30] 27 (0, 0)) :: (Lb161 ++ []))))) ∧ e1.sub [(5, .pointer (some ⟨b42, 0, none⟩)), (8, .pointer (some ⟨b77, 0, none⟩)), (10, .slice a128 l8.length c129), (12, .slice a146 l9.length c147), (18, .slice a159 n163 c160), (20, .map (some b195)), (21, .map (some b196)), (23, .int .i64 x2), (140, .slice a215 x.length c216), (141, .int .i64 (x.length : Int)), (142, .int .i64 k2), (151, .bool k3)]) ?_ ?_
       · clear r249
         refine shW_region (om rfl rfl ?_)
         refine ov (v_lssK rfl rfl) rfl ?_
         refine om rfl rfl ?_
         by_cases c250 : x2 < 0
         · have r251 := ite_t h248 c250; clear h248
           refine shO_off (b' := true) 148 rfl (Env.isT rfl c250) rfl rfl (shO_off (b' := true) 148 rfl (Env.isT rfl c250) rfl rfl ?_)
           refine ov (v_pick_t (evD_true rfl c250) rfl) rfl ?_
           refine shO_nil ?_
           obtain rfl := inj1 r251
           exact mi kr ⟨rfl, rfl, (sc rfl (sc rfl (sc rfl (sc rfl (sc rfl (sc rfl (sc rfl (sc rfl (sc rfl (sc rfl (sc rfl (sc rfl (sn _)))))))))))))⟩
         have r252 := ite_f h248 c250; clear h248
         refine shO_on (b := false) 148 rfl (Env.isF rfl c250) (om rfl rfl (shO_on (b := false) 148 rfl (Env.isF rfl c250) ?_))
         refine ov (v_geqK rfl rfl) rfl ?_
         refine ov (v_pick_f (evD_false rfl c250) rfl) rfl ?_
         refine shO_nil ?_
         obtain rfl := inj1 r252
         exact mi kr ⟨rfl, rfl, (sc rfl (sc rfl (sc rfl (sc rfl (sc rfl (sc rfl (sc rfl (sc rfl (sc rfl (sc rfl (sc rfl (sc rfl (sn _)))))))))))))⟩
       rintro e1 _ _ ⟨rfl, rfl, he253⟩
       refine shW_env _ he253 ?_; clear he253
       refine shW_cond rfl (fun c254 => ?_) (fun c254 => ?_)
       · have r255 := bt r249 c254; clear r249
         refine wsr (oa rfl rfl (shO_nil ?_))
         refine kW kn ?_
         refine shW_ret (andThen_ret (inBlock_ret (andThen_ret (andThen_ret (inBlock_ret (andThen_ret ?_))))))
         refine q_res1 Try.results3 (res_tmp rfl) (sr) ?_
         obtain rfl := inj1 r255
         exact rfl
       have r256 := bf r249 c254; clear r249
       refine shW_skip (wsr ?_)
       refine ov (v_fieldAddr fa_27_2 rfl) rfl ?_
       refine ov (v_load Try.isAgg23 rfl (Has.own 3 rfl) rfl) rfl ?_
       refine ov (v_fieldAddr fa_34_1 rfl) rfl ?_
       refine ov (v_load Try.isAgg3 rfl (Has.own 2 rfl) rfl) rfl ?_
       obtain ⟨x3, g257, hx258, r259⟩ := ix_ok r256; clear r256
       obtain ⟨b260, o261, c262, vs263, ha264, hs265, hle266, ⟨a269, c270, rfl, h271⟩, hl267, hc268⟩ := RowR.at (slE_ok (slE_ok (iE_ok _))) h80 ((b196, .map es221 cl222) :: ((b195, .map es218 cl219) :: ((b77, .cells #[.int .i64 n3, .int .i64 n4, .int .i64 n5] 34 (0, 0)) :: ((b42, .cells #[.int .i64 n, .int .i64 n2, .slice a17 l.length c18, .slice a23 l2.length c24, .slice a29 l3.length c30] 27 (0, 0)) :: (Lb161 ++ []))))) g257.1 hx258
       refine ov (v_indexO Try.underlying23 Try.sizeOf42 rfl ha264 rfl g257) rfl ?_
       refine ov (v_load Try.isAgg42 rfl hs265 (hc268 0 (by decide))) rfl ?_
       refine om rfl rfl ?_
       obtain ⟨x4, g272, hx273, r274⟩ := ix_ok r259; clear r259
       obtain ⟨b275, o276, c277, vs278, ha279, hs280, hle281, ⟨a284, c285, rfl, h286⟩, hl282, hc283⟩ := RowR.at (slE_ok (iE_ok _)) h271 ((b196, .map es221 cl222) :: ((b195, .map es218 cl219) :: ((b77, .cells #[.int .i64 n3, .int .i64 n4, .int .i64 n5] 34 (0, 0)) :: ((b42, .cells #[.int .i64 n, .int .i64 n2, .slice a17 l.length c18, .slice a23 l2.length c24, .slice a29 l3.length c30] 27 (0, 0)) :: (Lb161 ++ []))))) g272.1 hx273
       refine ov (v_indexO Try.underlying42 Try.sizeOf24 rfl ha279 rfl g272) rfl ?_
       refine ov (v_load Try.isAgg24 rfl hs280 (hc283 0 (by decide))) rfl ?_
       refine ov (v_lenS Try.underlying24 rfl) rfl ?_
       refine om rfl rfl (shO_nil ?_)
       refine shW_block ?_
       refine shW_lp (fun fu4 e1 F1 L1 => ∃ (tl3 : List Int) (k4 : Int), tl3.length = fu4 ∧ Lst x4 k4 tl3 ∧ ∃ (can4 : List (Int × Bool)) (must4 : List (Int × Int)) (es287 : Array MapEntry) (cl288 : Nat) (es290 : Array MapEntry) (cl291 : Nat), oyezlaw07_BookCried_l4 (oyezlaw07_BookCried_l2 n2 l n3 n4 n5 l8 l9 l10 tl2) tl3 can4 must4 = some r ∧ F155 = F1 ∧ L1 = ((b196, .map es290 cl291) :: ((b195, .map es287 cl288) :: ((b77, .cells #[.int .i64 n3, .int .i64 n4, .int .i64 n5] 34 (0, 0)) :: ((b42, .cells #[.int .i64 n, .int .i64 n2, .slice a17 l.length c18, .slice a23 l2.length c24, .slice a29 l3.length c30] 27 (0, 0)) :: (Lb161 ++ []))))) ∧ e1.sub [(5, .pointer (some ⟨b42, 0, none⟩)), (8, .pointer (some ⟨b77, 0, none⟩)), (10, .slice a128 l8.length c129), (12, .slice a146 l9.length c147), (18, .slice a159 n163 c160), (20, .map (some b195)), (21, .map (some b196)), (140, .slice a215 x.length c216), (141, .int .i64 (x.length : Int)), (142, .int .i64 k2), (160, .slice a284 x4.length c285), (161, .int .i64 (x4.length : Int)), (162, .int .i64 k4)] ∧ MapR (Value.int .i64) Value.bool es287 can4 ∧ MapR (Value.int .i64) (Value.int .i64) es290 must4) _ (m0 kr ⟨_, _, rfl, Lst.start _, can2, must2, es218, cl219, es221, cl222, r274, rfl, rfl, (sc rfl (sc rfl (sc rfl (sc rfl (sc rfl (sc rfl (sc rfl (sc rfl (sc rfl (sc rfl (sc rfl (sc rfl (sc rfl (sn _)))))))))))))), hR220, hR223⟩) ?_
       rintro fu4 e1 _ _ ⟨tl3, k4, hn294, hk293, can4, must4, es287, cl288, es290, cl291, r295, rfl, rfl, he296, hR289, hR292⟩
       refine shW_env _ he296 ?_; clear he296
       refine wsr ?_
       refine ov (v_lssK rfl rfl) rfl ?_
       refine shO_nil (shW_seq ?_)
       refine shW_condP rfl (fun c298 => ?_) (fun c298 => ?_)
       · obtain ⟨x5, tl4, rfl, hx300, g301, hk299⟩ := Lst.succ hk293 c298
         rw [oyezlaw07_BookCried_l4] at r295
         refine shW_skip (shW_seq ?_)
         refine shW_block ?_
         refine wsr ?_
         obtain ⟨b302, o303, c304, vs305, ha306, hs307, hle308, rfl, hl309, hc310⟩ := RowR.at (iE_ok _) h286 ((b196, .map es290 cl291) :: ((b195, .map es287 cl288) :: ((b77, .cells #[.int .i64 n3, .int .i64 n4, .int .i64 n5] 34 (0, 0)) :: ((b42, .cells #[.int .i64 n, .int .i64 n2, .slice a17 l.length c18, .slice a23 l2.length c24, .slice a29 l3.length c30] 27 (0, 0)) :: (Lb161 ++ []))))) g301.1 hx300
         refine ov (v_indexO Try.underlying24 Try.sizeOf3 rfl ha306 rfl g301) rfl ?_
         refine ov (v_load Try.isAgg3 rfl hs307 (hc310 0 (by decide))) rfl ?_
         refine oa rfl rfl (nsr (om rfl rfl (om rfl rfl ?_)))
         refine o_mapUpdate (i := 1) (k := x5) (v := true) Try.underlying45 (keyOK_int Try.underlying3) rfl rfl rfl rfl (show MapR (Value.int .i64) Value.bool es287 (can4 : List (Int × Bool)) from hR289) ?_; intro es311 cl312 hR313
         obtain ⟨can5, h314, r315⟩ := bv_ok r295; clear r295
         rw [← h314] at hR313
         refine shO_L (L' := (b196, .map es290 cl291) :: ((b195, .map es311 cl312) :: ((b77, .cells #[.int .i64 n3, .int .i64 n4, .int .i64 n5] 34 (0, 0)) :: ((b42, .cells #[.int .i64 n, .int .i64 n2, .slice a17 l.length c18, .slice a23 l2.length c24, .slice a29 l3.length c30] 27 (0, 0)) :: (Lb161 ++ []))))) rfl ?_
         refine shO_nil (shW_region (om rfl rfl (om rfl rfl ?_)))
         refine ov (OpV.eq (v' := .int .i64 ((mget must4 x5).getD 0)) (v_lookS1 (k := x5) (z0 := 0) rfl Try.underlying46 (keyOK_int Try.underlying3) Try.zeroValue3 rfl rfl (HasM.own 0 rfl) (show MapR (Value.int .i64) (Value.int .i64) es290 (must4 : List (Int × Int)) from hR292)) rfl) rfl ?_
         obtain ⟨g316, r317⟩ := gd_ok r315; clear r315
         refine ov (v_add rfl rfl g316) rfl ?_
         refine o_mapUpdate (i := 0) (k := x5) (v := ((mget must4 x5).getD 0) + 1) Try.underlying46 (keyOK_int Try.underlying3) rfl rfl rfl rfl (show MapR (Value.int .i64) (Value.int .i64) es290 (must4 : List (Int × Int)) from hR292) ?_; intro es318 cl319 hR320
         obtain ⟨must5, h321, r322⟩ := bv_ok r317; clear r317
         rw [← h321] at hR320
         refine shO_L (L' := (b196, .map es318 cl319) :: ((b195, .map es311 cl312) :: ((b77, .cells #[.int .i64 n3, .int .i64 n4, .int .i64 n5] 34 (0, 0)) :: ((b42, .cells #[.int .i64 n, .int .i64 n2, .slice a17 l.length c18, .slice a23 l2.length c24, .slice a29 l3.length c30] 27 (0, 0)) :: (Lb161 ++ []))))) rfl ?_
         refine shO_nil (inBlock_n (id := 3) (shW_region ?_))
         refine ov (v_add rfl rfl (Lst.r64 hk293 c298 (RowR.lt h286))) rfl ?_
         refine om rfl rfl (shO_nil ?_)
         subst hn294; exact le kr ⟨_, _, rfl, hk299, can5, must5, es311, cl312, es318, cl319, r322, rfl, rfl, (sc rfl (sc rfl (sc rfl (sc rfl (sc rfl (sc rfl (sc rfl (sc rfl (sc rfl (sc rfl (sc rfl (sc rfl (sc rfl (sn _)))))))))))))), hR313, hR320⟩
       obtain rfl := Lst.zero hk293 c298
       rw [oyezlaw07_BookCried_l4] at r295
       refine shW_exit (andThen_exit (andThen_exit ?_))
       refine inBlock_exit ?_
       refine inBlock_n (id := 1) ?_
       exact mi kr ⟨can4, must4, es287, cl288, es290, cl291, r295, rfl, rfl, (sc rfl (sc rfl (sc rfl (sc rfl (sc rfl (sc rfl (sc rfl (sc rfl (sc rfl (sc rfl (sn _))))))))))), hR289, hR292⟩
     rintro e1 _ _ ⟨can3, must3, es233, cl234, es236, cl237, r323, rfl, rfl, he324, hR235, hR238⟩
     refine shW_env _ he324 ?_; clear he324
     rw [oyezlaw07_BookCried_j3] at r323
     refine shW_region ?_
     refine ov (v_add rfl rfl (Lst.r64 hk224 c229 (RowR.lt h217))) rfl ?_
     refine om rfl rfl (shO_nil ?_)
     subst hn225; exact le kr ⟨_, _, rfl, hk230, can3, must3, es233, cl234, es236, cl237, r323, rfl, rfl, (sc rfl (sc rfl (sc rfl (sc rfl (sc rfl (sc rfl (sc rfl (sc rfl (sc rfl (sc rfl (sn _))))))))))), hR235, hR238⟩
   obtain rfl := Lst.zero hk224 c229
   rw [oyezlaw07_BookCried_l2] at r226
   refine shW_exit (andThen_exit (andThen_exit ?_))
   refine inBlock_exit ?_
   exact mi kr ⟨can2, must2, es218, cl219, es221, cl222, r226, rfl, rfl, (sc rfl (sc rfl (sc rfl (sc rfl (sc rfl (sc rfl (sc rfl (sn _)))))))), hR220, hR223⟩
 rintro e1 _ _ ⟨can, must, es197, cl198, es200, cl201, r325, rfl, rfl, he326, hR199, hR202⟩
 refine shW_env _ he326 ?_; clear he326
 rw [oyezlaw07_BookCried_j1] at r325
 refine shW_join (fun e1 F1 L1 => oyezlaw07_BookCried_j5 = some r ∧ F155 = F1 ∧ L1 = [] ∧ e1.sub []) ?_ ?_
 · refine wsr (om rfl rfl ?_)
   refine ov (v_lenS Try.underlying36 rfl) rfl ?_
   refine om rfl rfl (shO_nil ?_)
   refine shW_block ?_
   refine shW_lp (fun fu6 e1 F1 L1 => ∃ (tl5 : List (List Int)) (k5 : Int), tl5.length = fu6 ∧ Lst l8 k5 tl5 ∧ oyezlaw07_BookCried_l6 n2 n3 n5 l9 l10 can must tl5 k5 = some r ∧ F155 = F1 ∧ L1 = ((b196, .map es200 cl201) :: ((b195, .map es197 cl198) :: ((b77, .cells #[.int .i64 n3, .int .i64 n4, .int .i64 n5] 34 (0, 0)) :: ((b42, .cells #[.int .i64 n, .int .i64 n2, .slice a17 l.length c18, .slice a23 l2.length c24, .slice a29 l3.length c30] 27 (0, 0)) :: (Lb161 ++ []))))) ∧ e1.sub [(5, .pointer (some ⟨b42, 0, none⟩)), (8, .pointer (some ⟨b77, 0, none⟩)), (10, .slice a128 l8.length c129), (12, .slice a146 l9.length c147), (18, .slice a159 n163 c160), (20, .map (some b195)), (21, .map (some b196)), (175, .int .i64 (l8.length : Int)), (176, .int .i64 k5)]) _ (m0 kr ⟨_, _, rfl, Lst.start _, r325, rfl, rfl, (sc rfl (sc rfl (sc rfl (sc rfl (sc rfl (sc rfl (sc rfl (sc rfl (sc rfl (sn _))))))))))⟩) ?_
   rintro fu6 e1 _ _ ⟨tl5, k5, hn328, hk327, r329, rfl, rfl, he330⟩
   refine shW_env _ he330 ?_; clear he330
   refine wsr ?_
   refine ov (v_lssK rfl rfl) rfl ?_
   refine shO_nil (shW_seq ?_)
   refine shW_condP rfl (fun c332 => ?_) (fun c332 => ?_)
   · obtain ⟨x6, tl6, rfl, hx334, g335, hk333⟩ := Lst.succ hk327 c332
     rw [oyezlaw07_BookCried_l6] at r329
     refine shW_skip ?_
     refine shW_join (fun e1 F1 L1 => oyezlaw07_BookCried_j7 k5 (oyezlaw07_BookCried_l6 n2 n3 n5 l9 l10 can must tl6) = some r ∧ F155 = F1 ∧ L1 = ((b196, .map es200 cl201) :: ((b195, .map es197 cl198) :: ((b77, .cells #[.int .i64 n3, .int .i64 n4, .int .i64 n5] 34 (0, 0)) :: ((b42, .cells #[.int .i64 n, .int .i64 n2, .slice a17 l.length c18, .slice a23 l2.length c24, .slice a29 l3.length c30] 27 (0, 0)) :: (Lb161 ++ []))))) ∧ e1.sub [(5, .pointer (some ⟨b42, 0, none⟩)), (8, .pointer (some ⟨b77, 0, none⟩)), (10, .slice a128 l8.length c129), (12, .slice a146 l9.length c147), (18, .slice a159 n163 c160), (20, .map (some b195)), (21, .map (some b196)), (175, .int .i64 (l8.length : Int)), (176, .int .i64 k5)]) ?_ ?_
     · refine shW_block ?_
       refine wsr (om rfl rfl (oa rfl rfl (shO_nil (shW_seq ?_))))
       obtain ⟨k6, h336, r337⟩ := b1_ok r329; clear r329
       refine shW_join (fun e1 F1 L1 => F155 = F1 ∧ L1 = ((b196, .map es200 cl201) :: ((b195, .map es197 cl198) :: ((b77, .cells #[.int .i64 n3, .int .i64 n4, .int .i64 n5] 34 (0, 0)) :: ((b42, .cells #[.int .i64 n, .int .i64 n2, .slice a17 l.length c18, .slice a23 l2.length c24, .slice a29 l3.length c30] 27 (0, 0)) :: (Lb161 ++ []))))) ∧ e1.sub [(5, .pointer (some ⟨b42, 0, none⟩)), (8, .pointer (some ⟨b77, 0, none⟩)), (10, .slice a128 l8.length c129), (12, .slice a146 l9.length c147), (18, .slice a159 n163 c160), (20, .map (some b195)), (21, .map (some b196)), (26, .int .i64 k5), (175, .int .i64 (l8.length : Int)), (176, .int .i64 k5), (196, .bool k6)]) ?_ ?_
       · clear r337
         refine shW_draw (by kernel_rfl) (by kernel_rfl) (by kernel_rfl) ?_
         refine qm rfl rfl (qm rfl rfl ?_)
         obtain ⟨b338, o339, c340, vs341, ha342, hs343, hle344, ⟨a347, c348, rfl, h349⟩, hl345, hc346⟩ := RowR.at (slE_ok (iE_ok _)) h130 ((b196, .map es200 cl201) :: ((b195, .map es197 cl198) :: ((b77, .cells #[.int .i64 n3, .int .i64 n4, .int .i64 n5] 34 (0, 0)) :: ((b42, .cells #[.int .i64 n, .int .i64 n2, .slice a17 l.length c18, .slice a23 l2.length c24, .slice a29 l3.length c30] 27 (0, 0)) :: (Lb161 ++ []))))) g335.1 hx334
         refine qv (v_indexO Try.underlying36 Try.sizeOf47 rfl ha342 rfl g335) rfl ?_
         refine qv (v_load Try.isAgg47 rfl hs343 (hc346 0 (by decide))) rfl ?_
         refine qv (v_lenS Try.underlying47 rfl) rfl ?_
         refine qv (v_fieldAddr fa_27_1 rfl) rfl ?_
         refine qv (v_load Try.isAgg3 rfl (Has.own 3 rfl) rfl) rfl ?_
         refine qv (v_neq rfl rfl) rfl ?_
         refine qm rfl rfl ?_
         by_cases c350 : (x6.length : Int) ≠ n2
         · have r351 := ite_t h336 c350; clear h336
           refine shQ_off (b' := true) 187 rfl (Env.isT rfl c350) rfl rfl (shQ_off (b' := true) 187 rfl (Env.isT rfl c350) rfl rfl (shQ_off (b' := true) 187 rfl (Env.isT rfl c350) rfl rfl (shQ_off (b' := true) 187 rfl (Env.isT rfl c350) rfl rfl (shQ_off (b' := true) 187 rfl (Env.isT rfl c350) rfl rfl (shQ_off (b' := true) 187 rfl (Env.isT rfl c350) rfl rfl (shQ_off (b' := true) 187 rfl (Env.isT rfl c350) rfl rfl (shQ_off (b' := true) 187 rfl (Env.isT rfl c350) rfl rfl ?_)))))))
           refine qv (v_pick_t (evD_true rfl c350) rfl) rfl ?_
           refine shQ_nil ?_
           obtain rfl := inj1 r351
           exact mi kr ⟨rfl, rfl, (sc rfl (sc rfl (sc rfl (sc rfl (sc rfl (sc rfl (sc rfl (sc rfl (sc rfl (sc rfl (sc rfl (sn _))))))))))))⟩
         have r352 := ite_f h336 c350; clear h336
         refine shQ_on (b := false) 187 rfl (Env.isF rfl c350) (qm rfl rfl (shQ_on (b := false) 187 rfl (Env.isF rfl c350) (qm rfl rfl (shQ_on (b := false) 187 rfl (Env.isF rfl c350) ?_))))
         obtain ⟨x7, g353, hx354, r355⟩ := ix_ok r352; clear r352
         obtain ⟨b356, o357, c358, vs359, ha360, hs361, hle362, ⟨a365, c366, rfl, h367⟩, hl363, hc364⟩ := RowR.at (slE_ok (iE_ok _)) h148 ((b196, .map es200 cl201) :: ((b195, .map es197 cl198) :: ((b77, .cells #[.int .i64 n3, .int .i64 n4, .int .i64 n5] 34 (0, 0)) :: ((b42, .cells #[.int .i64 n, .int .i64 n2, .slice a17 l.length c18, .slice a23 l2.length c24, .slice a29 l3.length c30] 27 (0, 0)) :: (Lb161 ++ []))))) g353.1 hx354
         refine qv (v_indexO Try.underlying36 Try.sizeOf47 rfl ha360 rfl g353) rfl ?_
         refine shQ_on (b := false) 187 rfl (Env.isF rfl c350) ?_
         refine qv (v_load Try.isAgg47 rfl hs361 (hc364 0 (by decide))) rfl ?_
         refine shQ_on (b := false) 187 rfl (Env.isF rfl c350) ?_
         refine qv (v_lenS Try.underlying47 rfl) rfl ?_
         refine shQ_on (b := false) 187 rfl (Env.isF rfl c350) ?_
         refine qv (v_fieldAddr fa_27_1 rfl) rfl ?_
         refine shQ_on (b := false) 187 rfl (Env.isF rfl c350) ?_
         refine qv (v_load Try.isAgg3 rfl (Has.own 3 rfl) rfl) rfl ?_
         refine shQ_on (b := false) 187 rfl (Env.isF rfl c350) ?_
         refine qv (v_neq rfl rfl) rfl ?_
         refine qv (v_pick_f (evD_false rfl c350) rfl) rfl ?_
         refine shQ_nil ?_
         obtain rfl := inj1 r355
         exact mi kr ⟨rfl, rfl, (sc rfl (sc rfl (sc rfl (sc rfl (sc rfl (sc rfl (sc rfl (sc rfl (sc rfl (sc rfl (sc rfl (sn _))))))))))))⟩
       rintro e1 _ _ ⟨rfl, rfl, he368⟩
       refine shW_env _ he368 ?_; clear he368
       refine shW_cond rfl (fun c369 => ?_) (fun c369 => ?_)
       · have r370 := bt r337 c369; clear r337
         refine wsr (oa rfl rfl (shO_nil ?_))
         refine kW kn ?_
         refine shW_ret (andThen_ret (inBlock_ret (andThen_ret (andThen_ret (inBlock_ret (andThen_ret ?_))))))
         refine q_res1 Try.results3 (res_tmp rfl) (sr) ?_
         obtain rfl := inj1 r370
         exact rfl
       have r371 := bf r337 c369; clear r337
       refine shW_skip (wsr (om rfl rfl (om rfl rfl ?_)))
       obtain ⟨b372, o373, c374, vs375, ha376, hs377, hle378, ⟨a381, c382, rfl, h383⟩, hl379, hc380⟩ := RowR.at (slE_ok (iE_ok _)) h130 ((b196, .map es200 cl201) :: ((b195, .map es197 cl198) :: ((b77, .cells #[.int .i64 n3, .int .i64 n4, .int .i64 n5] 34 (0, 0)) :: ((b42, .cells #[.int .i64 n, .int .i64 n2, .slice a17 l.length c18, .slice a23 l2.length c24, .slice a29 l3.length c30] 27 (0, 0)) :: (Lb161 ++ []))))) g335.1 hx334
       refine ov (v_indexO Try.underlying36 Try.sizeOf47 rfl ha376 rfl g335) rfl ?_
       refine ov (v_load Try.isAgg47 rfl hs377 (hc380 0 (by decide))) rfl ?_
       refine ov (v_lenS Try.underlying47 rfl) rfl ?_
       refine om rfl rfl (shO_nil ?_)
       refine shW_block ?_
       refine shW_lp (fun fu8 e1 F1 L1 => ∃ (tl7 : List Int) (k7 : Int), tl7.length = fu8 ∧ Lst x6 k7 tl7 ∧ oyezlaw07_BookCried_l8 n3 n5 l9 l10 can must k5 (oyezlaw07_BookCried_l6 n2 n3 n5 l9 l10 can must tl6) tl7 k7 = some r ∧ F155 = F1 ∧ L1 = ((b196, .map es200 cl201) :: ((b195, .map es197 cl198) :: ((b77, .cells #[.int .i64 n3, .int .i64 n4, .int .i64 n5] 34 (0, 0)) :: ((b42, .cells #[.int .i64 n, .int .i64 n2, .slice a17 l.length c18, .slice a23 l2.length c24, .slice a29 l3.length c30] 27 (0, 0)) :: (Lb161 ++ []))))) ∧ e1.sub [(5, .pointer (some ⟨b42, 0, none⟩)), (8, .pointer (some ⟨b77, 0, none⟩)), (10, .slice a128 l8.length c129), (12, .slice a146 l9.length c147), (18, .slice a159 n163 c160), (20, .map (some b195)), (21, .map (some b196)), (26, .int .i64 k5), (175, .int .i64 (l8.length : Int)), (176, .int .i64 k5), (200, .slice a381 x6.length c382), (201, .int .i64 (x6.length : Int)), (202, .int .i64 k7)]) _ (m0 kr ⟨_, _, rfl, Lst.start _, r371, rfl, rfl, (sc rfl (sc rfl (sc rfl (sc rfl (sc rfl (sc rfl (sc rfl (sc rfl (sc rfl (sc rfl (sc rfl (sc rfl (sc rfl (sn _))))))))))))))⟩) ?_
       rintro fu8 e1 _ _ ⟨tl7, k7, hn385, hk384, r386, rfl, rfl, he387⟩
       refine shW_env _ he387 ?_; clear he387
       refine wsr ?_
       refine ov (v_lssK rfl rfl) rfl ?_
       refine shO_nil (shW_seq ?_)
       refine shW_condP rfl (fun c389 => ?_) (fun c389 => ?_)
       · obtain ⟨x8, tl8, rfl, hx391, g392, hk390⟩ := Lst.succ hk384 c389
         rw [oyezlaw07_BookCried_l8] at r386
         refine shW_skip (shW_seq ?_)
         refine shW_block ?_
         refine wsr (om rfl rfl ?_)
         obtain ⟨b393, o394, c395, vs396, ha397, hs398, hle399, rfl, hl400, hc401⟩ := RowR.at (iE_ok _) h383 ((b196, .map es200 cl201) :: ((b195, .map es197 cl198) :: ((b77, .cells #[.int .i64 n3, .int .i64 n4, .int .i64 n5] 34 (0, 0)) :: ((b42, .cells #[.int .i64 n, .int .i64 n2, .slice a17 l.length c18, .slice a23 l2.length c24, .slice a29 l3.length c30] 27 (0, 0)) :: (Lb161 ++ []))))) g392.1 hx391
         refine ov (v_indexO Try.underlying47 Try.sizeOf48 rfl ha397 rfl g392) rfl ?_
         refine ov (v_load Try.isAgg48 rfl hs398 (hc401 0 (by decide))) rfl ?_
         refine oa rfl rfl (oa rfl rfl (nsr (om rfl rfl (om rfl rfl ?_))))
         obtain ⟨x9, g402, hx403, r404⟩ := ix_ok r386; clear r386
         obtain ⟨b405, o406, c407, vs408, ha409, hs410, hle411, ⟨a414, c415, rfl, h416⟩, hl412, hc413⟩ := RowR.at (slE_ok (iE_ok _)) h148 ((b196, .map es200 cl201) :: ((b195, .map es197 cl198) :: ((b77, .cells #[.int .i64 n3, .int .i64 n4, .int .i64 n5] 34 (0, 0)) :: ((b42, .cells #[.int .i64 n, .int .i64 n2, .slice a17 l.length c18, .slice a23 l2.length c24, .slice a29 l3.length c30] 27 (0, 0)) :: (Lb161 ++ []))))) g402.1 hx403
         refine ov (v_indexO Try.underlying36 Try.sizeOf47 rfl ha409 rfl g402) rfl ?_
         refine ov (v_load Try.isAgg47 rfl hs410 (hc413 0 (by decide))) rfl ?_
         refine om rfl rfl ?_
         obtain ⟨x10, g417, hx418, r419⟩ := ix_ok r404; clear r404
         obtain ⟨b420, o421, c422, vs423, ha424, hs425, hle426, rfl, hl427, hc428⟩ := RowR.at (iE_ok _) h416 ((b196, .map es200 cl201) :: ((b195, .map es197 cl198) :: ((b77, .cells #[.int .i64 n3, .int .i64 n4, .int .i64 n5] 34 (0, 0)) :: ((b42, .cells #[.int .i64 n, .int .i64 n2, .slice a17 l.length c18, .slice a23 l2.length c24, .slice a29 l3.length c30] 27 (0, 0)) :: (Lb161 ++ []))))) g417.1 hx418
         refine ov (v_indexO Try.underlying47 Try.sizeOf48 rfl ha424 rfl g417) rfl ?_
         refine ov (v_load Try.isAgg48 rfl hs425 (hc428 0 (by decide))) rfl ?_
         refine oa rfl rfl (shO_nil (shW_seq ?_))
         obtain ⟨k8, h429, r430⟩ := b1_ok r419; clear r419
         refine shW_join (fun e1 F1 L1 => F155 = F1 ∧ L1 = ((b196, .map es200 cl201) :: ((b195, .map es197 cl198) :: ((b77, .cells #[.int .i64 n3, .int .i64 n4, .int .i64 n5] 34 (0, 0)) :: ((b42, .cells #[.int .i64 n, .int .i64 n2, .slice a17 l.length c18, .slice a23 l2.length c24, .slice a29 l3.length c30] 27 (0, 0)) :: (Lb161 ++ []))))) ∧ e1.sub [(5, .pointer (some ⟨b42, 0, none⟩)), (8, .pointer (some ⟨b77, 0, none⟩)), (10, .slice a128 l8.length c129), (12, .slice a146 l9.length c147), (18, .slice a159 n163 c160), (20, .map (some b195)), (21, .map (some b196)), (26, .int .i64 k5), (27, .int .i64 k7), (29, .int .i64 x10), (175, .int .i64 (l8.length : Int)), (176, .int .i64 k5), (200, .slice a381 x6.length c382), (201, .int .i64 (x6.length : Int)), (202, .int .i64 k7), (245, .bool k8)]) ?_ ?_
         · clear r430
           refine shW_region (om rfl rfl ?_)
           refine ov (v_fieldAddr fa_34_2 rfl) rfl ?_
           refine ov (v_load Try.isAgg3 rfl (Has.own 2 rfl) rfl) rfl ?_
           refine ov (v_neq rfl rfl) rfl ?_
           refine om rfl rfl ?_
           by_cases c431 : k7 ≠ n5
           · have r432 := ite_t h429 c431; clear h429
             refine shO_off (b' := true) 218 rfl (Env.isT rfl c431) rfl rfl (shO_off (b' := true) 218 rfl (Env.isT rfl c431) rfl rfl (shO_off (b' := true) 218 rfl (Env.isT rfl c431) rfl rfl (shO_off (b' := true) 218 rfl (Env.isT rfl c431) rfl rfl ?_)))
             refine ov (v_pick_t (evD_true rfl c431) rfl) rfl ?_
             refine om rfl rfl (shO_on (b := true) 224 rfl rfl (om rfl rfl (shO_on (b := true) 224 rfl rfl (om rfl rfl (shO_on (b := true) 224 rfl rfl ?_)))))
             refine ov (v_neq rfl rfl) rfl ?_
             refine ov (v_pick_t rfl rfl) rfl ?_
             refine om rfl rfl ?_
             by_cases c433 : x10 ≠ x8
             · have r434 := ite_t r432 c433; clear r432
               refine shO_off (b' := true) 229 rfl (Env.isT rfl c433) rfl rfl (shO_off (b' := true) 229 rfl (Env.isT rfl c433) rfl rfl (shO_off (b' := true) 229 rfl (Env.isT rfl c433) rfl rfl (shO_offU 232 rfl rfl rfl (shO_offU 232 rfl rfl rfl (shO_offU 232 rfl rfl rfl (shO_off (b' := true) 229 rfl (Env.isT rfl c433) rfl rfl ?_))))))
               refine ov (v_pick_t (evD_true rfl c433) rfl) rfl ?_
               refine om rfl rfl (shO_off (b' := true) 238 rfl rfl rfl rfl (shO_off (b' := true) 238 rfl rfl rfl rfl (shO_off (b' := true) 238 rfl rfl rfl rfl (shO_offU 241 rfl rfl rfl (shO_offU 241 rfl rfl rfl (shO_off (b' := true) 238 rfl rfl rfl rfl ?_))))))
               refine ov (v_pick_t rfl rfl) rfl ?_
               refine shO_nil ?_
               obtain rfl := inj1 r434
               exact mi kr ⟨rfl, rfl, (sc rfl (sc rfl (sc rfl (sc rfl (sc rfl (sc rfl (sc rfl (sc rfl (sc rfl (sc rfl (sc rfl (sc rfl (sc rfl (sc rfl (sc rfl (sc rfl (sn _)))))))))))))))))⟩
             have r435 := ite_f r432 c433; clear r432
             refine shO_on (b := false) 229 rfl (Env.isF rfl c433) (om rfl rfl (shO_on (b := false) 229 rfl (Env.isF rfl c433) ?_))
             refine ov (v_eql rfl rfl) rfl ?_
             refine shO_on (b := false) 229 rfl (Env.isF rfl c433) (om rfl rfl ?_)
             by_cases c436 : x8 = 1
             · have r437 := ite_t r435 c436; clear r435
               refine shO_on (b := true) 232 rfl (Env.isT rfl c436) (om rfl rfl (shO_on (b := true) 232 rfl (Env.isT rfl c436) (om rfl rfl (shO_on (b := true) 232 rfl (Env.isT rfl c436) ?_))))
               refine ov (v_neq rfl rfl) rfl ?_
               refine shO_on (b := false) 229 rfl (Env.isF rfl c433) ?_
               refine ov (v_pick_t (evD_true rfl c436) rfl) rfl ?_
               refine ov (v_pick_f (evD_false rfl c433) rfl) rfl ?_
               refine om rfl rfl (shO_on (b := false) 238 rfl (Env.isF rfl c433) (om rfl rfl (shO_on (b := false) 238 rfl (Env.isF rfl c433) ?_)))
               refine ov (v_eql rfl rfl) rfl ?_
               refine shO_on (b := false) 238 rfl (Env.isF rfl c433) (om rfl rfl ?_)
               by_cases c438 : x8 = 0
               · have r439 := ite_t r437 c438; clear r437
                 refine shO_on (b := true) 241 rfl (Env.isT rfl c438) (om rfl rfl (shO_on (b := true) 241 rfl (Env.isT rfl c438) ?_))
                 refine ov (v_eql rfl rfl) rfl ?_
                 refine shO_on (b := false) 238 rfl (Env.isF rfl c433) ?_
                 refine ov (v_pick_t (evD_true rfl c438) rfl) rfl ?_
                 refine ov (v_pick_f (evD_false rfl c433) rfl) rfl ?_
                 refine shO_nil ?_
                 obtain rfl := inj1 r439
                 exact mi kr ⟨rfl, rfl, (sc rfl (sc rfl (sc rfl (sc rfl (sc rfl (sc rfl (sc rfl (sc rfl (sc rfl (sc rfl (sc rfl (sc rfl (sc rfl (sc rfl (sc rfl (sc rfl (sn _)))))))))))))))))⟩
               have r440 := ite_f r437 c438; clear r437
               refine shO_off (b' := false) 241 rfl (Env.isF rfl c438) rfl rfl (shO_off (b' := false) 241 rfl (Env.isF rfl c438) rfl rfl (shO_on (b := false) 238 rfl (Env.isF rfl c433) ?_))
               refine ov (v_pick_f (evD_false rfl c438) rfl) rfl ?_
               refine ov (v_pick_f (evD_false rfl c433) rfl) rfl ?_
               refine shO_nil ?_
               obtain rfl := inj1 r440
               exact mi kr ⟨rfl, rfl, (sc rfl (sc rfl (sc rfl (sc rfl (sc rfl (sc rfl (sc rfl (sc rfl (sc rfl (sc rfl (sc rfl (sc rfl (sc rfl (sc rfl (sc rfl (sc rfl (sn _)))))))))))))))))⟩
             have r441 := ite_f r435 c436; clear r435
             refine shO_off (b' := false) 232 rfl (Env.isF rfl c436) rfl rfl (shO_off (b' := false) 232 rfl (Env.isF rfl c436) rfl rfl (shO_off (b' := false) 232 rfl (Env.isF rfl c436) rfl rfl (shO_on (b := false) 229 rfl (Env.isF rfl c433) ?_)))
             refine ov (v_pick_f (evD_false rfl c436) rfl) rfl ?_
             refine ov (v_pick_f (evD_false rfl c433) rfl) rfl ?_
             refine om rfl rfl (shO_on (b := false) 238 rfl rfl (om rfl rfl (shO_on (b := false) 238 rfl rfl ?_)))
             refine ov (v_eql rfl rfl) rfl ?_
             refine shO_on (b := false) 238 rfl rfl (om rfl rfl ?_)
             by_cases c442 : x8 = 0
             · have r443 := ite_t r441 c442; clear r441
               refine shO_on (b := true) 241 rfl (Env.isT rfl c442) (om rfl rfl (shO_on (b := true) 241 rfl (Env.isT rfl c442) ?_))
               refine ov (v_eql rfl rfl) rfl ?_
               refine shO_on (b := false) 238 rfl rfl ?_
               refine ov (v_pick_t (evD_true rfl c442) rfl) rfl ?_
               refine ov (v_pick_f rfl rfl) rfl ?_
               refine shO_nil ?_
               obtain rfl := inj1 r443
               exact mi kr ⟨rfl, rfl, (sc rfl (sc rfl (sc rfl (sc rfl (sc rfl (sc rfl (sc rfl (sc rfl (sc rfl (sc rfl (sc rfl (sc rfl (sc rfl (sc rfl (sc rfl (sc rfl (sn _)))))))))))))))))⟩
             have r444 := ite_f r441 c442; clear r441
             refine shO_off (b' := false) 241 rfl (Env.isF rfl c442) rfl rfl (shO_off (b' := false) 241 rfl (Env.isF rfl c442) rfl rfl (shO_on (b := false) 238 rfl rfl ?_))
             refine ov (v_pick_f (evD_false rfl c442) rfl) rfl ?_
             refine ov (v_pick_f rfl rfl) rfl ?_
             refine shO_nil ?_
             obtain rfl := inj1 r444
             exact mi kr ⟨rfl, rfl, (sc rfl (sc rfl (sc rfl (sc rfl (sc rfl (sc rfl (sc rfl (sc rfl (sc rfl (sc rfl (sc rfl (sc rfl (sc rfl (sc rfl (sc rfl (sc rfl (sn _)))))))))))))))))⟩
           have r445 := ite_f h429 c431; clear h429
           refine shO_on (b := false) 218 rfl (Env.isF rfl c431) (om rfl rfl (shO_on (b := false) 218 rfl (Env.isF rfl c431) (om rfl rfl (shO_on (b := false) 218 rfl (Env.isF rfl c431) ?_))))
           refine ov (OpV.eq (v' := .bool ((mget can k5).getD false)) (v_lookS1 (k := k5) (z0 := false) rfl Try.underlying45 (keyOK_int Try.underlying3) Try.zeroValue4 rfl rfl (HasM.own 1 rfl) (show MapR (Value.int .i64) Value.bool es197 (can : List (Int × Bool)) from hR199)) rfl) rfl ?_
           refine shO_on (b := false) 218 rfl (Env.isF rfl c431) ?_
           refine ov (v_notB rfl) rfl ?_
           refine ov (v_pick_f (evD_false rfl c431) rfl) rfl ?_
           refine om rfl rfl ?_
           rcases bool_two (!((mget can k5).getD false)) with c446 | c446
           · have r447 := bt r445 c446; clear r445
             refine shO_on (b := true) 224 rfl (EnvB rfl c446) (om rfl rfl (shO_on (b := true) 224 rfl (EnvB rfl c446) (om rfl rfl (shO_on (b := true) 224 rfl (EnvB rfl c446) ?_))))
             refine ov (v_neq rfl rfl) rfl ?_
             refine ov (v_pick_t (evB rfl c446) rfl) rfl ?_
             refine om rfl rfl ?_
             by_cases c448 : x10 ≠ x8
             · have r449 := ite_t r447 c448; clear r447
               refine shO_off (b' := true) 229 rfl (Env.isT rfl c448) rfl rfl (shO_off (b' := true) 229 rfl (Env.isT rfl c448) rfl rfl (shO_off (b' := true) 229 rfl (Env.isT rfl c448) rfl rfl (shO_offU 232 rfl rfl rfl (shO_offU 232 rfl rfl rfl (shO_offU 232 rfl rfl rfl (shO_off (b' := true) 229 rfl (Env.isT rfl c448) rfl rfl ?_))))))
               refine ov (v_pick_t (evD_true rfl c448) rfl) rfl ?_
               refine om rfl rfl (shO_off (b' := true) 238 rfl rfl rfl rfl (shO_off (b' := true) 238 rfl rfl rfl rfl (shO_off (b' := true) 238 rfl rfl rfl rfl (shO_offU 241 rfl rfl rfl (shO_offU 241 rfl rfl rfl (shO_off (b' := true) 238 rfl rfl rfl rfl ?_))))))
               refine ov (v_pick_t rfl rfl) rfl ?_
               refine shO_nil ?_
               obtain rfl := inj1 r449
               exact mi kr ⟨rfl, rfl, (sc rfl (sc rfl (sc rfl (sc rfl (sc rfl (sc rfl (sc rfl (sc rfl (sc rfl (sc rfl (sc rfl (sc rfl (sc rfl (sc rfl (sc rfl (sc rfl (sn _)))))))))))))))))⟩
             have r450 := ite_f r447 c448; clear r447
             refine shO_on (b := false) 229 rfl (Env.isF rfl c448) (om rfl rfl (shO_on (b := false) 229 rfl (Env.isF rfl c448) ?_))
             refine ov (v_eql rfl rfl) rfl ?_
             refine shO_on (b := false) 229 rfl (Env.isF rfl c448) (om rfl rfl ?_)
             by_cases c451 : x8 = 1
             · have r452 := ite_t r450 c451; clear r450
               refine shO_on (b := true) 232 rfl (Env.isT rfl c451) (om rfl rfl (shO_on (b := true) 232 rfl (Env.isT rfl c451) (om rfl rfl (shO_on (b := true) 232 rfl (Env.isT rfl c451) ?_))))
               refine ov (v_neq rfl rfl) rfl ?_
               refine shO_on (b := false) 229 rfl (Env.isF rfl c448) ?_
               refine ov (v_pick_t (evD_true rfl c451) rfl) rfl ?_
               refine ov (v_pick_f (evD_false rfl c448) rfl) rfl ?_
               refine om rfl rfl (shO_on (b := false) 238 rfl (Env.isF rfl c448) (om rfl rfl (shO_on (b := false) 238 rfl (Env.isF rfl c448) ?_)))
               refine ov (v_eql rfl rfl) rfl ?_
               refine shO_on (b := false) 238 rfl (Env.isF rfl c448) (om rfl rfl ?_)
               by_cases c453 : x8 = 0
               · have r454 := ite_t r452 c453; clear r452
                 refine shO_on (b := true) 241 rfl (Env.isT rfl c453) (om rfl rfl (shO_on (b := true) 241 rfl (Env.isT rfl c453) ?_))
                 refine ov (v_eql rfl rfl) rfl ?_
                 refine shO_on (b := false) 238 rfl (Env.isF rfl c448) ?_
                 refine ov (v_pick_t (evD_true rfl c453) rfl) rfl ?_
                 refine ov (v_pick_f (evD_false rfl c448) rfl) rfl ?_
                 refine shO_nil ?_
                 obtain rfl := inj1 r454
                 exact mi kr ⟨rfl, rfl, (sc rfl (sc rfl (sc rfl (sc rfl (sc rfl (sc rfl (sc rfl (sc rfl (sc rfl (sc rfl (sc rfl (sc rfl (sc rfl (sc rfl (sc rfl (sc rfl (sn _)))))))))))))))))⟩
               have r455 := ite_f r452 c453; clear r452
               refine shO_off (b' := false) 241 rfl (Env.isF rfl c453) rfl rfl (shO_off (b' := false) 241 rfl (Env.isF rfl c453) rfl rfl (shO_on (b := false) 238 rfl (Env.isF rfl c448) ?_))
               refine ov (v_pick_f (evD_false rfl c453) rfl) rfl ?_
               refine ov (v_pick_f (evD_false rfl c448) rfl) rfl ?_
               refine shO_nil ?_
               obtain rfl := inj1 r455
               exact mi kr ⟨rfl, rfl, (sc rfl (sc rfl (sc rfl (sc rfl (sc rfl (sc rfl (sc rfl (sc rfl (sc rfl (sc rfl (sc rfl (sc rfl (sc rfl (sc rfl (sc rfl (sc rfl (sn _)))))))))))))))))⟩
             have r456 := ite_f r450 c451; clear r450
             refine shO_off (b' := false) 232 rfl (Env.isF rfl c451) rfl rfl (shO_off (b' := false) 232 rfl (Env.isF rfl c451) rfl rfl (shO_off (b' := false) 232 rfl (Env.isF rfl c451) rfl rfl (shO_on (b := false) 229 rfl (Env.isF rfl c448) ?_)))
             refine ov (v_pick_f (evD_false rfl c451) rfl) rfl ?_
             refine ov (v_pick_f (evD_false rfl c448) rfl) rfl ?_
             refine om rfl rfl (shO_on (b := false) 238 rfl rfl (om rfl rfl (shO_on (b := false) 238 rfl rfl ?_)))
             refine ov (v_eql rfl rfl) rfl ?_
             refine shO_on (b := false) 238 rfl rfl (om rfl rfl ?_)
             by_cases c457 : x8 = 0
             · have r458 := ite_t r456 c457; clear r456
               refine shO_on (b := true) 241 rfl (Env.isT rfl c457) (om rfl rfl (shO_on (b := true) 241 rfl (Env.isT rfl c457) ?_))
               refine ov (v_eql rfl rfl) rfl ?_
               refine shO_on (b := false) 238 rfl rfl ?_
               refine ov (v_pick_t (evD_true rfl c457) rfl) rfl ?_
               refine ov (v_pick_f rfl rfl) rfl ?_
               refine shO_nil ?_
               obtain rfl := inj1 r458
               exact mi kr ⟨rfl, rfl, (sc rfl (sc rfl (sc rfl (sc rfl (sc rfl (sc rfl (sc rfl (sc rfl (sc rfl (sc rfl (sc rfl (sc rfl (sc rfl (sc rfl (sc rfl (sc rfl (sn _)))))))))))))))))⟩
             have r459 := ite_f r456 c457; clear r456
             refine shO_off (b' := false) 241 rfl (Env.isF rfl c457) rfl rfl (shO_off (b' := false) 241 rfl (Env.isF rfl c457) rfl rfl (shO_on (b := false) 238 rfl rfl ?_))
             refine ov (v_pick_f (evD_false rfl c457) rfl) rfl ?_
             refine ov (v_pick_f rfl rfl) rfl ?_
             refine shO_nil ?_
             obtain rfl := inj1 r459
             exact mi kr ⟨rfl, rfl, (sc rfl (sc rfl (sc rfl (sc rfl (sc rfl (sc rfl (sc rfl (sc rfl (sc rfl (sc rfl (sc rfl (sc rfl (sc rfl (sc rfl (sc rfl (sc rfl (sn _)))))))))))))))))⟩
           have r460 := bf r445 c446; clear r445
           refine shO_off (b' := false) 224 rfl (EnvB rfl c446) rfl rfl (shO_off (b' := false) 224 rfl (EnvB rfl c446) rfl rfl (shO_off (b' := false) 224 rfl (EnvB rfl c446) rfl rfl ?_))
           refine ov (v_pick_f (evB rfl c446) rfl) rfl ?_
           refine om rfl rfl (shO_on (b := false) 229 rfl rfl (om rfl rfl (shO_on (b := false) 229 rfl rfl ?_)))
           refine ov (v_eql rfl rfl) rfl ?_
           refine shO_on (b := false) 229 rfl rfl (om rfl rfl ?_)
           by_cases c461 : x8 = 1
           · have r462 := ite_t r460 c461; clear r460
             refine shO_on (b := true) 232 rfl (Env.isT rfl c461) (om rfl rfl (shO_on (b := true) 232 rfl (Env.isT rfl c461) (om rfl rfl (shO_on (b := true) 232 rfl (Env.isT rfl c461) ?_))))
             refine ov (v_neq rfl rfl) rfl ?_
             refine shO_on (b := false) 229 rfl rfl ?_
             refine ov (v_pick_t (evD_true rfl c461) rfl) rfl ?_
             refine ov (v_pick_f rfl rfl) rfl ?_
             refine om rfl rfl ?_
             by_cases c463 : x10 ≠ x8
             · have r464 := ite_t r462 c463; clear r462
               refine shO_off (b' := true) 238 rfl (Env.isT rfl c463) rfl rfl (shO_off (b' := true) 238 rfl (Env.isT rfl c463) rfl rfl (shO_off (b' := true) 238 rfl (Env.isT rfl c463) rfl rfl (shO_offU 241 rfl rfl rfl (shO_offU 241 rfl rfl rfl (shO_off (b' := true) 238 rfl (Env.isT rfl c463) rfl rfl ?_)))))
               refine ov (v_pick_t (evD_true rfl c463) rfl) rfl ?_
               refine shO_nil ?_
               obtain rfl := inj1 r464
               exact mi kr ⟨rfl, rfl, (sc rfl (sc rfl (sc rfl (sc rfl (sc rfl (sc rfl (sc rfl (sc rfl (sc rfl (sc rfl (sc rfl (sc rfl (sc rfl (sc rfl (sc rfl (sc rfl (sn _)))))))))))))))))⟩
             have r465 := ite_f r462 c463; clear r462
             refine shO_on (b := false) 238 rfl (Env.isF rfl c463) (om rfl rfl (shO_on (b := false) 238 rfl (Env.isF rfl c463) ?_))
             refine ov (v_eql rfl rfl) rfl ?_
             refine shO_on (b := false) 238 rfl (Env.isF rfl c463) (om rfl rfl ?_)
             by_cases c466 : x8 = 0
             · have r467 := ite_t r465 c466; clear r465
               refine shO_on (b := true) 241 rfl (Env.isT rfl c466) (om rfl rfl (shO_on (b := true) 241 rfl (Env.isT rfl c466) ?_))
               refine ov (v_eql rfl rfl) rfl ?_
               refine shO_on (b := false) 238 rfl (Env.isF rfl c463) ?_
               refine ov (v_pick_t (evD_true rfl c466) rfl) rfl ?_
               refine ov (v_pick_f (evD_false rfl c463) rfl) rfl ?_
               refine shO_nil ?_
               obtain rfl := inj1 r467
               exact mi kr ⟨rfl, rfl, (sc rfl (sc rfl (sc rfl (sc rfl (sc rfl (sc rfl (sc rfl (sc rfl (sc rfl (sc rfl (sc rfl (sc rfl (sc rfl (sc rfl (sc rfl (sc rfl (sn _)))))))))))))))))⟩
             have r468 := ite_f r465 c466; clear r465
             refine shO_off (b' := false) 241 rfl (Env.isF rfl c466) rfl rfl (shO_off (b' := false) 241 rfl (Env.isF rfl c466) rfl rfl (shO_on (b := false) 238 rfl (Env.isF rfl c463) ?_))
             refine ov (v_pick_f (evD_false rfl c466) rfl) rfl ?_
             refine ov (v_pick_f (evD_false rfl c463) rfl) rfl ?_
             refine shO_nil ?_
             obtain rfl := inj1 r468
             exact mi kr ⟨rfl, rfl, (sc rfl (sc rfl (sc rfl (sc rfl (sc rfl (sc rfl (sc rfl (sc rfl (sc rfl (sc rfl (sc rfl (sc rfl (sc rfl (sc rfl (sc rfl (sc rfl (sn _)))))))))))))))))⟩
           have r469 := ite_f r460 c461; clear r460
           refine shO_off (b' := false) 232 rfl (Env.isF rfl c461) rfl rfl (shO_off (b' := false) 232 rfl (Env.isF rfl c461) rfl rfl (shO_off (b' := false) 232 rfl (Env.isF rfl c461) rfl rfl (shO_on (b := false) 229 rfl rfl ?_)))
           refine ov (v_pick_f (evD_false rfl c461) rfl) rfl ?_
           refine ov (v_pick_f rfl rfl) rfl ?_
           refine om rfl rfl (shO_on (b := false) 238 rfl rfl (om rfl rfl (shO_on (b := false) 238 rfl rfl ?_)))
           refine ov (v_eql rfl rfl) rfl ?_
           refine shO_on (b := false) 238 rfl rfl (om rfl rfl ?_)
           by_cases c470 : x8 = 0
           · have r471 := ite_t r469 c470; clear r469
             refine shO_on (b := true) 241 rfl (Env.isT rfl c470) (om rfl rfl (shO_on (b := true) 241 rfl (Env.isT rfl c470) ?_))
             refine ov (v_eql rfl rfl) rfl ?_
             refine shO_on (b := false) 238 rfl rfl ?_
             refine ov (v_pick_t (evD_true rfl c470) rfl) rfl ?_
             refine ov (v_pick_f rfl rfl) rfl ?_
             refine shO_nil ?_
             obtain rfl := inj1 r471
             exact mi kr ⟨rfl, rfl, (sc rfl (sc rfl (sc rfl (sc rfl (sc rfl (sc rfl (sc rfl (sc rfl (sc rfl (sc rfl (sc rfl (sc rfl (sc rfl (sc rfl (sc rfl (sc rfl (sn _)))))))))))))))))⟩
           have r472 := ite_f r469 c470; clear r469
           refine shO_off (b' := false) 241 rfl (Env.isF rfl c470) rfl rfl (shO_off (b' := false) 241 rfl (Env.isF rfl c470) rfl rfl (shO_on (b := false) 238 rfl rfl ?_))
           refine ov (v_pick_f (evD_false rfl c470) rfl) rfl ?_
           refine ov (v_pick_f rfl rfl) rfl ?_
           refine shO_nil ?_
           obtain rfl := inj1 r472
           exact mi kr ⟨rfl, rfl, (sc rfl (sc rfl (sc rfl (sc rfl (sc rfl (sc rfl (sc rfl (sc rfl (sc rfl (sc rfl (sc rfl (sc rfl (sc rfl (sc rfl (sc rfl (sc rfl (sn _)))))))))))))))))⟩
         rintro e1 _ _ ⟨rfl, rfl, he473⟩
         refine shW_env _ he473 ?_; clear he473
         refine shW_cond rfl (fun c474 => ?_) (fun c474 => ?_)
         · have r475 := bt r430 c474; clear r430
           refine wsr (oa rfl rfl (shO_nil ?_))
           refine kW kn ?_
           refine shW_ret (andThen_ret (inBlock_ret (andThen_ret (andThen_ret (inBlock_ret (inBlock_ret (andThen_ret (andThen_ret (inBlock_ret ?_)))))))))
           refine andThen_ret ?_
           refine q_res1 Try.results3 (res_tmp rfl) (sr) ?_
           obtain rfl := inj1 r475
           exact rfl
         have r476 := bf r430 c474; clear r430
         refine shW_skip ?_
         obtain ⟨k9, h477, r478⟩ := b1_ok r476; clear r476
         refine shW_join (fun e1 F1 L1 => F155 = F1 ∧ L1 = ((b196, .map es200 cl201) :: ((b195, .map es197 cl198) :: ((b77, .cells #[.int .i64 n3, .int .i64 n4, .int .i64 n5] 34 (0, 0)) :: ((b42, .cells #[.int .i64 n, .int .i64 n2, .slice a17 l.length c18, .slice a23 l2.length c24, .slice a29 l3.length c30] 27 (0, 0)) :: (Lb161 ++ []))))) ∧ e1.sub [(5, .pointer (some ⟨b42, 0, none⟩)), (8, .pointer (some ⟨b77, 0, none⟩)), (10, .slice a128 l8.length c129), (12, .slice a146 l9.length c147), (18, .slice a159 n163 c160), (20, .map (some b195)), (21, .map (some b196)), (26, .int .i64 k5), (175, .int .i64 (l8.length : Int)), (176, .int .i64 k5), (200, .slice a381 x6.length c382), (201, .int .i64 (x6.length : Int)), (202, .int .i64 k7), (274, .bool k9)]) ?_ ?_
         · clear r478
           refine shW_draw (by kernel_rfl) (by kernel_rfl) (by kernel_rfl) ?_
           refine qm rfl rfl ?_
           refine qv (v_fieldAddr fa_34_2 rfl) rfl ?_
           refine qv (v_load Try.isAgg3 rfl (Has.own 2 rfl) rfl) rfl ?_
           refine qv (v_eql rfl rfl) rfl ?_
           refine qm rfl rfl ?_
           by_cases c479 : k7 = n5
           · have r480 := ite_t h477 c479; clear h477
             refine shQ_on (b := true) 250 rfl (Env.isT rfl c479) (qm rfl rfl (shQ_on (b := true) 250 rfl (Env.isT rfl c479) (qm rfl rfl (shQ_on (b := true) 250 rfl (Env.isT rfl c479) ?_))))
             refine qv (OpV.eq (v' := .int .i64 ((mget must k5).getD 0)) (v_lookS1 (k := k5) (z0 := 0) rfl Try.underlying46 (keyOK_int Try.underlying3) Try.zeroValue3 rfl rfl (HasM.own 0 rfl) (show MapR (Value.int .i64) (Value.int .i64) es200 (must : List (Int × Int)) from hR202)) rfl) rfl ?_
             refine shQ_on (b := true) 250 rfl (Env.isT rfl c479) (qm rfl rfl (shQ_on (b := true) 250 rfl (Env.isT rfl c479) ?_))
             refine qv (v_fieldAddr fa_34_0 rfl) rfl ?_
             refine shQ_on (b := true) 250 rfl (Env.isT rfl c479) ?_
             refine qv (v_load Try.isAgg3 rfl (Has.own 2 rfl) rfl) rfl ?_
             refine shQ_on (b := true) 250 rfl (Env.isT rfl c479) ?_
             obtain ⟨x11, g481, hx482, r483⟩ := ix_ok r480; clear r480
             obtain ⟨b484, o485, c486, vs487, ha488, hs489, hle490, ⟨a493, c494, rfl, h495⟩, hl491, hc492⟩ := SlR.at (slE_ok (iE_ok _)) hz162 (L := (b196, .map es200 cl201) :: ((b195, .map es197 cl198) :: ((b77, .cells #[.int .i64 n3, .int .i64 n4, .int .i64 n5] 34 (0, 0)) :: ((b42, .cells #[.int .i64 n, .int .i64 n2, .slice a17 l.length c18, .slice a23 l2.length c24, .slice a29 l3.length c30] 27 (0, 0)) :: (Lb161 ++ []))))) (fC (fC (fC (fC fP)))) g481.1 hx482
             refine qv (v_indexO Try.underlying42 Try.sizeOf24 rfl ha488 rfl (SlR.idx hz162 g481)) rfl ?_
             refine shQ_on (b := true) 250 rfl (Env.isT rfl c479) ?_
             refine qv (v_load Try.isAgg24 rfl hs489 (hc492 0 (by decide))) rfl ?_
             refine shQ_on (b := true) 250 rfl (Env.isT rfl c479) ?_
             refine qv (v_lenS Try.underlying24 rfl) rfl ?_
             refine shQ_on (b := true) 250 rfl (Env.isT rfl c479) ?_
             refine qv (v_eql rfl rfl) rfl ?_
             refine shQ_on (b := true) 250 rfl (Env.isT rfl c479) (qm rfl rfl ?_)
             by_cases c496 : ((mget must k5).getD 0) = (x11.length : Int)
             · have r497 := ite_t r483 c496; clear r483
               refine shQ_on (b := true) 261 rfl (Env.isT rfl c496) (qm rfl rfl (shQ_on (b := true) 261 rfl (Env.isT rfl c496) ?_))
               refine qv (v_neq rfl rfl) rfl ?_
               refine shQ_on (b := true) 250 rfl (Env.isT rfl c479) ?_
               refine qv (v_pick_t (evD_true rfl c496) rfl) rfl ?_
               refine shQ_on (b := true) 250 rfl (Env.isT rfl c479) (qm rfl rfl ?_)
               by_cases c498 : x10 ≠ 1
               · have r499 := ite_t r497 c498; clear r497
                 refine shQ_off (b' := true) 265 rfl (Env.isT rfl c498) rfl rfl (shQ_off (b' := true) 265 rfl (Env.isT rfl c498) rfl rfl (shQ_off (b' := true) 265 rfl (Env.isT rfl c498) rfl rfl (shQ_off (b' := true) 265 rfl (Env.isT rfl c498) rfl rfl (shQ_offU 269 rfl rfl rfl (shQ_offU 269 rfl rfl rfl (shQ_off (b' := true) 265 rfl (Env.isT rfl c498) rfl rfl (shQ_on (b := true) 250 rfl (Env.isT rfl c479) ?_)))))))
                 refine qv (v_pick_t (evD_true rfl c498) rfl) rfl ?_
                 refine qv (v_pick_t (evD_true rfl c479) rfl) rfl ?_
                 refine shQ_nil ?_
                 obtain rfl := inj1 r499
                 exact mi kr ⟨rfl, rfl, (sc rfl (sc rfl (sc rfl (sc rfl (sc rfl (sc rfl (sc rfl (sc rfl (sc rfl (sc rfl (sc rfl (sc rfl (sc rfl (sc rfl (sn _)))))))))))))))⟩
               have r500 := ite_f r497 c498; clear r497
               refine shQ_on (b := false) 265 rfl (Env.isF rfl c498) (qm rfl rfl (shQ_on (b := false) 265 rfl (Env.isF rfl c498) (qm rfl rfl (shQ_on (b := false) 265 rfl (Env.isF rfl c498) ?_))))
               refine qv (OpV.eq (v' := .bool ((mget can k5).getD false)) (v_lookS1 (k := k5) (z0 := false) rfl Try.underlying45 (keyOK_int Try.underlying3) Try.zeroValue4 rfl rfl (HasM.own 1 rfl) (show MapR (Value.int .i64) Value.bool es197 (can : List (Int × Bool)) from hR199)) rfl) rfl ?_
               refine shQ_on (b := false) 265 rfl (Env.isF rfl c498) (qm rfl rfl ?_)
               rcases bool_two ((mget can k5).getD false) with c501 | c501
               · have r502 := bt r500 c501; clear r500
                 refine shQ_on (b := true) 269 rfl (EnvB rfl c501) (qm rfl rfl (shQ_on (b := true) 269 rfl (EnvB rfl c501) ?_))
                 refine qv (v_eql rfl rfl) rfl ?_
                 refine shQ_on (b := false) 265 rfl (Env.isF rfl c498) ?_
                 refine qv (v_pick_t (evB rfl c501) rfl) rfl ?_
                 refine shQ_on (b := true) 250 rfl (Env.isT rfl c479) ?_
                 refine qv (v_pick_f (evD_false rfl c498) rfl) rfl ?_
                 refine qv (v_pick_t (evD_true rfl c479) rfl) rfl ?_
                 refine shQ_nil ?_
                 obtain rfl := inj1 r502
                 exact mi kr ⟨rfl, rfl, (sc rfl (sc rfl (sc rfl (sc rfl (sc rfl (sc rfl (sc rfl (sc rfl (sc rfl (sc rfl (sc rfl (sc rfl (sc rfl (sc rfl (sn _)))))))))))))))⟩
               have r503 := bf r500 c501; clear r500
               refine shQ_off (b' := false) 269 rfl (EnvB rfl c501) rfl rfl (shQ_off (b' := false) 269 rfl (EnvB rfl c501) rfl rfl (shQ_on (b := false) 265 rfl (Env.isF rfl c498) ?_))
               refine qv (v_pick_f (evB rfl c501) rfl) rfl ?_
               refine shQ_on (b := true) 250 rfl (Env.isT rfl c479) ?_
               refine qv (v_pick_f (evD_false rfl c498) rfl) rfl ?_
               refine qv (v_pick_t (evD_true rfl c479) rfl) rfl ?_
               refine shQ_nil ?_
               obtain rfl := inj1 r503
               exact mi kr ⟨rfl, rfl, (sc rfl (sc rfl (sc rfl (sc rfl (sc rfl (sc rfl (sc rfl (sc rfl (sc rfl (sc rfl (sc rfl (sc rfl (sc rfl (sc rfl (sn _)))))))))))))))⟩
             have r504 := ite_f r483 c496; clear r483
             refine shQ_off (b' := false) 261 rfl (Env.isF rfl c496) rfl rfl (shQ_off (b' := false) 261 rfl (Env.isF rfl c496) rfl rfl (shQ_on (b := true) 250 rfl (Env.isT rfl c479) ?_))
             refine qv (v_pick_f (evD_false rfl c496) rfl) rfl ?_
             refine shQ_on (b := true) 250 rfl (Env.isT rfl c479) (qm rfl rfl (shQ_on (b := false) 265 rfl rfl (qm rfl rfl (shQ_on (b := false) 265 rfl rfl (qm rfl rfl (shQ_on (b := false) 265 rfl rfl ?_))))))
             refine qv (OpV.eq (v' := .bool ((mget can k5).getD false)) (v_lookS1 (k := k5) (z0 := false) rfl Try.underlying45 (keyOK_int Try.underlying3) Try.zeroValue4 rfl rfl (HasM.own 1 rfl) (show MapR (Value.int .i64) Value.bool es197 (can : List (Int × Bool)) from hR199)) rfl) rfl ?_
             refine shQ_on (b := false) 265 rfl rfl (qm rfl rfl ?_)
             rcases bool_two ((mget can k5).getD false) with c505 | c505
             · have r506 := bt r504 c505; clear r504
               refine shQ_on (b := true) 269 rfl (EnvB rfl c505) (qm rfl rfl (shQ_on (b := true) 269 rfl (EnvB rfl c505) ?_))
               refine qv (v_eql rfl rfl) rfl ?_
               refine shQ_on (b := false) 265 rfl rfl ?_
               refine qv (v_pick_t (evB rfl c505) rfl) rfl ?_
               refine shQ_on (b := true) 250 rfl (Env.isT rfl c479) ?_
               refine qv (v_pick_f rfl rfl) rfl ?_
               refine qv (v_pick_t (evD_true rfl c479) rfl) rfl ?_
               refine shQ_nil ?_
               obtain rfl := inj1 r506
               exact mi kr ⟨rfl, rfl, (sc rfl (sc rfl (sc rfl (sc rfl (sc rfl (sc rfl (sc rfl (sc rfl (sc rfl (sc rfl (sc rfl (sc rfl (sc rfl (sc rfl (sn _)))))))))))))))⟩
             have r507 := bf r504 c505; clear r504
             refine shQ_off (b' := false) 269 rfl (EnvB rfl c505) rfl rfl (shQ_off (b' := false) 269 rfl (EnvB rfl c505) rfl rfl (shQ_on (b := false) 265 rfl rfl ?_))
             refine qv (v_pick_f (evB rfl c505) rfl) rfl ?_
             refine shQ_on (b := true) 250 rfl (Env.isT rfl c479) ?_
             refine qv (v_pick_f rfl rfl) rfl ?_
             refine qv (v_pick_t (evD_true rfl c479) rfl) rfl ?_
             refine shQ_nil ?_
             obtain rfl := inj1 r507
             exact mi kr ⟨rfl, rfl, (sc rfl (sc rfl (sc rfl (sc rfl (sc rfl (sc rfl (sc rfl (sc rfl (sc rfl (sc rfl (sc rfl (sc rfl (sc rfl (sc rfl (sn _)))))))))))))))⟩
           have r508 := ite_f h477 c479; clear h477
           refine shQ_off (b' := false) 250 rfl (Env.isF rfl c479) rfl rfl (shQ_off (b' := false) 250 rfl (Env.isF rfl c479) rfl rfl (shQ_off (b' := false) 250 rfl (Env.isF rfl c479) rfl rfl (shQ_off (b' := false) 250 rfl (Env.isF rfl c479) rfl rfl (shQ_off (b' := false) 250 rfl (Env.isF rfl c479) rfl rfl (shQ_off (b' := false) 250 rfl (Env.isF rfl c479) rfl rfl (shQ_off (b' := false) 250 rfl (Env.isF rfl c479) rfl rfl (shQ_off (b' := false) 250 rfl (Env.isF rfl c479) rfl rfl (shQ_off (b' := false) 250 rfl (Env.isF rfl c479) rfl rfl (shQ_off (b' := false) 250 rfl (Env.isF rfl c479) rfl rfl ?_)))))))))
           refine shQ_off (b' := false) 250 rfl (Env.isF rfl c479) rfl rfl (shQ_offU 261 rfl rfl rfl (shQ_offU 261 rfl rfl rfl (shQ_off (b' := false) 250 rfl (Env.isF rfl c479) rfl rfl (shQ_off (b' := false) 250 rfl (Env.isF rfl c479) rfl rfl (shQ_offU 265 rfl rfl rfl (shQ_offU 265 rfl rfl rfl (shQ_offU 265 rfl rfl rfl (shQ_offU 265 rfl rfl rfl (shQ_offU 269 rfl rfl rfl ?_)))))))))
           refine shQ_offU 269 rfl rfl rfl (shQ_offU 265 rfl rfl rfl (shQ_off (b' := false) 250 rfl (Env.isF rfl c479) rfl rfl ?_))
           refine qv (v_pick_f (evD_false rfl c479) rfl) rfl ?_
           refine shQ_nil ?_
           obtain rfl := inj1 r508
           exact mi kr ⟨rfl, rfl, (sc rfl (sc rfl (sc rfl (sc rfl (sc rfl (sc rfl (sc rfl (sc rfl (sc rfl (sc rfl (sc rfl (sc rfl (sc rfl (sc rfl (sn _)))))))))))))))⟩
         rintro e1 _ _ ⟨rfl, rfl, he509⟩
         refine shW_env _ he509 ?_; clear he509
         refine shW_cond rfl (fun c510 => ?_) (fun c510 => ?_)
         · have r511 := bt r478 c510; clear r478
           refine wsr (oa rfl rfl (shO_nil ?_))
           refine kW kn ?_
           refine shW_ret (inBlock_ret (andThen_ret (andThen_ret (inBlock_ret (inBlock_ret (andThen_ret (andThen_ret (inBlock_ret (andThen_ret ?_)))))))))
           refine q_res1 Try.results3 (res_tmp rfl) (sr) ?_
           obtain rfl := inj1 r511
           exact rfl
         have r512 := bf r478 c510; clear r478
         refine shW_skip (inBlock_n (id := 7) (shW_region ?_))
         refine ov (v_add rfl rfl (Lst.r64 hk384 c389 (RowR.lt h383))) rfl ?_
         refine om rfl rfl (shO_nil ?_)
         subst hn385; exact le kr ⟨_, _, rfl, hk390, r512, rfl, rfl, (sc rfl (sc rfl (sc rfl (sc rfl (sc rfl (sc rfl (sc rfl (sc rfl (sc rfl (sc rfl (sc rfl (sc rfl (sc rfl (sn _))))))))))))))⟩
       obtain rfl := Lst.zero hk384 c389
       rw [oyezlaw07_BookCried_l8] at r386
       refine shW_exit (andThen_exit (andThen_exit ?_))
       refine inBlock_exit ?_
       refine inBlock_n (id := 5) ?_
       exact mi kr ⟨r386, rfl, rfl, (sc rfl (sc rfl (sc rfl (sc rfl (sc rfl (sc rfl (sc rfl (sc rfl (sc rfl (sn _))))))))))⟩
     rintro e1 _ _ ⟨r513, rfl, rfl, he514⟩
     refine shW_env _ he514 ?_; clear he514
     rw [oyezlaw07_BookCried_j7] at r513
     refine shW_region ?_
     refine ov (v_add rfl rfl (Lst.r64 hk327 c332 (RowR.lt h130))) rfl ?_
     refine om rfl rfl (shO_nil ?_)
     subst hn328; exact le kr ⟨_, _, rfl, hk333, r513, rfl, rfl, (sc rfl (sc rfl (sc rfl (sc rfl (sc rfl (sc rfl (sc rfl (sc rfl (sc rfl (sn _))))))))))⟩
   obtain rfl := Lst.zero hk327 c332
   rw [oyezlaw07_BookCried_l6] at r329
   refine shW_exit (andThen_exit (andThen_exit ?_))
   refine inBlock_exit ?_
   exact mi kn ⟨r329, rfl, rfl, (sn _)⟩
 rintro e1 _ _ ⟨r515, rfl, rfl, he516⟩
 refine shW_env _ he516 ?_; clear he516
 rw [oyezlaw07_BookCried_j5] at r515
 refine wsr ?_
 obtain ⟨ok, h517, r518⟩ := b1_ok r515; clear r515
 refine o_callV rfl Try.call16 rfl rfl rfl (oyezlaw07_awake_w h517) ?_
 refine oa rfl rfl (shO_nil (shW_ret ?_))
 refine q_res1 Try.results3 (res_tmp rfl) (sr) ?_
 obtain rfl := inj1 r518
 exact rfl
end Go.Proofs.Ytodhcoakjlmcdaa
