/- The walks that this claim needs, printed by a program of mine; part 3. -/
import Derived.Test.YtodhcoakjlmcdaaZFNF2
namespace Go.Proofs.Ytodhcoakjlmcdaa
open Go.SH Go.PL
set_option maxHeartbeats 1000000 in
theorem oyezlaw07_awake_w {F : FS} {r : Bool} (hr : oyezlaw07_awake = some r) :
    SpecV Try.prog 16 #[] F (.bool r) := by
 refine spec_of_shW (args := []) Try.func16 rfl Try.ntmps16 (Nat.le_of_ble_eq_true rfl) ?_
 intro K _ _; rw [oyezlaw07_awake] at hr
 refine wsr (oa rfl rfl (nsr ?_))
 obtain ⟨n, n2, l, l2, l3, h1, r2⟩ := b5_ok hr; clear hr
 refine o_call0 rfl Try.call45 rfl rfl rfl (oyezlaw07_Bell_w h1) ?_; rintro _ F3 _ hF4 hn5 ⟨a7, n11, c8, Lb9, a13, n17, c14, Lb15, a19, n23, c20, Lb21, rfl, rfl, hz10, hz16, hz22⟩
 replace hz10 := hz10.new fun p hp => hn5 p (by simp [hp])
 replace hz16 := hz16.new fun p hp => hn5 p (by simp [hp])
 replace hz22 := hz22.new fun p hp => hn5 p (by simp [hp])
 refine shO_L (lp (lp (lp (ln rfl)))) ?_
 obtain ⟨n3, n4, h25, r26⟩ := b2_ok r2; clear r2
 refine o_callT (Lt := Lb9 ++ (Lb15 ++ (Lb21 ++ []))) (Lr := []) rfl Try.call14 rfl rfl rfl (pT pR (lp (lp (lp (ln rfl))))) (fun F2 h2 h3 => by rw [(SlR.caps hz10).1]; rw [(SlR.caps hz16).1]; rw [(SlR.caps hz22).1]; exact book_Count_w (hz10.row (slE_ok (slE_ok (iE_ok _))) h2 (fun p hp => h3 p (List.mem_append_left _ hp))) (hz16.row (iE_ok _) h2 (fun p hp => h3 p (List.mem_append_right _ (List.mem_append_left _ hp)))) (hz22.row (prE_ok (iE_ok _) (prE_ok (iE_ok _) (iE_ok _))) h2 (fun p hp => h3 p (List.mem_append_right _ (List.mem_append_right _ (List.mem_append_left _ hp))))) h25) ?_
 refine om rfl rfl (ox rfl rfl rfl (ox rfl rfl rfl (oa rfl rfl (oa rfl rfl (nsr ?_)))))
 obtain ⟨n5, n6, l4, l5, l6, h27, r28⟩ := b5_ok r26; clear r26
 refine o_call0 rfl Try.call45 rfl rfl rfl (oyezlaw07_Bell_w h27) ?_; rintro _ F29 _ hF30 hn31 ⟨a33, n37, c34, Lb35, a39, n43, c40, Lb41, a45, n49, c46, Lb47, rfl, rfl, hz36, hz42, hz48⟩
 replace hz36 := hz36.new fun p hp => hn31 p (by simp [hp])
 replace hz42 := hz42.new fun p hp => hn31 p (by simp [hp])
 replace hz48 := hz48.new fun p hp => hn31 p (by simp [hp])
 refine shO_L (lp (lp (lp (ln rfl)))) ?_
 obtain ⟨l7, n7, h51, r52⟩ := b2_ok r28; clear r28
 refine o_callTO (Lb := []) (Lt := Lb35 ++ (Lb41 ++ (Lb47 ++ []))) (Lr := Lb9 ++ (Lb15 ++ (Lb21 ++ []))) rfl Try.call17 rfl rfl rfl (pT pR (ln (lp (lp (lp (ln rfl)))))) (fun F2 h2 h3 => by rw [(SlR.caps hz36).1]; rw [(SlR.caps hz42).1]; rw [(SlR.caps hz48).1]; exact book_First_w (hz36.row (slE_ok (slE_ok (iE_ok _))) h2 (fun p hp => h3 p (List.mem_append_left _ hp))) (hz42.row (iE_ok _) h2 (fun p hp => h3 p (List.mem_append_right _ (List.mem_append_left _ hp)))) (hz48.row (prE_ok (iE_ok _) (prE_ok (iE_ok _) (iE_ok _))) h2 (fun p hp => h3 p (List.mem_append_right _ (List.mem_append_right _ (List.mem_append_left _ hp))))) h51) (fun _ _ _ _ hq => by obtain ⟨a57, n61, c58, Lb59, rfl, rfl, hz60⟩ := hq; exact ⟨_, _, _, _, rfl, rfl, hz60.flat (fun _ _ h => h)⟩) ?_; rintro _ F53 _ hF54 hd56 hn55 ⟨a57, n61, c58, Lb59, rfl, rfl, hz60⟩
 have hn63 := newp (Lb' := []) (by rfl) hd56 hn55
 replace hz60 := hz60.new fun p hp => hn63 p (by simp [hp])
 refine shO_L (lp (ln (lp (lp (lp (ln rfl)))))) ?_
 refine om rfl rfl (ox rfl rfl rfl (ox rfl rfl rfl (oa rfl rfl (oa rfl rfl (nsr ?_)))))
 obtain ⟨n8, n9, l8, l9, l10, h64, r65⟩ := b5_ok r52; clear r52
 refine o_call0 rfl Try.call45 rfl rfl rfl (oyezlaw07_Bell_w h64) ?_; rintro _ F66 _ hF67 hn68 ⟨a70, n74, c71, Lb72, a76, n80, c77, Lb78, a82, n86, c83, Lb84, rfl, rfl, hz73, hz79, hz85⟩
 replace hz60 := hz60.mono (iE_ok _) hF67
 replace hz73 := hz73.new fun p hp => hn68 p (by simp [hp])
 replace hz79 := hz79.new fun p hp => hn68 p (by simp [hp])
 replace hz85 := hz85.new fun p hp => hn68 p (by simp [hp])
 refine shO_L (lp (lp (lp (ln rfl)))) ?_
 obtain rfl := (SlR.caps hz73).1
 refine shO_freezeR (Nat.le_refl _) (slE_ok (slE_ok (iE_ok _))) fP hz73 ?_; intro F88 hF89 h90
 replace hz60 := hz60.mono (iE_ok _) hF89
 replace hz79 := hz79.mono (iE_ok _) hF89
 replace hz85 := hz85.mono (prE_ok (iE_ok _) (prE_ok (iE_ok _) (iE_ok _))) hF89
 obtain rfl := (SlR.caps hz79).1
 refine shO_freezeR (Nat.le_refl _) (iE_ok _) fP hz79 ?_; intro F91 hF92 h93
 replace h90 := h90.mono (slE_ok (slE_ok (iE_ok _))) hF92
 replace hz60 := hz60.mono (iE_ok _) hF92
 replace hz85 := hz85.mono (prE_ok (iE_ok _) (prE_ok (iE_ok _) (iE_ok _))) hF92
 obtain rfl := (SlR.caps hz85).1
 refine shO_freezeR (Nat.le_refl _) (prE_ok (iE_ok _) (prE_ok (iE_ok _) (iE_ok _))) fP hz85 ?_; intro F94 hF95 h96
 replace h90 := h90.mono (slE_ok (slE_ok (iE_ok _))) hF95
 replace h93 := h93.mono (iE_ok _) hF95
 replace hz60 := hz60.mono (iE_ok _) hF95
 obtain ⟨l11, n10, h97, r98⟩ := b2_ok r65; clear r65
 refine o_call0 rfl Try.call13 rfl rfl rfl (book_Verdicts_w h90 h93 h96 h97) ?_; rintro _ F99 _ hF100 hn101 ⟨a103, c104, rfl, rfl, h105⟩
 replace hz60 := hz60.mono (iE_ok _) hF100
 refine shO_L (ln rfl) ?_
 refine om rfl rfl (ox rfl rfl rfl (ox rfl rfl rfl (oa rfl rfl (oa rfl rfl (nsr ?_)))))
 obtain ⟨n11, n12, l12, l13, l14, h106, r107⟩ := b5_ok r98; clear r98
 refine o_call0 rfl Try.call45 rfl rfl rfl (oyezlaw07_Bell_w h106) ?_; rintro _ F108 _ hF109 hn110 ⟨a112, n116, c113, Lb114, a118, n122, c119, Lb120, a124, n128, c125, Lb126, rfl, rfl, hz115, hz121, hz127⟩
 replace h105 := h105.mono (slE_ok (iE_ok _)) hF109
 replace hz60 := hz60.mono (iE_ok _) hF109
 replace hz115 := hz115.new fun p hp => hn110 p (by simp [hp])
 replace hz121 := hz121.new fun p hp => hn110 p (by simp [hp])
 replace hz127 := hz127.new fun p hp => hn110 p (by simp [hp])
 refine shO_L (lp (lp (lp (ln rfl)))) ?_
 obtain rfl := (SlR.caps hz115).1
 refine shO_freezeR (Nat.le_refl _) (slE_ok (slE_ok (iE_ok _))) fP hz115 ?_; intro F130 hF131 h132
 replace h105 := h105.mono (slE_ok (iE_ok _)) hF131
 replace hz60 := hz60.mono (iE_ok _) hF131
 replace hz121 := hz121.mono (iE_ok _) hF131
 replace hz127 := hz127.mono (prE_ok (iE_ok _) (prE_ok (iE_ok _) (iE_ok _))) hF131
 obtain rfl := (SlR.caps hz121).1
 refine shO_freezeR (Nat.le_refl _) (iE_ok _) fP hz121 ?_; intro F133 hF134 h135
 replace h105 := h105.mono (slE_ok (iE_ok _)) hF134
 replace h132 := h132.mono (slE_ok (slE_ok (iE_ok _))) hF134
 replace hz60 := hz60.mono (iE_ok _) hF134
 replace hz127 := hz127.mono (prE_ok (iE_ok _) (prE_ok (iE_ok _) (iE_ok _))) hF134
 obtain rfl := (SlR.caps hz127).1
 refine shO_freezeR (Nat.le_refl _) (prE_ok (iE_ok _) (prE_ok (iE_ok _) (iE_ok _))) fP hz127 ?_; intro F136 hF137 h138
 replace h105 := h105.mono (slE_ok (iE_ok _)) hF137
 replace h132 := h132.mono (slE_ok (slE_ok (iE_ok _))) hF137
 replace h135 := h135.mono (iE_ok _) hF137
 replace hz60 := hz60.mono (iE_ok _) hF137
 obtain ⟨l15, n13, h139, r140⟩ := b2_ok r107; clear r107
 refine o_call0 rfl Try.call15 rfl rfl rfl (book_Winds_w h132 h135 h138 h139) ?_; rintro _ F141 _ hF142 hn143 ⟨a145, n149, c146, Lb147, rfl, rfl, hz148⟩
 replace h105 := h105.mono (slE_ok (iE_ok _)) hF142
 replace hz60 := hz60.mono (iE_ok _) hF142
 replace hz148 := hz148.new fun p hp => hn143 p (by simp [hp])
 refine shO_L (lp (ln rfl)) ?_
 refine om rfl rfl (ox rfl rfl rfl (ox rfl rfl rfl (oa rfl rfl (oa rfl rfl (shO_nil (shW_seq ?_))))))
 obtain ⟨k, h151, r152⟩ := b1_ok r140; clear r140
 refine shW_join (fun e1 F1 L1 => FExt F141 F1 ∧ L1 = [] ∧ e1.sub [(73, .bool k)]) ?_ ?_
 · clear r152
   refine shW_region (om rfl rfl ?_)
   refine ov (v_neq rfl rfl) rfl ?_
   refine om rfl rfl ?_
   by_cases c153 : n4 ≠ 0
   · have r154 := ite_t h151 c153; clear h151
     refine shO_off (b' := true) 35 rfl (Env.isT rfl c153) rfl rfl (shO_off (b' := true) 35 rfl (Env.isT rfl c153) rfl rfl ?_)
     refine ov (v_pick_t (evD_true rfl c153) rfl) rfl ?_
     refine om rfl rfl (shO_off (b' := true) 39 rfl rfl rfl rfl (shO_off (b' := true) 39 rfl rfl rfl rfl ?_))
     refine ov (v_pick_t rfl rfl) rfl ?_
     refine om rfl rfl (shO_off (b' := true) 43 rfl rfl rfl rfl (shO_off (b' := true) 43 rfl rfl rfl rfl ?_))
     refine ov (v_pick_t rfl rfl) rfl ?_
     refine om rfl rfl (shO_off (b' := true) 47 rfl rfl rfl rfl (shO_off (b' := true) 47 rfl rfl rfl rfl ?_))
     refine ov (v_pick_t rfl rfl) rfl ?_
     refine om rfl rfl (shO_off (b' := true) 51 rfl rfl rfl rfl (shO_off (b' := true) 51 rfl rfl rfl rfl (shO_off (b' := true) 51 rfl rfl rfl rfl (shO_off (b' := true) 51 rfl rfl rfl rfl ?_))))
     refine ov (v_pick_t rfl rfl) rfl ?_
     refine om rfl rfl (shO_off (b' := true) 57 rfl rfl rfl rfl (shO_off (b' := true) 57 rfl rfl rfl rfl (shO_off (b' := true) 57 rfl rfl rfl rfl (shO_off (b' := true) 57 rfl rfl rfl rfl (shO_off (b' := true) 57 rfl rfl rfl rfl (shO_off (b' := true) 57 rfl rfl rfl rfl ?_))))))
     refine ov (v_pick_t rfl rfl) rfl ?_
     refine om rfl rfl (shO_off (b' := true) 65 rfl rfl rfl rfl (shO_off (b' := true) 65 rfl rfl rfl rfl (shO_off (b' := true) 65 rfl rfl rfl rfl (shO_off (b' := true) 65 rfl rfl rfl rfl (shO_off (b' := true) 65 rfl rfl rfl rfl (shO_off (b' := true) 65 rfl rfl rfl rfl (shO_off (b' := true) 65 rfl rfl rfl rfl ?_)))))))
     refine ov (v_pick_t rfl rfl) rfl ?_
     refine shO_nil ?_
     obtain rfl := inj1 r154
     exact mi kn ⟨FExt.refl _, rfl, (sc rfl (sn _))⟩
   have r155 := ite_f h151 c153; clear h151
   refine shO_on (b := false) 35 rfl (Env.isF rfl c153) (om rfl rfl (shO_on (b := false) 35 rfl (Env.isF rfl c153) ?_))
   refine ov (v_neq rfl rfl) rfl ?_
   refine ov (v_pick_f (evD_false rfl c153) rfl) rfl ?_
   refine om rfl rfl ?_
   by_cases c156 : n7 ≠ 0
   · have r157 := ite_t r155 c156; clear r155
     refine shO_off (b' := true) 39 rfl (Env.isT rfl c156) rfl rfl (shO_off (b' := true) 39 rfl (Env.isT rfl c156) rfl rfl ?_)
     refine ov (v_pick_t (evD_true rfl c156) rfl) rfl ?_
     refine om rfl rfl (shO_off (b' := true) 43 rfl rfl rfl rfl (shO_off (b' := true) 43 rfl rfl rfl rfl ?_))
     refine ov (v_pick_t rfl rfl) rfl ?_
     refine om rfl rfl (shO_off (b' := true) 47 rfl rfl rfl rfl (shO_off (b' := true) 47 rfl rfl rfl rfl ?_))
     refine ov (v_pick_t rfl rfl) rfl ?_
     refine om rfl rfl (shO_off (b' := true) 51 rfl rfl rfl rfl (shO_off (b' := true) 51 rfl rfl rfl rfl (shO_off (b' := true) 51 rfl rfl rfl rfl (shO_off (b' := true) 51 rfl rfl rfl rfl ?_))))
     refine ov (v_pick_t rfl rfl) rfl ?_
     refine om rfl rfl (shO_off (b' := true) 57 rfl rfl rfl rfl (shO_off (b' := true) 57 rfl rfl rfl rfl (shO_off (b' := true) 57 rfl rfl rfl rfl (shO_off (b' := true) 57 rfl rfl rfl rfl (shO_off (b' := true) 57 rfl rfl rfl rfl (shO_off (b' := true) 57 rfl rfl rfl rfl ?_))))))
     refine ov (v_pick_t rfl rfl) rfl ?_
     refine om rfl rfl (shO_off (b' := true) 65 rfl rfl rfl rfl (shO_off (b' := true) 65 rfl rfl rfl rfl (shO_off (b' := true) 65 rfl rfl rfl rfl (shO_off (b' := true) 65 rfl rfl rfl rfl (shO_off (b' := true) 65 rfl rfl rfl rfl (shO_off (b' := true) 65 rfl rfl rfl rfl (shO_off (b' := true) 65 rfl rfl rfl rfl ?_)))))))
     refine ov (v_pick_t rfl rfl) rfl ?_
     refine shO_nil ?_
     obtain rfl := inj1 r157
     exact mi kn ⟨FExt.refl _, rfl, (sc rfl (sn _))⟩
   have r158 := ite_f r155 c156; clear r155
   refine shO_on (b := false) 39 rfl (Env.isF rfl c156) (om rfl rfl (shO_on (b := false) 39 rfl (Env.isF rfl c156) ?_))
   refine ov (v_neq rfl rfl) rfl ?_
   refine ov (v_pick_f (evD_false rfl c156) rfl) rfl ?_
   refine om rfl rfl ?_
   by_cases c159 : n10 ≠ 0
   · have r160 := ite_t r158 c159; clear r158
     refine shO_off (b' := true) 43 rfl (Env.isT rfl c159) rfl rfl (shO_off (b' := true) 43 rfl (Env.isT rfl c159) rfl rfl ?_)
     refine ov (v_pick_t (evD_true rfl c159) rfl) rfl ?_
     refine om rfl rfl (shO_off (b' := true) 47 rfl rfl rfl rfl (shO_off (b' := true) 47 rfl rfl rfl rfl ?_))
     refine ov (v_pick_t rfl rfl) rfl ?_
     refine om rfl rfl (shO_off (b' := true) 51 rfl rfl rfl rfl (shO_off (b' := true) 51 rfl rfl rfl rfl (shO_off (b' := true) 51 rfl rfl rfl rfl (shO_off (b' := true) 51 rfl rfl rfl rfl ?_))))
     refine ov (v_pick_t rfl rfl) rfl ?_
     refine om rfl rfl (shO_off (b' := true) 57 rfl rfl rfl rfl (shO_off (b' := true) 57 rfl rfl rfl rfl (shO_off (b' := true) 57 rfl rfl rfl rfl (shO_off (b' := true) 57 rfl rfl rfl rfl (shO_off (b' := true) 57 rfl rfl rfl rfl (shO_off (b' := true) 57 rfl rfl rfl rfl ?_))))))
     refine ov (v_pick_t rfl rfl) rfl ?_
     refine om rfl rfl (shO_off (b' := true) 65 rfl rfl rfl rfl (shO_off (b' := true) 65 rfl rfl rfl rfl (shO_off (b' := true) 65 rfl rfl rfl rfl (shO_off (b' := true) 65 rfl rfl rfl rfl (shO_off (b' := true) 65 rfl rfl rfl rfl (shO_off (b' := true) 65 rfl rfl rfl rfl (shO_off (b' := true) 65 rfl rfl rfl rfl ?_)))))))
     refine ov (v_pick_t rfl rfl) rfl ?_
     refine shO_nil ?_
     obtain rfl := inj1 r160
     exact mi kn ⟨FExt.refl _, rfl, (sc rfl (sn _))⟩
   have r161 := ite_f r158 c159; clear r158
   refine shO_on (b := false) 43 rfl (Env.isF rfl c159) (om rfl rfl (shO_on (b := false) 43 rfl (Env.isF rfl c159) ?_))
   refine ov (v_neq rfl rfl) rfl ?_
   refine ov (v_pick_f (evD_false rfl c159) rfl) rfl ?_
   refine om rfl rfl ?_
   by_cases c162 : n13 ≠ 0
   · have r163 := ite_t r161 c162; clear r161
     refine shO_off (b' := true) 47 rfl (Env.isT rfl c162) rfl rfl (shO_off (b' := true) 47 rfl (Env.isT rfl c162) rfl rfl ?_)
     refine ov (v_pick_t (evD_true rfl c162) rfl) rfl ?_
     refine om rfl rfl (shO_off (b' := true) 51 rfl rfl rfl rfl (shO_off (b' := true) 51 rfl rfl rfl rfl (shO_off (b' := true) 51 rfl rfl rfl rfl (shO_off (b' := true) 51 rfl rfl rfl rfl ?_))))
     refine ov (v_pick_t rfl rfl) rfl ?_
     refine om rfl rfl (shO_off (b' := true) 57 rfl rfl rfl rfl (shO_off (b' := true) 57 rfl rfl rfl rfl (shO_off (b' := true) 57 rfl rfl rfl rfl (shO_off (b' := true) 57 rfl rfl rfl rfl (shO_off (b' := true) 57 rfl rfl rfl rfl (shO_off (b' := true) 57 rfl rfl rfl rfl ?_))))))
     refine ov (v_pick_t rfl rfl) rfl ?_
     refine om rfl rfl (shO_off (b' := true) 65 rfl rfl rfl rfl (shO_off (b' := true) 65 rfl rfl rfl rfl (shO_off (b' := true) 65 rfl rfl rfl rfl (shO_off (b' := true) 65 rfl rfl rfl rfl (shO_off (b' := true) 65 rfl rfl rfl rfl (shO_off (b' := true) 65 rfl rfl rfl rfl (shO_off (b' := true) 65 rfl rfl rfl rfl ?_)))))))
     refine ov (v_pick_t rfl rfl) rfl ?_
     refine shO_nil ?_
     obtain rfl := inj1 r163
     exact mi kn ⟨FExt.refl _, rfl, (sc rfl (sn _))⟩
   have r164 := ite_f r161 c162; clear r161
   refine shO_on (b := false) 47 rfl (Env.isF rfl c162) (om rfl rfl (shO_on (b := false) 47 rfl (Env.isF rfl c162) ?_))
   refine ov (v_neq rfl rfl) rfl ?_
   refine ov (v_pick_f (evD_false rfl c162) rfl) rfl ?_
   refine om rfl rfl ?_
   by_cases c165 : n3 ≠ 4
   · have r166 := ite_t r164 c165; clear r164
     refine shO_off (b' := true) 51 rfl (Env.isT rfl c165) rfl rfl (shO_off (b' := true) 51 rfl (Env.isT rfl c165) rfl rfl (shO_off (b' := true) 51 rfl (Env.isT rfl c165) rfl rfl (shO_off (b' := true) 51 rfl (Env.isT rfl c165) rfl rfl ?_)))
     refine ov (v_pick_t (evD_true rfl c165) rfl) rfl ?_
     refine om rfl rfl (shO_off (b' := true) 57 rfl rfl rfl rfl (shO_off (b' := true) 57 rfl rfl rfl rfl (shO_off (b' := true) 57 rfl rfl rfl rfl (shO_off (b' := true) 57 rfl rfl rfl rfl (shO_off (b' := true) 57 rfl rfl rfl rfl (shO_off (b' := true) 57 rfl rfl rfl rfl ?_))))))
     refine ov (v_pick_t rfl rfl) rfl ?_
     refine om rfl rfl (shO_off (b' := true) 65 rfl rfl rfl rfl (shO_off (b' := true) 65 rfl rfl rfl rfl (shO_off (b' := true) 65 rfl rfl rfl rfl (shO_off (b' := true) 65 rfl rfl rfl rfl (shO_off (b' := true) 65 rfl rfl rfl rfl (shO_off (b' := true) 65 rfl rfl rfl rfl (shO_off (b' := true) 65 rfl rfl rfl rfl ?_)))))))
     refine ov (v_pick_t rfl rfl) rfl ?_
     refine shO_nil ?_
     obtain rfl := inj1 r166
     exact mi kn ⟨FExt.refl _, rfl, (sc rfl (sn _))⟩
   have r167 := ite_f r164 c165; clear r164
   refine shO_on (b := false) 51 rfl (Env.isF rfl c165) (om rfl rfl (shO_on (b := false) 51 rfl (Env.isF rfl c165) ?_))
   refine o_buildSlice (cs := #[.int .i64 1, .int .i64 2, .int .i64 3]) rfl rfl (buildSlice_all slt_24 [.int .i64 1, .int .i64 2, .int .i64 3] rfl (by decide) (by simp [Value.cells]) (by decide)) ?_; intro b168 hb168
   refine shO_on (b := false) 51 rfl (Env.isF rfl c165) ?_
   refine shO_freeze 0 rfl hb168 ?_; intro F169 hF170 hz171
   refine shO_L (L' := Lb147 ++ (Lb59 ++ (Lb35 ++ (Lb41 ++ (Lb47 ++ (Lb9 ++ (Lb15 ++ (Lb21 ++ [])))))))) rfl ?_
   replace h105 := h105.mono (slE_ok (iE_ok _)) hF170
   replace hz60 := hz60.mono (iE_ok _) hF170
   replace hz148 := hz148.mono (slE_ok (iE_ok _)) hF170
   have h172 : RowR 1 (iE .i64) F169 (some ⟨b168, 0, none⟩) 3 [1, 2, 3] := RowR.of_block (iE_ok _) (vss := [[.int .i64 1], [.int .i64 2], [.int .i64 3]]) (xs := [1, 2, 3]) hz171 (.cons rfl (.cons rfl (.cons rfl .nil))) rfl (by simp [maxLen])
   obtain ⟨ok, h173, r174⟩ := b1_ok r167; clear r167
   refine o_callT (Lt := Lb59 ++ []) (Lr := Lb147 ++ (Lb35 ++ (Lb41 ++ (Lb47 ++ (Lb9 ++ (Lb15 ++ (Lb21 ++ []))))))) rfl Try.call46 rfl rfl rfl (pT ((fS fP).trans (pA pR)) (lp (ln rfl))) (fun F2 h2 h3 => by rw [(SlR.caps hz60).1]; exact oyezkit_Like_int_w (hz60.row (iE_ok _) h2 (fun p hp => h3 p (List.mem_append_left _ hp))) (h172.mono (iE_ok _) h2) h173) ?_
   refine shO_on (b := false) 51 rfl (Env.isF rfl c165) ?_
   refine ov (v_notB rfl) rfl ?_
   refine ov (v_pick_f (evD_false rfl c165) rfl) rfl ?_
   refine om rfl rfl ?_
   rcases bool_two (!ok) with c175 | c175
   · have r176 := bt r174 c175; clear r174
     refine shO_off (b' := true) 57 rfl (EnvB rfl c175) rfl rfl (shO_off (b' := true) 57 rfl (EnvB rfl c175) rfl rfl (shO_off (b' := true) 57 rfl (EnvB rfl c175) rfl rfl (shO_off (b' := true) 57 rfl (EnvB rfl c175) rfl rfl (shO_off (b' := true) 57 rfl (EnvB rfl c175) rfl rfl (shO_off (b' := true) 57 rfl (EnvB rfl c175) rfl rfl ?_)))))
     refine ov (v_pick_t (evB rfl c175) rfl) rfl ?_
     refine om rfl rfl (shO_off (b' := true) 65 rfl rfl rfl rfl (shO_off (b' := true) 65 rfl rfl rfl rfl (shO_off (b' := true) 65 rfl rfl rfl rfl (shO_off (b' := true) 65 rfl rfl rfl rfl (shO_off (b' := true) 65 rfl rfl rfl rfl (shO_off (b' := true) 65 rfl rfl rfl rfl (shO_off (b' := true) 65 rfl rfl rfl rfl ?_)))))))
     refine ov (v_pick_t rfl rfl) rfl ?_
     refine shO_nil ?_
     obtain rfl := inj1 r176
     exact mi kn ⟨hF170, rfl, (sc rfl (sn _))⟩
   have r177 := bf r174 c175; clear r174
   refine shO_on (b := false) 57 rfl (EnvB rfl c175) (om rfl rfl (shO_on (b := false) 57 rfl (EnvB rfl c175) ?_))
   refine o_buildSlice (cs := #[.int .i64 0]) rfl rfl (buildSlice_all slt_47 [.int .i64 0] rfl (by decide) (by simp [Value.cells]) (by decide)) ?_; intro b178 hb178
   refine shO_on (b := false) 57 rfl (EnvB rfl c175) ?_
   refine o_buildSlice (cs := #[.int .i64 1]) rfl rfl (buildSlice_all slt_47 [.int .i64 1] rfl (by decide) (by simp [Value.cells]) (by decide)) ?_; intro b179 hb179
   refine shO_on (b := false) 57 rfl (EnvB rfl c175) ?_
   refine o_buildSlice (cs := #[.slice (some ⟨b178, 0, none⟩) 1 1, .slice (some ⟨b179, 0, none⟩) 1 1]) rfl rfl (buildSlice_all slt_36 [.slice (some ⟨b178, 0, none⟩) 1 1, .slice (some ⟨b179, 0, none⟩) 1 1] rfl (by decide) (by simp [Value.cells]) (by decide)) ?_; intro b180 hb180
   refine shO_on (b := false) 57 rfl (EnvB rfl c175) ?_
   refine shO_freeze 2 rfl hb178 ?_; intro F181 hF182 hz183
   refine shO_L (L' := (b180, .cells #[.slice (some ⟨b178, 0, none⟩) 1 1, .slice (some ⟨b179, 0, none⟩) 1 1] 47 (0, 0)) :: ((b179, .cells #[.int .i64 1] 48 (0, 0)) :: (Lb147 ++ (Lb59 ++ (Lb35 ++ (Lb41 ++ (Lb47 ++ (Lb9 ++ (Lb15 ++ (Lb21 ++ [])))))))))) rfl ?_
   replace h105 := h105.mono (slE_ok (iE_ok _)) hF182
   replace hz148 := hz148.mono (slE_ok (iE_ok _)) hF182
   have h184 : RowR 1 (iE .i64) F181 (some ⟨b178, 0, none⟩) 1 [0] := RowR.of_block (iE_ok _) (vss := [[.int .i64 0]]) (xs := [0]) hz183 (.cons rfl .nil) rfl (by simp [maxLen])
   refine shO_freeze 1 rfl hb179 ?_; intro F185 hF186 hz187
   refine shO_L (L' := (b180, .cells (#[.slice (some ⟨b178, 0, none⟩) [0].length 1, .slice (some ⟨b179, 0, none⟩) 1 1]) 47 (0, 0)) :: (Lb147 ++ (Lb59 ++ (Lb35 ++ (Lb41 ++ (Lb47 ++ (Lb9 ++ (Lb15 ++ (Lb21 ++ []))))))))) rfl ?_
   replace h105 := h105.mono (slE_ok (iE_ok _)) hF186
   replace h184 := h184.mono (iE_ok _) hF186
   replace hz148 := hz148.mono (slE_ok (iE_ok _)) hF186
   have h188 : RowR 1 (iE .i64) F185 (some ⟨b179, 0, none⟩) 1 [1] := RowR.of_block (iE_ok _) (vss := [[.int .i64 1]]) (xs := [1]) hz187 (.cons rfl .nil) rfl (by simp [maxLen])
   refine shO_freeze 0 rfl hb180 ?_; intro F189 hF190 hz191
   refine shO_L (L' := Lb147 ++ (Lb59 ++ (Lb35 ++ (Lb41 ++ (Lb47 ++ (Lb9 ++ (Lb15 ++ (Lb21 ++ [])))))))) rfl ?_
   replace h105 := h105.mono (slE_ok (iE_ok _)) hF190
   replace h184 := h184.mono (iE_ok _) hF190
   replace h188 := h188.mono (iE_ok _) hF190
   replace hz148 := hz148.mono (slE_ok (iE_ok _)) hF190
   have h192 : RowR 1 (slE 1 (iE .i64)) F189 (some ⟨b180, 0, none⟩) 2 [[0], [1]] := RowR.of_block (slE_ok (iE_ok _)) (vss := [[.slice (some ⟨b178, 0, none⟩) [0].length 1], [.slice (some ⟨b179, 0, none⟩) [1].length 1]]) (xs := [[0], [1]]) hz191 (.cons ⟨_, _, rfl, h184⟩ (.cons ⟨_, _, rfl, h188⟩ .nil)) rfl (by simp [maxLen])
   obtain ⟨ok2, h193, r194⟩ := b1_ok r177; clear r177
   refine o_callV rfl Try.call33 rfl rfl rfl (oyezkit_LikeRows_Verdict_w h105 h192 h193) ?_
   refine shO_on (b := false) 57 rfl (EnvB rfl c175) ?_
   refine ov (v_notB rfl) rfl ?_
   refine ov (v_pick_f (evB rfl c175) rfl) rfl ?_
   refine om rfl rfl ?_
   rcases bool_two (!ok2) with c195 | c195
   · have r196 := bt r194 c195; clear r194
     refine shO_off (b' := true) 65 rfl (EnvB rfl c195) rfl rfl (shO_off (b' := true) 65 rfl (EnvB rfl c195) rfl rfl (shO_off (b' := true) 65 rfl (EnvB rfl c195) rfl rfl (shO_off (b' := true) 65 rfl (EnvB rfl c195) rfl rfl (shO_off (b' := true) 65 rfl (EnvB rfl c195) rfl rfl (shO_off (b' := true) 65 rfl (EnvB rfl c195) rfl rfl (shO_off (b' := true) 65 rfl (EnvB rfl c195) rfl rfl ?_))))))
     refine ov (v_pick_t (evB rfl c195) rfl) rfl ?_
     refine shO_nil ?_
     obtain rfl := inj1 r196
     exact mi kn ⟨(((hF170.trans hF182).trans hF186).trans hF190), rfl, (sc rfl (sn _))⟩
   have r197 := bf r194 c195; clear r194
   refine shO_on (b := false) 65 rfl (EnvB rfl c195) (om rfl rfl (shO_on (b := false) 65 rfl (EnvB rfl c195) ?_))
   refine o_buildSlice (cs := #[.int .i64 1, .int .i64 2]) rfl rfl (buildSlice_all slt_24 [.int .i64 1, .int .i64 2] rfl (by decide) (by simp [Value.cells]) (by decide)) ?_; intro b198 hb198
   refine shO_on (b := false) 65 rfl (EnvB rfl c195) ?_
   refine o_buildSlice (cs := #[.int .i64 2, .int .i64 3]) rfl rfl (buildSlice_all slt_24 [.int .i64 2, .int .i64 3] rfl (by decide) (by simp [Value.cells]) (by decide)) ?_; intro b199 hb199
   refine shO_on (b := false) 65 rfl (EnvB rfl c195) ?_
   refine o_buildSlice (cs := #[.int .i64 3, .int .i64 4]) rfl rfl (buildSlice_all slt_24 [.int .i64 3, .int .i64 4] rfl (by decide) (by simp [Value.cells]) (by decide)) ?_; intro b200 hb200
   refine shO_on (b := false) 65 rfl (EnvB rfl c195) ?_
   refine o_buildSlice (cs := #[.slice (some ⟨b198, 0, none⟩) 2 2, .slice (some ⟨b199, 0, none⟩) 2 2, .slice (some ⟨b200, 0, none⟩) 2 2]) rfl rfl (buildSlice_all slt_42 [.slice (some ⟨b198, 0, none⟩) 2 2, .slice (some ⟨b199, 0, none⟩) 2 2, .slice (some ⟨b200, 0, none⟩) 2 2] rfl (by decide) (by simp [Value.cells]) (by decide)) ?_; intro b201 hb201
   refine shO_on (b := false) 65 rfl (EnvB rfl c195) ?_
   refine shO_freeze 3 rfl hb198 ?_; intro F202 hF203 hz204
   refine shO_L (L' := (b201, .cells #[.slice (some ⟨b198, 0, none⟩) 2 2, .slice (some ⟨b199, 0, none⟩) 2 2, .slice (some ⟨b200, 0, none⟩) 2 2] 24 (0, 0)) :: ((b200, .cells #[.int .i64 3, .int .i64 4] 3 (0, 0)) :: ((b199, .cells #[.int .i64 2, .int .i64 3] 3 (0, 0)) :: (Lb147 ++ (Lb59 ++ (Lb35 ++ (Lb41 ++ (Lb47 ++ (Lb9 ++ (Lb15 ++ (Lb21 ++ []))))))))))) rfl ?_
   replace hz148 := hz148.mono (slE_ok (iE_ok _)) hF203
   have h205 : RowR 1 (iE .i64) F202 (some ⟨b198, 0, none⟩) 2 [1, 2] := RowR.of_block (iE_ok _) (vss := [[.int .i64 1], [.int .i64 2]]) (xs := [1, 2]) hz204 (.cons rfl (.cons rfl .nil)) rfl (by simp [maxLen])
   refine shO_freeze 2 rfl hb199 ?_; intro F206 hF207 hz208
   refine shO_L (L' := (b201, .cells (#[.slice (some ⟨b198, 0, none⟩) [1, 2].length 2, .slice (some ⟨b199, 0, none⟩) 2 2, .slice (some ⟨b200, 0, none⟩) 2 2]) 24 (0, 0)) :: ((b200, .cells #[.int .i64 3, .int .i64 4] 3 (0, 0)) :: (Lb147 ++ (Lb59 ++ (Lb35 ++ (Lb41 ++ (Lb47 ++ (Lb9 ++ (Lb15 ++ (Lb21 ++ [])))))))))) rfl ?_
   replace h205 := h205.mono (iE_ok _) hF207
   replace hz148 := hz148.mono (slE_ok (iE_ok _)) hF207
   have h209 : RowR 1 (iE .i64) F206 (some ⟨b199, 0, none⟩) 2 [2, 3] := RowR.of_block (iE_ok _) (vss := [[.int .i64 2], [.int .i64 3]]) (xs := [2, 3]) hz208 (.cons rfl (.cons rfl .nil)) rfl (by simp [maxLen])
   refine shO_freeze 1 rfl hb200 ?_; intro F210 hF211 hz212
   refine shO_L (L' := (b201, .cells (#[.slice (some ⟨b198, 0, none⟩) [1, 2].length 2, .slice (some ⟨b199, 0, none⟩) [2, 3].length 2, .slice (some ⟨b200, 0, none⟩) 2 2]) 24 (0, 0)) :: (Lb147 ++ (Lb59 ++ (Lb35 ++ (Lb41 ++ (Lb47 ++ (Lb9 ++ (Lb15 ++ (Lb21 ++ []))))))))) rfl ?_
   replace h205 := h205.mono (iE_ok _) hF211
   replace h209 := h209.mono (iE_ok _) hF211
   replace hz148 := hz148.mono (slE_ok (iE_ok _)) hF211
   have h213 : RowR 1 (iE .i64) F210 (some ⟨b200, 0, none⟩) 2 [3, 4] := RowR.of_block (iE_ok _) (vss := [[.int .i64 3], [.int .i64 4]]) (xs := [3, 4]) hz212 (.cons rfl (.cons rfl .nil)) rfl (by simp [maxLen])
   refine shO_freeze 0 rfl hb201 ?_; intro F214 hF215 hz216
   refine shO_L (L' := Lb147 ++ (Lb59 ++ (Lb35 ++ (Lb41 ++ (Lb47 ++ (Lb9 ++ (Lb15 ++ (Lb21 ++ [])))))))) rfl ?_
   replace h205 := h205.mono (iE_ok _) hF215
   replace h209 := h209.mono (iE_ok _) hF215
   replace h213 := h213.mono (iE_ok _) hF215
   replace hz148 := hz148.mono (slE_ok (iE_ok _)) hF215
   have h217 : RowR 1 (slE 1 (iE .i64)) F214 (some ⟨b201, 0, none⟩) 3 [[1, 2], [2, 3], [3, 4]] := RowR.of_block (slE_ok (iE_ok _)) (vss := [[.slice (some ⟨b198, 0, none⟩) [1, 2].length 2], [.slice (some ⟨b199, 0, none⟩) [2, 3].length 2], [.slice (some ⟨b200, 0, none⟩) [3, 4].length 2]]) (xs := [[1, 2], [2, 3], [3, 4]]) hz216 (.cons ⟨_, _, rfl, h205⟩ (.cons ⟨_, _, rfl, h209⟩ (.cons ⟨_, _, rfl, h213⟩ .nil))) rfl (by simp [maxLen])
   obtain ⟨ok3, h218, r219⟩ := b1_ok r197; clear r197
   refine o_callT (Lt := Lb147 ++ []) (Lr := Lb59 ++ (Lb35 ++ (Lb41 ++ (Lb47 ++ (Lb9 ++ (Lb15 ++ (Lb21 ++ []))))))) rfl Try.call47 rfl rfl rfl (pT pR (lp (ln rfl))) (fun F2 h2 h3 => by rw [(SlR.caps hz148).1]; exact oyezkit_LikeRows_int_w (hz148.row (slE_ok (iE_ok _)) h2 (fun p hp => h3 p (List.mem_append_left _ hp))) (h217.mono (slE_ok (iE_ok _)) h2) h218) ?_
   refine shO_on (b := false) 65 rfl (EnvB rfl c195) ?_
   refine ov (v_notB rfl) rfl ?_
   refine ov (v_pick_f (evB rfl c195) rfl) rfl ?_
   refine shO_nil ?_
   obtain rfl := inj1 r219
   exact mi kn ⟨(((((((hF170.trans hF182).trans hF186).trans hF190).trans hF203).trans hF207).trans hF211).trans hF215), rfl, (sc rfl (sn _))⟩
 rintro e1 F221 _ ⟨hF222, rfl, he220⟩
 refine shW_env _ he220 ?_; clear he220
 refine shW_cond rfl (fun c223 => ?_) (fun c223 => ?_)
 · have r224 := bt r152 c223; clear r152
   refine wsr (oa rfl rfl (shO_nil (shW_ret (andThen_ret ?_))))
   refine q_res1 Try.results16 (res_tmp rfl) (sr) ?_
   obtain rfl := inj1 r224
   exact rfl
 have r225 := bf r152 c223; clear r152
 refine shW_skip (wsr ?_)
 refine ov (v_build (v := .agg #[.int .i64 0, .int .i64 0, .bool true]) rfl (by intro w; kernel_rfl)) rfl ?_
 refine ov (v_build (v := .agg #[.int .i64 0, .int .i64 0, .bool false]) rfl (by intro w; kernel_rfl)) rfl ?_
 refine o_buildSlice (cs := #[.int .i64 0, .int .i64 0, .bool true, .int .i64 0, .int .i64 0, .bool false]) rfl rfl (buildSlice_all slt_105 [.agg #[.int .i64 0, .int .i64 0, .bool true], .agg #[.int .i64 0, .int .i64 0, .bool false]] rfl (by decide) (by simp [Value.cells]) (by decide)) ?_; intro b226 hb226
 have hz228 : SlR K.w0.heap.size 77 3 (prE (iE .i64) (prE (iE .i64) bE)) F221 (some ⟨b226, 0, none⟩) 2 2 [(0, 0, true), (0, 0, false)] [(b226, .cells #[.int .i64 0, .int .i64 0, .bool true, .int .i64 0, .int .i64 0, .bool false] 77 (0, 0))] := SlR.of_block (vss := [[.int .i64 0, .int .i64 0, .bool true], [.int .i64 0, .int .i64 0, .bool false]]) (prE_ok (iE_ok _) (prE_ok (iE_ok _) bE_ok)) hb226 (.cons ⟨_, _, rfl, rfl, ⟨_, _, rfl, rfl, rfl⟩⟩ (.cons ⟨_, _, rfl, rfl, ⟨_, _, rfl, rfl, rfl⟩⟩ .nil)) rfl rfl (by simp [maxLen])
 generalize hLLb227 : ([(b226, .cells #[.int .i64 0, .int .i64 0, .bool true, .int .i64 0, .int .i64 0, .bool false] 77 (0, 0))] : LH) = Lb227 at hz228
 refine shO_perm (L' := Lb227 ++ []) (by rw [← hLLb227]; exact fO) ?_
 refine oa rfl rfl (nsr ?_)
 obtain ⟨n14, n15, l16, l17, l18, h230, r231⟩ := b5_ok r225; clear r225
 refine o_call0 rfl Try.call45 rfl rfl rfl (oyezlaw07_Bell_w h230) ?_; rintro _ F232 _ hF233 hn234 ⟨a236, n240, c237, Lb238, a242, n246, c243, Lb244, a248, n252, c249, Lb250, rfl, rfl, hz239, hz245, hz251⟩
 replace hz228 := hz228.mono (prE_ok (iE_ok _) (prE_ok (iE_ok _) bE_ok)) hF233
 replace hz239 := hz239.new fun p hp => hn234 p (by simp [hp])
 replace hz245 := hz245.new fun p hp => hn234 p (by simp [hp])
 replace hz251 := hz251.new fun p hp => hn234 p (by simp [hp])
 refine shO_L (lp (lp (lp (ln rfl)))) ?_
 refine om rfl rfl ?_
 obtain ⟨l19, n16, h254, r255⟩ := b2_ok r231; clear r231
 refine o_callTO (Lb := []) (Lt := Lb238 ++ (Lb244 ++ (Lb250 ++ (Lb227 ++ [])))) (Lr := []) rfl Try.call48 rfl rfl rfl (pT pR (ln (lp (lp (lp (lp (ln rfl))))))) (fun F2 h2 h3 => by rw [(SlR.caps hz239).1]; rw [(SlR.caps hz245).1]; rw [(SlR.caps hz251).1]; rw [(SlR.caps hz228).1]; exact book_Fewest_w (hz239.row (slE_ok (slE_ok (iE_ok _))) h2 (fun p hp => h3 p (List.mem_append_left _ hp))) (hz245.row (iE_ok _) h2 (fun p hp => h3 p (List.mem_append_right _ (List.mem_append_left _ hp)))) (hz251.row (prE_ok (iE_ok _) (prE_ok (iE_ok _) (iE_ok _))) h2 (fun p hp => h3 p (List.mem_append_right _ (List.mem_append_right _ (List.mem_append_left _ hp))))) (hz228.row (prE_ok (iE_ok _) (prE_ok (iE_ok _) bE_ok)) h2 (fun p hp => h3 p (List.mem_append_right _ (List.mem_append_right _ (List.mem_append_right _ (List.mem_append_left _ hp)))))) h254) (fun _ _ _ _ hq => by obtain ⟨a260, n264, c261, Lb262, rfl, rfl, hz263⟩ := hq; exact ⟨_, _, _, _, rfl, rfl, hz263.flat (fun _ _ h => h)⟩) ?_; rintro _ F256 _ hF257 hd259 hn258 ⟨a260, n264, c261, Lb262, rfl, rfl, hz263⟩
 replace hz228 := hz228.mono (prE_ok (iE_ok _) (prE_ok (iE_ok _) bE_ok)) hF257
 have hn266 := newp (Lb' := []) (by rfl) hd259 hn258
 replace hz263 := hz263.new fun p hp => hn266 p (by simp [hp])
 refine shO_L (lp (ln (lp (lp (lp (lp (ln rfl))))))) ?_
 refine om rfl rfl (ox rfl rfl rfl (ox rfl rfl rfl (oa rfl rfl (oa rfl rfl (nsr ?_)))))
 obtain ⟨n17, n18, l20, l21, l22, h267, r268⟩ := b5_ok r255; clear r255
 refine o_call0 rfl Try.call45 rfl rfl rfl (oyezlaw07_Bell_w h267) ?_; rintro _ F269 _ hF270 hn271 ⟨a273, n277, c274, Lb275, a279, n283, c280, Lb281, a285, n289, c286, Lb287, rfl, rfl, hz276, hz282, hz288⟩
 replace hz228 := hz228.mono (prE_ok (iE_ok _) (prE_ok (iE_ok _) bE_ok)) hF270
 replace hz263 := hz263.mono (iE_ok _) hF270
 replace hz276 := hz276.new fun p hp => hn271 p (by simp [hp])
 replace hz282 := hz282.new fun p hp => hn271 p (by simp [hp])
 replace hz288 := hz288.new fun p hp => hn271 p (by simp [hp])
 refine shO_L (lp (lp (lp (ln rfl)))) ?_
 refine ov (v_build (v := .agg #[.int .i64 1, .int .i64 0, .bool false]) rfl (by intro w; kernel_rfl)) rfl ?_
 obtain ⟨ok4, n19, h291, r292⟩ := b2_ok r268; clear r268
 refine o_callT (Lt := Lb275 ++ (Lb281 ++ (Lb287 ++ []))) (Lr := Lb262 ++ (Lb238 ++ (Lb244 ++ (Lb250 ++ (Lb227 ++ []))))) rfl Try.call35 rfl rfl rfl (pT pR (lp (lp (lp (ln rfl))))) (fun F2 h2 h3 => by rw [(SlR.caps hz276).1]; rw [(SlR.caps hz282).1]; rw [(SlR.caps hz288).1]; exact book_Refuted_w (hz276.row (slE_ok (slE_ok (iE_ok _))) h2 (fun p hp => h3 p (List.mem_append_left _ hp))) (hz282.row (iE_ok _) h2 (fun p hp => h3 p (List.mem_append_right _ (List.mem_append_left _ hp)))) (hz288.row (prE_ok (iE_ok _) (prE_ok (iE_ok _) (iE_ok _))) h2 (fun p hp => h3 p (List.mem_append_right _ (List.mem_append_right _ (List.mem_append_left _ hp))))) h291) ?_
 refine om rfl rfl (ox rfl rfl rfl (ox rfl rfl rfl (oa rfl rfl (oa rfl rfl (shO_nil (shW_seq ?_))))))
 refine shW_drawM [(.still, 1), (.still, 2), (.still, 3), (.seq, 0), (.seq, 4), (.still, 5), (.still, 6), (.still, 7), (.still, 8), (.still, 9)] (by kernel_rfl) (by kernel_rfl) (trivial) (by rfl) (by kernel_rfl) ?_
 refine shM_v (v := .slice (some ⟨b226, 0, none⟩) 2 2) (ek := [(9, .slice (some ⟨b226, 0, none⟩) 2 2)]) (Ls := []) rfl rfl rfl rfl ((sc rfl (sn _))) (by kernel_rfl) sm (fun H F' L' hF' hL' => v_move rfl) ?_
 obtain ⟨x, g293, hx294, r295⟩ := ix_ok r292; clear r292
 obtain ⟨b296, o297, c298, vs299, ha300, hs301, hle302, ⟨_, _, rfl, rfl, ⟨_, _, rfl, rfl, rfl⟩⟩, hl303, hc304⟩ := SlR.at (prE_ok (iE_ok _) (prE_ok (iE_ok _) bE_ok)) hz228 (L := Lb227 ++ []) fP g293.1 hx294
 refine shM_v (v := .pointer (some ⟨b296, o297 + (0 : Int).toNat * 3, none⟩)) (ek := [(91, .slice (some ⟨b226, 0, none⟩) 2 2)]) (Ls := []) rfl rfl rfl rfl ((sc rfl (sn _))) (by kernel_rfl) sm (fun H F' L' hF' hL' => v_indexO Try.underlying105 Try.sizeOf77 rfl ha300 rfl (SlR.idx hz228 g293)) ?_
 refine shM_v (v := .agg #[.int .i64 x.1, .int .i64 x.2.1, .bool x.2.2]) (ek := [(92, .pointer (some ⟨b296, o297 + (0 : Int).toNat * 3, none⟩))]) (Ls := Lb227 ++ []) rfl rfl rfl rfl ((sc rfl (sn _))) (by kernel_rfl) (s0 (s3 (s3 (s3 (s3 (s3 (s3 (s3 (s4 sr))))))))) (fun H F' L' hF' hL' => v_loadA (cs := #[.int .i64 x.1, .int .i64 x.2.1, .bool x.2.2]) Try.isAgg77 Try.sizeOf77 rfl (hs301.ext hF' hL') hle302 (extract_cells hle302 hl303 hc304)) ?_
 refine ⟨_, [], rfl, rfl, (sn _), by kernel_rfl, ?_⟩; intro H
 obtain ⟨n20, n21, l23, l24, l25, h305, r306⟩ := b5_ok r295; clear r295
 refine o_call0 rfl Try.call45 rfl rfl rfl (oyezlaw07_Bell_w h305) ?_; rintro _ F307 _ hF308 hn309 ⟨a311, n315, c312, Lb313, a317, n321, c318, Lb319, a323, n327, c324, Lb325, rfl, rfl, hz314, hz320, hz326⟩
 replace hz263 := hz263.mono (iE_ok _) hF308
 replace hz314 := hz314.new fun p hp => hn309 p (by simp [hp])
 replace hz320 := hz320.new fun p hp => hn309 p (by simp [hp])
 replace hz326 := hz326.new fun p hp => hn309 p (by simp [hp])
 refine shO_L (lp (lp (lp (ln rfl)))) ?_
 refine shO_nil ⟨_, rfl, hF308, [3, 2, 1], by kernel_rfl, .inl (.inr (fun d h => by cases h; rfl)), (List.forall_mem_cons.2 ⟨s0 (s3 (s3 (s3 (s3 (s3 (s3 (s3 (s3 (s3 (s3 (s4 sr))))))))))), (List.forall_mem_cons.2 ⟨sm, (List.forall_mem_cons.2 ⟨sm, (fun _ h => absurd h List.not_mem_nil)⟩)⟩)⟩), ?_⟩
 refine ⟨_, [(90, .agg #[.int .i64 n20, .int .i64 n21, .slice a311 n315 c312, .slice a317 n321 c318, .slice a323 n327 c324]), (93, .agg #[.int .i64 x.1, .int .i64 x.2.1, .bool x.2.2])], rfl, rfl, (sc rfl (sc rfl (sn _))), by kernel_rfl, ?_⟩; intro H
 obtain rfl := (SlR.caps hz314).1
 refine shO_freezeR (Nat.le_refl _) (slE_ok (slE_ok (iE_ok _))) fP hz314 ?_; intro F329 hF330 h331
 replace hz263 := hz263.mono (iE_ok _) hF330
 replace hz320 := hz320.mono (iE_ok _) hF330
 replace hz326 := hz326.mono (prE_ok (iE_ok _) (prE_ok (iE_ok _) (iE_ok _))) hF330
 obtain rfl := (SlR.caps hz320).1
 refine shO_freezeR (Nat.le_refl _) (iE_ok _) fP hz320 ?_; intro F332 hF333 h334
 replace h331 := h331.mono (slE_ok (slE_ok (iE_ok _))) hF333
 replace hz263 := hz263.mono (iE_ok _) hF333
 replace hz326 := hz326.mono (prE_ok (iE_ok _) (prE_ok (iE_ok _) (iE_ok _))) hF333
 obtain rfl := (SlR.caps hz326).1
 refine shO_freezeR (Nat.le_refl _) (prE_ok (iE_ok _) (prE_ok (iE_ok _) (iE_ok _))) fP hz326 ?_; intro F335 hF336 h337
 replace h331 := h331.mono (slE_ok (slE_ok (iE_ok _))) hF336
 replace h334 := h334.mono (iE_ok _) hF336
 replace hz263 := hz263.mono (iE_ok _) hF336
 obtain ⟨l26, n22, h338, r339⟩ := b2_ok r306; clear r306
 refine o_call0 rfl Try.call36 rfl rfl rfl (book_Witness_w h331 h334 h337 h338) ?_; rintro _ F340 _ hF341 hn342 ⟨a344, c345, rfl, rfl, h346⟩
 replace hz263 := hz263.mono (iE_ok _) hF341
 refine shO_L (ln rfl) ?_
 refine shO_nil ⟨_, rfl, (((hF330.trans hF333).trans hF336).trans hF341), [], by kernel_rfl, .inl (.inl rfl), (fun _ h => absurd h List.not_mem_nil), ?_⟩
 refine shM_v (v := .tuple #[.slice a344 l26.length c345, .int .i64 n22]) (ek := [(94, .tuple #[.slice a344 l26.length c345, .int .i64 n22])]) (Ls := []) rfl rfl rfl rfl ((sc rfl (sn _))) (by kernel_rfl) sm (fun H F' L' hF' hL' => v_move rfl) ?_
 refine shM_v (v := .slice a344 l26.length c345) (ek := [(89, .tuple #[.slice a344 l26.length c345, .int .i64 n22])]) (Ls := []) rfl rfl rfl rfl ((sc rfl (sn _))) (by kernel_rfl) sm (fun H F' L' hF' hL' => v_extract rfl rfl) ?_
 refine shM_v (v := .int .i64 n22) (ek := [(89, .tuple #[.slice a344 l26.length c345, .int .i64 n22])]) (Ls := []) rfl rfl rfl rfl ((sc rfl (sn _))) (by kernel_rfl) sm (fun H F' L' hF' hL' => v_extract rfl rfl) ?_
 refine shM_v (v := .slice a344 l26.length c345) (ek := [(95, .slice a344 l26.length c345)]) (Ls := []) rfl rfl rfl rfl ((sc rfl (sn _))) (by kernel_rfl) sm (fun H F' L' hF' hL' => v_assign rfl) ?_
 refine shM_v (v := .int .i64 n22) (ek := [(96, .int .i64 n22)]) (Ls := []) rfl rfl rfl rfl ((sc rfl (sn _))) (by kernel_rfl) sm (fun H F' L' hF' hL' => v_assign rfl) ?_
 refine shM_nil ?_
 refine wsr ?_
 obtain ⟨n23, n24, l27, l28, l29, h347, r348⟩ := b5_ok r339; clear r339
 refine o_call0 rfl Try.call45 rfl rfl rfl (oyezlaw07_Bell_w h347) ?_; rintro _ F349 _ hF350 hn351 ⟨a353, n357, c354, Lb355, a359, n363, c360, Lb361, a365, n369, c366, Lb367, rfl, rfl, hz356, hz362, hz368⟩
 replace h346 := h346.mono (iE_ok _) hF350
 replace hz263 := hz263.mono (iE_ok _) hF350
 replace hz356 := hz356.new fun p hp => hn351 p (by simp [hp])
 replace hz362 := hz362.new fun p hp => hn351 p (by simp [hp])
 replace hz368 := hz368.new fun p hp => hn351 p (by simp [hp])
 refine shO_L (lp (lp (lp (ln rfl)))) ?_
 refine o_buildSlice (cs := #[.int .i64 0]) rfl rfl (buildSlice_all slt_24 [.int .i64 0] rfl (by decide) (by simp [Value.cells]) (by decide)) ?_; intro b371 hb371
 obtain rfl := (SlR.caps hz356).1
 refine shO_freezeR (Nat.le_refl _) (slE_ok (slE_ok (iE_ok _))) (fC fP) hz356 ?_; intro F372 hF373 h374
 replace h346 := h346.mono (iE_ok _) hF373
 replace hz263 := hz263.mono (iE_ok _) hF373
 replace hz362 := hz362.mono (iE_ok _) hF373
 replace hz368 := hz368.mono (prE_ok (iE_ok _) (prE_ok (iE_ok _) (iE_ok _))) hF373
 obtain rfl := (SlR.caps hz362).1
 refine shO_freezeR (Nat.le_refl _) (iE_ok _) (fC fP) hz362 ?_; intro F375 hF376 h377
 replace h346 := h346.mono (iE_ok _) hF376
 replace h374 := h374.mono (slE_ok (slE_ok (iE_ok _))) hF376
 replace hz263 := hz263.mono (iE_ok _) hF376
 replace hz368 := hz368.mono (prE_ok (iE_ok _) (prE_ok (iE_ok _) (iE_ok _))) hF376
 obtain rfl := (SlR.caps hz368).1
 refine shO_freezeR (Nat.le_refl _) (prE_ok (iE_ok _) (prE_ok (iE_ok _) (iE_ok _))) (fC fP) hz368 ?_; intro F378 hF379 h380
 replace h346 := h346.mono (iE_ok _) hF379
 replace h374 := h374.mono (slE_ok (slE_ok (iE_ok _))) hF379
 replace h377 := h377.mono (iE_ok _) hF379
 replace hz263 := hz263.mono (iE_ok _) hF379
 refine shO_freeze 0 rfl hb371 ?_; intro F381 hF382 hz383
 refine shO_L (L' := Lb275 ++ (Lb281 ++ (Lb287 ++ (Lb262 ++ (Lb238 ++ (Lb244 ++ (Lb250 ++ (Lb227 ++ [])))))))) rfl ?_
 replace h346 := h346.mono (iE_ok _) hF382
 replace h374 := h374.mono (slE_ok (slE_ok (iE_ok _))) hF382
 replace h377 := h377.mono (iE_ok _) hF382
 replace h380 := h380.mono (prE_ok (iE_ok _) (prE_ok (iE_ok _) (iE_ok _))) hF382
 replace hz263 := hz263.mono (iE_ok _) hF382
 have h384 : RowR 1 (iE .i64) F381 (some ⟨b371, 0, none⟩) 1 [0] := RowR.of_block (iE_ok _) (vss := [[.int .i64 0]]) (xs := [0]) hz383 (.cons rfl .nil) rfl (by simp [maxLen])
 obtain ⟨l30, n25, h385, r386⟩ := b2_ok r348; clear r348
 refine o_call0 rfl Try.call24 rfl rfl rfl (book_Again_w h374 h377 h380 h384 h385) ?_; rintro _ F387 _ hF388 hn389 ⟨a391, c392, rfl, rfl, h393⟩
 replace h346 := h346.mono (iE_ok _) hF388
 replace hz263 := hz263.mono (iE_ok _) hF388
 refine shO_L (ln rfl) ?_
 refine om rfl rfl (ox rfl rfl rfl (ox rfl rfl rfl (oa rfl rfl (nsr (om rfl rfl ?_)))))
 refine ov (v_eql rfl rfl) rfl ?_
 refine om rfl rfl ?_
 by_cases c394 : n16 = 0
 · have r395 := ite_t r386 c394; clear r386
   refine shO_on (b := true) 105 rfl (Env.isT rfl c394) (om rfl rfl (shO_on (b := true) 105 rfl (Env.isT rfl c394) ?_))
   refine ov (v_eql rfl rfl) rfl ?_
   refine ov (v_pick_t (evD_true rfl c394) rfl) rfl ?_
   refine om rfl rfl ?_
   by_cases c396 : n19 = 0
   · have r397 := ite_t r395 c396; clear r395
     refine shO_on (b := true) 109 rfl (Env.isT rfl c396) (om rfl rfl (shO_on (b := true) 109 rfl (Env.isT rfl c396) ?_))
     refine ov (v_eql rfl rfl) rfl ?_
     refine ov (v_pick_t (evD_true rfl c396) rfl) rfl ?_
     refine om rfl rfl ?_
     by_cases c398 : n22 = 0
     · have r399 := ite_t r397 c398; clear r397
       refine shO_on (b := true) 113 rfl (Env.isT rfl c398) (om rfl rfl (shO_on (b := true) 113 rfl (Env.isT rfl c398) ?_))
       refine ov (v_eql rfl rfl) rfl ?_
       refine ov (v_pick_t (evD_true rfl c398) rfl) rfl ?_
       refine om rfl rfl ?_
       by_cases c400 : n25 = 6
       · have r401 := ite_t r399 c400; clear r399
         refine shO_on (b := true) 117 rfl (Env.isT rfl c400) (om rfl rfl ?_)
         refine ov (v_pick_t (evD_true rfl c400) rfl) rfl ?_
         refine om rfl rfl ?_
         rcases bool_two ok4 with c402 | c402
         · have r403 := bt r401 c402; clear r401
           refine shO_on (b := true) 120 rfl (EnvB rfl c402) (om rfl rfl (shO_on (b := true) 120 rfl (EnvB rfl c402) ?_))
           refine o_buildSlice (cs := #[.int .i64 0]) rfl rfl (buildSlice_all slt_24 [.int .i64 0] rfl (by decide) (by simp [Value.cells]) (by decide)) ?_; intro b404 hb404
           refine shO_on (b := true) 120 rfl (EnvB rfl c402) ?_
           refine shO_freeze 0 rfl hb404 ?_; intro F405 hF406 hz407
           refine shO_L (L' := Lb275 ++ (Lb281 ++ (Lb287 ++ (Lb262 ++ (Lb238 ++ (Lb244 ++ (Lb250 ++ (Lb227 ++ [])))))))) rfl ?_
           replace h346 := h346.mono (iE_ok _) hF406
           replace hz263 := hz263.mono (iE_ok _) hF406
           have h408 : RowR 1 (iE .i64) F405 (some ⟨b404, 0, none⟩) 1 [0] := RowR.of_block (iE_ok _) (vss := [[.int .i64 0]]) (xs := [0]) hz407 (.cons rfl .nil) rfl (by simp [maxLen])
           obtain ⟨ok5, h409, r410⟩ := b1_ok r403; clear r403
           refine o_callT (Lt := Lb262 ++ []) (Lr := Lb275 ++ (Lb281 ++ (Lb287 ++ (Lb238 ++ (Lb244 ++ (Lb250 ++ (Lb227 ++ []))))))) rfl Try.call46 rfl rfl rfl (pT ((fS (fS (fS fP))).trans (pA pR)) (lp (ln rfl))) (fun F2 h2 h3 => by rw [(SlR.caps hz263).1]; exact oyezkit_Like_int_w (hz263.row (iE_ok _) h2 (fun p hp => h3 p (List.mem_append_left _ hp))) (h408.mono (iE_ok _) h2) h409) ?_
           refine ov (v_pick_t (evB rfl c402) rfl) rfl ?_
           refine om rfl rfl ?_
           rcases bool_two ok5 with c411 | c411
           · have r412 := bt r410 c411; clear r410
             refine shO_on (b := true) 125 rfl (EnvB rfl c411) (om rfl rfl (shO_on (b := true) 125 rfl (EnvB rfl c411) ?_))
             refine o_buildSlice (cs := #[.int .i64 1, .int .i64 2, .int .i64 3]) rfl rfl (buildSlice_all slt_24 [.int .i64 1, .int .i64 2, .int .i64 3] rfl (by decide) (by simp [Value.cells]) (by decide)) ?_; intro b413 hb413
             refine shO_on (b := true) 125 rfl (EnvB rfl c411) ?_
             refine shO_freeze 0 rfl hb413 ?_; intro F414 hF415 hz416
             refine shO_L (L' := Lb275 ++ (Lb281 ++ (Lb287 ++ (Lb262 ++ (Lb238 ++ (Lb244 ++ (Lb250 ++ (Lb227 ++ [])))))))) rfl ?_
             replace h346 := h346.mono (iE_ok _) hF415
             have h417 : RowR 1 (iE .i64) F414 (some ⟨b413, 0, none⟩) 3 [1, 2, 3] := RowR.of_block (iE_ok _) (vss := [[.int .i64 1], [.int .i64 2], [.int .i64 3]]) (xs := [1, 2, 3]) hz416 (.cons rfl (.cons rfl (.cons rfl .nil))) rfl (by simp [maxLen])
             obtain ⟨ok6, h418, r419⟩ := b1_ok r412; clear r412
             refine o_callV rfl Try.call46 rfl rfl rfl (oyezkit_Like_int_w h346 h417 h418) ?_
             refine ov (v_pick_t (evB rfl c411) rfl) rfl ?_
             refine oa rfl rfl (shO_nil ?_)
             refine kW kn ?_
             refine shW_ret ?_
             refine q_res1 Try.results16 (res_tmp rfl) (sr) ?_
             obtain rfl := inj1 r419
             exact rfl
           have r420 := bf r410 c411; clear r410
           refine shO_off (b' := false) 125 rfl (EnvB rfl c411) rfl rfl (shO_off (b' := false) 125 rfl (EnvB rfl c411) rfl rfl (shO_off (b' := false) 125 rfl (EnvB rfl c411) rfl rfl ?_))
           refine ov (v_pick_f (evB rfl c411) rfl) rfl ?_
           refine oa rfl rfl (shO_nil ?_)
           refine kW kn ?_
           refine shW_ret ?_
           refine q_res1 Try.results16 (res_tmp rfl) (sr) ?_
           obtain rfl := inj1 r420
           exact rfl
         have r421 := bf r401 c402; clear r401
         refine shO_off (b' := false) 120 rfl (EnvB rfl c402) rfl rfl (shO_off (b' := false) 120 rfl (EnvB rfl c402) rfl rfl (shO_off (b' := false) 120 rfl (EnvB rfl c402) rfl rfl ?_))
         refine ov (v_pick_f (evB rfl c402) rfl) rfl ?_
         refine om rfl rfl (shO_off (b' := false) 125 rfl rfl rfl rfl (shO_off (b' := false) 125 rfl rfl rfl rfl (shO_off (b' := false) 125 rfl rfl rfl rfl ?_)))
         refine ov (v_pick_f rfl rfl) rfl ?_
         refine oa rfl rfl (shO_nil ?_)
         refine kW kn ?_
         refine shW_ret ?_
         refine q_res1 Try.results16 (res_tmp rfl) (sr) ?_
         obtain rfl := inj1 r421
         exact rfl
       have r422 := ite_f r399 c400; clear r399
       refine shO_off (b' := false) 117 rfl (Env.isF rfl c400) rfl rfl ?_
       refine ov (v_pick_f (evD_false rfl c400) rfl) rfl ?_
       refine om rfl rfl (shO_off (b' := false) 120 rfl rfl rfl rfl (shO_off (b' := false) 120 rfl rfl rfl rfl (shO_off (b' := false) 120 rfl rfl rfl rfl ?_)))
       refine ov (v_pick_f rfl rfl) rfl ?_
       refine om rfl rfl (shO_off (b' := false) 125 rfl rfl rfl rfl (shO_off (b' := false) 125 rfl rfl rfl rfl (shO_off (b' := false) 125 rfl rfl rfl rfl ?_)))
       refine ov (v_pick_f rfl rfl) rfl ?_
       refine oa rfl rfl (shO_nil ?_)
       refine kW kn ?_
       refine shW_ret ?_
       refine q_res1 Try.results16 (res_tmp rfl) (sr) ?_
       obtain rfl := inj1 r422
       exact rfl
     have r423 := ite_f r397 c398; clear r397
     refine shO_off (b' := false) 113 rfl (Env.isF rfl c398) rfl rfl (shO_off (b' := false) 113 rfl (Env.isF rfl c398) rfl rfl ?_)
     refine ov (v_pick_f (evD_false rfl c398) rfl) rfl ?_
     refine om rfl rfl (shO_off (b' := false) 117 rfl rfl rfl rfl ?_)
     refine ov (v_pick_f rfl rfl) rfl ?_
     refine om rfl rfl (shO_off (b' := false) 120 rfl rfl rfl rfl (shO_off (b' := false) 120 rfl rfl rfl rfl (shO_off (b' := false) 120 rfl rfl rfl rfl ?_)))
     refine ov (v_pick_f rfl rfl) rfl ?_
     refine om rfl rfl (shO_off (b' := false) 125 rfl rfl rfl rfl (shO_off (b' := false) 125 rfl rfl rfl rfl (shO_off (b' := false) 125 rfl rfl rfl rfl ?_)))
     refine ov (v_pick_f rfl rfl) rfl ?_
     refine oa rfl rfl (shO_nil ?_)
     refine kW kn ?_
     refine shW_ret ?_
     refine q_res1 Try.results16 (res_tmp rfl) (sr) ?_
     obtain rfl := inj1 r423
     exact rfl
   have r424 := ite_f r395 c396; clear r395
   refine shO_off (b' := false) 109 rfl (Env.isF rfl c396) rfl rfl (shO_off (b' := false) 109 rfl (Env.isF rfl c396) rfl rfl ?_)
   refine ov (v_pick_f (evD_false rfl c396) rfl) rfl ?_
   refine om rfl rfl (shO_off (b' := false) 113 rfl rfl rfl rfl (shO_off (b' := false) 113 rfl rfl rfl rfl ?_))
   refine ov (v_pick_f rfl rfl) rfl ?_
   refine om rfl rfl (shO_off (b' := false) 117 rfl rfl rfl rfl ?_)
   refine ov (v_pick_f rfl rfl) rfl ?_
   refine om rfl rfl (shO_off (b' := false) 120 rfl rfl rfl rfl (shO_off (b' := false) 120 rfl rfl rfl rfl (shO_off (b' := false) 120 rfl rfl rfl rfl ?_)))
   refine ov (v_pick_f rfl rfl) rfl ?_
   refine om rfl rfl (shO_off (b' := false) 125 rfl rfl rfl rfl (shO_off (b' := false) 125 rfl rfl rfl rfl (shO_off (b' := false) 125 rfl rfl rfl rfl ?_)))
   refine ov (v_pick_f rfl rfl) rfl ?_
   refine oa rfl rfl (shO_nil ?_)
   refine kW kn ?_
   refine shW_ret ?_
   refine q_res1 Try.results16 (res_tmp rfl) (sr) ?_
   obtain rfl := inj1 r424
   exact rfl
 have r425 := ite_f r386 c394; clear r386
 refine shO_off (b' := false) 105 rfl (Env.isF rfl c394) rfl rfl (shO_off (b' := false) 105 rfl (Env.isF rfl c394) rfl rfl ?_)
 refine ov (v_pick_f (evD_false rfl c394) rfl) rfl ?_
 refine om rfl rfl (shO_off (b' := false) 109 rfl rfl rfl rfl (shO_off (b' := false) 109 rfl rfl rfl rfl ?_))
 refine ov (v_pick_f rfl rfl) rfl ?_
 refine om rfl rfl (shO_off (b' := false) 113 rfl rfl rfl rfl (shO_off (b' := false) 113 rfl rfl rfl rfl ?_))
 refine ov (v_pick_f rfl rfl) rfl ?_
 refine om rfl rfl (shO_off (b' := false) 117 rfl rfl rfl rfl ?_)
 refine ov (v_pick_f rfl rfl) rfl ?_
 refine om rfl rfl (shO_off (b' := false) 120 rfl rfl rfl rfl (shO_off (b' := false) 120 rfl rfl rfl rfl (shO_off (b' := false) 120 rfl rfl rfl rfl ?_)))
 refine ov (v_pick_f rfl rfl) rfl ?_
 refine om rfl rfl (shO_off (b' := false) 125 rfl rfl rfl rfl (shO_off (b' := false) 125 rfl rfl rfl rfl (shO_off (b' := false) 125 rfl rfl rfl rfl ?_)))
 refine ov (v_pick_f rfl rfl) rfl ?_
 refine oa rfl rfl (shO_nil ?_)
 refine kW kn ?_
 refine shW_ret ?_
 refine q_res1 Try.results16 (res_tmp rfl) (sr) ?_
 obtain rfl := inj1 r425
 exact rfl
set_option maxHeartbeats 1000000 in
theorem cmp_Less_int_w {x : Int} {y : Int} {F : FS} {r : Bool} (hr : cmp_Less_int x y = some r) :
    SpecV Try.prog 67 #[.int .i64 x, .int .i64 y] F (.bool r) := by
 refine spec_of_shW (args := [.int .i64 x, .int .i64 y]) Try.func67 rfl Try.ntmps67 (Nat.le_of_ble_eq_true rfl) ?_
 intro K _ _; rw [cmp_Less_int] at hr
 refine wsr (oa rfl rfl (nsr (om rfl rfl ?_)))
 obtain ⟨ok, h1, r2⟩ := b1_ok hr; clear hr
 refine o_callV rfl Try.call87 rfl rfl rfl (cmp_isNaN_int_w h1) ?_
 refine om rfl rfl ?_
 rcases bool_two ok with c3 | c3
 · have r4 := bt r2 c3; clear r2
   refine shO_on (b := true) 7 rfl (EnvB rfl c3) (om rfl rfl (shO_on (b := true) 7 rfl (EnvB rfl c3) ?_))
   obtain ⟨ok2, h5, r6⟩ := b1_ok r4; clear r4
   refine o_callV rfl Try.call87 rfl rfl rfl (cmp_isNaN_int_w h5) ?_
   refine shO_on (b := true) 7 rfl (EnvB rfl c3) ?_
   refine ov (v_notB rfl) rfl ?_
   refine ov (v_pick_t (evB rfl c3) rfl) rfl ?_
   refine om rfl rfl ?_
   rcases bool_two (!ok2) with c7 | c7
   · have r8 := bt r6 c7; clear r6
     refine shO_off (b' := true) 12 rfl (EnvB rfl c7) rfl rfl (shO_off (b' := true) 12 rfl (EnvB rfl c7) rfl rfl (shO_off (b' := true) 12 rfl (EnvB rfl c7) rfl rfl ?_))
     refine ov (v_pick_t (evB rfl c7) rfl) rfl ?_
     refine oa rfl rfl (shO_nil (shW_ret ?_))
     refine q_res1 Try.results67 (res_tmp rfl) (sr) ?_
     obtain rfl := inj1 r8
     exact rfl
   have r9 := bf r6 c7; clear r6
   refine shO_on (b := false) 12 rfl (EnvB rfl c7) (om rfl rfl (shO_on (b := false) 12 rfl (EnvB rfl c7) (om rfl rfl (shO_on (b := false) 12 rfl (EnvB rfl c7) ?_))))
   refine ov (v_lssK rfl rfl) rfl ?_
   refine ov (v_pick_f (evB rfl c7) rfl) rfl ?_
   refine oa rfl rfl (shO_nil (shW_ret ?_))
   refine q_res1 Try.results67 (res_tmp rfl) (sr) ?_
   obtain rfl := inj1 r9
   exact rfl
 have r10 := bf r2 c3; clear r2
 refine shO_off (b' := false) 7 rfl (EnvB rfl c3) rfl rfl (shO_off (b' := false) 7 rfl (EnvB rfl c3) rfl rfl (shO_off (b' := false) 7 rfl (EnvB rfl c3) rfl rfl ?_))
 refine ov (v_pick_f (evB rfl c3) rfl) rfl ?_
 refine om rfl rfl (shO_on (b := false) 12 rfl rfl (om rfl rfl (shO_on (b := false) 12 rfl rfl (om rfl rfl (shO_on (b := false) 12 rfl rfl ?_)))))
 refine ov (v_lssK rfl rfl) rfl ?_
 refine ov (v_pick_f rfl rfl) rfl ?_
 refine oa rfl rfl (shO_nil (shW_ret ?_))
 refine q_res1 Try.results67 (res_tmp rfl) (sr) ?_
 obtain rfl := inj1 r10
 exact rfl
set_option maxHeartbeats 1000000 in
theorem slices_IsSorted_int_int_w {x_a : Option Addr} {x_c : Nat} {x : List Int} {F : FS} (h_x : RowR 1 (iE .i64) F x_a x_c x) {r : Bool} (hr : slices_IsSorted_int_int x = some r) :
    SpecV Try.prog 25 #[.slice x_a x.length x_c] F (.bool r) := by
 refine spec_of_shW (args := [.slice x_a x.length x_c]) Try.func25 rfl Try.ntmps25 (Nat.le_of_ble_eq_true rfl) ?_
 intro K _ _; rw [slices_IsSorted_int_int] at hr
 refine wsr (oa rfl rfl (shO_nil ?_))
 refine shW_join (fun e1 F1 L1 => slices_IsSorted_int_int_j1 = some r ∧ F = F1 ∧ L1 = [] ∧ e1.sub []) ?_ ?_
 · refine wsr (om rfl rfl ?_)
   refine ov (v_lenS Try.underlying24 rfl) rfl ?_
   obtain ⟨g1, r2⟩ := gd_ok hr; clear hr
   refine ov (v_sub rfl rfl g1) rfl ?_
   refine oa rfl rfl (shO_nil ?_)
   refine shW_block ?_
   refine shW_lp (fun fu2 e1 F1 L1 => ∃ (i : Int), slices_IsSorted_int_int_l2 x fu2 i = some r ∧ F = F1 ∧ L1 = [] ∧ e1.sub [(0, .slice x_a x.length x_c), (3, .int .i64 i)]) FU (m0 kr ⟨(x.length : Int) - 1, r2, rfl, rfl, (sc rfl (sc rfl (sn _)))⟩) ?_
   rintro fu2 e1 _ _ ⟨i, r5, rfl, rfl, he6⟩
   refine shW_env _ he6 ?_; clear he6
   rcases fu2 with _ | fu2
   · rw [slices_IsSorted_int_int_l2] at r5; cases r5
   rw [slices_IsSorted_int_int_l2] at r5
   refine shW_seq (wsr (om rfl rfl ?_))
   refine ov (v_gtrK rfl rfl) rfl ?_
   refine shO_nil ?_
   refine shW_condP rfl (fun c7 => ?_) (fun c7 => ?_)
   · have r8 := ite_t r5 c7; clear r5
     refine shW_skip (shW_seq ?_)
     refine shW_block ?_
     refine wsd (by kernel_rfl) (by kernel_rfl) (by kernel_rfl) ?_
     refine qm rfl rfl (qm rfl rfl ?_)
     obtain ⟨x2, g9, hx10, r11⟩ := ix_ok r8; clear r8
     obtain ⟨b12, o13, c14, vs15, ha16, hs17, hle18, rfl, hl19, hc20⟩ := RowR.at (iE_ok _) h_x ([]) g9.1 hx10
     refine qv (v_indexO Try.underlying24 Try.sizeOf3 rfl ha16 rfl g9) rfl ?_
     refine qv (v_load Try.isAgg3 rfl hs17 (hc20 0 (by decide))) rfl ?_
     refine qm rfl rfl (qm rfl rfl ?_)
     obtain ⟨g21, r22⟩ := gd_ok r11; clear r11
     refine qv (v_sub rfl rfl g21) rfl ?_
     obtain ⟨x3, g23, hx24, r25⟩ := ix_ok r22; clear r22
     obtain ⟨b26, o27, c28, vs29, ha30, hs31, hle32, rfl, hl33, hc34⟩ := RowR.at (iE_ok _) h_x ([]) g23.1 hx24
     refine qv (v_indexO Try.underlying24 Try.sizeOf3 rfl ha30 rfl g23) rfl ?_
     refine qv (v_load Try.isAgg3 rfl hs31 (hc34 0 (by decide))) rfl ?_
     obtain ⟨ok, h35, r36⟩ := b1_ok r25; clear r25
     refine shQ_callV rfl Try.call67 rfl rfl rfl (cmp_Less_int_w h35) ?_
     refine shQ_nil ?_
     refine shW_cond rfl (fun c37 => ?_) (fun c37 => ?_)
     · have r38 := bt r36 c37; clear r36
       refine wsr (oa rfl rfl (shO_nil (shW_ret (inBlock_ret (andThen_ret (andThen_ret (inBlock_ret (andThen_ret ?_))))))))
       refine q_res1 Try.results25 (res_tmp rfl) (sr) ?_
       obtain rfl := inj1 r38
       exact rfl
     have r39 := bf r36 c37; clear r36
     refine shW_skip (inBlock_n (id := 1) (shW_region (om rfl rfl ?_)))
     obtain ⟨g40, r41⟩ := gd_ok r39; clear r39
     refine ov (v_sub rfl rfl g40) rfl ?_
     refine oa rfl rfl (shO_nil ?_)
     exact le kr ⟨i - 1, r41, rfl, rfl, (sc rfl (sc rfl (sn _)))⟩
   have r42 := ite_f r5 c7; clear r5
   refine shW_exit (andThen_exit (andThen_exit ?_))
   refine inBlock_exit ?_
   exact mi kr ⟨r42, rfl, rfl, (sn _)⟩
 rintro e1 _ _ ⟨r43, rfl, rfl, he44⟩
 refine shW_env _ he44 ?_; clear he44
 rw [slices_IsSorted_int_int_j1] at r43
 refine wsr (oa rfl rfl (shO_nil (shW_ret ?_)))
 refine q_res1 Try.results25 (res_tmp rfl) (sr) ?_
 obtain rfl := inj1 r43
 exact rfl
set_option maxHeartbeats 1000000 in
theorem oyezlaw07_BookRepeated_1_w {stands_a : Option Addr} {stands_c : Nat} {stands : List Int} {b_b : Nat} {houses : Int} {notices : Int} {hears_a : Option Addr} {hears_c : Nat} {hears : List (List (List Int))} {readings_a : Option Addr} {readings_c : Nat} {readings : List Int} {cries_a : Option Addr} {cries_c : Nat} {cries : List (Int × Int × Int)} {mb_b : Nat × Nat} {b_hour : Nat} {hour : Int} {mb_hour : Nat × Nat} {b_notice : Nat} {notice : Int} {mb_notice : Nat × Nat} {b_houses : Nat} {houses2_a : Option Addr} {houses2_c : Nat} {houses2 : List Int} {mb_houses : Nat × Nat} {F : FS} (h_stands : RowR 1 (iE .i64) F stands_a stands_c stands) (hb_b : F b_b = some (.cells #[.int .i64 houses, .int .i64 notices, .slice hears_a hears.length hears_c, .slice readings_a readings.length readings_c, .slice cries_a cries.length cries_c] 27 mb_b)) (h_hears : RowR 1 (slE 1 (slE 1 (iE .i64))) F hears_a hears_c hears) (h_readings : RowR 1 (iE .i64) F readings_a readings_c readings) (h_cries : RowR 3 (prE (iE .i64) (prE (iE .i64) (iE .i64))) F cries_a cries_c cries) (hb_hour : F b_hour = some (.cells #[.int .i64 hour] 3 mb_hour)) (hb_notice : F b_notice = some (.cells #[.int .i64 notice] 3 mb_notice)) (hb_houses : F b_houses = some (.cells #[.slice houses2_a houses2.length houses2_c] 24 mb_houses)) (h_houses2 : RowR 1 (iE .i64) F houses2_a houses2_c houses2) {r : Bool} {r2 : Bool} (hr : oyezlaw07_BookRepeated_1 stands houses notices hears readings cries hour notice houses2 = some (r, r2)) :
    SpecV Try.prog 26 #[.slice stands_a stands.length stands_c, .pointer (some ⟨b_b, 0, none⟩), .pointer (some ⟨b_hour, 0, none⟩), .pointer (some ⟨b_notice, 0, none⟩), .pointer (some ⟨b_houses, 0, none⟩)] F (.tuple #[.bool r, .bool r2]) := by
 refine spec_of_shW (args := [.slice stands_a stands.length stands_c, .pointer (some ⟨b_b, 0, none⟩), .pointer (some ⟨b_hour, 0, none⟩), .pointer (some ⟨b_notice, 0, none⟩), .pointer (some ⟨b_houses, 0, none⟩)]) Try.func26 rfl Try.ntmps26 (Nat.le_of_ble_eq_true rfl) ?_
 intro K _ _; rw [oyezlaw07_BookRepeated_1] at hr
 refine wsr (oa rfl rfl (oa rfl rfl (nsr ?_)))
 refine ov (v_loadA (cs := #[.int .i64 houses, .int .i64 notices, .slice hears_a hears.length hears_c, .slice readings_a readings.length readings_c, .slice cries_a cries.length cries_c]) Try.isAgg27 Try.sizeOf27 rfl (Has.frozen hb_b) (Nat.le_of_ble_eq_true rfl) rfl) rfl ?_
 obtain ⟨n, n2, l, l2, l3, h1, r3⟩ := b5_ok hr; clear hr
 refine o_call0 rfl Try.call12 rfl rfl rfl (oyezlaw07_Own_w h_hears h_readings h_cries h1) ?_; rintro _ F4 _ hF5 hn6 ⟨a8, n12, c9, Lb10, a14, n18, c15, Lb16, a20, n24, c21, Lb22, rfl, rfl, hz11, hz17, hz23⟩
 replace h_stands := h_stands.mono (iE_ok _) hF5
 replace h_houses2 := h_houses2.mono (iE_ok _) hF5
 replace hb_b := hF5 _ _ hb_b
 replace hb_hour := hF5 _ _ hb_hour
 replace hb_notice := hF5 _ _ hb_notice
 replace hb_houses := hF5 _ _ hb_houses
 replace hz11 := hz11.new fun p hp => hn6 p (by simp [hp])
 replace hz17 := hz17.new fun p hp => hn6 p (by simp [hp])
 replace hz23 := hz23.new fun p hp => hn6 p (by simp [hp])
 refine shO_L (lp (lp (lp (ln rfl)))) ?_
 refine o_alloc rfl Try.zeroValue27 ?_; intro b26 hb26
 refine o_storeA (i := 0) Try.sizeOf27 rfl rfl rfl (by simp [Value.oneCell']) rfl (Nat.le_of_ble_eq_true rfl) ?_
 refine shO_L (L' := (b26, .cells #[.int .i64 n, .int .i64 n2, .slice a8 n12 c9, .slice a14 n18 c15, .slice a20 n24 c21] 27 (0, 0)) :: (Lb10 ++ (Lb16 ++ (Lb22 ++ [])))) rfl ?_
 refine shO_nil ?_
 obtain ⟨u_cries, h33, r34⟩ := b1_ok r3; clear r3
 refine shW_join (fun e1 F1 L1 => ∃ (a27 : Option Addr) (n31 : Nat) (c28 : Nat) (Lb29 : LH), F4 = F1 ∧ L1 = ((b26, .cells #[.int .i64 n, .int .i64 n2, .slice a8 n12 c9, .slice a14 n18 c15, .slice a27 n31 c28] 27 (0, 0)) :: (Lb10 ++ (Lb16 ++ (Lb29 ++ [])))) ∧ e1.sub [(1, .pointer (some ⟨b_b, 0, none⟩)), (3, .pointer (some ⟨b_notice, 0, none⟩)), (4, .pointer (some ⟨b_houses, 0, none⟩)), (8, .pointer (some ⟨b26, 0, none⟩))] ∧ SlR K.w0.heap.size 34 3 (prE (iE .i64) (prE (iE .i64) (iE .i64))) F1 a27 n31 c28 u_cries Lb29) ?_ ?_
 · clear r34
   refine wsr (om rfl rfl ?_)
   refine ov (v_lenS Try.underlying24 rfl) rfl ?_
   refine om rfl rfl (shO_nil ?_)
   refine shW_block ?_
   refine shW_lp (fun fu1 e1 F1 L1 => ∃ (tl : List Int) (k : Int), tl.length = fu1 ∧ Lst stands k tl ∧ ∃ (u_cries2 : List (Int × Int × Int)) (a35 : Option Addr) (n39 : Nat) (c36 : Nat) (Lb37 : LH), oyezlaw07_BookRepeated_1_l1 hour notice tl u_cries2 = some u_cries ∧ F4 = F1 ∧ L1 = ((b26, .cells #[.int .i64 n, .int .i64 n2, .slice a8 n12 c9, .slice a14 n18 c15, .slice a35 n39 c36] 27 (0, 0)) :: (Lb10 ++ (Lb16 ++ (Lb37 ++ [])))) ∧ e1.sub [(1, .pointer (some ⟨b_b, 0, none⟩)), (2, .pointer (some ⟨b_hour, 0, none⟩)), (3, .pointer (some ⟨b_notice, 0, none⟩)), (4, .pointer (some ⟨b_houses, 0, none⟩)), (8, .pointer (some ⟨b26, 0, none⟩)), (17, .slice stands_a stands.length stands_c), (18, .int .i64 (stands.length : Int)), (19, .int .i64 k)] ∧ SlR K.w0.heap.size 34 3 (prE (iE .i64) (prE (iE .i64) (iE .i64))) F1 a35 n39 c36 u_cries2 Lb37) _ (m0 kr ⟨_, _, rfl, Lst.start _, l3, a20, n24, c21, Lb22, h33, rfl, rfl, (sc rfl (sc rfl (sc rfl (sc rfl (sc rfl (sc rfl (sc rfl (sc rfl (sn _))))))))), hz23⟩) ?_
   rintro fu1 e1 _ _ ⟨tl, k, hn42, hk41, u_cries2, a35, n39, c36, Lb37, r43, rfl, rfl, he44, hz38⟩
   refine shW_env _ he44 ?_; clear he44
   refine wsr ?_
   refine ov (v_lssK rfl rfl) rfl ?_
   refine shO_nil (shW_seq ?_)
   refine shW_condP rfl (fun c46 => ?_) (fun c46 => ?_)
   · obtain ⟨x, tl2, rfl, hx48, g49, hk47⟩ := Lst.succ hk41 c46
     rw [oyezlaw07_BookRepeated_1_l1] at r43
     refine shW_skip (shW_seq ?_)
     refine shW_block ?_
     refine wsr ?_
     obtain ⟨b50, o51, c52, vs53, ha54, hs55, hle56, rfl, hl57, hc58⟩ := RowR.at (iE_ok _) h_stands ((b26, .cells #[.int .i64 n, .int .i64 n2, .slice a8 n12 c9, .slice a14 n18 c15, .slice a35 n39 c36] 27 (0, 0)) :: (Lb10 ++ (Lb16 ++ (Lb37 ++ [])))) g49.1 hx48
     refine ov (v_indexO Try.underlying24 Try.sizeOf3 rfl ha54 rfl g49) rfl ?_
     refine ov (v_load Try.isAgg3 rfl hs55 (hc58 0 (by decide))) rfl ?_
     refine oa rfl rfl (shO_nil (shW_region ?_))
     refine ov (v_fieldAddr fa_27_4 rfl) rfl ?_
     refine ov (v_load Try.isAgg25 rfl (Has.own 0 rfl) rfl) rfl ?_
     refine ov (v_load Try.isAgg3 rfl (Has.frozen hb_hour) rfl) rfl ?_
     refine om rfl rfl ?_
     refine ov (v_load Try.isAgg3 rfl (Has.frozen hb_notice) rfl) rfl ?_
     refine ov (v_build (v := .agg #[.int .i64 hour, .int .i64 x, .int .i64 notice]) rfl (by intro w; kernel_rfl)) rfl ?_
     refine o_buildSlice (cs := #[.int .i64 hour, .int .i64 x, .int .i64 notice]) rfl rfl (buildSlice_all slt_25 [.agg #[.int .i64 hour, .int .i64 x, .int .i64 notice]] rfl (by decide) (by simp [Value.cells]) (by decide)) ?_; intro b59 hb59
     obtain ⟨u, h60, g61, r62⟩ := ap_ok r43; clear r43
     refine o_appZ (xs := u_cries2) (ys := [(hour, x, notice)]) (zs := u) rfl slt_25 rfl rfl (Nat.le_refl _) (fun _ => .c (.c (.s (.s .h)))) hz38 (SrcR.box (vss := [[.int .i64 hour, .int .i64 x, .int .i64 notice]]) (ys := [(hour, x, notice)]) 0 rfl (prE_ok (iE_ok _) (prE_ok (iE_ok _) (iE_ok _))) (.cons ⟨_, _, rfl, rfl, ⟨_, _, rfl, rfl, rfl⟩⟩ .nil) rfl rfl) h60 g61 (by decide) ?_; intro a63 n67 c64 Lb65 hz66
     refine kO (kd kr) ?_
     refine ov (v_fieldAddr fa_27_4 rfl) rfl ?_
     refine o_store (i := 0) Try.sizeOf25 rfl rfl rfl rfl (Nat.le_of_ble_eq_true rfl) ?_
     refine shO_L (L' := (b26, .cells #[.int .i64 n, .int .i64 n2, .slice a8 n12 c9, .slice a14 n18 c15, .slice a63 n67 c64] 27 (0, 0)) :: (Lb10 ++ (Lb16 ++ (Lb65 ++ [])))) rfl ?_
     refine shO_nil (inBlock_n (id := 1) (shW_region ?_))
     refine ov (v_add rfl rfl (Lst.r64 hk41 c46 (RowR.lt h_stands))) rfl ?_
     refine om rfl rfl (shO_nil ?_)
     subst hn42; exact le kr ⟨_, _, rfl, hk47, u, a63, n67, c64, Lb65, r62, rfl, rfl, (sc rfl (sc rfl (sc rfl (sc rfl (sc rfl (sc rfl (sc rfl (sc rfl (sn _))))))))), hz66⟩
   obtain rfl := Lst.zero hk41 c46
   rw [oyezlaw07_BookRepeated_1_l1] at r43
   refine shW_exit (andThen_exit (andThen_exit ?_))
   refine inBlock_exit ?_
   obtain rfl := inj1 r43
   exact mi kr ⟨a35, n39, c36, Lb37, rfl, rfl, (sc rfl (sc rfl (sc rfl (sc rfl (sn _))))), hz38⟩
 rintro e1 _ _ ⟨a27, n31, c28, Lb29, rfl, rfl, he69, hz30⟩
 refine shW_env _ he69 ?_; clear he69
 refine wsr ?_
 refine ov (v_loadA (cs := #[.int .i64 n, .int .i64 n2, .slice a8 n12 c9, .slice a14 n18 c15, .slice a27 n31 c28]) Try.isAgg27 Try.sizeOf27 rfl (Has.own 0 rfl) (Nat.le_of_ble_eq_true rfl) rfl) rfl ?_
 obtain rfl := (SlR.caps hz11).1
 refine shO_freezeR (Nat.le_refl _) (slE_ok (slE_ok (iE_ok _))) (fC fP) hz11 ?_; intro F70 hF71 h72
 replace h_houses2 := h_houses2.mono (iE_ok _) hF71
 replace hz17 := hz17.mono (iE_ok _) hF71
 replace hz30 := hz30.mono (prE_ok (iE_ok _) (prE_ok (iE_ok _) (iE_ok _))) hF71
 replace hb_b := hF71 _ _ hb_b
 replace hb_notice := hF71 _ _ hb_notice
 replace hb_houses := hF71 _ _ hb_houses
 obtain rfl := (SlR.caps hz17).1
 refine shO_freezeR (Nat.le_refl _) (iE_ok _) (fC fP) hz17 ?_; intro F73 hF74 h75
 replace h_houses2 := h_houses2.mono (iE_ok _) hF74
 replace h72 := h72.mono (slE_ok (slE_ok (iE_ok _))) hF74
 replace hz30 := hz30.mono (prE_ok (iE_ok _) (prE_ok (iE_ok _) (iE_ok _))) hF74
 replace hb_b := hF74 _ _ hb_b
 replace hb_notice := hF74 _ _ hb_notice
 replace hb_houses := hF74 _ _ hb_houses
 obtain rfl := (SlR.caps hz30).1
 refine shO_freezeR (Nat.le_refl _) (prE_ok (iE_ok _) (prE_ok (iE_ok _) (iE_ok _))) (fC fP) hz30 ?_; intro F76 hF77 h78
 replace h_houses2 := h_houses2.mono (iE_ok _) hF77
 replace h72 := h72.mono (slE_ok (slE_ok (iE_ok _))) hF77
 replace h75 := h75.mono (iE_ok _) hF77
 replace hb_b := hF77 _ _ hb_b
 replace hb_notice := hF77 _ _ hb_notice
 replace hb_houses := hF77 _ _ hb_houses
 obtain ⟨l4, n3, h79, r80⟩ := b2_ok r34; clear r34
 refine o_call0 rfl Try.call13 rfl rfl rfl (book_Verdicts_w h72 h75 h78 h79) ?_; rintro _ F81 _ hF82 hn83 ⟨a85, c86, rfl, rfl, h87⟩
 replace h_houses2 := h_houses2.mono (iE_ok _) hF82
 replace hb_b := hF82 _ _ hb_b
 replace hb_notice := hF82 _ _ hb_notice
 replace hb_houses := hF82 _ _ hb_houses
 refine shO_L (ln rfl) ?_
 refine om rfl rfl (ox rfl rfl rfl (ox rfl rfl rfl (oa rfl rfl (oa rfl rfl (shO_nil (shW_seq ?_))))))
 obtain ⟨k2, h88, r89⟩ := b1_ok r80; clear r80
 refine shW_join (fun e1 F1 L1 => F81 = F1 ∧ L1 = [] ∧ e1.sub [(1, .pointer (some ⟨b_b, 0, none⟩)), (3, .pointer (some ⟨b_notice, 0, none⟩)), (4, .pointer (some ⟨b_houses, 0, none⟩)), (11, .slice a85 l4.length c86), (46, .bool k2)]) ?_ ?_
 · clear r89
   refine shW_region (om rfl rfl ?_)
   refine ov (v_neq rfl rfl) rfl ?_
   refine om rfl rfl ?_
   by_cases c90 : n3 ≠ 0
   · have r91 := ite_t h88 c90; clear h88
     refine shO_off (b' := true) 40 rfl (Env.isT rfl c90) rfl rfl (shO_off (b' := true) 40 rfl (Env.isT rfl c90) rfl rfl (shO_off (b' := true) 40 rfl (Env.isT rfl c90) rfl rfl (shO_off (b' := true) 40 rfl (Env.isT rfl c90) rfl rfl (shO_off (b' := true) 40 rfl (Env.isT rfl c90) rfl rfl ?_))))
     refine ov (v_pick_t (evD_true rfl c90) rfl) rfl ?_
     refine shO_nil ?_
     obtain rfl := inj1 r91
     exact mi kn ⟨rfl, rfl, (sc rfl (sc rfl (sc rfl (sc rfl (sc rfl (sn _))))))⟩
   have r92 := ite_f h88 c90; clear h88
   refine shO_on (b := false) 40 rfl (Env.isF rfl c90) (om rfl rfl (shO_on (b := false) 40 rfl (Env.isF rfl c90) ?_))
   refine ov (v_lenS Try.underlying36 rfl) rfl ?_
   refine shO_on (b := false) 40 rfl (Env.isF rfl c90) ?_
   refine ov (v_fieldAddr fa_27_0 rfl) rfl ?_
   refine shO_on (b := false) 40 rfl (Env.isF rfl c90) ?_
   refine ov (v_load Try.isAgg3 rfl (Has.frozen hb_b) rfl) rfl ?_
   refine shO_on (b := false) 40 rfl (Env.isF rfl c90) ?_
   refine ov (v_neq rfl rfl) rfl ?_
   refine ov (v_pick_f (evD_false rfl c90) rfl) rfl ?_
   refine shO_nil ?_
   obtain rfl := inj1 r92
   exact mi kn ⟨rfl, rfl, (sc rfl (sc rfl (sc rfl (sc rfl (sc rfl (sn _))))))⟩
 rintro e1 _ _ ⟨rfl, rfl, he93⟩
 refine shW_env _ he93 ?_; clear he93
 refine shW_cond rfl (fun c94 => ?_) (fun c94 => ?_)
 · have r95 := bt r89 c94; clear r89
   refine wsr (oa rfl rfl (oa rfl rfl (shO_nil (shW_ret (andThen_ret ?_)))))
   refine q_res2 Try.results26 (res_tmp rfl) (res_tmp rfl) (sr) ?_
   obtain ⟨rfl, rfl⟩ := inj2 r95
   exact rfl
 have r96 := bf r89 c94; clear r89
 refine shW_skip ?_
 refine shW_join (fun e1 F1 L1 => oyezlaw07_BookRepeated_1_j2 = some (r, r2) ∧ F81 = F1 ∧ L1 = [] ∧ e1.sub []) ?_ ?_
 · refine wsr ?_
   refine ov (v_load Try.isAgg24 rfl (Has.frozen hb_houses) rfl) rfl ?_
   refine ov (v_lenS Try.underlying24 rfl) rfl ?_
   refine om rfl rfl (shO_nil ?_)
   refine shW_block ?_
   refine shW_lp (fun fu3 e1 F1 L1 => ∃ (tl3 : List Int) (k3 : Int), tl3.length = fu3 ∧ Lst houses2 k3 tl3 ∧ oyezlaw07_BookRepeated_1_l3 notices notice l4 tl3 = some (r, r2) ∧ F81 = F1 ∧ L1 = [] ∧ e1.sub [(1, .pointer (some ⟨b_b, 0, none⟩)), (3, .pointer (some ⟨b_notice, 0, none⟩)), (11, .slice a85 l4.length c86), (47, .slice houses2_a houses2.length houses2_c), (48, .int .i64 (houses2.length : Int)), (49, .int .i64 k3)]) _ (m0 kr ⟨_, _, rfl, Lst.start _, r96, rfl, rfl, (sc rfl (sc rfl (sc rfl (sc rfl (sc rfl (sc rfl (sn _)))))))⟩) ?_
   rintro fu3 e1 _ _ ⟨tl3, k3, hn98, hk97, r99, rfl, rfl, he100⟩
   refine shW_env _ he100 ?_; clear he100
   refine wsr ?_
   refine ov (v_lssK rfl rfl) rfl ?_
   refine shO_nil (shW_seq ?_)
   refine shW_condP rfl (fun c102 => ?_) (fun c102 => ?_)
   · obtain ⟨x2, tl4, rfl, hx104, g105, hk103⟩ := Lst.succ hk97 c102
     rw [oyezlaw07_BookRepeated_1_l3] at r99
     refine shW_skip (shW_seq ?_)
     refine shW_block ?_
     refine wsr ?_
     obtain ⟨b106, o107, c108, vs109, ha110, hs111, hle112, rfl, hl113, hc114⟩ := RowR.at (iE_ok _) h_houses2 ([]) g105.1 hx104
     refine ov (v_indexO Try.underlying24 Try.sizeOf3 rfl ha110 rfl g105) rfl ?_
     refine ov (v_load Try.isAgg3 rfl hs111 (hc114 0 (by decide))) rfl ?_
     refine oa rfl rfl (shO_nil (shW_seq ?_))
     refine wsd (by kernel_rfl) (by kernel_rfl) (by kernel_rfl) ?_
     refine qm rfl rfl (qm rfl rfl ?_)
     obtain ⟨x3, g115, hx116, r117⟩ := ix_ok r99; clear r99
     obtain ⟨b118, o119, c120, vs121, ha122, hs123, hle124, ⟨a127, c128, rfl, h129⟩, hl125, hc126⟩ := RowR.at (slE_ok (iE_ok _)) h87 ([]) g115.1 hx116
     refine qv (v_indexO Try.underlying36 Try.sizeOf47 rfl ha122 rfl g115) rfl ?_
     refine qv (v_load Try.isAgg47 rfl hs123 (hc126 0 (by decide))) rfl ?_
     refine qv (v_lenS Try.underlying47 rfl) rfl ?_
     refine qv (v_fieldAddr fa_27_1 rfl) rfl ?_
     refine qv (v_load Try.isAgg3 rfl (Has.frozen hb_b) rfl) rfl ?_
     refine qv (v_neq rfl rfl) rfl ?_
     refine shQ_nil ?_
     refine shW_condP rfl (fun c130 => ?_) (fun c130 => ?_)
     · have r131 := ite_t r117 c130; clear r117
       refine wsr (oa rfl rfl (oa rfl rfl (shO_nil (shW_ret (andThen_ret (inBlock_ret (andThen_ret (andThen_ret (inBlock_ret ?_)))))))))
       refine andThen_ret ?_
       refine q_res2 Try.results26 (res_tmp rfl) (res_tmp rfl) (sr) ?_
       obtain ⟨rfl, rfl⟩ := inj2 r131
       exact rfl
     have r132 := ite_f r117 c130; clear r117
     refine shW_skip ?_
     refine wsd (by kernel_rfl) (by kernel_rfl) (by kernel_rfl) ?_
     refine qm rfl rfl (qm rfl rfl ?_)
     obtain ⟨b133, o134, c135, vs136, ha137, hs138, hle139, ⟨a142, c143, rfl, h144⟩, hl140, hc141⟩ := RowR.at (slE_ok (iE_ok _)) h87 ([]) g115.1 hx116
     refine qv (v_indexO Try.underlying36 Try.sizeOf47 rfl ha137 rfl g115) rfl ?_
     refine qv (v_load Try.isAgg47 rfl hs138 (hc141 0 (by decide))) rfl ?_
     refine qv (v_load Try.isAgg3 rfl (Has.frozen hb_notice) rfl) rfl ?_
     obtain ⟨x4, g145, hx146, r147⟩ := ix_ok r132; clear r132
     obtain ⟨b148, o149, c150, vs151, ha152, hs153, hle154, rfl, hl155, hc156⟩ := RowR.at (iE_ok _) h144 ([]) g145.1 hx146
     refine qv (v_indexO Try.underlying47 Try.sizeOf48 rfl ha152 rfl g145) rfl ?_
     refine qv (v_load Try.isAgg48 rfl hs153 (hc156 0 (by decide))) rfl ?_
     refine qv (v_neq rfl rfl) rfl ?_
     refine shQ_nil ?_
     refine shW_condP rfl (fun c157 => ?_) (fun c157 => ?_)
     · have r158 := ite_t r147 c157; clear r147
       refine wsr (oa rfl rfl (oa rfl rfl (shO_nil (shW_ret (inBlock_ret (andThen_ret (andThen_ret (inBlock_ret (andThen_ret ?_)))))))))
       refine q_res2 Try.results26 (res_tmp rfl) (res_tmp rfl) (sr) ?_
       obtain ⟨rfl, rfl⟩ := inj2 r158
       exact rfl
     have r159 := ite_f r147 c157; clear r147
     refine shW_skip (inBlock_n (id := 3) (shW_region ?_))
     refine ov (v_add rfl rfl (Lst.r64 hk97 c102 (RowR.lt h_houses2))) rfl ?_
     refine om rfl rfl (shO_nil ?_)
     subst hn98; exact le kr ⟨_, _, rfl, hk103, r159, rfl, rfl, (sc rfl (sc rfl (sc rfl (sc rfl (sc rfl (sc rfl (sn _)))))))⟩
   obtain rfl := Lst.zero hk97 c102
   rw [oyezlaw07_BookRepeated_1_l3] at r99
   refine shW_exit (andThen_exit (andThen_exit ?_))
   refine inBlock_exit ?_
   exact mi kr ⟨r99, rfl, rfl, (sn _)⟩
 rintro e1 _ _ ⟨r160, rfl, rfl, he161⟩
 refine shW_env _ he161 ?_; clear he161
 rw [oyezlaw07_BookRepeated_1_j2] at r160
 refine wsr (oa rfl rfl (oa rfl rfl (shO_nil (shW_ret ?_))))
 refine q_res2 Try.results26 (res_tmp rfl) (res_tmp rfl) (sr) ?_
 obtain ⟨rfl, rfl⟩ := inj2 r160
 exact rfl
set_option maxHeartbeats 1000000 in
theorem oyezlaw07_BookRepeated_w {numbers_a : Option Addr} {numbers_c : Nat} {numbers : List Int} {tries_a : Option Addr} {tries_c : Nat} {tries : List Int} {which : Int} {F : FS} (h_numbers : RowR 1 (iE .u8) F numbers_a numbers_c numbers) (h_tries : RowR 1 (iE .u8) F tries_a tries_c tries) {r : Bool} (hr : oyezlaw07_BookRepeated numbers tries which = some r) :
    SpecV Try.prog 5 #[.slice numbers_a numbers.length numbers_c, .slice tries_a tries.length tries_c, .int .u8 which] F (.bool r) := by
 refine spec_of_shW (args := [.slice numbers_a numbers.length numbers_c, .slice tries_a tries.length tries_c, .int .u8 which]) Try.func5 rfl Try.ntmps5 (Nat.le_of_ble_eq_true rfl) ?_
 intro K _ _; rw [oyezlaw07_BookRepeated] at hr
 refine wsr (oa rfl rfl (nsr (om rfl rfl ?_)))
 obtain ⟨metal, at_, turn, h1, r2⟩ := b3_ok hr; clear hr
 refine o_call0 rfl Try.call10 rfl rfl rfl (oyezkit_Hang_w h_numbers h1) ?_; rintro _ F3 _ hF4 hn5 ⟨b7, a8, c9, rfl, rfl, h10⟩
 replace h_tries := h_tries.mono (iE_ok _) hF4
 refine shO_L (lb (ln rfl)) ?_
 obtain ⟨n, n2, l, l2, l3, l4, at_2, turn2, h11, r12⟩ := b8_ok r2; clear r2
 refine o_callG (Lb := [(b7, .cells #[.slice a8 metal.length c9, .int .i64 at_, .int .u32 turn] 83 (0, 0))]) (Lr := []) rfl Try.call9 rfl rfl rfl (pR) (oyezlaw07_Made_w h10 h11) ?_; rintro _ F13 _ hF14 hd16 hn15 ⟨a17, n21, c18, Lb19, a23, n27, c24, Lb25, a29, n33, c30, Lb31, a35, n39, c36, Lb37, rfl, rfl, hz20, hz26, hz32, hz38⟩
 replace h_tries := h_tries.mono (iE_ok _) hF14
 have hn41 := newp (Lb' := [(b7, .cells #[.slice a8 metal.length c9, .int .i64 at_2, .int .u32 turn2] 83 (0, 0))]) (by rfl) hd16 hn15
 replace hz20 := hz20.new fun p hp => hn41 p (by simp [hp])
 replace hz26 := hz26.new fun p hp => hn41 p (by simp [hp])
 replace hz32 := hz32.new fun p hp => hn41 p (by simp [hp])
 refine shO_L (lb (lp (lp (lp (lp (ln rfl)))))) ?_
 refine om rfl rfl (ox rfl rfl rfl (ox rfl rfl rfl ?_))
 refine o_alloc rfl Try.zeroValue27 ?_; intro b42 hb42
 refine o_storeA (i := 0) Try.sizeOf27 rfl rfl rfl (by simp [Value.oneCell']) rfl (Nat.le_of_ble_eq_true rfl) ?_
 refine shO_L (L' := (b42, .cells #[.int .i64 n, .int .i64 n2, .slice a17 n21 c18, .slice a23 n27 c24, .slice a29 n33 c30] 27 (0, 0)) :: ((b7, .cells #[.slice a8 metal.length c9, .int .i64 at_2, .int .u32 turn2] 83 (0, 0)) :: (Lb19 ++ (Lb25 ++ (Lb31 ++ (Lb37 ++ [])))))) rfl ?_
 refine oa rfl rfl (nsr (om rfl rfl ?_))
 obtain ⟨metal2, at_3, turn3, h43, r44⟩ := b3_ok r12; clear r12
 refine o_call0 rfl Try.call10 rfl rfl rfl (oyezkit_Hang_w h_tries h43) ?_; rintro _ F45 _ hF46 hn47 ⟨b49, a50, c51, rfl, rfl, h52⟩
 replace hz20 := hz20.mono (slE_ok (slE_ok (iE_ok _))) hF46
 replace hz26 := hz26.mono (iE_ok _) hF46
 replace hz32 := hz32.mono (prE_ok (iE_ok _) (prE_ok (iE_ok _) (iE_ok _))) hF46
 refine shO_L (lb (ln rfl)) ?_
 refine oa rfl rfl (shO_nil (shW_seq ?_))
 refine shW_drawM [(.pre, 11), (.pre, 12), (.still, 0), (.still, 1), (.still, 2), (.still, 3), (.still, 4), (.still, 5), (.still, 6), (.still, 7), (.still, 8), (.still, 9), (.seq, 10), (.alloc (.cells (.int .i64 0 : Value).cells 3 (0, 0)) (fun b => .pointer (some ⟨b, 0, none⟩)) [], 11), (.alloc (.cells (.int .i64 0 : Value).cells 3 (0, 0)) (fun b => .pointer (some ⟨b, 0, none⟩)) [], 12), (.seq, 13), (.seq, 14)] (by kernel_rfl) (by kernel_rfl) (⟨⟨_, _, rfl, rfl, rfl, rfl, rfl, mk_alloc Try.zeroValue3⟩, ⟨⟨_, _, rfl, rfl, rfl, rfl, rfl, mk_alloc Try.zeroValue3⟩, trivial⟩⟩) (by rfl) (by kernel_rfl) ?_
 refine ⟨⟨[], rfl, sn _, by kernel_rfl⟩, ?_⟩
 refine ⟨⟨[], rfl, sn _, by kernel_rfl⟩, ?_⟩
 refine shM_v (v := .int .u8 which) (ek := [(2, .int .u8 which)]) (Ls := []) rfl rfl rfl rfl ((sc rfl (sn _))) (by kernel_rfl) sm (fun H F' L' hF' hL' => v_move rfl) ?_
 obtain ⟨g53, r54⟩ := gd_ok r44; clear r44
 refine shM_v (v := .int .i64 which) (ek := [(31, .int .u8 which)]) (Ls := []) rfl rfl rfl rfl ((sc rfl (sn _))) (by kernel_rfl) sm (fun H F' L' hF' hL' => i_conv Try.underlying5 Try.underlying3 rfl g53) ?_
 refine shM_v (v := .pointer (some ⟨b42, 3, none⟩)) (ek := [(7, .pointer (some ⟨b42, 0, none⟩))]) (Ls := []) rfl rfl rfl rfl ((sc rfl (sn _))) (by kernel_rfl) sm (fun H F' L' hF' hL' => v_fieldAddr fa_27_3 rfl) ?_
 refine shM_v (v := .slice a23 n27 c24) (ek := [(33, .pointer (some ⟨b42, 3, none⟩))]) (Ls := [(b42, .cells #[.int .i64 n, .int .i64 n2, .slice a17 n21 c18, .slice a23 n27 c24, .slice a29 n33 c30] 27 (0, 0))]) rfl rfl rfl rfl ((sc rfl (sn _))) (by kernel_rfl) (s0 (s1 (s2 (s1 (s3 (s3 (s3 (s3 sr)))))))) (fun H F' L' hF' hL' => v_load Try.isAgg24 rfl ((Has.own 0 rfl).ext hF' hL') rfl) ?_
 refine shM_v (v := .int .i64 (l2.length : Int)) (ek := [(34, .slice a23 n27 c24)]) (Ls := []) rfl rfl rfl rfl ((sc rfl (sn _))) (by kernel_rfl) sm (fun H F' L' hF' hL' => (v_lenS Try.underlying24 rfl).i (SlR.lenI hz26)) ?_
 obtain ⟨g55, r56⟩ := gd_ok r54; clear r54
 refine shM_v (v := .int .i64 (Int.tmod which (l2.length : Int))) (ek := [(32, .int .i64 which), (35, .int .i64 (l2.length : Int))]) (Ls := []) rfl rfl rfl rfl ((sc rfl (sc rfl (sn _)))) (by kernel_rfl) sm (fun H F' L' hF' hL' => v_remT rfl rfl g55) ?_
 refine shM_v (v := .pointer (some ⟨b49, 0, none⟩)) (ek := [(9, .pointer (some ⟨b49, 0, none⟩))]) (Ls := []) rfl rfl rfl rfl ((sc rfl (sn _))) (by kernel_rfl) sm (fun H F' L' hF' hL' => v_move rfl) ?_
 refine shM_v (v := .pointer (some ⟨b42, 1, none⟩)) (ek := [(7, .pointer (some ⟨b42, 0, none⟩))]) (Ls := []) rfl rfl rfl rfl ((sc rfl (sn _))) (by kernel_rfl) sm (fun H F' L' hF' hL' => v_fieldAddr fa_27_1 rfl) ?_
 refine shM_v (v := .int .i64 n2) (ek := [(38, .pointer (some ⟨b42, 1, none⟩))]) (Ls := [(b42, .cells #[.int .i64 n, .int .i64 n2, .slice a17 n21 c18, .slice a23 n27 c24, .slice a29 n33 c30] 27 (0, 0))]) rfl rfl rfl rfl ((sc rfl (sn _))) (by kernel_rfl) (s0 (s1 (s2 (s1 (s3 (s3 (s3 (s3 sr)))))))) (fun H F' L' hF' hL' => v_load Try.isAgg3 rfl ((Has.own 0 rfl).ext hF' hL') rfl) ?_
 obtain ⟨g57, r58⟩ := gd_ok r56; clear r56
 refine shM_v (v := .int .i64 (n2 - 1)) (ek := [(39, .int .i64 n2)]) (Ls := []) rfl rfl rfl rfl ((sc rfl (sn _))) (by kernel_rfl) sm (fun H F' L' hF' hL' => v_sub rfl rfl g57) ?_
 refine ⟨_, [(37, .pointer (some ⟨b49, 0, none⟩)), (40, .int .i64 (n2 - 1))], rfl, rfl, (sc rfl (sc rfl (sn _))), by kernel_rfl, ?_⟩; intro H
 obtain ⟨n3, at_4, turn4, h59, r60⟩ := b3_ok r58; clear r58
 refine o_callG (Lb := [(b49, .cells #[.slice a50 metal2.length c51, .int .i64 at_3, .int .u32 turn3] 83 (0, 0))]) (Lr := (b42, .cells #[.int .i64 n, .int .i64 n2, .slice a17 n21 c18, .slice a23 n27 c24, .slice a29 n33 c30] 27 (0, 0)) :: ((b7, .cells #[.slice a8 metal.length c9, .int .i64 at_2, .int .u32 turn2] 83 (0, 0)) :: (Lb19 ++ (Lb25 ++ (Lb31 ++ (Lb37 ++ [])))))) rfl Try.call11 rfl rfl rfl (pR) (oyezkit_Bell_Stroke_w h52 h59) ?_; rintro _ F61 _ hF62 hd64 hn63 ⟨rfl, rfl⟩
 replace h52 := h52.mono (iE_ok _) hF62
 replace hz20 := hz20.mono (slE_ok (slE_ok (iE_ok _))) hF62
 replace hz26 := hz26.mono (iE_ok _) hF62
 replace hz32 := hz32.mono (prE_ok (iE_ok _) (prE_ok (iE_ok _) (iE_ok _))) hF62
 refine shO_L (lb (ln rfl)) ?_
 refine shO_nil ⟨_, rfl, hF62, [5, 4, 3, 2, 1, 0], by kernel_rfl, .inl (.inr (fun d h => by cases h; rfl)), (List.forall_mem_cons.2 ⟨sm, (List.forall_mem_cons.2 ⟨sm, (List.forall_mem_cons.2 ⟨s0 (s1 (s2 (s1 (s3 (s3 (s3 (s3 sr))))))), (List.forall_mem_cons.2 ⟨sm, (List.forall_mem_cons.2 ⟨sm, (List.forall_mem_cons.2 ⟨sm, (fun _ h => absurd h List.not_mem_nil)⟩)⟩)⟩)⟩)⟩)⟩), ?_⟩
 refine shM_ptr rfl ?_; intro b65 hb65
 refine shM_L (L' := (b65, .cells #[.int .i64 0] 3 (0, 0)) :: ((b49, .cells #[.slice a50 metal2.length c51, .int .i64 at_4, .int .u32 turn4] 83 (0, 0)) :: ((b42, .cells #[.int .i64 n, .int .i64 n2, .slice a17 n21 c18, .slice a23 n27 c24, .slice a29 n33 c30] 27 (0, 0)) :: ((b7, .cells #[.slice a8 metal.length c9, .int .i64 at_2, .int .u32 turn2] 83 (0, 0)) :: (Lb19 ++ (Lb25 ++ (Lb31 ++ (Lb37 ++ [])))))))) rfl ?_
 refine shM_ptr rfl ?_; intro b66 hb66
 refine shM_L (L' := (b66, .cells #[.int .i64 0] 3 (0, 0)) :: ((b65, .cells #[.int .i64 0] 3 (0, 0)) :: ((b49, .cells #[.slice a50 metal2.length c51, .int .i64 at_4, .int .u32 turn4] 83 (0, 0)) :: ((b42, .cells #[.int .i64 n, .int .i64 n2, .slice a17 n21 c18, .slice a23 n27 c24, .slice a29 n33 c30] 27 (0, 0)) :: ((b7, .cells #[.slice a8 metal.length c9, .int .i64 at_2, .int .u32 turn2] 83 (0, 0)) :: (Lb19 ++ (Lb25 ++ (Lb31 ++ (Lb37 ++ []))))))))) rfl ?_
 refine ⟨_, [(10, .pointer (some ⟨b65, 0, none⟩)), (36, .int .i64 (Int.tmod which (l2.length : Int)))], rfl, rfl, (sc rfl (sc rfl (sn _))), by kernel_rfl, ?_⟩; intro H
 refine o_store (i := 1) Try.sizeOf3 rfl rfl rfl rfl (Nat.le_of_ble_eq_true rfl) ?_
 refine shO_L (L' := (b66, .cells #[.int .i64 0] 3 (0, 0)) :: ((b65, .cells #[.int .i64 (Int.tmod which (l2.length : Int))] 3 (0, 0)) :: ((b49, .cells #[.slice a50 metal2.length c51, .int .i64 at_4, .int .u32 turn4] 83 (0, 0)) :: ((b42, .cells #[.int .i64 n, .int .i64 n2, .slice a17 n21 c18, .slice a23 n27 c24, .slice a29 n33 c30] 27 (0, 0)) :: ((b7, .cells #[.slice a8 metal.length c9, .int .i64 at_2, .int .u32 turn2] 83 (0, 0)) :: (Lb19 ++ (Lb25 ++ (Lb31 ++ (Lb37 ++ []))))))))) rfl ?_
 refine shO_nil ⟨undef, rfl, FExt.refl _, [], by kernel_rfl, .inl (.inl rfl), (fun _ h => absurd h List.not_mem_nil), ?_⟩
 refine ⟨_, [(11, .pointer (some ⟨b66, 0, none⟩)), (41, .int .i64 n3)], rfl, rfl, (sc rfl (sc rfl (sn _))), by kernel_rfl, ?_⟩; intro H
 refine o_store (i := 0) Try.sizeOf3 rfl rfl rfl rfl (Nat.le_of_ble_eq_true rfl) ?_
 refine shO_L (L' := (b66, .cells #[.int .i64 n3] 3 (0, 0)) :: ((b65, .cells #[.int .i64 (Int.tmod which (l2.length : Int))] 3 (0, 0)) :: ((b49, .cells #[.slice a50 metal2.length c51, .int .i64 at_4, .int .u32 turn4] 83 (0, 0)) :: ((b42, .cells #[.int .i64 n, .int .i64 n2, .slice a17 n21 c18, .slice a23 n27 c24, .slice a29 n33 c30] 27 (0, 0)) :: ((b7, .cells #[.slice a8 metal.length c9, .int .i64 at_2, .int .u32 turn2] 83 (0, 0)) :: (Lb19 ++ (Lb25 ++ (Lb31 ++ (Lb37 ++ []))))))))) rfl ?_
 refine shO_nil ⟨undef, rfl, FExt.refl _, [], by kernel_rfl, .inl (.inl rfl), (fun _ h => absurd h List.not_mem_nil), ?_⟩
 refine shM_nil ?_
 refine shW_seq ?_
 refine shW_drawM [(.pre, 9), (.still, 0), (.still, 1), (.still, 2), (.still, 4), (.still, 5), (.still, 6), (.seq, 3), (.seq, 7), (.seq, 8), (.alloc (.cells (.slice none 0 0 : Value).cells 24 (0, 0)) (fun b => .pointer (some ⟨b, 0, none⟩)) [], 9), (.seq, 10)] (by kernel_rfl) (by kernel_rfl) (⟨⟨_, _, rfl, rfl, rfl, rfl, rfl, mk_alloc Try.zeroValue24⟩, trivial⟩) (by rfl) (by kernel_rfl) ?_
 refine ⟨⟨[], rfl, sn _, by kernel_rfl⟩, ?_⟩
 refine shM_v (v := .pointer (some ⟨b49, 0, none⟩)) (ek := [(9, .pointer (some ⟨b49, 0, none⟩))]) (Ls := []) rfl rfl rfl rfl ((sc rfl (sn _))) (by kernel_rfl) sm (fun H F' L' hF' hL' => v_move rfl) ?_
 refine shM_v (v := .pointer (some ⟨b42, 0, none⟩)) (ek := [(7, .pointer (some ⟨b42, 0, none⟩))]) (Ls := []) rfl rfl rfl rfl ((sc rfl (sn _))) (by kernel_rfl) sm (fun H F' L' hF' hL' => v_fieldAddr fa_27_0 rfl) ?_
 refine shM_v (v := .int .i64 n) (ek := [(43, .pointer (some ⟨b42, 0, none⟩))]) (Ls := [(b42, .cells #[.int .i64 n, .int .i64 n2, .slice a17 n21 c18, .slice a23 n27 c24, .slice a29 n33 c30] 27 (0, 0))]) rfl rfl rfl rfl ((sc rfl (sn _))) (by kernel_rfl) (s0 (s1 (s1 (s1 (s2 (s1 (s3 (s3 (s3 (s3 sr)))))))))) (fun H F' L' hF' hL' => v_load Try.isAgg3 rfl ((Has.own 0 rfl).ext hF' hL') rfl) ?_
 refine shM_v (v := .pointer (some ⟨b49, 0, none⟩)) (ek := [(9, .pointer (some ⟨b49, 0, none⟩))]) (Ls := []) rfl rfl rfl rfl ((sc rfl (sn _))) (by kernel_rfl) sm (fun H F' L' hF' hL' => v_move rfl) ?_
 refine shM_v (v := .pointer (some ⟨b42, 0, none⟩)) (ek := [(7, .pointer (some ⟨b42, 0, none⟩))]) (Ls := []) rfl rfl rfl rfl ((sc rfl (sn _))) (by kernel_rfl) sm (fun H F' L' hF' hL' => v_fieldAddr fa_27_0 rfl) ?_
 refine shM_v (v := .int .i64 n) (ek := [(47, .pointer (some ⟨b42, 0, none⟩))]) (Ls := [(b42, .cells #[.int .i64 n, .int .i64 n2, .slice a17 n21 c18, .slice a23 n27 c24, .slice a29 n33 c30] 27 (0, 0))]) rfl rfl rfl rfl ((sc rfl (sn _))) (by kernel_rfl) (s0 (s1 (s1 (s1 (s2 (s1 (s3 (s3 (s3 (s3 sr)))))))))) (fun H F' L' hF' hL' => v_load Try.isAgg3 rfl ((Has.own 0 rfl).ext hF' hL') rfl) ?_
 refine ⟨_, [(42, .pointer (some ⟨b49, 0, none⟩)), (44, .int .i64 n)], rfl, rfl, (sc rfl (sc rfl (sn _))), by kernel_rfl, ?_⟩; intro H
 obtain ⟨l5, at_5, turn5, h67, r68⟩ := b3_ok r60; clear r60
 refine o_callG (Lb := [(b49, .cells #[.slice a50 metal2.length c51, .int .i64 at_4, .int .u32 turn4] 83 (0, 0))]) (Lr := (b66, .cells #[.int .i64 n3] 3 (0, 0)) :: ((b65, .cells #[.int .i64 (Int.tmod which (l2.length : Int))] 3 (0, 0)) :: ((b42, .cells #[.int .i64 n, .int .i64 n2, .slice a17 n21 c18, .slice a23 n27 c24, .slice a29 n33 c30] 27 (0, 0)) :: ((b7, .cells #[.slice a8 metal.length c9, .int .i64 at_2, .int .u32 turn2] 83 (0, 0)) :: (Lb19 ++ (Lb25 ++ (Lb31 ++ (Lb37 ++ [])))))))) rfl Try.call23 rfl rfl rfl (((fC (fC fO)).trans (pC pR))) (oyezkit_Bell_Rung_w h52 h67) ?_; rintro _ F69 _ hF70 hd72 hn71 ⟨a73, n77, c74, Lb75, rfl, rfl, hz76⟩
 replace h52 := h52.mono (iE_ok _) hF70
 replace hz20 := hz20.mono (slE_ok (slE_ok (iE_ok _))) hF70
 replace hz26 := hz26.mono (iE_ok _) hF70
 replace hz32 := hz32.mono (prE_ok (iE_ok _) (prE_ok (iE_ok _) (iE_ok _))) hF70
 have hn79 := newp (Lb' := [(b49, .cells #[.slice a50 metal2.length c51, .int .i64 at_5, .int .u32 turn5] 83 (0, 0))]) (by rfl) hd72 hn71
 replace hz76 := hz76.new fun p hp => hn79 p (by simp [hp])
 refine shO_L (lb (lp (ln rfl))) ?_
 refine kO (kc (kf (fS fO) (kf (fS fO) (kf (fS fO) (kf (fS fO) kr))))) ?_
 refine shO_nil ⟨_, rfl, hF70, [6, 5, 4], by kernel_rfl, .inl (.inr (fun d h => by cases h; rfl)), (List.forall_mem_cons.2 ⟨s0 (s1 (s1 (s1 (s2 (s1 (s3 (s3 (s3 (s3 (s3 sr)))))))))), (List.forall_mem_cons.2 ⟨sm, (List.forall_mem_cons.2 ⟨sm, (fun _ h => absurd h List.not_mem_nil)⟩)⟩)⟩), ?_⟩
 refine ⟨_, [(46, .pointer (some ⟨b49, 0, none⟩)), (48, .int .i64 n)], rfl, rfl, (sc rfl (sc rfl (sn _))), by kernel_rfl, ?_⟩; intro H
 obtain ⟨n4, at_6, turn6, h80, r81⟩ := b3_ok r68; clear r68
 refine o_callG (Lb := [(b49, .cells #[.slice a50 metal2.length c51, .int .i64 at_5, .int .u32 turn5] 83 (0, 0))]) (Lr := (b66, .cells #[.int .i64 n3] 3 (0, 0)) :: ((b65, .cells #[.int .i64 (Int.tmod which (l2.length : Int))] 3 (0, 0)) :: ((b42, .cells #[.int .i64 n, .int .i64 n2, .slice a17 n21 c18, .slice a23 n27 c24, .slice a29 n33 c30] 27 (0, 0)) :: ((b7, .cells #[.slice a8 metal.length c9, .int .i64 at_2, .int .u32 turn2] 83 (0, 0)) :: (Lb75 ++ (Lb19 ++ (Lb25 ++ (Lb31 ++ (Lb37 ++ []))))))))) rfl Try.call11 rfl rfl rfl (pR) (oyezkit_Bell_Stroke_w h52 h80) ?_; rintro _ F82 _ hF83 hd85 hn84 ⟨rfl, rfl⟩
 replace h52 := h52.mono (iE_ok _) hF83
 replace hz20 := hz20.mono (slE_ok (slE_ok (iE_ok _))) hF83
 replace hz26 := hz26.mono (iE_ok _) hF83
 replace hz32 := hz32.mono (prE_ok (iE_ok _) (prE_ok (iE_ok _) (iE_ok _))) hF83
 replace hz76 := hz76.mono (iE_ok _) hF83
 refine shO_L (lb (ln rfl)) ?_
 refine shO_nil ⟨_, rfl, hF83, [], by kernel_rfl, .inl (.inl rfl), (fun _ h => absurd h List.not_mem_nil), ?_⟩
 refine ⟨_, [(45, .slice a73 n77 c74), (49, .int .i64 n4)], rfl, rfl, (sc rfl (sc rfl (sn _))), by kernel_rfl, ?_⟩; intro H
 obtain ⟨g86, r87⟩ := gd_ok r81; clear r81
 obtain ⟨l6, h88, r89⟩ := bv_ok r87; clear r87
 refine o_sliceZ (l := 0) (h := n4) (zs := l6) rfl slt_24 (iE_ok _) rfl (.inl ⟨rfl, rfl⟩) (.inr ⟨_, rfl, rfl⟩) (fun _ => .c (.c (.c (.c (.c .h))))) hz76 g86 h88 ?_; intro a90 n93 c91 Lb94 h92
 refine shO_nil ⟨_, rfl, FExt.refl _, [], by kernel_rfl, .inl (.inl rfl), (fun _ h => absurd h List.not_mem_nil), ?_⟩
 refine shM_ptr rfl ?_; intro b96 hb96
 refine shM_L (L' := (b96, .cells #[.slice none 0 0] 24 (0, 0)) :: ((b49, .cells #[.slice a50 metal2.length c51, .int .i64 at_6, .int .u32 turn6] 83 (0, 0)) :: ((b66, .cells #[.int .i64 n3] 3 (0, 0)) :: ((b65, .cells #[.int .i64 (Int.tmod which (l2.length : Int))] 3 (0, 0)) :: ((b42, .cells #[.int .i64 n, .int .i64 n2, .slice a17 n21 c18, .slice a23 n27 c24, .slice a29 n33 c30] 27 (0, 0)) :: ((b7, .cells #[.slice a8 metal.length c9, .int .i64 at_2, .int .u32 turn2] 83 (0, 0)) :: (Lb94 ++ (Lb19 ++ (Lb25 ++ (Lb31 ++ (Lb37 ++ []))))))))))) rfl ?_
 refine ⟨_, [(12, .pointer (some ⟨b96, 0, none⟩)), (50, .slice a90 n93 c91)], rfl, rfl, (sc rfl (sc rfl (sn _))), by kernel_rfl, ?_⟩; intro H
 refine o_store (i := 0) Try.sizeOf24 rfl rfl rfl rfl (Nat.le_of_ble_eq_true rfl) ?_
 refine shO_L (L' := (b96, .cells #[.slice a90 n93 c91] 24 (0, 0)) :: ((b49, .cells #[.slice a50 metal2.length c51, .int .i64 at_6, .int .u32 turn6] 83 (0, 0)) :: ((b66, .cells #[.int .i64 n3] 3 (0, 0)) :: ((b65, .cells #[.int .i64 (Int.tmod which (l2.length : Int))] 3 (0, 0)) :: ((b42, .cells #[.int .i64 n, .int .i64 n2, .slice a17 n21 c18, .slice a23 n27 c24, .slice a29 n33 c30] 27 (0, 0)) :: ((b7, .cells #[.slice a8 metal.length c9, .int .i64 at_2, .int .u32 turn2] 83 (0, 0)) :: (Lb94 ++ (Lb19 ++ (Lb25 ++ (Lb31 ++ (Lb37 ++ []))))))))))) rfl ?_
 refine shO_nil ⟨undef, rfl, FExt.refl _, [], by kernel_rfl, .inl (.inl rfl), (fun _ h => absurd h List.not_mem_nil), ?_⟩
 refine shM_nil ?_
 refine wsr ?_
 refine ov (v_loadA (cs := #[.int .i64 n, .int .i64 n2, .slice a17 n21 c18, .slice a23 n27 c24, .slice a29 n33 c30]) Try.isAgg27 Try.sizeOf27 rfl (Has.own 4 rfl) (Nat.le_of_ble_eq_true rfl) rfl) rfl ?_
 refine ov (v_load Try.isAgg3 rfl (Has.own 2 rfl) rfl) rfl ?_
 refine ov (v_load Try.isAgg3 rfl (Has.own 3 rfl) rfl) rfl ?_
 refine ov (v_load Try.isAgg24 rfl (Has.own 0 rfl) rfl) rfl ?_
 obtain rfl := (SlR.caps hz20).1
 refine shO_freezeR (Nat.le_refl _) (slE_ok (slE_ok (iE_ok _))) (fC (fC (fC (fC (fC (fC (fS fP))))))) hz20 ?_; intro F97 hF98 h99
 replace h52 := h52.mono (iE_ok _) hF98
 replace hz26 := hz26.mono (iE_ok _) hF98
 replace hz32 := hz32.mono (prE_ok (iE_ok _) (prE_ok (iE_ok _) (iE_ok _))) hF98
 replace h92 := h92.mono (iE_ok _) hF98
 obtain rfl := (SlR.caps hz26).1
 refine shO_freezeR (Nat.le_refl _) (iE_ok _) (fC (fC (fC (fC (fC (fC (fS fP))))))) hz26 ?_; intro F100 hF101 h102
 replace h52 := h52.mono (iE_ok _) hF101
 replace h99 := h99.mono (slE_ok (slE_ok (iE_ok _))) hF101
 replace hz32 := hz32.mono (prE_ok (iE_ok _) (prE_ok (iE_ok _) (iE_ok _))) hF101
 replace h92 := h92.mono (iE_ok _) hF101
 obtain rfl := (SlR.caps hz32).1
 refine shO_freezeR (Nat.le_refl _) (prE_ok (iE_ok _) (prE_ok (iE_ok _) (iE_ok _))) (fC (fC (fC (fC (fC (fC (fS fP))))))) hz32 ?_; intro F103 hF104 h105
 replace h52 := h52.mono (iE_ok _) hF104
 replace h99 := h99.mono (slE_ok (slE_ok (iE_ok _))) hF104
 replace h102 := h102.mono (iE_ok _) hF104
 replace h92 := h92.mono (iE_ok _) hF104
 obtain rfl := (SlR.caps h92).1
 refine shO_freezeR (Nat.le_refl _) (iE_ok _) (fC (fC (fC (fC (fC (fC fP)))))) h92 ?_; intro F106 hF107 h108
 replace h52 := h52.mono (iE_ok _) hF107
 replace h99 := h99.mono (slE_ok (slE_ok (iE_ok _))) hF107
 replace h102 := h102.mono (iE_ok _) hF107
 replace h105 := h105.mono (prE_ok (iE_ok _) (prE_ok (iE_ok _) (iE_ok _))) hF107
 obtain ⟨l7, n5, h109, r110⟩ := b2_ok r89; clear r89
 refine o_call0 rfl Try.call24 rfl rfl rfl (book_Again_w h99 h102 h105 h108 h109) ?_; rintro _ F111 _ hF112 hn113 ⟨a115, c116, rfl, rfl, h117⟩
 replace h52 := h52.mono (iE_ok _) hF112
 replace h99 := h99.mono (slE_ok (slE_ok (iE_ok _))) hF112
 replace h102 := h102.mono (iE_ok _) hF112
 replace h105 := h105.mono (prE_ok (iE_ok _) (prE_ok (iE_ok _) (iE_ok _))) hF112
 replace h108 := h108.mono (iE_ok _) hF112
 refine shO_L (ln rfl) ?_
 refine om rfl rfl (ox rfl rfl rfl (ox rfl rfl rfl (oa rfl rfl (oa rfl rfl (shO_nil (shW_seq ?_))))))
 obtain ⟨k, h118, r119⟩ := b1_ok r110; clear r110
 refine shW_join (fun e1 F1 L1 => F111 = F1 ∧ L1 = [(b96, .cells #[.slice a90 l6.length c91] 24 (0, 0)), (b49, .cells #[.slice a50 metal2.length c51, .int .i64 at_6, .int .u32 turn6] 83 (0, 0)), (b66, .cells #[.int .i64 n3] 3 (0, 0)), (b65, .cells #[.int .i64 (Int.tmod which (l2.length : Int))] 3 (0, 0)), (b42, .cells #[.int .i64 n, .int .i64 n2, .slice a17 l.length c18, .slice a23 l2.length c24, .slice a29 l3.length c30] 27 (0, 0))] ∧ e1.sub [(7, .pointer (some ⟨b42, 0, none⟩)), (9, .pointer (some ⟨b49, 0, none⟩)), (10, .pointer (some ⟨b65, 0, none⟩)), (11, .pointer (some ⟨b66, 0, none⟩)), (12, .pointer (some ⟨b96, 0, none⟩)), (13, .slice a115 l7.length c116), (14, .int .i64 n5), (77, .bool k)]) ?_ ?_
 · clear r119
   refine shW_region (om rfl rfl ?_)
   refine ov (v_neq rfl rfl) rfl ?_
   refine om rfl rfl ?_
   by_cases c120 : n5 ≠ 0
   · have r121 := ite_t h118 c120; clear h118
     refine shO_on (b := true) 61 rfl (Env.isT rfl c120) (om rfl rfl (shO_on (b := true) 61 rfl (Env.isT rfl c120) ?_))
     refine ov (v_neq rfl rfl) rfl ?_
     refine ov (v_pick_t (evD_true rfl c120) rfl) rfl ?_
     refine om rfl rfl ?_
     by_cases c122 : n5 ≠ 6
     · have r123 := ite_t r121 c122; clear r121
       refine shO_off (b' := true) 65 rfl (Env.isT rfl c122) rfl rfl (shO_off (b' := true) 65 rfl (Env.isT rfl c122) rfl rfl (shO_off (b' := true) 65 rfl (Env.isT rfl c122) rfl rfl (shO_off (b' := true) 65 rfl (Env.isT rfl c122) rfl rfl (shO_off (b' := true) 65 rfl (Env.isT rfl c122) rfl rfl (shO_off (b' := true) 65 rfl (Env.isT rfl c122) rfl rfl ?_)))))
       refine ov (v_pick_t (evD_true rfl c122) rfl) rfl ?_
       refine om rfl rfl (shO_off (b' := true) 73 rfl rfl rfl rfl (shO_off (b' := true) 73 rfl rfl rfl rfl (shO_off (b' := true) 73 rfl rfl rfl rfl ?_)))
       refine ov (v_pick_t rfl rfl) rfl ?_
       refine shO_nil ?_
       obtain rfl := inj1 r123
       exact mi (kc (kc (kc (kc (kc kn))))) ⟨rfl, rfl, (sc rfl (sc rfl (sc rfl (sc rfl (sc rfl (sc rfl (sc rfl (sc rfl (sn _)))))))))⟩
     have r124 := ite_f r121 c122; clear r121
     refine shO_on (b := false) 65 rfl (Env.isF rfl c122) (om rfl rfl (shO_on (b := false) 65 rfl (Env.isF rfl c122) ?_))
     refine ov (v_lenS Try.underlying24 rfl) rfl ?_
     refine shO_on (b := false) 65 rfl (Env.isF rfl c122) ?_
     refine ov (v_fieldAddr fa_27_2 rfl) rfl ?_
     refine shO_on (b := false) 65 rfl (Env.isF rfl c122) ?_
     refine ov (v_load Try.isAgg23 rfl (Has.own 4 rfl) rfl) rfl ?_
     refine shO_on (b := false) 65 rfl (Env.isF rfl c122) ?_
     refine ov (v_lenS Try.underlying23 rfl) rfl ?_
     refine shO_on (b := false) 65 rfl (Env.isF rfl c122) ?_
     refine ov (v_gtrK rfl rfl) rfl ?_
     refine ov (v_pick_f (evD_false rfl c122) rfl) rfl ?_
     refine om rfl rfl ?_
     by_cases c125 : (l.length : Int) < (l7.length : Int)
     · have r126 := ite_t r124 c125; clear r124
       refine shO_off (b' := true) 73 rfl (Env.isT rfl c125) rfl rfl (shO_off (b' := true) 73 rfl (Env.isT rfl c125) rfl rfl (shO_off (b' := true) 73 rfl (Env.isT rfl c125) rfl rfl ?_))
       refine ov (v_pick_t (evD_true rfl c125) rfl) rfl ?_
       refine shO_nil ?_
       obtain rfl := inj1 r126
       exact mi (kc (kc (kc (kc (kc kn))))) ⟨rfl, rfl, (sc rfl (sc rfl (sc rfl (sc rfl (sc rfl (sc rfl (sc rfl (sc rfl (sn _)))))))))⟩
     have r127 := ite_f r124 c125; clear r124
     refine shO_on (b := false) 73 rfl (Env.isF rfl c125) (om rfl rfl (shO_on (b := false) 73 rfl (Env.isF rfl c125) ?_))
     obtain ⟨ok, h128, r129⟩ := b1_ok r127; clear r127
     refine o_callV rfl Try.call25 rfl rfl rfl (slices_IsSorted_int_int_w h117 h128) ?_
     refine shO_on (b := false) 73 rfl (Env.isF rfl c125) ?_
     refine ov (v_notB rfl) rfl ?_
     refine ov (v_pick_f (evD_false rfl c125) rfl) rfl ?_
     refine shO_nil ?_
     obtain rfl := inj1 r129
     exact mi (kc (kc (kc (kc (kc kn))))) ⟨rfl, rfl, (sc rfl (sc rfl (sc rfl (sc rfl (sc rfl (sc rfl (sc rfl (sc rfl (sn _)))))))))⟩
   have r130 := ite_f h118 c120; clear h118
   refine shO_off (b' := false) 61 rfl (Env.isF rfl c120) rfl rfl (shO_off (b' := false) 61 rfl (Env.isF rfl c120) rfl rfl ?_)
   refine ov (v_pick_f (evD_false rfl c120) rfl) rfl ?_
   refine om rfl rfl (shO_on (b := false) 65 rfl rfl (om rfl rfl (shO_on (b := false) 65 rfl rfl ?_)))
   refine ov (v_lenS Try.underlying24 rfl) rfl ?_
   refine shO_on (b := false) 65 rfl rfl ?_
   refine ov (v_fieldAddr fa_27_2 rfl) rfl ?_
   refine shO_on (b := false) 65 rfl rfl ?_
   refine ov (v_load Try.isAgg23 rfl (Has.own 4 rfl) rfl) rfl ?_
   refine shO_on (b := false) 65 rfl rfl ?_
   refine ov (v_lenS Try.underlying23 rfl) rfl ?_
   refine shO_on (b := false) 65 rfl rfl ?_
   refine ov (v_gtrK rfl rfl) rfl ?_
   refine ov (v_pick_f rfl rfl) rfl ?_
   refine om rfl rfl ?_
   by_cases c131 : (l.length : Int) < (l7.length : Int)
   · have r132 := ite_t r130 c131; clear r130
     refine shO_off (b' := true) 73 rfl (Env.isT rfl c131) rfl rfl (shO_off (b' := true) 73 rfl (Env.isT rfl c131) rfl rfl (shO_off (b' := true) 73 rfl (Env.isT rfl c131) rfl rfl ?_))
     refine ov (v_pick_t (evD_true rfl c131) rfl) rfl ?_
     refine shO_nil ?_
     obtain rfl := inj1 r132
     exact mi (kc (kc (kc (kc (kc kn))))) ⟨rfl, rfl, (sc rfl (sc rfl (sc rfl (sc rfl (sc rfl (sc rfl (sc rfl (sc rfl (sn _)))))))))⟩
   have r133 := ite_f r130 c131; clear r130
   refine shO_on (b := false) 73 rfl (Env.isF rfl c131) (om rfl rfl (shO_on (b := false) 73 rfl (Env.isF rfl c131) ?_))
   obtain ⟨ok2, h134, r135⟩ := b1_ok r133; clear r133
   refine o_callV rfl Try.call25 rfl rfl rfl (slices_IsSorted_int_int_w h117 h134) ?_
   refine shO_on (b := false) 73 rfl (Env.isF rfl c131) ?_
   refine ov (v_notB rfl) rfl ?_
   refine ov (v_pick_f (evD_false rfl c131) rfl) rfl ?_
   refine shO_nil ?_
   obtain rfl := inj1 r135
   exact mi (kc (kc (kc (kc (kc kn))))) ⟨rfl, rfl, (sc rfl (sc rfl (sc rfl (sc rfl (sc rfl (sc rfl (sc rfl (sc rfl (sn _)))))))))⟩
 rintro e1 _ _ ⟨rfl, rfl, he136⟩
 refine shW_env _ he136 ?_; clear he136
 refine shW_cond rfl (fun c137 => ?_) (fun c137 => ?_)
 · have r138 := bt r119 c137; clear r119
   refine wsr (oa rfl rfl (shO_nil ?_))
   refine kW kn ?_
   refine shW_ret (andThen_ret ?_)
   refine q_res1 Try.results5 (res_tmp rfl) (sr) ?_
   obtain rfl := inj1 r138
   exact rfl
 have r139 := bf r119 c137; clear r119
 refine shW_skip (wsr ?_)
 refine ov (v_makeFunc rfl rfl) rfl ?_
 refine oa rfl rfl (shO_nil ?_)
 refine shW_joinF (fun e1 F1 L1 => oyezlaw07_BookRepeated_j1 which n n2 l l2 l3 metal2 n3 at_6 turn6 l6 l7 n5 = some r ∧ FExt F111 F1 ∧ L1 = [(b49, .cells #[.slice a50 metal2.length c51, .int .i64 at_6, .int .u32 turn6] 83 (0, 0))] ∧ e1.sub [(7, .pointer (some ⟨b42, 0, none⟩)), (9, .pointer (some ⟨b49, 0, none⟩)), (13, .slice a115 l7.length c116), (14, .int .i64 n5), (15, .func (.func 26) #[] #[.pointer (some ⟨b42, 0, none⟩), .pointer (some ⟨b65, 0, none⟩), .pointer (some ⟨b66, 0, none⟩), .pointer (some ⟨b96, 0, none⟩)])] ∧ F1 b42 = some (.cells #[.int .i64 n, .int .i64 n2, .slice a17 l.length c18, .slice a23 l2.length c24, .slice a29 l3.length c30] 27 (0, 0)) ∧ F1 b65 = some (.cells #[.int .i64 (Int.tmod which (l2.length : Int))] 3 (0, 0)) ∧ F1 b66 = some (.cells #[.int .i64 n3] 3 (0, 0)) ∧ F1 b96 = some (.cells #[.slice a90 l6.length c91] 24 (0, 0))) ?_ ?_
 · refine wsr (om rfl rfl ?_)
   refine ov (v_eql rfl rfl) rfl ?_
   refine shO_nil ?_
   refine shW_condP rfl (fun c162 => ?_) (fun c162 => ?_)
   · have r163 := ite_t r139 c162; clear r139
     refine wsr (om rfl rfl (om rfl rfl ?_))
     refine shO_freeze 4 rfl hb42 ?_; intro F164 hF165 hz166
     refine shO_L (L' := [(b96, .cells #[.slice a90 l6.length c91] 24 (0, 0)), (b49, .cells #[.slice a50 metal2.length c51, .int .i64 at_6, .int .u32 turn6] 83 (0, 0)), (b66, .cells #[.int .i64 n3] 3 (0, 0)), (b65, .cells #[.int .i64 (Int.tmod which (l2.length : Int))] 3 (0, 0))]) rfl ?_
     replace h99 := h99.mono (slE_ok (slE_ok (iE_ok _))) hF165
     replace h102 := h102.mono (iE_ok _) hF165
     replace h105 := h105.mono (prE_ok (iE_ok _) (prE_ok (iE_ok _) (iE_ok _))) hF165
     replace h108 := h108.mono (iE_ok _) hF165
     replace h117 := h117.mono (iE_ok _) hF165
     refine shO_freeze 3 rfl hb65 ?_; intro F167 hF168 hz169
     refine shO_L (L' := [(b96, .cells #[.slice a90 l6.length c91] 24 (0, 0)), (b49, .cells #[.slice a50 metal2.length c51, .int .i64 at_6, .int .u32 turn6] 83 (0, 0)), (b66, .cells #[.int .i64 n3] 3 (0, 0))]) rfl ?_
     replace h99 := h99.mono (slE_ok (slE_ok (iE_ok _))) hF168
     replace h102 := h102.mono (iE_ok _) hF168
     replace h105 := h105.mono (prE_ok (iE_ok _) (prE_ok (iE_ok _) (iE_ok _))) hF168
     replace h108 := h108.mono (iE_ok _) hF168
     replace h117 := h117.mono (iE_ok _) hF168
     replace hz166 := hF168 _ _ hz166
     refine shO_freeze 2 rfl hb66 ?_; intro F170 hF171 hz172
     refine shO_L (L' := [(b96, .cells #[.slice a90 l6.length c91] 24 (0, 0)), (b49, .cells #[.slice a50 metal2.length c51, .int .i64 at_6, .int .u32 turn6] 83 (0, 0))]) rfl ?_
     replace h99 := h99.mono (slE_ok (slE_ok (iE_ok _))) hF171
     replace h102 := h102.mono (iE_ok _) hF171
     replace h105 := h105.mono (prE_ok (iE_ok _) (prE_ok (iE_ok _) (iE_ok _))) hF171
     replace h108 := h108.mono (iE_ok _) hF171
     replace h117 := h117.mono (iE_ok _) hF171
     replace hz166 := hF171 _ _ hz166
     replace hz169 := hF171 _ _ hz169
     refine shO_freeze 0 rfl hb96 ?_; intro F173 hF174 hz175
     refine shO_L (L' := [(b49, .cells #[.slice a50 metal2.length c51, .int .i64 at_6, .int .u32 turn6] 83 (0, 0))]) rfl ?_
     replace h99 := h99.mono (slE_ok (slE_ok (iE_ok _))) hF174
     replace h102 := h102.mono (iE_ok _) hF174
     replace h105 := h105.mono (prE_ok (iE_ok _) (prE_ok (iE_ok _) (iE_ok _))) hF174
     replace h108 := h108.mono (iE_ok _) hF174
     replace h117 := h117.mono (iE_ok _) hF174
     replace hz166 := hF174 _ _ hz166
     replace hz169 := hF174 _ _ hz169
     replace hz172 := hF174 _ _ hz172
     obtain ⟨ok3, ok4, h176, r177⟩ := b2_ok r163; clear r163
     refine o_callV rfl Try.call26 rfl rfl rfl (oyezlaw07_BookRepeated_1_w h117 hz166 h99 h102 h105 hz169 hz172 hz175 h108 h176) ?_
     refine om rfl rfl (ox rfl rfl rfl (ox rfl rfl rfl (oa rfl rfl (oa rfl rfl (shO_nil ?_)))))
     obtain ⟨k2, h178, r179⟩ := b1_ok r177; clear r177
     refine shW_join (fun e1 F1 L1 => F173 = F1 ∧ L1 = [(b49, .cells #[.slice a50 metal2.length c51, .int .i64 at_6, .int .u32 turn6] 83 (0, 0))] ∧ e1.sub [(7, .pointer (some ⟨b42, 0, none⟩)), (9, .pointer (some ⟨b49, 0, none⟩)), (13, .slice a115 l7.length c116), (14, .int .i64 n5), (15, .func (.func 26) #[] #[.pointer (some ⟨b42, 0, none⟩), .pointer (some ⟨b65, 0, none⟩), .pointer (some ⟨b66, 0, none⟩), .pointer (some ⟨b96, 0, none⟩)]), (92, .bool k2)]) ?_ ?_
     · clear r179
       refine shW_region (om rfl rfl ?_)
       refine ov (v_notB rfl) rfl ?_
       refine om rfl rfl ?_
       rcases bool_two (!ok3) with c180 | c180
       · have r181 := bt h178 c180; clear h178
         refine shO_off (b' := true) 89 rfl (EnvB rfl c180) rfl rfl (shO_off (b' := true) 89 rfl (EnvB rfl c180) rfl rfl ?_)
         refine ov (v_pick_t (evB rfl c180) rfl) rfl ?_
         refine shO_nil ?_
         obtain rfl := inj1 r181
         exact mi kr ⟨rfl, rfl, (sc rfl (sc rfl (sc rfl (sc rfl (sc rfl (sc rfl (sn _)))))))⟩
       have r182 := bf h178 c180; clear h178
       refine shO_on (b := false) 89 rfl (EnvB rfl c180) (om rfl rfl (shO_on (b := false) 89 rfl (EnvB rfl c180) ?_))
       refine ov (v_notB rfl) rfl ?_
       refine ov (v_pick_f (evB rfl c180) rfl) rfl ?_
       refine shO_nil ?_
       obtain rfl := inj1 r182
       exact mi kr ⟨rfl, rfl, (sc rfl (sc rfl (sc rfl (sc rfl (sc rfl (sc rfl (sn _)))))))⟩
     rintro e1 _ _ ⟨rfl, rfl, he183⟩
     refine shW_env _ he183 ?_; clear he183
     refine shW_cond rfl (fun c184 => ?_) (fun c184 => ?_)
     · have r185 := bt r179 c184; clear r179
       refine wsr (oa rfl rfl (shO_nil ?_))
       refine kW kn ?_
       refine shW_ret (andThen_ret ?_)
       refine q_res1 Try.results5 (res_tmp rfl) (sr) ?_
       obtain rfl := inj1 r185
       exact rfl
     have r186 := bf r179 c184; clear r179
     refine shW_skip ?_
     exact mf kr ⟨r186, (((hF165.trans hF168).trans hF171).trans hF174), rfl, (sc rfl (sc rfl (sc rfl (sc rfl (sc rfl (sn _)))))), hz166, hz169, hz172, hz175⟩
   have r187 := ite_f r139 c162; clear r139
   refine shW_skip ?_
   refine shmz_freeze 4 rfl hb42 ?_; intro F188 hF189 hz190
   refine shmz_L (L' := [(b96, .cells #[.slice a90 l6.length c91] 24 (0, 0)), (b49, .cells #[.slice a50 metal2.length c51, .int .i64 at_6, .int .u32 turn6] 83 (0, 0)), (b66, .cells #[.int .i64 n3] 3 (0, 0)), (b65, .cells #[.int .i64 (Int.tmod which (l2.length : Int))] 3 (0, 0))]) rfl ?_
   refine shmz_freeze 3 rfl hb65 ?_; intro F191 hF192 hz193
   refine shmz_L (L' := [(b96, .cells #[.slice a90 l6.length c91] 24 (0, 0)), (b49, .cells #[.slice a50 metal2.length c51, .int .i64 at_6, .int .u32 turn6] 83 (0, 0)), (b66, .cells #[.int .i64 n3] 3 (0, 0))]) rfl ?_
   replace hz190 := hF192 _ _ hz190
   refine shmz_freeze 2 rfl hb66 ?_; intro F194 hF195 hz196
   refine shmz_L (L' := [(b96, .cells #[.slice a90 l6.length c91] 24 (0, 0)), (b49, .cells #[.slice a50 metal2.length c51, .int .i64 at_6, .int .u32 turn6] 83 (0, 0))]) rfl ?_
   replace hz190 := hF195 _ _ hz190
   replace hz193 := hF195 _ _ hz193
   refine shmz_freeze 0 rfl hb96 ?_; intro F197 hF198 hz199
   refine shmz_L (L' := [(b49, .cells #[.slice a50 metal2.length c51, .int .i64 at_6, .int .u32 turn6] 83 (0, 0))]) rfl ?_
   replace hz190 := hF198 _ _ hz190
   replace hz193 := hF198 _ _ hz193
   replace hz196 := hF198 _ _ hz196
   exact mf kr ⟨r187, (((hF189.trans hF192).trans hF195).trans hF198), rfl, (sc rfl (sc rfl (sc rfl (sc rfl (sc rfl (sn _)))))), hz190, hz193, hz196, hz199⟩
 rintro e1 F202 _ ⟨r200, hF203, rfl, he201, hz158, hz159, hz160, hz161⟩
 refine shW_env _ he201 ?_; clear he201
 replace h52 := h52.mono (iE_ok _) hF203
 replace h99 := h99.mono (slE_ok (slE_ok (iE_ok _))) hF203
 replace h102 := h102.mono (iE_ok _) hF203
 replace h105 := h105.mono (prE_ok (iE_ok _) (prE_ok (iE_ok _) (iE_ok _))) hF203
 replace h108 := h108.mono (iE_ok _) hF203
 replace h117 := h117.mono (iE_ok _) hF203
 rw [oyezlaw07_BookRepeated_j1] at r200
 refine shW_join (fun e1 F1 L1 => oyezlaw07_BookRepeated_j2 = some r ∧ FExt F202 F1 ∧ L1 = [] ∧ e1.sub []) ?_ ?_
 · refine wsr (om rfl rfl (shO_nil ?_))
   refine shW_block ?_
   obtain ⟨g204, r205⟩ := gd_ok r200; clear r200
   refine shW_lp (fun fu3 e1 F1 L1 => ∃ (k3 : Int), Ctr 0 5 k3 fu3 ∧ ∃ (q_at : Int) (q_turn : Int), oyezlaw07_BookRepeated_l3 which n n2 l l2 l3 metal2 n3 l6 l7 n5 fu3 k3 q_at q_turn = some r ∧ FExt F202 F1 ∧ L1 = [(b49, .cells #[.slice a50 metal2.length c51, .int .i64 q_at, .int .u32 q_turn] 83 (0, 0))] ∧ e1.sub [(7, .pointer (some ⟨b42, 0, none⟩)), (9, .pointer (some ⟨b49, 0, none⟩)), (13, .slice a115 l7.length c116), (14, .int .i64 n5), (15, .func (.func 26) #[] #[.pointer (some ⟨b42, 0, none⟩), .pointer (some ⟨b65, 0, none⟩), .pointer (some ⟨b66, 0, none⟩), .pointer (some ⟨b96, 0, none⟩)]), (93, .int .i64 k3)]) _ (m0 kr ⟨_, Ctr.start _ _, at_6, turn6, r205, FExt.refl _, rfl, (sc rfl (sc rfl (sc rfl (sc rfl (sc rfl (sc rfl (sn _)))))))⟩) ?_
   rintro fu3 e1 F210 _ ⟨k3, hk206, q_at, q_turn, r208, hF211, rfl, he209⟩
   refine shW_env _ he209 ?_; clear he209
   replace h52 := h52.mono (iE_ok _) hF211
   replace h99 := h99.mono (slE_ok (slE_ok (iE_ok _))) hF211
   replace h102 := h102.mono (iE_ok _) hF211
   replace h105 := h105.mono (prE_ok (iE_ok _) (prE_ok (iE_ok _) (iE_ok _))) hF211
   replace h108 := h108.mono (iE_ok _) hF211
   replace h117 := h117.mono (iE_ok _) hF211
   replace hz158 := hF211 _ _ hz158
   replace hz159 := hF211 _ _ hz159
   replace hz160 := hF211 _ _ hz160
   replace hz161 := hF211 _ _ hz161
   refine wsr ?_
   refine ov (v_lssK rfl rfl) rfl ?_
   refine shO_nil (shW_seq ?_)
   refine shW_condP rfl (fun c213 => ?_) (fun c213 => ?_)
   · obtain ⟨fu3, rfl, hk214⟩ := Ctr.succ hk206 c213
     rw [oyezlaw07_BookRepeated_l3] at r208
     refine shW_skip ?_
     refine shW_join (fun e1 F1 L1 => ∃ (q_at2 : Int) (q_turn2 : Int), oyezlaw07_BookRepeated_j4 k3 (oyezlaw07_BookRepeated_l3 which n n2 l l2 l3 metal2 n3 l6 l7 n5 fu3) q_at2 q_turn2 = some r ∧ FExt F210 F1 ∧ L1 = [(b49, .cells #[.slice a50 metal2.length c51, .int .i64 q_at2, .int .u32 q_turn2] 83 (0, 0))] ∧ e1.sub [(7, .pointer (some ⟨b42, 0, none⟩)), (9, .pointer (some ⟨b49, 0, none⟩)), (13, .slice a115 l7.length c116), (14, .int .i64 n5), (15, .func (.func 26) #[] #[.pointer (some ⟨b42, 0, none⟩), .pointer (some ⟨b65, 0, none⟩), .pointer (some ⟨b66, 0, none⟩), .pointer (some ⟨b96, 0, none⟩)]), (93, .int .i64 k3)]) ?_ ?_
     · refine shW_block ?_
       refine wsr (om rfl rfl (oa rfl rfl (nsr (oa rfl rfl (shO_nil ?_)))))
       obtain ⟨q_at3, q_turn3, other, h221, r222⟩ := b3_ok r208; clear r208
       refine shW_join (fun e1 F1 L1 => ∃ (a215 : Option Addr) (n219 : Nat) (c216 : Nat) (Lb217 : LH), FExt F210 F1 ∧ L1 = ((b49, .cells #[.slice a50 metal2.length c51, .int .i64 q_at3, .int .u32 q_turn3] 83 (0, 0)) :: (Lb217 ++ [])) ∧ e1.sub [(7, .pointer (some ⟨b42, 0, none⟩)), (9, .pointer (some ⟨b49, 0, none⟩)), (13, .slice a115 l7.length c116), (14, .int .i64 n5), (15, .func (.func 26) #[] #[.pointer (some ⟨b42, 0, none⟩), .pointer (some ⟨b65, 0, none⟩), .pointer (some ⟨b66, 0, none⟩), .pointer (some ⟨b96, 0, none⟩)]), (18, .int .i64 k3), (19, .slice a215 n219 c216), (93, .int .i64 k3)] ∧ SlR K.w0.heap.size 3 1 (iE .i64) F1 a215 n219 c216 other Lb217) ?_ ?_
       · clear r222
         refine wsr ?_
         refine ov (v_fieldAddr fa_27_2 rfl) rfl ?_
         refine ov (v_load Try.isAgg23 rfl (Has.frozen hz158) rfl) rfl ?_
         refine ov (v_lenS Try.underlying23 rfl) rfl ?_
         refine om rfl rfl (shO_nil ?_)
         refine shW_block ?_
         refine shW_lp (fun fu5 e1 F1 L1 => ∃ (tl : List (List (List Int))) (k4 : Int), tl.length = fu5 ∧ Lst l k4 tl ∧ ∃ (q_at4 : Int) (q_turn4 : Int) (other2 : List Int) (a223 : Option Addr) (n227 : Nat) (c224 : Nat) (Lb225 : LH), oyezlaw07_BookRepeated_l5 metal2 k3 tl k4 q_at4 q_turn4 other2 = some (q_at3, q_turn3, other) ∧ FExt F210 F1 ∧ L1 = ((b49, .cells #[.slice a50 metal2.length c51, .int .i64 q_at4, .int .u32 q_turn4] 83 (0, 0)) :: (Lb225 ++ [])) ∧ e1.sub [(7, .pointer (some ⟨b42, 0, none⟩)), (9, .pointer (some ⟨b49, 0, none⟩)), (13, .slice a115 l7.length c116), (14, .int .i64 n5), (15, .func (.func 26) #[] #[.pointer (some ⟨b42, 0, none⟩), .pointer (some ⟨b65, 0, none⟩), .pointer (some ⟨b66, 0, none⟩), .pointer (some ⟨b96, 0, none⟩)]), (18, .int .i64 k3), (19, .slice a223 n227 c224), (93, .int .i64 k3), (98, .int .i64 (l.length : Int)), (99, .int .i64 k4)] ∧ SlR K.w0.heap.size 3 1 (iE .i64) F1 a223 n227 c224 other2 Lb225) _ (m0 (kc (ke kr)) ⟨_, _, rfl, Lst.start _, q_at, q_turn, [], none, 0, 0, [], h221, FExt.refl _, rfl, (sc rfl (sc rfl (sc rfl (sc rfl (sc rfl (sc rfl (sc rfl (sc rfl (sc rfl (sc rfl (sn _))))))))))), SlR.nil _ _ _ _ _⟩) ?_
         rintro fu5 e1 F233 _ ⟨tl, k4, hn230, hk229, q_at4, q_turn4, other2, a223, n227, c224, Lb225, r231, hF234, rfl, he232, hz226⟩
         refine shW_env _ he232 ?_; clear he232
         replace h52 := h52.mono (iE_ok _) hF234
         replace h99 := h99.mono (slE_ok (slE_ok (iE_ok _))) hF234
         refine wsr ?_
         refine ov (v_lssK rfl rfl) rfl ?_
         refine shO_nil (shW_seq ?_)
         refine shW_condP rfl (fun c236 => ?_) (fun c236 => ?_)
         · obtain ⟨x, tl2, rfl, hx238, g239, hk237⟩ := Lst.succ hk229 c236
           rw [oyezlaw07_BookRepeated_l5] at r231
           refine shW_skip (shW_seq ?_)
           refine shW_block ?_
           refine wsr (om rfl rfl (oa rfl rfl (shO_nil ?_)))
           obtain ⟨q_at5, q_turn5, k5, h240, r241⟩ := b3_ok r231; clear r231
           refine shW_join (fun e1 F1 L1 => FExt F233 F1 ∧ L1 = ((b49, .cells #[.slice a50 metal2.length c51, .int .i64 q_at5, .int .u32 q_turn5] 83 (0, 0)) :: (Lb225 ++ [])) ∧ e1.sub [(7, .pointer (some ⟨b42, 0, none⟩)), (9, .pointer (some ⟨b49, 0, none⟩)), (13, .slice a115 l7.length c116), (14, .int .i64 n5), (15, .func (.func 26) #[] #[.pointer (some ⟨b42, 0, none⟩), .pointer (some ⟨b65, 0, none⟩), .pointer (some ⟨b66, 0, none⟩), .pointer (some ⟨b96, 0, none⟩)]), (18, .int .i64 k3), (19, .slice a223 n227 c224), (20, .int .i64 k4), (93, .int .i64 k3), (98, .int .i64 (l.length : Int)), (99, .int .i64 k4), (107, .bool k5)]) ?_ ?_
           · clear r241
             refine shW_region (om rfl rfl ?_)
             refine ov (v_eql rfl rfl) rfl ?_
             refine om rfl rfl ?_
             by_cases c242 : k3 = 0
             · have r243 := ite_t h240 c242; clear h240
               refine shO_off (b' := true) 104 rfl (Env.isT rfl c242) rfl rfl (shO_off (b' := true) 104 rfl (Env.isT rfl c242) rfl rfl ?_)
               refine ov (v_pick_t (evD_true rfl c242) rfl) rfl ?_
               refine shO_nil ?_
               obtain ⟨rfl, rfl, rfl⟩ := inj3 r243
               exact mi kr ⟨FExt.refl _, rfl, (sc rfl (sc rfl (sc rfl (sc rfl (sc rfl (sc rfl (sc rfl (sc rfl (sc rfl (sc rfl (sc rfl (sc rfl (sn _)))))))))))))⟩
             have r244 := ite_f h240 c242; clear h240
             refine shO_on (b := false) 104 rfl (Env.isF rfl c242) (om rfl rfl (shO_on (b := false) 104 rfl (Env.isF rfl c242) ?_))
             obtain ⟨ok5, at_7, turn7, h245, r246⟩ := b3_ok r244; clear r244
             refine o_callG (Lb := [(b49, .cells #[.slice a50 metal2.length c51, .int .i64 q_at4, .int .u32 q_turn4] 83 (0, 0))]) (Lr := Lb225 ++ []) rfl Try.call27 rfl rfl rfl (pR) (oyezkit_Bell_Seldom_w h52 h245) ?_; rintro _ F247 _ hF248 hd250 hn249 ⟨rfl, rfl⟩
             refine shO_L (lb (ln rfl)) ?_
             refine ov (v_pick_f (evD_false rfl c242) rfl) rfl ?_
             refine shO_nil ?_
             obtain ⟨rfl, rfl, rfl⟩ := inj3 r246
             exact mi kr ⟨hF248, rfl, (sc rfl (sc rfl (sc rfl (sc rfl (sc rfl (sc rfl (sc rfl (sc rfl (sc rfl (sc rfl (sc rfl (sc rfl (sn _)))))))))))))⟩
           rintro e1 F252 _ ⟨hF253, rfl, he251⟩
           refine shW_env _ he251 ?_; clear he251
           replace h99 := h99.mono (slE_ok (slE_ok (iE_ok _))) hF253
           replace hz226 := hz226.mono (iE_ok _) hF253
           refine shW_cond rfl (fun c254 => ?_) (fun c254 => ?_)
           · have r255 := bt r241 c254; clear r241
             refine shW_region (om rfl rfl (om rfl rfl ?_))
             refine o_buildSlice (cs := #[.int .i64 k4]) rfl rfl (buildSlice_all slt_24 [.int .i64 k4] rfl (by decide) (by simp [Value.cells]) (by decide)) ?_; intro b256 hb256
             obtain ⟨other3, h257, g258, r259⟩ := ap_ok r255; clear r255
             refine o_appZ (xs := other2) (ys := [k4]) (zs := other3) rfl slt_24 rfl rfl (Nat.le_refl _) (fun _ => .c (.c .h)) hz226 (SrcR.box (vss := [[.int .i64 k4]]) (ys := [k4]) 0 rfl (iE_ok _) (.cons rfl .nil) rfl rfl) h257 g258 (by decide) ?_; intro a260 n264 c261 Lb262 hz263
             refine kO (kd kr) ?_
             refine oa rfl rfl (shO_nil (inBlock_n (id := 3) (shW_region ?_)))
             refine ov (v_add rfl rfl (Lst.r64 hk229 c236 (RowR.lt h99))) rfl ?_
             refine om rfl rfl (shO_nil ?_)
             subst hn230; exact le kr ⟨_, _, rfl, hk237, q_at5, q_turn5, other3, a260, n264, c261, Lb262, r259, (hF234.trans hF253), rfl, (sc rfl (sc rfl (sc rfl (sc rfl (sc rfl (sc rfl (sc rfl (sc rfl (sc rfl (sc rfl (sn _))))))))))), hz263⟩
           have r266 := bf r241 c254; clear r241
           refine shW_skip (inBlock_n (id := 3) (shW_region ?_))
           refine ov (v_add rfl rfl (Lst.r64 hk229 c236 (RowR.lt h99))) rfl ?_
           refine om rfl rfl (shO_nil ?_)
           subst hn230; exact le kr ⟨_, _, rfl, hk237, q_at5, q_turn5, other2, a223, n227, c224, Lb225, r266, (hF234.trans hF253), rfl, (sc rfl (sc rfl (sc rfl (sc rfl (sc rfl (sc rfl (sc rfl (sc rfl (sc rfl (sc rfl (sn _))))))))))), hz226⟩
         obtain rfl := Lst.zero hk229 c236
         rw [oyezlaw07_BookRepeated_l5] at r231
         refine shW_exit (andThen_exit (andThen_exit ?_))
         refine inBlock_exit ?_
         obtain ⟨rfl, rfl, rfl⟩ := inj3 r231
         exact mi kr ⟨a223, n227, c224, Lb225, hF234, rfl, (sc rfl (sc rfl (sc rfl (sc rfl (sc rfl (sc rfl (sc rfl (sc rfl (sn _))))))))), hz226⟩
       rintro e1 F268 _ ⟨a215, n219, c216, Lb217, hF269, rfl, he267, hz218⟩
       refine shW_env _ he267 ?_; clear he267
       replace h99 := h99.mono (slE_ok (slE_ok (iE_ok _))) hF269
       replace h102 := h102.mono (iE_ok _) hF269
       replace h105 := h105.mono (prE_ok (iE_ok _) (prE_ok (iE_ok _) (iE_ok _))) hF269
       replace h108 := h108.mono (iE_ok _) hF269
       replace h117 := h117.mono (iE_ok _) hF269
       replace hz158 := hF269 _ _ hz158
       replace hz159 := hF269 _ _ hz159
       replace hz160 := hF269 _ _ hz160
       replace hz161 := hF269 _ _ hz161
       refine wsr (om rfl rfl (om rfl rfl ?_))
       obtain ⟨ok6, ok7, h270, r271⟩ := b2_ok r222; clear r222
       refine o_callT (Lt := Lb217 ++ []) (Lr := [(b49, .cells #[.slice a50 metal2.length c51, .int .i64 q_at3, .int .u32 q_turn3] 83 (0, 0))]) rfl Try.call26 rfl rfl rfl (pT ((fC fP).trans (pA pR)) (lp (ln rfl))) (fun F2 h2 h3 => by rw [(SlR.caps hz218).1]; exact oyezlaw07_BookRepeated_1_w (hz218.row (iE_ok _) h2 (fun p hp => h3 p (List.mem_append_left _ hp))) (h2 _ _ hz158) (h99.mono (slE_ok (slE_ok (iE_ok _))) h2) (h102.mono (iE_ok _) h2) (h105.mono (prE_ok (iE_ok _) (prE_ok (iE_ok _) (iE_ok _))) h2) (h2 _ _ hz159) (h2 _ _ hz160) (h2 _ _ hz161) (h108.mono (iE_ok _) h2) h270) ?_
       refine om rfl rfl (ox rfl rfl rfl (ox rfl rfl rfl (oa rfl rfl (oa rfl rfl (shO_nil ?_)))))
       obtain ⟨k6, h272, r273⟩ := b1_ok r271; clear r271
       refine shW_join (fun e1 F1 L1 => F268 = F1 ∧ L1 = [(b49, .cells #[.slice a50 metal2.length c51, .int .i64 q_at3, .int .u32 q_turn3] 83 (0, 0))] ∧ e1.sub [(7, .pointer (some ⟨b42, 0, none⟩)), (9, .pointer (some ⟨b49, 0, none⟩)), (13, .slice a115 l7.length c116), (14, .int .i64 n5), (15, .func (.func 26) #[] #[.pointer (some ⟨b42, 0, none⟩), .pointer (some ⟨b65, 0, none⟩), .pointer (some ⟨b66, 0, none⟩), .pointer (some ⟨b96, 0, none⟩)]), (93, .int .i64 k3), (157, .bool k6)]) ?_ ?_
       · clear r273
         refine shW_region (om rfl rfl ?_)
         refine ov (v_notB rfl) rfl ?_
         refine om rfl rfl ?_
         rcases bool_two (!ok7) with c274 | c274
         · have r275 := bt h272 c274; clear h272
           refine shO_off (b' := true) 121 rfl (EnvB rfl c274) rfl rfl (shO_off (b' := true) 121 rfl (EnvB rfl c274) rfl rfl (shO_offU 123 rfl rfl rfl (shO_offU 123 rfl rfl rfl (shO_offU 123 rfl rfl rfl (shO_offU 126 rfl rfl rfl (shO_offU 126 rfl rfl rfl (shO_offU 126 rfl rfl rfl (shO_offU 126 rfl rfl rfl (shO_offU 126 rfl rfl rfl ?_)))))))))
           refine shO_offU 123 rfl rfl rfl (shO_offU 123 rfl rfl rfl (shO_offU 133 rfl rfl rfl (shO_offU 133 rfl rfl rfl (shO_offU 133 rfl rfl rfl (shO_offU 133 rfl rfl rfl (shO_offU 133 rfl rfl rfl (shO_offU 133 rfl rfl rfl (shO_offU 139 rfl rfl rfl (shO_offU 139 rfl rfl rfl ?_)))))))))
           refine shO_offU 139 rfl rfl rfl (shO_offU 139 rfl rfl rfl (shO_offU 133 rfl rfl rfl (shO_offU 123 rfl rfl rfl (shO_off (b' := true) 121 rfl (EnvB rfl c274) rfl rfl ?_))))
           refine ov (v_pick_t (evB rfl c274) rfl) rfl ?_
           refine om rfl rfl (shO_off (b' := true) 148 rfl rfl rfl rfl (shO_off (b' := true) 148 rfl rfl rfl rfl (shO_off (b' := true) 148 rfl rfl rfl rfl (shO_offU 151 rfl rfl rfl (shO_offU 151 rfl rfl rfl (shO_offU 151 rfl rfl rfl (shO_offU 151 rfl rfl rfl (shO_off (b' := true) 148 rfl rfl rfl rfl ?_))))))))
           refine ov (v_pick_t rfl rfl) rfl ?_
           refine shO_nil ?_
           obtain rfl := inj1 r275
           exact mi (kc kn) ⟨rfl, rfl, (sc rfl (sc rfl (sc rfl (sc rfl (sc rfl (sc rfl (sc rfl (sn _))))))))⟩
         have r276 := bf h272 c274; clear h272
         refine shO_on (b := false) 121 rfl (EnvB rfl c274) (om rfl rfl (shO_on (b := false) 121 rfl (EnvB rfl c274) (om rfl rfl ?_)))
         rcases bool_two ok6 with c277 | c277
         · have r278 := bt r276 c277; clear r276
           refine shO_on (b := true) 123 rfl (EnvB rfl c277) (om rfl rfl (shO_on (b := true) 123 rfl (EnvB rfl c277) ?_))
           refine ov (v_neq rfl rfl) rfl ?_
           refine shO_on (b := true) 123 rfl (EnvB rfl c277) (om rfl rfl ?_)
           by_cases c279 : n5 ≠ 0
           · have r280 := ite_t r278 c279; clear r278
             refine shO_off (b' := true) 126 rfl (Env.isT rfl c279) rfl rfl (shO_off (b' := true) 126 rfl (Env.isT rfl c279) rfl rfl (shO_off (b' := true) 126 rfl (Env.isT rfl c279) rfl rfl (shO_off (b' := true) 126 rfl (Env.isT rfl c279) rfl rfl (shO_off (b' := true) 126 rfl (Env.isT rfl c279) rfl rfl (shO_on (b := true) 123 rfl (EnvB rfl c277) ?_)))))
             refine ov (v_pick_t (evD_true rfl c279) rfl) rfl ?_
             refine shO_on (b := true) 123 rfl (EnvB rfl c277) (om rfl rfl (shO_off (b' := true) 133 rfl rfl rfl rfl (shO_off (b' := true) 133 rfl rfl rfl rfl (shO_off (b' := true) 133 rfl rfl rfl rfl (shO_off (b' := true) 133 rfl rfl rfl rfl (shO_off (b' := true) 133 rfl rfl rfl rfl (shO_off (b' := true) 133 rfl rfl rfl rfl (shO_offU 139 rfl rfl rfl (shO_offU 139 rfl rfl rfl ?_)))))))))
             refine shO_offU 139 rfl rfl rfl (shO_offU 139 rfl rfl rfl (shO_off (b' := true) 133 rfl rfl rfl rfl (shO_on (b := true) 123 rfl (EnvB rfl c277) ?_)))
             refine ov (v_pick_t rfl rfl) rfl ?_
             refine shO_on (b := false) 121 rfl (EnvB rfl c274) ?_
             refine ov (v_pick_t (evB rfl c277) rfl) rfl ?_
             refine ov (v_pick_f (evB rfl c274) rfl) rfl ?_
             refine om rfl rfl (shO_off (b' := true) 148 rfl rfl rfl rfl (shO_off (b' := true) 148 rfl rfl rfl rfl (shO_off (b' := true) 148 rfl rfl rfl rfl (shO_offU 151 rfl rfl rfl (shO_offU 151 rfl rfl rfl (shO_offU 151 rfl rfl rfl (shO_offU 151 rfl rfl rfl (shO_off (b' := true) 148 rfl rfl rfl rfl ?_))))))))
             refine ov (v_pick_t rfl rfl) rfl ?_
             refine shO_nil ?_
             obtain rfl := inj1 r280
             exact mi (kc kn) ⟨rfl, rfl, (sc rfl (sc rfl (sc rfl (sc rfl (sc rfl (sc rfl (sc rfl (sn _))))))))⟩
           have r281 := ite_f r278 c279; clear r278
           refine shO_on (b := false) 126 rfl (Env.isF rfl c279) (om rfl rfl (shO_on (b := false) 126 rfl (Env.isF rfl c279) ?_))
           refine ov ((v_lenS Try.underlying24 rfl).i (SlR.lenI hz218)) rfl ?_
           refine shO_on (b := false) 126 rfl (Env.isF rfl c279) (om rfl rfl (shO_on (b := false) 126 rfl (Env.isF rfl c279) ?_))
           refine ov (v_lenS Try.underlying24 rfl) rfl ?_
           refine shO_on (b := false) 126 rfl (Env.isF rfl c279) ?_
           refine ov (v_lssK rfl rfl) rfl ?_
           refine shO_on (b := true) 123 rfl (EnvB rfl c277) ?_
           refine ov (v_pick_f (evD_false rfl c279) rfl) rfl ?_
           refine shO_on (b := true) 123 rfl (EnvB rfl c277) (om rfl rfl ?_)
           by_cases c282 : (other.length : Int) < (l7.length : Int)
           · have r283 := ite_t r281 c282; clear r281
             refine shO_off (b' := true) 133 rfl (Env.isT rfl c282) rfl rfl (shO_off (b' := true) 133 rfl (Env.isT rfl c282) rfl rfl (shO_off (b' := true) 133 rfl (Env.isT rfl c282) rfl rfl (shO_off (b' := true) 133 rfl (Env.isT rfl c282) rfl rfl (shO_off (b' := true) 133 rfl (Env.isT rfl c282) rfl rfl (shO_off (b' := true) 133 rfl (Env.isT rfl c282) rfl rfl (shO_offU 139 rfl rfl rfl (shO_offU 139 rfl rfl rfl (shO_offU 139 rfl rfl rfl (shO_offU 139 rfl rfl rfl ?_)))))))))
             refine shO_off (b' := true) 133 rfl (Env.isT rfl c282) rfl rfl (shO_on (b := true) 123 rfl (EnvB rfl c277) ?_)
             refine ov (v_pick_t (evD_true rfl c282) rfl) rfl ?_
             refine shO_on (b := false) 121 rfl (EnvB rfl c274) ?_
             refine ov (v_pick_t (evB rfl c277) rfl) rfl ?_
             refine ov (v_pick_f (evB rfl c274) rfl) rfl ?_
             refine om rfl rfl (shO_off (b' := true) 148 rfl rfl rfl rfl (shO_off (b' := true) 148 rfl rfl rfl rfl (shO_off (b' := true) 148 rfl rfl rfl rfl (shO_offU 151 rfl rfl rfl (shO_offU 151 rfl rfl rfl (shO_offU 151 rfl rfl rfl (shO_offU 151 rfl rfl rfl (shO_off (b' := true) 148 rfl rfl rfl rfl ?_))))))))
             refine ov (v_pick_t rfl rfl) rfl ?_
             refine shO_nil ?_
             obtain rfl := inj1 r283
             exact mi (kc kn) ⟨rfl, rfl, (sc rfl (sc rfl (sc rfl (sc rfl (sc rfl (sc rfl (sc rfl (sn _))))))))⟩
           have r284 := ite_f r281 c282; clear r281
           refine shO_on (b := false) 133 rfl (Env.isF rfl c282) (om rfl rfl (shO_on (b := false) 133 rfl (Env.isF rfl c282) ?_))
           refine ov ((v_lenS Try.underlying24 rfl).i (SlR.lenI hz218)) rfl ?_
           refine shO_on (b := false) 133 rfl (Env.isF rfl c282) (om rfl rfl (shO_on (b := false) 133 rfl (Env.isF rfl c282) ?_))
           refine ov (v_lenS Try.underlying24 rfl) rfl ?_
           refine shO_on (b := false) 133 rfl (Env.isF rfl c282) ?_
           refine ov (v_eql rfl rfl) rfl ?_
           refine shO_on (b := false) 133 rfl (Env.isF rfl c282) (om rfl rfl ?_)
           by_cases c285 : (other.length : Int) = (l7.length : Int)
           · have r286 := ite_t r284 c285; clear r284
             refine shO_on (b := true) 139 rfl (Env.isT rfl c285) (om rfl rfl (shO_on (b := true) 139 rfl (Env.isT rfl c285) (om rfl rfl (shO_on (b := true) 139 rfl (Env.isT rfl c285) ?_))))
             obtain ⟨n6, h287, r288⟩ := b1_ok r286; clear r286
             refine o_callT (Lt := Lb217 ++ []) (Lr := [(b49, .cells #[.slice a50 metal2.length c51, .int .i64 q_at3, .int .u32 q_turn3] 83 (0, 0))]) rfl Try.call22 rfl rfl rfl (pT ((fC fP).trans (pA pR)) (lp (ln rfl))) (fun F2 h2 h3 => by rw [(SlR.caps hz218).1]; exact slices_Compare_int_int_w (hz218.row (iE_ok _) h2 (fun p hp => h3 p (List.mem_append_left _ hp))) (h117.mono (iE_ok _) h2) h287) ?_
             refine shO_on (b := true) 139 rfl (Env.isT rfl c285) ?_
             refine ov (v_lssK rfl rfl) rfl ?_
             refine shO_on (b := false) 133 rfl (Env.isF rfl c282) ?_
             refine ov (v_pick_t (evD_true rfl c285) rfl) rfl ?_
             refine shO_on (b := true) 123 rfl (EnvB rfl c277) ?_
             refine ov (v_pick_f (evD_false rfl c282) rfl) rfl ?_
             refine shO_on (b := false) 121 rfl (EnvB rfl c274) ?_
             refine ov (v_pick_t (evB rfl c277) rfl) rfl ?_
             refine ov (v_pick_f (evB rfl c274) rfl) rfl ?_
             refine om rfl rfl ?_
             by_cases c289 : n6 < 0
             · have r290 := ite_t r288 c289; clear r288
               refine shO_off (b' := true) 148 rfl (Env.isT rfl c289) rfl rfl (shO_off (b' := true) 148 rfl (Env.isT rfl c289) rfl rfl (shO_off (b' := true) 148 rfl (Env.isT rfl c289) rfl rfl (shO_offU 151 rfl rfl rfl (shO_offU 151 rfl rfl rfl (shO_offU 151 rfl rfl rfl (shO_offU 151 rfl rfl rfl (shO_off (b' := true) 148 rfl (Env.isT rfl c289) rfl rfl ?_)))))))
               refine ov (v_pick_t (evD_true rfl c289) rfl) rfl ?_
               refine shO_nil ?_
               obtain rfl := inj1 r290
               exact mi (kc kn) ⟨rfl, rfl, (sc rfl (sc rfl (sc rfl (sc rfl (sc rfl (sc rfl (sc rfl (sn _))))))))⟩
             have r291 := ite_f r288 c289; clear r288
             refine shO_on (b := false) 148 rfl (Env.isF rfl c289) (om rfl rfl (shO_on (b := false) 148 rfl (Env.isF rfl c289) ?_))
             refine ov (v_eql rfl rfl) rfl ?_
             refine shO_on (b := false) 148 rfl (Env.isF rfl c289) (om rfl rfl ?_)
             by_cases c292 : k3 = 0
             · have r293 := ite_t r291 c292; clear r291
               refine shO_on (b := true) 151 rfl (Env.isT rfl c292) (om rfl rfl (shO_on (b := true) 151 rfl (Env.isT rfl c292) (om rfl rfl (shO_on (b := true) 151 rfl (Env.isT rfl c292) ?_))))
               refine ov (v_eql rfl rfl) rfl ?_
               refine shO_on (b := true) 151 rfl (Env.isT rfl c292) ?_
               refine ov (v_neqB Try.underlying4 rfl rfl) rfl ?_
               refine shO_on (b := false) 148 rfl (Env.isF rfl c289) ?_
               refine ov (v_pick_t (evD_true rfl c292) rfl) rfl ?_
               refine ov (v_pick_f (evD_false rfl c289) rfl) rfl ?_
               refine shO_nil ?_
               obtain rfl := inj1 r293
               exact mi (kc kn) ⟨rfl, rfl, (sc rfl (sc rfl (sc rfl (sc rfl (sc rfl (sc rfl (sc rfl (sn _))))))))⟩
             have r294 := ite_f r291 c292; clear r291
             refine shO_off (b' := false) 151 rfl (Env.isF rfl c292) rfl rfl (shO_off (b' := false) 151 rfl (Env.isF rfl c292) rfl rfl (shO_off (b' := false) 151 rfl (Env.isF rfl c292) rfl rfl (shO_off (b' := false) 151 rfl (Env.isF rfl c292) rfl rfl (shO_on (b := false) 148 rfl (Env.isF rfl c289) ?_))))
             refine ov (v_pick_f (evD_false rfl c292) rfl) rfl ?_
             refine ov (v_pick_f (evD_false rfl c289) rfl) rfl ?_
             refine shO_nil ?_
             obtain rfl := inj1 r294
             exact mi (kc kn) ⟨rfl, rfl, (sc rfl (sc rfl (sc rfl (sc rfl (sc rfl (sc rfl (sc rfl (sn _))))))))⟩
           have r295 := ite_f r284 c285; clear r284
           refine shO_off (b' := false) 139 rfl (Env.isF rfl c285) rfl rfl (shO_off (b' := false) 139 rfl (Env.isF rfl c285) rfl rfl (shO_off (b' := false) 139 rfl (Env.isF rfl c285) rfl rfl (shO_off (b' := false) 139 rfl (Env.isF rfl c285) rfl rfl (shO_on (b := false) 133 rfl (Env.isF rfl c282) ?_))))
           refine ov (v_pick_f (evD_false rfl c285) rfl) rfl ?_
           refine shO_on (b := true) 123 rfl (EnvB rfl c277) ?_
           refine ov (v_pick_f (evD_false rfl c282) rfl) rfl ?_
           refine shO_on (b := false) 121 rfl (EnvB rfl c274) ?_
           refine ov (v_pick_t (evB rfl c277) rfl) rfl ?_
           refine ov (v_pick_f (evB rfl c274) rfl) rfl ?_
           refine om rfl rfl (shO_on (b := false) 148 rfl rfl (om rfl rfl (shO_on (b := false) 148 rfl rfl ?_)))
           refine ov (v_eql rfl rfl) rfl ?_
           refine shO_on (b := false) 148 rfl rfl (om rfl rfl ?_)
           by_cases c296 : k3 = 0
           · have r297 := ite_t r295 c296; clear r295
             refine shO_on (b := true) 151 rfl (Env.isT rfl c296) (om rfl rfl (shO_on (b := true) 151 rfl (Env.isT rfl c296) (om rfl rfl (shO_on (b := true) 151 rfl (Env.isT rfl c296) ?_))))
             refine ov (v_eql rfl rfl) rfl ?_
             refine shO_on (b := true) 151 rfl (Env.isT rfl c296) ?_
             refine ov (v_neqB Try.underlying4 rfl rfl) rfl ?_
             refine shO_on (b := false) 148 rfl rfl ?_
             refine ov (v_pick_t (evD_true rfl c296) rfl) rfl ?_
             refine ov (v_pick_f rfl rfl) rfl ?_
             refine shO_nil ?_
             obtain rfl := inj1 r297
             exact mi (kc kn) ⟨rfl, rfl, (sc rfl (sc rfl (sc rfl (sc rfl (sc rfl (sc rfl (sc rfl (sn _))))))))⟩
           have r298 := ite_f r295 c296; clear r295
           refine shO_off (b' := false) 151 rfl (Env.isF rfl c296) rfl rfl (shO_off (b' := false) 151 rfl (Env.isF rfl c296) rfl rfl (shO_off (b' := false) 151 rfl (Env.isF rfl c296) rfl rfl (shO_off (b' := false) 151 rfl (Env.isF rfl c296) rfl rfl (shO_on (b := false) 148 rfl rfl ?_))))
           refine ov (v_pick_f (evD_false rfl c296) rfl) rfl ?_
           refine ov (v_pick_f rfl rfl) rfl ?_
           refine shO_nil ?_
           obtain rfl := inj1 r298
           exact mi (kc kn) ⟨rfl, rfl, (sc rfl (sc rfl (sc rfl (sc rfl (sc rfl (sc rfl (sc rfl (sn _))))))))⟩
         have r299 := bf r276 c277; clear r276
         refine shO_off (b' := false) 123 rfl (EnvB rfl c277) rfl rfl (shO_off (b' := false) 123 rfl (EnvB rfl c277) rfl rfl (shO_off (b' := false) 123 rfl (EnvB rfl c277) rfl rfl (shO_offU 126 rfl rfl rfl (shO_offU 126 rfl rfl rfl (shO_offU 126 rfl rfl rfl (shO_offU 126 rfl rfl rfl (shO_offU 126 rfl rfl rfl (shO_off (b' := false) 123 rfl (EnvB rfl c277) rfl rfl (shO_off (b' := false) 123 rfl (EnvB rfl c277) rfl rfl ?_)))))))))
         refine shO_offU 133 rfl rfl rfl (shO_offU 133 rfl rfl rfl (shO_offU 133 rfl rfl rfl (shO_offU 133 rfl rfl rfl (shO_offU 133 rfl rfl rfl (shO_offU 133 rfl rfl rfl (shO_offU 139 rfl rfl rfl (shO_offU 139 rfl rfl rfl (shO_offU 139 rfl rfl rfl (shO_offU 139 rfl rfl rfl ?_)))))))))
         refine shO_offU 133 rfl rfl rfl (shO_off (b' := false) 123 rfl (EnvB rfl c277) rfl rfl (shO_on (b := false) 121 rfl (EnvB rfl c274) ?_))
         refine ov (v_pick_f (evB rfl c277) rfl) rfl ?_
         refine ov (v_pick_f (evB rfl c274) rfl) rfl ?_
         refine om rfl rfl (shO_on (b := false) 148 rfl rfl (om rfl rfl (shO_on (b := false) 148 rfl rfl ?_)))
         refine ov (v_eql rfl rfl) rfl ?_
         refine shO_on (b := false) 148 rfl rfl (om rfl rfl ?_)
         by_cases c300 : k3 = 0
         · have r301 := ite_t r299 c300; clear r299
           refine shO_on (b := true) 151 rfl (Env.isT rfl c300) (om rfl rfl (shO_on (b := true) 151 rfl (Env.isT rfl c300) (om rfl rfl (shO_on (b := true) 151 rfl (Env.isT rfl c300) ?_))))
           refine ov (v_eql rfl rfl) rfl ?_
           refine shO_on (b := true) 151 rfl (Env.isT rfl c300) ?_
           refine ov (v_neqB Try.underlying4 rfl rfl) rfl ?_
           refine shO_on (b := false) 148 rfl rfl ?_
           refine ov (v_pick_t (evD_true rfl c300) rfl) rfl ?_
           refine ov (v_pick_f rfl rfl) rfl ?_
           refine shO_nil ?_
           obtain rfl := inj1 r301
           exact mi (kc kn) ⟨rfl, rfl, (sc rfl (sc rfl (sc rfl (sc rfl (sc rfl (sc rfl (sc rfl (sn _))))))))⟩
         have r302 := ite_f r299 c300; clear r299
         refine shO_off (b' := false) 151 rfl (Env.isF rfl c300) rfl rfl (shO_off (b' := false) 151 rfl (Env.isF rfl c300) rfl rfl (shO_off (b' := false) 151 rfl (Env.isF rfl c300) rfl rfl (shO_off (b' := false) 151 rfl (Env.isF rfl c300) rfl rfl (shO_on (b := false) 148 rfl rfl ?_))))
         refine ov (v_pick_f (evD_false rfl c300) rfl) rfl ?_
         refine ov (v_pick_f rfl rfl) rfl ?_
         refine shO_nil ?_
         obtain rfl := inj1 r302
         exact mi (kc kn) ⟨rfl, rfl, (sc rfl (sc rfl (sc rfl (sc rfl (sc rfl (sc rfl (sc rfl (sn _))))))))⟩
       rintro e1 _ _ ⟨rfl, rfl, he303⟩
       refine shW_env _ he303 ?_; clear he303
       refine shW_cond rfl (fun c304 => ?_) (fun c304 => ?_)
       · have r305 := bt r273 c304; clear r273
         refine wsr (oa rfl rfl (shO_nil ?_))
         refine kW kn ?_
         refine shW_ret (inBlock_ret (andThen_ret (andThen_ret (inBlock_ret (andThen_ret ?_)))))
         refine q_res1 Try.results5 (res_tmp rfl) (sr) ?_
         obtain rfl := inj1 r305
         exact rfl
       have r306 := bf r273 c304; clear r273
       refine shW_skip (inBlock_n (id := 1) ?_)
       exact mi kr ⟨q_at3, q_turn3, r306, hF269, rfl, (sc rfl (sc rfl (sc rfl (sc rfl (sc rfl (sc rfl (sn _)))))))⟩
     rintro e1 F309 _ ⟨q_at2, q_turn2, r307, hF310, rfl, he308⟩
     refine shW_env _ he308 ?_; clear he308
     rw [oyezlaw07_BookRepeated_j4] at r307
     refine shW_region ?_
     refine ov (v_add rfl rfl (Ctr.r64 hk206 c213 g204)) rfl ?_
     refine om rfl rfl (shO_nil ?_)
     exact le kr ⟨_, hk214, q_at2, q_turn2, r307, (hF211.trans hF310), rfl, (sc rfl (sc rfl (sc rfl (sc rfl (sc rfl (sc rfl (sn _)))))))⟩
   obtain rfl := Ctr.zero hk206 c213
   rw [oyezlaw07_BookRepeated_l3] at r208
   refine shW_exit (andThen_exit (andThen_exit ?_))
   refine inBlock_exit ?_
   exact mi kn ⟨r208, hF211, rfl, (sn _)⟩
 rintro e1 F313 _ ⟨r311, hF314, rfl, he312⟩
 refine shW_env _ he312 ?_; clear he312
 rw [oyezlaw07_BookRepeated_j2] at r311
 refine wsr ?_
 obtain ⟨ok8, h315, r316⟩ := b1_ok r311; clear r311
 refine o_callV rfl Try.call16 rfl rfl rfl (oyezlaw07_awake_w h315) ?_
 refine oa rfl rfl (shO_nil (shW_ret ?_))
 refine q_res1 Try.results5 (res_tmp rfl) (sr) ?_
 obtain rfl := inj1 r316
 exact rfl
end Go.Proofs.Ytodhcoakjlmcdaa
