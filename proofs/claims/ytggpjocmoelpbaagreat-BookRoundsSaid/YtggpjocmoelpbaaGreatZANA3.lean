/- The walks that this claim needs, printed by a program of mine; part 3. -/
import Derived.Test.YtggpjocmoelpbaaGreatZANA2
namespace Go.Proofs.YtggpjocmoelpbaaGreat
open Go.SH Go.PL
open Tryz 
variable {F : FS} {count hour houses notice start y : Int} {cries : List (Int × Int × Int)} {round : List (Int × Int)} {walks : List (List Int)} {g : List Bool} {houses2 readings : List Int} {b_x cries_c hears_c houses2_c notices_c readings_c round_c walks_c x_c : Nat} {mb_x : Nat × Nat} {cries_a hears_a houses2_a notices_a readings_a round_a walks_a x_a : Option Addr}
set_option maxHeartbeats 1000000 in
theorem book_Fewest_w {notices : Int} {hears : List (List (List Int))} {complaints_a : Option Addr} {complaints_c : Nat} {complaints : List (Int × Int × Bool)} (h_hears : RowR 1 (slE 1 (slE 1 (iE .i64))) F hears_a hears_c hears) (h_readings : RowR 1 (iE .i64) F readings_a readings_c readings) (h_cries : RowR 3 (prE (iE .i64) (prE (iE .i64) (iE .i64))) F cries_a cries_c cries) (h_complaints : RowR 3 (prE (iE .i64) (prE (iE .i64) bE)) F complaints_a complaints_c complaints) {r : List Int} {r2 : Int} (hr : book_Fewest houses notices hears readings cries complaints = some (r, r2)) :
    SH.Spec Tryz.prog 29 #[.agg #[.int .i64 houses, .int .i64 notices, .slice hears_a hears.length hears_c, .slice readings_a readings.length readings_c, .slice cries_a cries.length cries_c], .slice complaints_a complaints.length complaints_c] F [] fun F' L' v => ∃ (ra : Option Addr) (rn : Nat) (rc : Nat) (rL : LH), v = .tuple #[.slice ra rn rc, .int .i64 r2] ∧ L' = rL ++ [] ∧ SlR 0 3 1 (iE .i64) F' ra rn rc r rL := by
 refine sp func29 ntmps29 fun K _ _ => ?_
 rw [book_Fewest] at hr
 refine wsr ?_
 refine o_box rfl rfl ?_; intro b1 hb1
 refine ua (ua (nsr ?_))
 refine uv (v_loadA isAgg43 sizeOf43 rfl (Has.own 0 rfl) (nbL rfl) rfl) (um ?_)
 obtain ⟨l, n, h2, r3⟩ := b2_ok hr
 refine c0 call53 (book_heard_w h_hears h_readings h_cries h_complaints h2) ?_; rintro _ F4 _ hF5 hn6 ⟨a8, n12, c9, Lb10, rfl, rfl, hz11⟩
 replace h_complaints := h_complaints.mono (prE_ok (iE_ok _) (prE_ok (iE_ok _) bE_ok)) hF5
 replace hz11 := hz11.new fun p hp => hn6 p (by simp [hp])
 refine shO_L (lp (ln rfl)) (kO (kf (fS fO) kr) ?_)
 refine um (ox rfl rfl rfl (ox rfl rfl rfl (ua (ua (shO_nil (shW_seq (wsr (um ?_))))))))
 refine uv (v_neq rfl rfl) (shO_nil ?_)
 refine cQ (fun c14 => ?_) fun c14 => ?_
 ·have r15 := ite_t r3 c14
  refine wsr (um (ua (ua (shO_nil ?_))))
  refine kW kn ?_
  refine shW_ret (andThen_ret ?_)
  refine q_res2 results29 (res_tmp rfl) (res_tmp rfl) (sr) ?_
  obtain ⟨rfl, rfl⟩ := inj2 r15
  exact ⟨_, _, _, [], rfl, rfl, SlR.nil _ _ _ _ _⟩
 have r16 := ite_f r3 c14
 refine shW_skip (wsr (um (um ?_)))
 obtain ⟨x, g17, hx18, r19⟩ := ix_ok r16
 obtain ⟨b20, o21, c22, vs23, ha24, hs25, hle26, ⟨_, _, rfl, ⟨rfl, h29⟩, ⟨a30, c31, rfl, h32⟩⟩, hl27, hc28⟩ := SlR.at (prE_ok (arE_ok (n := 24) (sz := 1) cB_ok) (slE_ok (iE_ok _))) hz11 (L := (b1, ce #[.int .i64 houses, .int .i64 notices, .slice hears_a hears.length hears_c, .slice readings_a readings.length readings_c, .slice cries_a cries.length cries_c] 43) :: (Lb10 ++ [])) (fC fP) g17.1 hx18
 refine uv (v_indexO underlying99 sizeOf106 rfl ha24 rfl (SlR.idx hz11 g17)) (uv (v_fieldAddr fa_106_0 rfl) (uv (v_loadA isAgg104 sizeOf104 rfl hs25 (li_off hc28 hle26 hl27 (li_here (lfl cB_ok h29))).2 (extract_cells (li_off hc28 hle26 hl27 (li_here (lfl cB_ok h29))).2 (lfl cB_ok h29) (li_off hc28 hle26 hl27 (li_here (lfl cB_ok h29))).1)) ?_))
 obtain ⟨l2, h33, r34⟩ := b1_ok r19
 refine c0 call54 (book_wrong_w h_complaints h29 h33) ?_; rintro _ F35 _ hF36 hn37 ⟨a39, n43, c40, Lb41, rfl, rfl, hz42⟩
 replace h_complaints := h_complaints.mono (prE_ok (iE_ok _) (prE_ok (iE_ok _) bE_ok)) hF36
 replace hz11 := hz11.mono (prE_ok (arE_ok (n := 24) (sz := 1) cB_ok) (slE_ok (iE_ok _))) hF36
 replace hz42 := hz42.new fun p hp => hn37 p (by simp [hp])
 refine shO_L (lp (ln rfl)) (kO (kf (fS fO) kr) ?_)
 refine ua (shO_nil ?_)
 obtain ⟨best, h51, r52⟩ := b1_ok r34
 refine shW_join (fun e1 F1 L1 => ∃ (a45 : Option Addr) (n49 : Nat) (c46 : Nat) (Lb47 : LH), FExt F35 F1 ∧ L1 = (Lb47 ++ []) ∧ e1.sub [(8, .slice a45 n49 c46)] ∧ SlR K.w0.heap.size 3 1 (iE .i64) F1 a45 n49 c46 best Lb47) ?_ ?_
 ·clear r52
  refine wsr (um ?_)
  obtain ⟨g53, r54⟩ := gd_ok h51
  obtain ⟨l3, h55, r56⟩ := bv_ok r54
  refine o_sliceZ (l := 1) (h := (l.length : Int)) (zs := l3) rfl slt_99 (prE_ok (arE_ok (n := 24) (sz := 1) cB_ok) (slE_ok (iE_ok _))) rfl (.inr ⟨_, rfl, rfl⟩) (.inl ⟨rfl, rfl⟩) (fun _ => .c (.s .h)) hz11 g53 h55 ?_; intro a57 n60 c58 Lb61 h59
  refine uv ((v_lenS underlying99 rfl).i (SlR.lenI h59)) ?_
  refine um (shO_nil ?_)
  refine shW_block (kW (kd kr) ?_)
  refine shW_lp (fun fu1 e1 F1 L1 => LA l3 fu1 fun tl k => ∃ (best2 : List Int) (a63 : Option Addr) (n67 : Nat) (c64 : Nat) (Lb65 : LH), book_Fewest_l1 complaints tl best2 = some best ∧ FExt F35 F1 ∧ L1 = (Lb65 ++ (Lb61 ++ [])) ∧ e1.sub [(1, .slice complaints_a complaints.length complaints_c), (8, .slice a63 n67 c64), (28, .slice a57 n60 c58), (29, .int .i64 (l3.length : Int)), (30, .int .i64 k)] ∧ SlR K.w0.heap.size 3 1 (iE .i64) F1 a63 n67 c64 best2 Lb65) _ (m0 kr ⟨_, _, rfl, Lst.start _, l2, a39, n43, c40, Lb41, r56, FExt.refl _, rfl, z5, hz42⟩) ?_
  rintro fu1 e1 F73 _ ⟨tl, k, hn70, hk69, best2, a63, n67, c64, Lb65, r71, hF74, rfl, he72, hz66⟩
  refine shW_env _ he72 ?_
  replace h_complaints := h_complaints.mono (prE_ok (iE_ok _) (prE_ok (iE_ok _) bE_ok)) hF74
  replace h59 := h59.mono (prE_ok (arE_ok (n := 24) (sz := 1) cB_ok) (slE_ok (iE_ok _))) hF74
  refine wsr (uv (v_lssK rfl rfl) ?_)
  refine shO_nil (shW_seq ?_)
  refine cQ (fun c76 => ?_) fun c76 => ?_
  ·obtain ⟨x2, tl2, rfl, hx78, g79, hk77⟩ := Lst.succ hk69 c76
   rw [book_Fewest_l1] at r71
   refine shW_skip (shW_seq ?_)
   refine shW_block (wsr ?_)
   obtain ⟨b80, o81, c82, vs83, ha84, hs85, hle86, ⟨_, _, rfl, ⟨rfl, h89⟩, ⟨a90, c91, rfl, h92⟩⟩, hl87, hc88⟩ := SlR.at (prE_ok (arE_ok (n := 24) (sz := 1) cB_ok) (slE_ok (iE_ok _))) h59 (L := Lb65 ++ (Lb61 ++ [])) (fS fP) g79.1 hx78
   refine uv (v_indexO underlying99 sizeOf106 rfl ha84 rfl (SlR.idx h59 g79)) (uv (v_loadA isAgg106 sizeOf106 rfl hs85 hle86 (extract_cells hle86 hl87 hc88)) ?_)
   refine o_alloc rfl zeroValue106 ?_; intro b93 hb93
   refine shO_L (L' := (b93, ce (((List.replicate 24 false).flatMap cB ++ (([.slice none 0 0] : List Value))).toArray) 106) :: (Lb65 ++ (Lb61 ++ []))) rfl (o_storeW (i := 0) sizeOf106 rfl rfl rfl (lz (la (lfl cB_ok List.length_replicate) rfl)) (lz (la (lfl cB_ok h89) rfl)) (oc_app (flat_one cB_ok _) (by simp [Value.oneCell'])) (shO_L (L' := (b93, ce ((x2.1.flatMap cB ++ (([.slice a90 x2.2.length c91] : List Value))).toArray) 106) :: (Lb65 ++ (Lb61 ++ []))) rfl ?_))
   refine nsr (um ?_)
   refine uv (v_fieldAddr fa_106_0 rfl) (uv (v_loadA isAgg104 sizeOf104 rfl (Has.own 0 rfl) (li_le (li_here (lfl cB_ok h89))) (li_ext (lfl cB_ok h89) (li_here (lfl cB_ok h89)))) ?_)
   obtain ⟨l4, h94, r95⟩ := b1_ok r71
   refine c0 call54 (book_wrong_w h_complaints h89 h94) ?_; rintro _ F96 _ hF97 hn98 ⟨a100, n104, c101, Lb102, rfl, rfl, hz103⟩
   replace h59 := h59.mono (prE_ok (arE_ok (n := 24) (sz := 1) cB_ok) (slE_ok (iE_ok _))) hF97
   replace hz66 := hz66.mono (iE_ok _) hF97
   replace hz103 := hz103.new fun p hp => hn98 p (by simp [hp])
   refine shO_L (lp (ln rfl)) (kO (kf (fS fO) kr) ?_)
   refine ua (shO_nil ?_)
   obtain ⟨k2, h106, r107⟩ := b1_ok r95
   refine jE ((Lb65 ++ (Lb102 ++ (Lb61 ++ [])))) [(1, .slice complaints_a complaints.length complaints_c), (8, .slice a63 n67 c64), (11, .slice a100 n104 c101), (28, .slice a57 n60 c58), (29, .int .i64 (l3.length : Int)), (30, .int .i64 k), (55, .bool k2)] ?_ ?_
   ·clear r107
    refine shW_region (um ?_)
    refine uv ((v_lenS underlying35 rfl).i (SlR.lenI hz103)) (um (uv ((v_lenS underlying35 rfl).i (SlR.lenI hz66)) (uv (v_lssK rfl rfl) (um ?_))))
    by_cases c108 : (l4.length : Int) < (best2.length : Int)
    ·have r109 := ite_t h106 c108
     refine fT c108 (fT c108 (fT c108 (fT c108 (fT c108 (fT c108 (fU (fU (fU (fU ?_)))))))))
     refine fT c108 (uv (v_pick_t (evD_true rfl c108) rfl) (shO_nil ?_))
     obtain rfl := inj1 r109
     exact mi (kd (kg (fS fP) kr)) ⟨rfl, rfl, z7⟩
    have r110 := ite_f h106 c108
    refine nF c108 (um (nF c108 ?_))
    refine uv ((v_lenS underlying35 rfl).i (SlR.lenI hz103)) ?_
    refine nF c108 (um (nF c108 ?_))
    refine uv ((v_lenS underlying35 rfl).i (SlR.lenI hz66)) (nF c108 (uv (v_eql rfl rfl) ?_))
    refine nF c108 (um ?_)
    by_cases c111 : (l4.length : Int) = (best2.length : Int)
    ·have r112 := ite_t r110 c111
     refine nT c111 (um (nT c111 (um (nT c111 ?_))))
     obtain ⟨n2, h113, r114⟩ := b1_ok r112
     refine o_callT (Lt := Lb102 ++ (Lb65 ++ [])) (Lr := (b93, ce ((x2.1.flatMap cB ++ (([.slice a90 x2.2.length c91] : List Value))).toArray) 106) :: (Lb61 ++ [])) rfl call55 rfl rfl rfl (pT ((fC fP).trans (pA ((fC fP).trans (pA pR)))) (lp (lp (ln rfl)))) (fun F2 h2 h3 => by rw [(SlR.caps hz103).1]; rw [(SlR.caps hz66).1]; exact slices_Compare_int_int_w (hz103.row (iE_ok _) h2 (fun p hp => h3 p (List.mem_append_left _ hp))) (hz66.row (iE_ok _) h2 (fun p hp => h3 p (List.mem_append_right _ (List.mem_append_left _ hp)))) h113) ?_
     refine nT c111 (uv (v_lssK rfl rfl) (nF c108 (uv (v_pick_t (evD_true rfl c111) rfl) (uv (v_pick_f (evD_false rfl c108) rfl) (shO_nil ?_)))))
     obtain rfl := inj1 r114
     exact mi (kd (kg (fS fP) kr)) ⟨rfl, rfl, z7⟩
    have r115 := ite_f r110 c111
    refine fF c111 (fF c111 (fF c111 (fF c111 (nF c108 ?_))))
    refine uv (v_pick_f (evD_false rfl c111) rfl) (uv (v_pick_f (evD_false rfl c108) rfl) (shO_nil ?_))
    obtain rfl := inj1 r115
    exact mi (kd (kg (fS fP) kr)) ⟨rfl, rfl, z7⟩
   refine shW_cond rfl (fun c117 => ?_) (fun c117 => ?_)
   ·have r118 := bt r107 c117
    refine shW_region (um (ua (shO_nil (inBlock_n (id := 1) (shW_region ?_)))))
    refine uv (v_add rfl rfl (Lst.r64 hk69 c76 (SlR.llt h59))) ?_
    refine um (shO_nil ?_)
    subst hn70; exact le (kx kr) ⟨_, _, rfl, hk77, l4, a100, n104, c101, Lb102, r118, (hF74.trans hF97), rfl, z5, hz103⟩
   have r119 := bf r107 c117
   refine shW_skip (inBlock_n (id := 1) (shW_region ?_))
   refine uv (v_add rfl rfl (Lst.r64 hk69 c76 (SlR.llt h59))) ?_
   refine um (shO_nil ?_)
   subst hn70; exact le (ka (kx kr)) ⟨_, _, rfl, hk77, best2, a63, n67, c64, Lb65, r119, (hF74.trans hF97), rfl, z5, hz66⟩
  obtain rfl := Lst.zero hk69 c76
  rw [book_Fewest_l1] at r71
  refine shW_exit (andThen_exit (andThen_exit ?_))
  refine inBlock_exit ?_
  obtain rfl := inj1 r71
  exact mi (ka kn) ⟨a63, n67, c64, Lb65, hF74, rfl, z1, hz66⟩
 rintro e1 F121 _ ⟨a45, n49, c46, Lb47, hF122, rfl, he120, hz48⟩
 refine shW_env _ he120 ?_
 refine wsr (um (ua (ua (shO_nil (shW_ret ?_)))))
 refine q_res2 results29 (res_tmp rfl) (res_tmp rfl) (sr) ?_
 obtain ⟨rfl, rfl⟩ := inj2 r52
 exact ⟨_, _, _, _, rfl, rfl, hz48.any⟩
theorem slices_Clone_book_Cry_book_Cry_w {s__a : Option Addr} {s__c : Nat} {s_ : List (Int × Int × Int)} (h_s_ : RowR 3 (prE (iE .i64) (prE (iE .i64) (iE .i64))) F s__a s__c s_) {r : List (Int × Int × Int)} (hr : slices_Clone_book_Cry_book_Cry s_ = some r) :
    SH.Spec Tryz.prog 62 #[.slice s__a s_.length s__c] F [] fun F' L' v => ∃ (ra : Option Addr) (rn : Nat) (rc : Nat) (rL : LH), v = .slice ra rn rc ∧ L' = rL ++ [] ∧ SlR 0 49 3 (prE (iE .i64) (prE (iE .i64) (iE .i64))) F' ra rn rc r rL := by
 refine sp func62 ntmps62 fun K _ _ => ?_
 rw [slices_Clone_book_Cry_book_Cry] at hr
 refine wsr (ua (shO_nil (shW_seq (wsr (um ?_)))))
 refine uv (v_eqlNil underlying41 rfl) (shO_nil ?_)
 refine shW_cond rfl (fun c1 => ?_) (fun c1 => ?_)
 ·have r2 := nilIf_t hr (RowR.isNone h_s_ c1)
  refine wsr (ua (shO_nil (shW_ret (andThen_ret ?_))))
  refine qR1 results62 ?_
  obtain rfl := inj1 r2
  exact ⟨_, _, _, [], rfl, rfl, SlR.nil _ _ _ _ _⟩
 have r3 := nilIf_f hr
 refine shW_skip (wsr ?_)
 refine o_buildSlice (cs := #[]) rfl rfl (buildSlice_none slt_41) ?_; intro b4 hb4
 refine um ?_
 have hz6 : SlR K.w0.heap.size 49 3 (prE (iE .i64) (prE (iE .i64) (iE .i64))) F (some ⟨b4, 0, none⟩) 0 0 ([] : List (Int × Int × Int)) [(b4, ce #[] 49)] := SlR.of_block (vss := []) (prE_ok (iE_ok _) (prE_ok (iE_ok _) (iE_ok _))) hb4 .nil rfl rfl (by simp [maxLen])
 generalize hLLb5 : ([(b4, ce #[] 49)] : LH) = Lb5 at hz6
 refine shO_perm (L' := Lb5 ++ []) (by rw [← hLLb5]; exact fO) ?_
 obtain ⟨l, h8, g9, r10⟩ := ap_ok r3
 refine o_appZ (xs := ([] : List (Int × Int × Int))) (ys := s_) (zs := l) rfl slt_41 rfl rfl (Nat.le_refl _) (fun _ => .h) hz6 (RowR.src h_s_) h8 g9 (by decide) ?_; intro a11 n15 c12 Lb13 hz14
 refine ua (shO_nil (shW_ret ?_))
 refine qR1 results62 ?_
 obtain rfl := inj1 r10
 exact ⟨_, _, _, _, rfl, rfl, hz14.any⟩
theorem book_Again_1_1_1_w {h : Int} {b_g : Nat} {mb_g : Nat × Nat} {x : Int} (hb_g : F b_g = some (.cells (arr cB g) 104 mb_g)) (h_g : g.length = 24) (hb_x : F b_x = some (.cells #[.int .i64 x] 3 mb_x)) {r : Bool} (hr : book_Again_1_1_1 h g x = some r) :
    SpecV Tryz.prog 65 #[.int .i64 h, .pointer (some ⟨b_g, 0, none⟩), .pointer (some ⟨b_x, 0, none⟩)] F (.bool r) := by
 refine sp func65 ntmps65 fun K _ _ => ?_
 rw [book_Again_1_1_1] at hr
 refine wsr (ua ?_)
 refine dN (wm (wv (v_load isAgg3 rfl (Has.frozen hb_x) rfl) ?_))
 obtain ⟨g1, r2⟩ := gd_ok hr
 refine wv (v_indexA underlying104 sizeOf102 rfl rfl g1) ?_
 obtain ⟨g3, r4⟩ := gd_ok r2
 obtain ⟨x2, g5, hx6, r7⟩ := ix_ok r4
 have hq9 : (h * 4 + x : Int).toNat = (h : Int).toNat * 4 + (x : Int).toNat := by have := g1; have := g3; omega
 have hc8 := el_at2 cB_ok h_g hq9 hx6 (li_arr (li_end (lfl cB_ok h_g))) (li_le (li_end (lfl cB_ok h_g)))
 refine wv (v_indexA underlying102 sizeOf4 rfl rfl g3) (wv (v_load isAgg4 rfl (Has.frozen hb_g) ((hc8).2.2 0 (by decide))) ?_)
 refine wa (shQ_nil (shW_ret ?_))
 refine qR1 results65 ?_
 obtain rfl := inj1 r7
 exact rfl
theorem book_Again_1_1_w {x : List Int} {b_x_ : Nat} {x2 : Int} {mb_x_ : Nat × Nat} (h_g : g.length = 24) (hb_x : F b_x = some (.cells #[.slice x_a x.length x_c] 35 mb_x)) (h_x : RowR 1 (iE .i64) F x_a x_c x) (hb_x_ : F b_x_ = some (.cells #[.int .i64 x2] 3 mb_x_)) {r : Bool} (hr : book_Again_1_1 g x x2 = some r) :
    SpecV Tryz.prog 63 #[.agg (arr cB g), .pointer (some ⟨b_x, 0, none⟩), .pointer (some ⟨b_x_, 0, none⟩)] F (.bool r) := by
 refine sp func63 ntmps63 fun K _ _ => ?_
 rw [book_Again_1_1] at hr
 refine wsr ?_
 refine o_box rfl rfl ?_; intro b1 hb1
 refine ua (nsr ?_)
 refine uv (v_load isAgg35 rfl (Has.frozen hb_x) rfl) (uv (v_makeFunc rfl rfl) ?_)
 refine shO_freeze 0 rfl hb1 ?_; intro F2 hF3 hz4
 refine shO_L rfl ?_
 replace h_x := h_x.mono (iE_ok _) hF3
 replace hb_x_ := hF3 _ _ hb_x_
 have hn5 : FnR Tryz.prog F2 65 #[] #[.pointer (some ⟨b1, 0, none⟩), .pointer (some ⟨b_x_, 0, none⟩)] (iE .i64) Value.bool (fun xx_ : Int => book_Again_1_1_1 xx_ g x2) := ⟨call65, fun F2 h2 vs xx_ r ha hr => by obtain rfl := ha; exact book_Again_1_1_1_w (h2 _ _ hz4) h_g (h2 _ _ hb_x_) hr⟩
 obtain ⟨ok, h6, r7⟩ := b1_ok hr
 refine cV call64 (book_every_int_w h_x hn5 h6) (uv (v_notB rfl) ?_)
 refine ua (shO_nil (shW_ret ?_))
 refine qR1 results63 ?_
 obtain rfl := inj1 r7
 exact rfl
set_option maxHeartbeats 1000000 in
theorem book_Again_1B_w {rec_ : (List Int) → Int → Int → Int → Int → (List (List (List Int))) → (List Int) → (List (Int × Int × Int)) → Int → Int → (List Int) → (List Int) → Bool → Option (Bool × (List Int) × Bool)} (hrec : ∀ {l_a : Option Addr} {l_c : Nat} {l : List Int} {from_ many : Int} {b_b : Nat} {houses notices : Int} {hears_a : Option Addr} {hears_c : Nat} {hears : List (List (List Int))} {readings_a : Option Addr} {readings_c : Nat} {readings : List Int} {cries_a : Option Addr} {cries_c : Nat} {cries : List (Int × Int × Int)} {mb_b : Nat × Nat} {b_hour : Nat} {hour : Int} {mb_hour : Nat × Nat} {b_notice : Nat} {notice : Int} {mb_notice : Nat × Nat} {b_houses : Nat} {houses2_a : Option Addr} {houses2_c : Nat} {houses2 : List Int} {mb_houses : Nat × Nat} {b_out : Nat} {out_a : Option Addr} {out_c : Nat} {out : List Int} {b_found : Nat} {found : Bool} {b_pick : Nat} {mb_pick : Nat × Nat} {F : FS} (_ : RowR 1 (iE .i64) F l_a l_c l) (_ : F b_b = some (.cells #[.int .i64 houses, .int .i64 notices, .slice hears_a hears.length hears_c, .slice readings_a readings.length readings_c, .slice cries_a cries.length cries_c] 43 mb_b)) (_ : RowR 1 (slE 1 (slE 1 (iE .i64))) F hears_a hears_c hears) (_ : RowR 1 (iE .i64) F readings_a readings_c readings) (_ : RowR 3 (prE (iE .i64) (prE (iE .i64) (iE .i64))) F cries_a cries_c cries) (_ : F b_hour = some (.cells #[.int .i64 hour] 3 mb_hour)) (_ : F b_notice = some (.cells #[.int .i64 notice] 3 mb_notice)) (_ : F b_houses = some (.cells #[.slice houses2_a houses2.length houses2_c] 35 mb_houses)) (_ : RowR 1 (iE .i64) F houses2_a houses2_c houses2) (_ : RowR 1 (iE .i64) F out_a out_c out) (_ : F b_pick = some (.cells (#[.func (.func 61) #[] #[.pointer (some ⟨b_b, 0, none⟩), .pointer (some ⟨b_hour, 0, none⟩), .pointer (some ⟨b_notice, 0, none⟩), .pointer (some ⟨b_houses, 0, none⟩), .pointer (some ⟨b_out, 0, none⟩), .pointer (some ⟨b_found, 0, none⟩), .pointer (some ⟨b_pick, 0, none⟩)]]) 150 mb_pick)) {r : Bool} {r2 : List Int} {r3 : Bool} , rec_ l from_ many houses notices hears readings cries hour notice houses2 out found = some (r, r2, r3) → SH.Spec Tryz.prog 61 #[.slice l_a l.length l_c, .int .i64 from_, .int .i64 many, .pointer (some ⟨b_b, 0, none⟩), .pointer (some ⟨b_hour, 0, none⟩), .pointer (some ⟨b_notice, 0, none⟩), .pointer (some ⟨b_houses, 0, none⟩), .pointer (some ⟨b_out, 0, none⟩), .pointer (some ⟨b_found, 0, none⟩), .pointer (some ⟨b_pick, 0, none⟩)] F [(b_out, ce #[.slice out_a out.length out_c] 35), (b_found, ce #[.bool found] 4)] fun F' L' v => ∃ (r2a : Option Addr) (r2c : Nat), v = .bool r ∧ L' = [(b_out, ce #[.slice r2a r2.length r2c] 35), (b_found, ce #[.bool r3] 4)] ∧ RowR 1 (iE .i64) F' r2a r2c r2) {l_a : Option Addr} {l_c : Nat} {l : List Int} {from_ many : Int} {b_b : Nat} {notices : Int} {hears : List (List (List Int))} {mb_b : Nat × Nat} {b_hour : Nat} {mb_hour : Nat × Nat} {b_notice : Nat} {mb_notice : Nat × Nat} {b_houses : Nat} {mb_houses : Nat × Nat} {b_out : Nat} {out_a : Option Addr} {out_c : Nat} {out : List Int} {b_found : Nat} {found : Bool} {b_pick : Nat} {mb_pick : Nat × Nat} (h_l : RowR 1 (iE .i64) F l_a l_c l) (hb_b : F b_b = some (.cells #[.int .i64 houses, .int .i64 notices, .slice hears_a hears.length hears_c, .slice readings_a readings.length readings_c, .slice cries_a cries.length cries_c] 43 mb_b)) (h_hears : RowR 1 (slE 1 (slE 1 (iE .i64))) F hears_a hears_c hears) (h_readings : RowR 1 (iE .i64) F readings_a readings_c readings) (h_cries : RowR 3 (prE (iE .i64) (prE (iE .i64) (iE .i64))) F cries_a cries_c cries) (hb_hour : F b_hour = some (.cells #[.int .i64 hour] 3 mb_hour)) (hb_notice : F b_notice = some (.cells #[.int .i64 notice] 3 mb_notice)) (hb_houses : F b_houses = some (.cells #[.slice houses2_a houses2.length houses2_c] 35 mb_houses)) (h_houses2 : RowR 1 (iE .i64) F houses2_a houses2_c houses2) (h_out : RowR 1 (iE .i64) F out_a out_c out) (hb_pick : F b_pick = some (.cells (#[.func (.func 61) #[] #[.pointer (some ⟨b_b, 0, none⟩), .pointer (some ⟨b_hour, 0, none⟩), .pointer (some ⟨b_notice, 0, none⟩), .pointer (some ⟨b_houses, 0, none⟩), .pointer (some ⟨b_out, 0, none⟩), .pointer (some ⟨b_found, 0, none⟩), .pointer (some ⟨b_pick, 0, none⟩)]]) 150 mb_pick)) {r : Bool} {r2 : List Int} {r3 : Bool} (hr : book_Again_1B rec_ l from_ many houses notices hears readings cries hour notice houses2 out found = some (r, r2, r3)) :
    SH.Spec Tryz.prog 61 #[.slice l_a l.length l_c, .int .i64 from_, .int .i64 many, .pointer (some ⟨b_b, 0, none⟩), .pointer (some ⟨b_hour, 0, none⟩), .pointer (some ⟨b_notice, 0, none⟩), .pointer (some ⟨b_houses, 0, none⟩), .pointer (some ⟨b_out, 0, none⟩), .pointer (some ⟨b_found, 0, none⟩), .pointer (some ⟨b_pick, 0, none⟩)] F [(b_out, ce #[.slice out_a out.length out_c] 35), (b_found, ce #[.bool found] 4)] fun F' L' v => ∃ (r2a : Option Addr) (r2c : Nat), v = .bool r ∧ L' = [(b_out, ce #[.slice r2a r2.length r2c] 35), (b_found, ce #[.bool r3] 4)] ∧ RowR 1 (iE .i64) F' r2a r2c r2 := by
 refine sp func61 ntmps61 fun K _ _ => ?_
 rw [book_Again_1B] at hr
 refine wsr (ua (shO_nil ?_))
 refine shW_join (fun e1 F1 L1 => book_Again_1B_j1 l from_ many houses notices hears readings cries hour notice houses2 out found rec_ = some (r, r2, r3) ∧ F = F1 ∧ L1 = [(b_out, ce #[.slice out_a out.length out_c] 35), (b_found, ce #[.bool found] 4)] ∧ e1.sub [(0, .slice l_a l.length l_c), (1, .int .i64 from_), (2, .int .i64 many), (3, .pointer (some ⟨b_b, 0, none⟩)), (9, .pointer (some ⟨b_pick, 0, none⟩))]) ?_ ?_
 ·refine wsr (um ?_)
  refine uv (v_eql rfl rfl) (shO_nil ?_)
  refine cQ (fun c1 => ?_) fun c1 => ?_
  ·have r4 := ite_t hr c1
   refine wsr (uv (v_loadA isAgg43 sizeOf43 rfl (Has.frozen hb_b) (nbL rfl) rfl) ?_)
   refine uv (v_build (v := .agg #[.int .i64 houses, .int .i64 notices, .slice hears_a hears.length hears_c, .slice readings_a readings.length readings_c, .slice cries_a cries.length cries_c]) rfl (by intro w; kernel_rfl)) ?_
   refine o_box rfl rfl ?_; intro b5 hb5
   refine ua (nsr (um ?_))
   refine uv (v_fieldAddr fa_43_4 rfl) (uv (v_load isAgg41 rfl (Has.frozen hb_b) rfl) ?_)
   obtain ⟨l2, h6, r7⟩ := b1_ok r4
   refine c0 call62 (slices_Clone_book_Cry_book_Cry_w h_cries h6) ?_; rintro _ F8 _ hF9 hn10 ⟨a12, n16, c13, Lb14, rfl, rfl, hz15⟩
   replace h_l := h_l.mono (iE_ok _) hF9
   replace h_hears := h_hears.mono (slE_ok (slE_ok (iE_ok _))) hF9
   replace h_readings := h_readings.mono (iE_ok _) hF9
   replace h_houses2 := h_houses2.mono (iE_ok _) hF9
   replace h_out := h_out.mono (iE_ok _) hF9
   replace hb_hour := hF9 _ _ hb_hour
   replace hb_notice := hF9 _ _ hb_notice
   replace hb_houses := hF9 _ _ hb_houses
   replace hz15 := hz15.new fun p hp => hn10 p (by simp [hp])
   refine shO_L (lp (ln rfl)) (kO (kf (fS fO) (kf (fS fO) (kf (fS fO) kr))) (uv (v_nilCheck rfl) (uv (v_fieldAddr fa_152_0 rfl) (uv (v_fieldAddr fa_43_4 rfl) (o_store (i := 0) sizeOf41 rfl rfl rfl rfl (nbL rfl) (shO_L rfl (shO_nil ?_)))))))
   obtain ⟨d_cries, h24, r25⟩ := b1_ok r7
   refine shW_join (fun e1 F1 L1 => ∃ (a18 : Option Addr) (n22 : Nat) (c19 : Nat) (Lb20 : LH), F8 = F1 ∧ L1 = ((b5, ce #[.int .i64 houses, .int .i64 notices, .slice hears_a hears.length hears_c, .slice readings_a readings.length readings_c, .slice a18 n22 c19] 152) :: ((b_out, ce #[.slice out_a out.length out_c] 35) :: ((b_found, ce #[.bool found] 4) :: (Lb20 ++ [])))) ∧ e1.sub [(0, .slice l_a l.length l_c), (5, .pointer (some ⟨b_notice, 0, none⟩)), (6, .pointer (some ⟨b_houses, 0, none⟩)), (7, .pointer (some ⟨b_out, 0, none⟩)), (8, .pointer (some ⟨b_found, 0, none⟩)), (14, .pointer (some ⟨b5, 0, none⟩))] ∧ SlR K.w0.heap.size 49 3 (prE (iE .i64) (prE (iE .i64) (iE .i64))) F1 a18 n22 c19 d_cries Lb20) ?_ ?_
   ·clear r25
    refine wsr (um ?_)
    refine uv (v_lenS underlying35 rfl) ?_
    refine um (shO_nil ?_)
    refine shW_block ?_
    refine shW_lp (fun fu2 e1 F1 L1 => LA l fu2 fun tl k => ∃ (d_cries2 : List (Int × Int × Int)) (a26 : Option Addr) (n30 : Nat) (c27 : Nat) (Lb28 : LH), book_Again_1B_l2 hour notice tl d_cries2 = some d_cries ∧ F8 = F1 ∧ L1 = ((b5, ce #[.int .i64 houses, .int .i64 notices, .slice hears_a hears.length hears_c, .slice readings_a readings.length readings_c, .slice a26 n30 c27] 152) :: ((b_out, ce #[.slice out_a out.length out_c] 35) :: ((b_found, ce #[.bool found] 4) :: (Lb28 ++ [])))) ∧ e1.sub [(0, .slice l_a l.length l_c), (4, .pointer (some ⟨b_hour, 0, none⟩)), (5, .pointer (some ⟨b_notice, 0, none⟩)), (6, .pointer (some ⟨b_houses, 0, none⟩)), (7, .pointer (some ⟨b_out, 0, none⟩)), (8, .pointer (some ⟨b_found, 0, none⟩)), (14, .pointer (some ⟨b5, 0, none⟩)), (31, .slice l_a l.length l_c), (32, .int .i64 (l.length : Int)), (33, .int .i64 k)] ∧ SlR K.w0.heap.size 49 3 (prE (iE .i64) (prE (iE .i64) (iE .i64))) F1 a26 n30 c27 d_cries2 Lb28) _ (m0 kr ⟨_, _, rfl, Lst.start _, l2, a12, n16, c13, Lb14, h24, rfl, rfl, (sc rfl (sc rfl z8)), hz15⟩) ?_
    rintro fu2 e1 _ _ ⟨tl, k, hn33, hk32, d_cries2, a26, n30, c27, Lb28, r34, rfl, rfl, he35, hz29⟩
    refine shW_env _ he35 (wsr (uv (v_lssK rfl rfl) ?_))
    refine shO_nil (shW_seq ?_)
    refine cQ (fun c37 => ?_) fun c37 => ?_
    ·obtain ⟨x, tl2, rfl, hx39, g40, hk38⟩ := Lst.succ hk32 c37
     rw [book_Again_1B_l2] at r34
     refine shW_skip (shW_seq ?_)
     refine shW_block (wsr ?_)
     obtain ⟨b41, o42, c43, vs44, ha45, hs46, hle47, rfl, hl48, hc49⟩ := RowR.at (iE_ok _) h_l ((b5, ce #[.int .i64 houses, .int .i64 notices, .slice hears_a hears.length hears_c, .slice readings_a readings.length readings_c, .slice a26 n30 c27] 152) :: ((b_out, ce #[.slice out_a out.length out_c] 35) :: ((b_found, ce #[.bool found] 4) :: (Lb28 ++ [])))) g40.1 hx39
     refine uv (v_indexO underlying35 sizeOf3 rfl ha45 rfl g40) (uv (v_load isAgg3 rfl hs46 (hc49 0 (by decide))) ?_)
     refine ua (shO_nil ?_)
     refine shW_drawM [(.still, 0), (.still, 1), (.still, 2), (.still, 3), (.still, 4), (.still, 5), (.still, 6), (.still, 7), (.still, 8), (.still, 9), (.seq, 10), (.seq, 11), (.still, 12), (.still, 13), (.still, 14), (.seq, 15)] (by kernel_rfl) (by kernel_rfl) (trivial) (by rfl) (by kernel_rfl) (mS [14] rfl (v_move rfl) (mS [14] rfl (v_move rfl) (mS [38] rfl (v_nilCheck rfl) (mS [39] rfl (v_fieldAddr fa_152_0 rfl) (mS [40] rfl (v_fieldAddr fa_43_4 rfl) (mL [41] ([(b5, ce #[.int .i64 houses, .int .i64 notices, .slice hears_a hears.length hears_c, .slice readings_a readings.length readings_c, .slice a26 n30 c27] 152)]) rfl (s0 (s2 (s1 (s1 (s3 sr))))) (fun H F' L' hF' hL' => v_load isAgg41 rfl ((Has.own 0 rfl).ext hF' hL') rfl) (mL [4] ([]) rfl sm (fun H F' L' hF' hL' => v_load isAgg3 rfl ((Has.frozen hb_hour).ext hF' hL') rfl) ?_)))))))
     refine mS [16] rfl (v_move rfl) (mL [5] ([]) rfl sm (fun H F' L' hF' hL' => v_load isAgg3 rfl ((Has.frozen hb_notice).ext hF' hL') rfl) ?_)
     refine mS (v := .agg #[.int .i64 hour, .int .i64 x, .int .i64 notice]) [43, 44, 45] rfl (v_build (v := .agg #[.int .i64 hour, .int .i64 x, .int .i64 notice]) rfl (by intro w; kernel_rfl)) ?_
     refine ⟨_, [(46, .agg #[.int .i64 hour, .int .i64 x, .int .i64 notice])], rfl, rfl, z1, by kernel_rfl, ?_⟩; intro H
     refine bA (cs := #[.int .i64 hour, .int .i64 x, .int .i64 notice]) slt_41 [.agg #[.int .i64 hour, .int .i64 x, .int .i64 notice]] ?_; intro b50 hb50
     refine shO_nil ⟨_, rfl, FExt.refl _, [5, 4, 3, 2, 1, 0], by kernel_rfl, .inl (.inr (fun d h => by cases h; rfl)), (fc (s0 (s1 (s2 (s1 (s1 (s3 sr)))))) (fc sm (fc sm (fc sm (fc sm (fc sm nm)))))), ?_⟩
     refine ⟨_, [(42, .slice a26 n30 c27), (47, .slice (some ⟨b50, 0, none⟩) 1 1)], rfl, rfl, z2, by kernel_rfl, ?_⟩; intro H
     obtain ⟨l3, h51, g52, r53⟩ := ap_ok r34
     refine o_appZ (xs := d_cries2) (ys := [(hour, x, notice)]) (zs := l3) rfl slt_41 rfl rfl (Nat.le_refl _) (fun _ => .c (.c (.c (.c .h)))) hz29 (SrcR.box (vss := [[.int .i64 hour, .int .i64 x, .int .i64 notice]]) (ys := [(hour, x, notice)]) 0 rfl (prE_ok (iE_ok _) (prE_ok (iE_ok _) (iE_ok _))) (.cons ⟨_, _, rfl, rfl, ⟨_, _, rfl, rfl, rfl⟩⟩ .nil) rfl rfl) h51 g52 (by decide) ?_; intro a54 n58 c55 Lb56 hz57
     refine kO (kd kr) ?_
     refine shO_nil ⟨_, rfl, FExt.refl _, [0], by kernel_rfl, .inl (.inr (fun d h => by cases h; rfl)), (fc sm nm), ?_⟩
     refine mS [37] rfl (v_nilCheck rfl) (mS [49] rfl (v_fieldAddr fa_152_0 rfl) (mS [50] rfl (v_fieldAddr fa_43_4 rfl) ?_))
     refine ⟨_, [(48, .slice a54 n58 c55), (51, .pointer (some ⟨b5, 4, none⟩))], rfl, rfl, z2, by kernel_rfl, ?_⟩; intro H
     refine o_store (i := 0) sizeOf41 rfl rfl rfl rfl (nbL rfl) (shO_L rfl ?_)
     refine shO_nil ⟨undef, rfl, FExt.refl _, [], by kernel_rfl, .inl (.inl rfl), nm, ?_⟩
     refine shM_nil ?_
     refine inBlock_n (id := 1) (shW_region ?_)
     refine uv (v_add rfl rfl (Lst.r64 hk32 c37 (RowR.lt h_l))) ?_
     refine um (shO_nil ?_)
     subst hn33; exact le kr ⟨_, _, rfl, hk38, l3, a54, n58, c55, Lb56, r53, rfl, rfl, (sc rfl (sc rfl z8)), hz57⟩
    obtain rfl := Lst.zero hk32 c37
    rw [book_Again_1B_l2] at r34
    refine shW_exit (andThen_exit (andThen_exit ?_))
    refine inBlock_exit ?_
    obtain rfl := inj1 r34
    exact mi kr ⟨a26, n30, c27, Lb28, rfl, rfl, z6, hz29⟩
   rintro e1 _ _ ⟨a18, n22, c19, Lb20, rfl, rfl, he60, hz21⟩
   refine shW_env _ he60 (wsr (uv (v_makeFunc rfl rfl) ?_))
   refine uv (v_build (v := .agg (#[.func (.func 63) #[] #[.pointer (some ⟨b_houses, 0, none⟩), .pointer (some ⟨b_notice, 0, none⟩)]])) rfl (by intro w; kernel_rfl)) ?_
   refine o_alloc rfl zeroValue157 ?_; intro b61 hb61
   refine o_storeA (i := 0) sizeOf157 rfl rfl rfl (by simp [Value.oneCell']) rfl (nbL rfl) (shO_L rfl ?_)
   refine shO_nil (shW_seq (shW_seq ?_))
   refine shW_drawM [(.still, 0), (.still, 1), (.seq, 2), (.seq, 3), (.still, 4)] (by kernel_rfl) (by kernel_rfl) (trivial) (by rfl) (by kernel_rfl) (mL [17] ([(b61, ce (#[.func (.func 63) #[] #[.pointer (some ⟨b_houses, 0, none⟩), .pointer (some ⟨b_notice, 0, none⟩)]]) 157)]) rfl (s0 (s2 (s1 (s1 (s1 (s3 sr)))))) (fun H F' L' hF' hL' => v_loadA isAgg157 sizeOf157 rfl ((Has.own 0 rfl).ext hF' hL') (nbL rfl) rfl) (mS [14] rfl (v_move rfl) ?_))
   refine ⟨_, [(56, .pointer (some ⟨b5, 0, none⟩))], rfl, rfl, z1, by kernel_rfl, ?_⟩; intro H
   obtain rfl := (SlR.caps hz21).1
   refine shO_freezeR (Nat.le_refl _) (prE_ok (iE_ok _) (prE_ok (iE_ok _) (iE_ok _))) (fC (fC (fC (fC fP)))) hz21 ?_; intro F62 hF63 h64
   replace h_l := h_l.mono (iE_ok _) hF63
   replace h_hears := h_hears.mono (slE_ok (slE_ok (iE_ok _))) hF63
   replace h_readings := h_readings.mono (iE_ok _) hF63
   replace h_houses2 := h_houses2.mono (iE_ok _) hF63
   replace h_out := h_out.mono (iE_ok _) hF63
   replace hb_notice := hF63 _ _ hb_notice
   replace hb_houses := hF63 _ _ hb_houses
   refine shO_freeze 1 rfl hb5 ?_; intro F65 hF66 hz67
   refine shO_L rfl ?_
   replace h_l := h_l.mono (iE_ok _) hF66
   replace h_hears := h_hears.mono (slE_ok (slE_ok (iE_ok _))) hF66
   replace h_readings := h_readings.mono (iE_ok _) hF66
   replace h_houses2 := h_houses2.mono (iE_ok _) hF66
   replace h_out := h_out.mono (iE_ok _) hF66
   replace h64 := h64.mono (prE_ok (iE_ok _) (prE_ok (iE_ok _) (iE_ok _))) hF66
   replace hb_notice := hF66 _ _ hb_notice
   replace hb_houses := hF66 _ _ hb_houses
   obtain ⟨l4, h68, r69⟩ := b1_ok r25
   refine c0 call67 (book_desk_endings_w hz67 h_hears h_readings h64 h68) ?_; rintro _ F70 _ hF71 hn72 ⟨a74, n78, c75, Lb76, rfl, rfl, hz77⟩
   replace h_l := h_l.mono (iE_ok _) hF71
   replace h_houses2 := h_houses2.mono (iE_ok _) hF71
   replace h_out := h_out.mono (iE_ok _) hF71
   replace hb_notice := hF71 _ _ hb_notice
   replace hb_houses := hF71 _ _ hb_houses
   replace hz77 := hz77.new fun p hp => hn72 p (by simp [hp])
   refine shO_L (lp (ln rfl)) (kO (kf (fS fO) (kf (fS fO) (kf (fS fO) kr))) ?_)
   refine shO_nil ⟨_, rfl, ((hF63.trans hF66).trans hF71), [0], by kernel_rfl, .inl (.inr (fun d h => by cases h; rfl)), (fc (s0 (s2 (s1 (s1 (s3 sr))))) nm), ?_⟩
   refine ⟨_, [(55, .agg (#[.func (.func 63) #[] #[.pointer (some ⟨b_houses, 0, none⟩), .pointer (some ⟨b_notice, 0, none⟩)]])), (57, .slice a74 n78 c75)], rfl, rfl, z2, by kernel_rfl, ?_⟩; intro H
   have hn81 : FnR Tryz.prog F70 63 #[] #[.pointer (some ⟨b_houses, 0, none⟩), .pointer (some ⟨b_notice, 0, none⟩)] (agE (arE 24 cB)) Value.bool (fun xx_ : (List Bool) => book_Again_1_1 xx_ houses2 notice) := ⟨call63, fun F2 h2 vs xx_ r ha hr => by obtain ⟨_, rfl, ⟨rfl, h80⟩⟩ := ha; exact book_Again_1_1_w h80 (h2 _ _ hb_houses) (h_houses2.mono (iE_ok _) h2) (h2 _ _ hb_notice) hr⟩
   obtain rfl := (SlR.caps hz77).1
   refine shO_freezeR (Nat.le_refl _) (prE_ok (arE_ok (n := 24) (sz := 1) cB_ok) (slE_ok (iE_ok _))) (fC (fC (fC fP))) hz77 ?_; intro F82 hF83 h84
   replace h_l := h_l.mono (iE_ok _) hF83
   replace h_out := h_out.mono (iE_ok _) hF83
   replace hn81 := hn81.mono hF83
   obtain ⟨l5, h85, r86⟩ := b1_ok r69
   refine c0 call66 (book_goal_find_w hn81 h84 h85) ?_; rintro _ F87 _ hF88 hn89 ⟨a91, c92, rfl, rfl, h93, hq94⟩
   replace h_l := h_l.mono (iE_ok _) hF88
   replace h_out := h_out.mono (iE_ok _) hF88
   refine shO_L (ln rfl) ?_
   refine shO_nil ⟨_, rfl, (hF83.trans hF88), [], by kernel_rfl, .inl (.inl rfl), nm, ?_⟩
   refine mS (v := .bool (decide (l5 = []))) [58] rfl ((v_eqlNil underlying35 rfl).b (nilq_dec hq94)) (shM_nil ?_)
   refine cQ (fun c95 => ?_) fun c95 => ?_
   ·have r96 := ite_t r86 c95
    refine shW_region (um ?_)
    refine o_store (i := 1) sizeOf35 rfl rfl rfl rfl (nbL rfl) (shO_L rfl (o_store (i := 2) sizeOf4 rfl rfl rfl rfl (nbL rfl) (shO_L rfl (nsr (uv (v_load isAgg4 rfl (Has.own 2 rfl) rfl) ?_)))))
    refine ua (shO_nil ?_)
    refine kW (kd kr) ?_
    refine shW_ret (andThen_ret ?_)
    refine qR1 results61 ?_
    obtain ⟨rfl, rfl, rfl⟩ := inj3 r96
    exact ⟨_, _, rfl, rfl, h_l⟩
   have r97 := ite_f r86 c95
   refine shW_skip (wsr ?_)
   refine uv (v_load isAgg4 rfl (Has.own 2 rfl) rfl) ?_
   refine ua (shO_nil ?_)
   refine kW (kd kr) ?_
   refine shW_ret (andThen_ret ?_)
   refine qR1 results61 ?_
   obtain ⟨rfl, rfl, rfl⟩ := inj3 r97
   exact ⟨_, _, rfl, rfl, h_out⟩
  have r98 := ite_f hr c1
  refine shW_skip ?_
  exact mi kr ⟨r98, rfl, rfl, z5⟩
 rintro e1 _ _ ⟨r99, rfl, rfl, he100⟩
 refine shW_env _ he100 ?_
 rw [book_Again_1B_j1] at r99
 refine shW_join (fun e1 F1 L1 => ∃ (out2 : List Int) (found2 : Bool) (a101 : Option Addr) (c102 : Nat), book_Again_1B_j3 out2 found2 = some (r, r2, r3) ∧ FExt F F1 ∧ L1 = [(b_out, ce #[.slice a101 out2.length c102] 35), (b_found, ce #[.bool found2] 4)] ∧ e1.sub [] ∧ RowR 1 (iE .i64) F1 a101 c102 out2) ?_ ?_
 ·refine wsr (um (ua (shO_nil ?_)))
  refine shW_block ?_
  obtain ⟨g107, r108⟩ := gd_ok r99
  refine shW_lp (fun fu4 e1 F1 L1 => ∃ (s_ : Int), Ctr from_ (hears.length : Int) s_ fu4 ∧ ∃ (out3 : List Int) (found3 : Bool) (a104 : Option Addr) (c105 : Nat), book_Again_1B_l4 l many houses notices hears readings cries hour notice houses2 rec_ fu4 s_ out3 found3 = some (r, r2, r3) ∧ FExt F F1 ∧ L1 = [(b_out, ce #[.slice a104 out3.length c105] 35), (b_found, ce #[.bool found3] 4)] ∧ e1.sub [(0, .slice l_a l.length l_c), (2, .int .i64 many), (3, .pointer (some ⟨b_b, 0, none⟩)), (9, .pointer (some ⟨b_pick, 0, none⟩)), (18, .int .i64 s_)] ∧ RowR 1 (iE .i64) F1 a104 c105 out3) _ (m0 kr ⟨_, Ctr.start _ _, out, found, out_a, out_c, r108, FExt.refl _, rfl, z5, h_out⟩) ?_
  rintro fu4 e1 F113 _ ⟨s_, hk109, out3, found3, a104, c105, r111, hF114, rfl, he112, h106⟩
  refine shW_env _ he112 ?_
  replace h_l := h_l.mono (iE_ok _) hF114
  replace h_hears := h_hears.mono (slE_ok (slE_ok (iE_ok _))) hF114
  replace h_readings := h_readings.mono (iE_ok _) hF114
  replace h_cries := h_cries.mono (prE_ok (iE_ok _) (prE_ok (iE_ok _) (iE_ok _))) hF114
  replace h_houses2 := h_houses2.mono (iE_ok _) hF114
  replace hb_b := hF114 _ _ hb_b
  replace hb_hour := hF114 _ _ hb_hour
  replace hb_notice := hF114 _ _ hb_notice
  replace hb_houses := hF114 _ _ hb_houses
  replace hb_pick := hF114 _ _ hb_pick
  refine shW_seq (wsr (um ?_))
  refine uv (v_fieldAddr fa_43_2 rfl) (uv (v_load isAgg40 rfl (Has.frozen hb_b) rfl) (uv (v_lenS underlying40 rfl) (uv (v_lssK rfl rfl) (shO_nil ?_))))
  refine cQ (fun c116 => ?_) fun c116 => ?_
  ·obtain ⟨fu4, rfl, hk117⟩ := Ctr.succ hk109 c116
   rw [book_Again_1B_l4] at r111
   refine shW_skip (shW_seq ?_)
   refine shW_block (shW_seq (shW_drawM [(.still, 0), (.still, 1), (.still, 3), (.pre, 4), (.still, 6), (.still, 7), (.still, 8), (.still, 9), (.seq, 2), (.alloc (ce #[.int .i64 s_] 3) (fun b => .slice (some ⟨b, 0, none⟩) 1 1) [(73, .int .i64 s_)], 4), (.seq, 5), (.seq, 10)] (by kernel_rfl) (by kernel_rfl) (⟨⟨_, _, rfl, rfl, rfl, rfl, rfl, mk_build rfl (buildSlice_all slt_35 [.int .i64 s_] rfl (by decide) (by simp [Value.cells]) (by decide))⟩, trivial⟩) (by rfl) (by kernel_rfl) (mL [9] ([]) rfl sm (fun H F' L' hF' hL' => v_load isAgg150 rfl ((Has.frozen hb_pick).ext hF' hL') rfl) (mS [0] rfl (v_move rfl) (mS [18] rfl (v_move rfl) ?_)))))
   refine ⟨⟨_, rfl, z1, by kernel_rfl⟩, ?_⟩
   refine mS [18] rfl (v_move rfl) (mS (v := .int .i64 (s_ + 1)) [76] rfl (v_add rfl rfl (Ctr.r64 hk109 c116 g107)) (mS [2] rfl (v_move rfl) ?_))
   obtain ⟨g118, r119⟩ := gd_ok r111
   refine mS (v := .int .i64 (many - 1)) [78] rfl (v_sub rfl rfl g118) ?_
   refine ⟨_, [(71, .slice l_a l.length l_c)], rfl, rfl, z1, by kernel_rfl, ?_⟩; intro H
   obtain ⟨l6, h120, r121⟩ := b1_ok r119
   refine c0 call68 (slices_Clone_int_int_w h_l h120) ?_; rintro _ F122 _ hF123 hn124 ⟨a126, n130, c127, Lb128, rfl, rfl, hz129⟩
   replace h_hears := h_hears.mono (slE_ok (slE_ok (iE_ok _))) hF123
   replace h_readings := h_readings.mono (iE_ok _) hF123
   replace h_cries := h_cries.mono (prE_ok (iE_ok _) (prE_ok (iE_ok _) (iE_ok _))) hF123
   replace h_houses2 := h_houses2.mono (iE_ok _) hF123
   replace h106 := h106.mono (iE_ok _) hF123
   replace hb_b := hF123 _ _ hb_b
   replace hb_hour := hF123 _ _ hb_hour
   replace hb_notice := hF123 _ _ hb_notice
   replace hb_houses := hF123 _ _ hb_houses
   replace hb_pick := hF123 _ _ hb_pick
   replace hz129 := hz129.new fun p hp => hn124 p (by simp [hp])
   refine shO_L (lp (ln rfl)) (kO (kf (fS fO) (kf (fS fO) kr)) ?_)
   refine shO_nil ⟨_, rfl, hF123, [9, 8, 7, 6, 3, 0], by kernel_rfl, .inl (.inr (fun d h => by cases h; rfl)), (fc sm (fc sm (fc sm (fc sm (fc sm (fc sm nm)))))), ?_⟩
   refine shM_bs rfl ?_; intro b132 hb132
   refine shM_L (L' := (b132, ce #[.int .i64 s_] 3) :: ((b_out, ce #[.slice a104 out3.length c105] 35) :: ((b_found, ce #[.bool found3] 4) :: (Lb128 ++ [])))) rfl ?_
   refine ⟨_, [(72, .slice a126 n130 c127), (74, .slice (some ⟨b132, 0, none⟩) 1 1)], rfl, rfl, z2, by kernel_rfl, ?_⟩; intro H
   obtain ⟨l7, h133, g134, r135⟩ := ap_ok r121
   refine o_appZ (xs := l6) (ys := [s_]) (zs := l7) rfl slt_35 rfl rfl (Nat.le_refl _) (fun _ => .c (.c (.c .h))) hz129 (SrcR.box (vss := [[.int .i64 s_]]) (ys := [s_]) 0 rfl (iE_ok _) (.cons rfl .nil) rfl rfl) h133 g134 (by decide) ?_; intro a136 n140 c137 Lb138 hz139
   refine kO (kd kr) ?_
   refine shO_nil ⟨_, rfl, FExt.refl _, [9, 8, 7, 6, 0], by kernel_rfl, .inl (.inr (fun d h => by cases h; rfl)), (fc sm (fc sm (fc sm (fc sm (fc sm nm))))), ?_⟩
   refine ⟨_, [(70, .func (.func 61) #[] #[.pointer (some ⟨b_b, 0, none⟩), .pointer (some ⟨b_hour, 0, none⟩), .pointer (some ⟨b_notice, 0, none⟩), .pointer (some ⟨b_houses, 0, none⟩), .pointer (some ⟨b_out, 0, none⟩), .pointer (some ⟨b_found, 0, none⟩), .pointer (some ⟨b_pick, 0, none⟩)]), (75, .slice a136 n140 c137), (77, .int .i64 (s_ + 1)), (79, .int .i64 (many - 1))], rfl, rfl, z4, by kernel_rfl, ?_⟩; intro H
   obtain rfl := (SlR.caps hz139).1
   refine shO_freezeR (Nat.le_refl _) (iE_ok _) (fC (fC fP)) hz139 ?_; intro F142 hF143 h144
   replace h_hears := h_hears.mono (slE_ok (slE_ok (iE_ok _))) hF143
   replace h_readings := h_readings.mono (iE_ok _) hF143
   replace h_cries := h_cries.mono (prE_ok (iE_ok _) (prE_ok (iE_ok _) (iE_ok _))) hF143
   replace h_houses2 := h_houses2.mono (iE_ok _) hF143
   replace h106 := h106.mono (iE_ok _) hF143
   replace hb_b := hF143 _ _ hb_b
   replace hb_hour := hF143 _ _ hb_hour
   replace hb_notice := hF143 _ _ hb_notice
   replace hb_houses := hF143 _ _ hb_houses
   replace hb_pick := hF143 _ _ hb_pick
   obtain ⟨ok, out4, found4, h145, r146⟩ := b3_ok r135
   refine cG call61 (hrec h144 hb_b h_hears h_readings h_cries hb_hour hb_notice hb_houses h_houses2 h106 hb_pick h145) ?_; rintro _ F147 _ hF148 hd150 hn149 ⟨a151, c152, rfl, rfl, h153⟩
   refine shO_L (lb (lb (ln rfl))) ?_
   refine shO_nil ⟨_, rfl, (hF143.trans hF148), [], by kernel_rfl, .inl (.inl rfl), nm, ?_⟩
   refine shM_nil ?_
   refine shW_cond rfl (fun c154 => ?_) (fun c154 => ?_)
   ·have r155 := bt r146 c154
    refine wsr (ua (shO_nil (shW_ret (inBlock_ret (andThen_ret (andThen_ret (inBlock_ret (andThen_ret ?_))))))))
    refine qR1 results61 ?_
    obtain ⟨rfl, rfl, rfl⟩ := inj3 r155
    exact ⟨_, _, rfl, rfl, h153⟩
   have r156 := bf r146 c154
   refine shW_skip (inBlock_n (id := 3) (shW_region (um ?_)))
   refine uv (v_add rfl rfl (Ctr.r64 hk109 c116 g107)) ?_
   refine ua (shO_nil ?_)
   exact le kr ⟨_, hk117, out4, found4, a151, c152, r156, (((hF114.trans hF123).trans hF143).trans hF148), rfl, z5, h153⟩
  obtain rfl := Ctr.zero hk109 c116
  rw [book_Again_1B_l4] at r111
  refine shW_exit (andThen_exit (andThen_exit ?_))
  refine inBlock_exit ?_
  exact mi kr ⟨out3, found3, a104, c105, r111, hF114, rfl, (sn _), h106⟩
 rintro e1 F159 _ ⟨out2, found2, a101, c102, r157, hF160, rfl, he158, h103⟩
 refine shW_env _ he158 ?_
 rw [book_Again_1B_j3] at r157
 refine wsr (ua (shO_nil (shW_ret ?_)))
 refine qR1 results61 ?_
 obtain ⟨rfl, rfl, rfl⟩ := inj3 r157
 exact ⟨_, _, rfl, rfl, h103⟩
set_option maxHeartbeats 1000000 in
theorem book_Again_1_w : ∀ (fu : Nat) {l_a : Option Addr} {l_c : Nat} {l : List Int} {from_ many : Int} {b_b : Nat} {houses notices : Int} {hears_a : Option Addr} {hears_c : Nat} {hears : List (List (List Int))} {readings_a : Option Addr} {readings_c : Nat} {readings : List Int} {cries_a : Option Addr} {cries_c : Nat} {cries : List (Int × Int × Int)} {mb_b : Nat × Nat} {b_hour : Nat} {hour : Int} {mb_hour : Nat × Nat} {b_notice : Nat} {notice : Int} {mb_notice : Nat × Nat} {b_houses : Nat} {houses2_a : Option Addr} {houses2_c : Nat} {houses2 : List Int} {mb_houses : Nat × Nat} {b_out : Nat} {out_a : Option Addr} {out_c : Nat} {out : List Int} {b_found : Nat} {found : Bool} {b_pick : Nat} {mb_pick : Nat × Nat} {F : FS} (_ : RowR 1 (iE .i64) F l_a l_c l) (_ : F b_b = some (.cells #[.int .i64 houses, .int .i64 notices, .slice hears_a hears.length hears_c, .slice readings_a readings.length readings_c, .slice cries_a cries.length cries_c] 43 mb_b)) (_ : RowR 1 (slE 1 (slE 1 (iE .i64))) F hears_a hears_c hears) (_ : RowR 1 (iE .i64) F readings_a readings_c readings) (_ : RowR 3 (prE (iE .i64) (prE (iE .i64) (iE .i64))) F cries_a cries_c cries) (_ : F b_hour = some (.cells #[.int .i64 hour] 3 mb_hour)) (_ : F b_notice = some (.cells #[.int .i64 notice] 3 mb_notice)) (_ : F b_houses = some (.cells #[.slice houses2_a houses2.length houses2_c] 35 mb_houses)) (_ : RowR 1 (iE .i64) F houses2_a houses2_c houses2) (_ : RowR 1 (iE .i64) F out_a out_c out) (_ : F b_pick = some (.cells (#[.func (.func 61) #[] #[.pointer (some ⟨b_b, 0, none⟩), .pointer (some ⟨b_hour, 0, none⟩), .pointer (some ⟨b_notice, 0, none⟩), .pointer (some ⟨b_houses, 0, none⟩), .pointer (some ⟨b_out, 0, none⟩), .pointer (some ⟨b_found, 0, none⟩), .pointer (some ⟨b_pick, 0, none⟩)]]) 150 mb_pick)) {r : Bool} {r2 : List Int} {r3 : Bool} , book_Again_1 fu l from_ many houses notices hears readings cries hour notice houses2 out found = some (r, r2, r3) → SH.Spec Tryz.prog 61 #[.slice l_a l.length l_c, .int .i64 from_, .int .i64 many, .pointer (some ⟨b_b, 0, none⟩), .pointer (some ⟨b_hour, 0, none⟩), .pointer (some ⟨b_notice, 0, none⟩), .pointer (some ⟨b_houses, 0, none⟩), .pointer (some ⟨b_out, 0, none⟩), .pointer (some ⟨b_found, 0, none⟩), .pointer (some ⟨b_pick, 0, none⟩)] F [(b_out, ce #[.slice out_a out.length out_c] 35), (b_found, ce #[.bool found] 4)] fun F' L' v => ∃ (r2a : Option Addr) (r2c : Nat), v = .bool r ∧ L' = [(b_out, ce #[.slice r2a r2.length r2c] 35), (b_found, ce #[.bool r3] 4)] ∧ RowR 1 (iE .i64) F' r2a r2c r2 := by
  intro fu
  induction fu with
  | zero => intros; rename_i hr; rw [book_Again_1] at hr; cases hr
  | succ fu ih => intros; rename_i hr; rw [book_Again_1] at hr; exact book_Again_1B_w ih (by assumption) (by assumption) (by assumption) (by assumption) (by assumption) (by assumption) (by assumption) (by assumption) (by assumption) (by assumption) (by assumption) hr
set_option maxHeartbeats 1000000 in
theorem book_Again_w {notices : Int} {hears : List (List (List Int))} (h_hears : RowR 1 (slE 1 (slE 1 (iE .i64))) F hears_a hears_c hears) (h_readings : RowR 1 (iE .i64) F readings_a readings_c readings) (h_cries : RowR 3 (prE (iE .i64) (prE (iE .i64) (iE .i64))) F cries_a cries_c cries) (h_houses2 : RowR 1 (iE .i64) F houses2_a houses2_c houses2) {r : List Int} {r2 : Int} (hr : book_Again houses notices hears readings cries notice hour houses2 = some (r, r2)) :
    SH.Spec Tryz.prog 31 #[.agg #[.int .i64 houses, .int .i64 notices, .slice hears_a hears.length hears_c, .slice readings_a readings.length readings_c, .slice cries_a cries.length cries_c], .int .i64 notice, .int .i64 hour, .slice houses2_a houses2.length houses2_c] F [] fun F' L' v => ∃ (ra : Option Addr) (rc : Nat), v = .tuple #[.slice ra r.length rc, .int .i64 r2] ∧ L' = [] ∧ RowR 1 (iE .i64) F' ra rc r := by
 refine sp func31 ntmps31 fun K _ _ => ?_
 rw [book_Again] at hr
 refine wsr ?_
 refine o_box rfl rfl ?_; intro b1 hb1
 refine o_box rfl rfl ?_; intro b2 hb2
 refine o_box rfl rfl ?_; intro b3 hb3
 refine o_box rfl rfl ?_; intro b4 hb4
 refine ua (ua (shO_nil ?_))
 refine shW_scope ?_
 refine shW_seq (wsr ?_)
 refine uv (v_loadA isAgg43 sizeOf43 rfl (Has.own 3 rfl) (nbL rfl) rfl) ?_
 obtain ⟨n, h5, r6⟩ := b1_ok hr
 refine cV call57 (book_Check_w h_hears h_readings h_cries h5) ?_
 refine ua (nsr (um ?_))
 refine uv (v_neq rfl rfl) (shO_nil ?_)
 refine cQ (fun c7 => ?_) fun c7 => ?_
 ·have r8 := ite_t r6 c7
  refine wsr (um (ua (ua (shO_nil ?_))))
  refine kW kn ?_
  refine shW_ret (andThen_ret (noGoto_ret ?_))
  refine q_res2 results31 (res_tmp rfl) (res_tmp rfl) (sr) ?_
  obtain ⟨rfl, rfl⟩ := inj2 r8
  exact ⟨_, _, rfl, rfl, RowR.nil _ _ _⟩
 have r9 := ite_f r6 c7
 refine shW_skip (shW_seq ?_)
 obtain ⟨k, h10, r11⟩ := b1_ok r9
 refine jE ([(b4, ce #[.slice houses2_a houses2.length houses2_c] 35), (b3, ce #[.int .i64 hour] 3), (b2, ce #[.int .i64 notice] 3), (b1, ce #[.int .i64 houses, .int .i64 notices, .slice hears_a hears.length hears_c, .slice readings_a readings.length readings_c, .slice cries_a cries.length cries_c] 43)]) [(4, .pointer (some ⟨b1, 0, none⟩)), (5, .pointer (some ⟨b2, 0, none⟩)), (6, .pointer (some ⟨b3, 0, none⟩)), (7, .pointer (some ⟨b4, 0, none⟩)), (33, .bool k)] ?_ ?_
 ·clear r11
  refine shW_region (uv (v_loadA isAgg43 sizeOf43 rfl (Has.own 3 rfl) (nbL rfl) rfl) (uv (v_load isAgg3 rfl (Has.own 2 rfl) rfl) ?_))
  obtain ⟨ok, h12, r13⟩ := b1_ok h10
  refine cV call58 (book_Book_notice_w h_hears h_readings h_cries h12) (uv (v_notB rfl) (um ?_))
  rcases bool_two (!ok) with c14 | c14
  ·have r15 := bt r13 c14
   refine fB c14 (fB c14 (fB c14 (fB c14 ?_)))
   refine uv (v_pick_t (evB rfl c14) rfl) (shO_nil ?_)
   obtain rfl := inj1 r15
   exact mi kr ⟨rfl, rfl, z5⟩
  have r16 := bf r13 c14
  refine nB c14 (uv (v_loadA isAgg43 sizeOf43 rfl (Has.own 3 rfl) (nbL rfl) rfl) (nB c14 (uv (v_load isAgg3 rfl (Has.own 1 rfl) rfl) (nB c14 ?_))))
  obtain ⟨ok2, h17, r18⟩ := b1_ok r16
  refine cV call59 (book_Book_hour_w h_hears h_readings h_cries h17) (nB c14 (uv (v_notB rfl) (uv (v_pick_f (evB rfl c14) rfl) (shO_nil ?_))))
  obtain rfl := inj1 r18
  exact mi kr ⟨rfl, rfl, z5⟩
 refine shW_cond rfl (fun c20 => ?_) (fun c20 => ?_)
 ·have r21 := bt r11 c20
  refine wsr (ua (ua (shO_nil ?_)))
  refine kW kn ?_
  refine shW_ret (andThen_ret (noGoto_ret ?_))
  refine q_res2 results31 (res_tmp rfl) (res_tmp rfl) (sr) ?_
  obtain ⟨rfl, rfl⟩ := inj2 r21
  exact ⟨_, _, rfl, rfl, RowR.nil _ _ _⟩
 have r22 := bf r11 c20
 refine shW_skip (shW_seq (wsr ?_))
 refine uv (v_loadA isAgg43 sizeOf43 rfl (Has.own 3 rfl) (nbL rfl) rfl) (uv (v_load isAgg35 rfl (Has.own 0 rfl) rfl) ?_)
 obtain ⟨n2, h23, r24⟩ := b1_ok r22
 refine cV call60 (book_Book_listed_w h_hears h_readings h_cries h_houses2 h23) ?_
 refine ua (nsr (um ?_))
 refine uv (v_neq rfl rfl) (shO_nil ?_)
 refine cQ (fun c25 => ?_) fun c25 => ?_
 ·have r26 := ite_t r24 c25
  refine wsr (um (ua (ua (shO_nil ?_))))
  refine kW kn ?_
  refine shW_ret (andThen_ret (noGoto_ret ?_))
  refine q_res2 results31 (res_tmp rfl) (res_tmp rfl) (sr) ?_
  obtain ⟨rfl, rfl⟩ := inj2 r26
  exact ⟨_, _, rfl, rfl, RowR.nil _ _ _⟩
 have r27 := ite_f r24 c25
 refine shW_skip (shW_seq (wsr ?_))
 refine uv (v_loadA isAgg43 sizeOf43 rfl (Has.own 3 rfl) (nbL rfl) rfl) ?_
 obtain ⟨d, l, n3, h28, r29⟩ := b3_ok r27
 refine c0 call36 (book_told_w h_hears h_readings h_cries h28) ?_; rintro _ F30 _ hF31 hn32 ⟨v34, a36, n40, c37, Lb38, rfl, rfl, hp35, hz39⟩
 replace h_hears := h_hears.mono (slE_ok (slE_ok (iE_ok _))) hF31
 replace h_readings := h_readings.mono (iE_ok _) hF31
 replace h_cries := h_cries.mono (prE_ok (iE_ok _) (prE_ok (iE_ok _) (iE_ok _))) hF31
 replace h_houses2 := h_houses2.mono (iE_ok _) hF31
 refine shO_L (lp (ln rfl)) (kO (kf (fS fO) (kf (fS fO) (kf (fS fO) (kf (fS fO) kr)))) ?_)
 refine um (ox rfl rfl rfl (ox rfl rfl rfl (ox rfl rfl rfl (ua (ua (ua (nsr (um ?_))))))))
 refine uv (v_neq rfl rfl) (shO_nil ?_)
 refine cQ (fun c42 => ?_) fun c42 => ?_
 ·have r43 := ite_t r29 c42
  refine wsr (um (ua (ua (shO_nil ?_))))
  refine kW kn ?_
  refine shW_ret (andThen_ret (noGoto_ret ?_))
  refine q_res2 results31 (res_tmp rfl) (res_tmp rfl) (sr) ?_
  obtain ⟨rfl, rfl⟩ := inj2 r43
  exact ⟨_, _, rfl, rfl, RowR.nil _ _ _⟩
 have r44 := ite_f r29 c42
 refine shW_skip (wsr ?_)
 refine o_alloc rfl zeroValue35 ?_; intro b45 hb45
 refine nsr ?_
 refine o_alloc rfl zeroValue4 ?_; intro b46 hb46
 refine o_store (i := 0) sizeOf4 rfl rfl rfl rfl (nbL rfl) (shO_L rfl ?_)
 refine shO_nil (shW_seq ?_)
 refine shW_label ?_
 obtain ⟨out, found, h50, r51⟩ := b2_ok r44
 refine shW_join (fun e1 F1 L1 => ∃ (a47 : Option Addr) (c48 : Nat), FExt F30 F1 ∧ L1 = [(b45, ce #[.slice a47 out.length c48] 35), (b46, ce #[.bool found] 4)] ∧ e1.sub [(15, .pointer (some ⟨b45, 0, none⟩)), (16, .pointer (some ⟨b46, 0, none⟩))] ∧ RowR 1 (iE .i64) F1 a47 c48 out) ?_ ?_
 ·clear r51
  refine wsr (uv (v_fieldAddr fa_43_2 rfl) (uv (v_load isAgg40 rfl (Has.own 5 rfl) rfl) (uv (v_lenS underlying40 rfl) ?_)))
  obtain ⟨g52, r53⟩ := gd_ok h50
  refine uv (v_add rfl rfl g52) ?_
  refine um (shO_nil ?_)
  refine shW_block (kW (kc (kc (kc (kc (kc (kc kn)))))) ?_)
  refine shW_freeze 5 rfl hb1 ?_; intro F54 hF55 hz56
  refine shW_L (L' := [(b46, ce #[.bool false] 4), (b45, ce #[.slice none 0 0] 35), (b4, ce #[.slice houses2_a houses2.length houses2_c] 35), (b3, ce #[.int .i64 hour] 3), (b2, ce #[.int .i64 notice] 3)]) rfl ?_
  replace h_hears := h_hears.mono (slE_ok (slE_ok (iE_ok _))) hF55
  replace h_readings := h_readings.mono (iE_ok _) hF55
  replace h_cries := h_cries.mono (prE_ok (iE_ok _) (prE_ok (iE_ok _) (iE_ok _))) hF55
  replace h_houses2 := h_houses2.mono (iE_ok _) hF55
  refine shW_freeze 4 rfl hb2 ?_; intro F57 hF58 hz59
  refine shW_L (L' := [(b46, ce #[.bool false] 4), (b45, ce #[.slice none 0 0] 35), (b4, ce #[.slice houses2_a houses2.length houses2_c] 35), (b3, ce #[.int .i64 hour] 3)]) rfl ?_
  replace h_hears := h_hears.mono (slE_ok (slE_ok (iE_ok _))) hF58
  replace h_readings := h_readings.mono (iE_ok _) hF58
  replace h_cries := h_cries.mono (prE_ok (iE_ok _) (prE_ok (iE_ok _) (iE_ok _))) hF58
  replace h_houses2 := h_houses2.mono (iE_ok _) hF58
  replace hz56 := hF58 _ _ hz56
  refine shW_freeze 3 rfl hb3 ?_; intro F60 hF61 hz62
  refine shW_L (L' := [(b46, ce #[.bool false] 4), (b45, ce #[.slice none 0 0] 35), (b4, ce #[.slice houses2_a houses2.length houses2_c] 35)]) rfl ?_
  replace h_hears := h_hears.mono (slE_ok (slE_ok (iE_ok _))) hF61
  replace h_readings := h_readings.mono (iE_ok _) hF61
  replace h_cries := h_cries.mono (prE_ok (iE_ok _) (prE_ok (iE_ok _) (iE_ok _))) hF61
  replace h_houses2 := h_houses2.mono (iE_ok _) hF61
  replace hz56 := hF61 _ _ hz56
  replace hz59 := hF61 _ _ hz59
  refine shW_freeze 2 rfl hb4 ?_; intro F63 hF64 hz65
  refine shW_L (L' := [(b46, ce #[.bool false] 4), (b45, ce #[.slice none 0 0] 35)]) rfl ?_
  replace h_hears := h_hears.mono (slE_ok (slE_ok (iE_ok _))) hF64
  replace h_readings := h_readings.mono (iE_ok _) hF64
  replace h_cries := h_cries.mono (prE_ok (iE_ok _) (prE_ok (iE_ok _) (iE_ok _))) hF64
  replace h_houses2 := h_houses2.mono (iE_ok _) hF64
  replace hz56 := hF64 _ _ hz56
  replace hz59 := hF64 _ _ hz59
  replace hz62 := hF64 _ _ hz62
  obtain ⟨g69, r70⟩ := gd_ok r53
  refine shW_lpF (fun fu1 e1 F1 L1 => ∃ (k2 : Int), Ctr 0 ((hears.length : Int) + 1) k2 fu1 ∧ ∃ (out2 : List Int) (found2 : Bool) (a66 : Option Addr) (c67 : Nat), book_Again_l1 houses notices hears readings cries notice hour houses2 fu1 k2 out2 found2 = some (out, found) ∧ FExt F63 F1 ∧ L1 = [(b46, ce #[.bool found2] 4), (b45, ce #[.slice a66 out2.length c67] 35)] ∧ e1.sub [(4, .pointer (some ⟨b1, 0, none⟩)), (5, .pointer (some ⟨b2, 0, none⟩)), (6, .pointer (some ⟨b3, 0, none⟩)), (7, .pointer (some ⟨b4, 0, none⟩)), (15, .pointer (some ⟨b45, 0, none⟩)), (16, .pointer (some ⟨b46, 0, none⟩)), (52, .int .i64 ((hears.length : Int) + 1)), (53, .int .i64 k2)] ∧ RowR 1 (iE .i64) F1 a66 c67 out2) _ (m0 kr ⟨_, Ctr.start _ _, [], false, none, 0, r70, FExt.refl _, rfl, z8, RowR.nil _ _ _⟩) ?_
  rintro fu1 e1 F75 _ ⟨k2, hk71, out2, found2, a66, c67, r73, hF76, rfl, he74, h68⟩
  refine shW_env _ he74 ?_
  replace h_hears := h_hears.mono (slE_ok (slE_ok (iE_ok _))) hF76
  replace h_readings := h_readings.mono (iE_ok _) hF76
  replace h_cries := h_cries.mono (prE_ok (iE_ok _) (prE_ok (iE_ok _) (iE_ok _))) hF76
  replace h_houses2 := h_houses2.mono (iE_ok _) hF76
  replace hz56 := hF76 _ _ hz56
  replace hz59 := hF76 _ _ hz59
  replace hz62 := hF76 _ _ hz62
  replace hz65 := hF76 _ _ hz65
  refine wsr (uv (v_lssK rfl rfl) ?_)
  refine shO_nil (shW_seq ?_)
  refine cQ (fun c78 => ?_) fun c78 => ?_
  ·obtain ⟨fu1, rfl, hk79⟩ := Ctr.succ hk71 c78
   rw [book_Again_l1] at r73
   refine shW_skip (shW_seq ?_)
   refine shW_block ?_
   refine wsr (um (ua (nsr ?_)))
   refine o_alloc rfl zeroValue150 ?_; intro b80 hb80
   refine nsr (uv (v_makeFunc rfl rfl) (o_store (i := 0) sizeOf150 rfl rfl rfl rfl (nbL rfl) (shO_L rfl (nsr (uv (v_load isAgg150 rfl (Has.own 0 rfl) rfl) (um ?_))))))
   refine shO_freeze 0 rfl hb80 ?_; intro F81 hF82 hz83
   refine shO_L rfl ?_
   replace h_hears := h_hears.mono (slE_ok (slE_ok (iE_ok _))) hF82
   replace h_readings := h_readings.mono (iE_ok _) hF82
   replace h_cries := h_cries.mono (prE_ok (iE_ok _) (prE_ok (iE_ok _) (iE_ok _))) hF82
   replace h_houses2 := h_houses2.mono (iE_ok _) hF82
   replace h68 := h68.mono (iE_ok _) hF82
   replace hz56 := hF82 _ _ hz56
   replace hz59 := hF82 _ _ hz59
   replace hz62 := hF82 _ _ hz62
   replace hz65 := hF82 _ _ hz65
   obtain ⟨ok3, out3, found3, h84, r85⟩ := b3_ok r73
   refine o_callG (Lb := [(b45, ce #[.slice a66 out2.length c67] 35), (b46, ce #[.bool found2] 4)]) (Lr := []) rfl call61 rfl rfl rfl (((fC fO).trans (pC pR))) ((book_Again_1_w FU) (RowR.nil _ _ _) hz56 h_hears h_readings h_cries hz62 hz59 hz65 h_houses2 h68 hz83 h84) ?_; rintro _ F86 _ hF87 hd89 hn88 ⟨a90, c91, rfl, rfl, h92⟩
   refine shO_L (lb (lb (ln rfl))) (shO_nil ?_)
   refine shW_cond rfl (fun c93 => ?_) (fun c93 => ?_)
   ·have r94 := bt r85 c93
    refine shW_exit (inBlock_other rfl ?_)
    refine andThen_exit (andThen_exit ?_)
    refine inBlock_exit ?_
    obtain ⟨rfl, rfl⟩ := inj2 r94
    exact mi kr ⟨a90, c91, ((((((hF55.trans hF58).trans hF61).trans hF64).trans hF76).trans hF82).trans hF87), rfl, z2, h92⟩
   have r95 := bf r85 c93
   refine shW_skip (inBlock_n (id := 1) (shW_region ?_))
   refine uv (v_add rfl rfl (Ctr.r64 hk71 c78 g69)) ?_
   refine um (shO_nil ?_)
   refine lf ?_
   exact mf (kf (fC fO) kr) ⟨_, hk79, out3, found3, a90, c91, r95, ((hF76.trans hF82).trans hF87), rfl, z8, h92⟩
  obtain rfl := Ctr.zero hk71 c78
  rw [book_Again_l1] at r73
  refine shW_exit (andThen_exit (andThen_exit ?_))
  refine inBlock_exit ?_
  obtain ⟨rfl, rfl⟩ := inj2 r73
  exact mi (kf (fC fO) kr) ⟨a66, c67, ((((hF55.trans hF58).trans hF61).trans hF64).trans hF76), rfl, z2, h68⟩
 rintro e1 F97 _ ⟨a47, c48, hF98, rfl, he96, h49⟩
 refine shW_env _ he96 ?_
 refine shW_seq (wsr ?_)
 refine uv (v_load isAgg4 rfl (Has.own 1 rfl) rfl) (uv (v_notB rfl) (shO_nil ?_))
 refine shW_cond rfl (fun c99 => ?_) (fun c99 => ?_)
 ·have r100 := bt r51 c99
  refine wsr (ua (ua (shO_nil ?_)))
  refine kW kn ?_
  refine shW_ret (andThen_ret (noGoto_ret ?_))
  refine q_res2 results31 (res_tmp rfl) (res_tmp rfl) (sr) ?_
  obtain ⟨rfl, rfl⟩ := inj2 r100
  exact ⟨_, _, rfl, rfl, RowR.nil _ _ _⟩
 have r101 := bf r51 c99
 refine shW_skip (wsr ?_)
 refine uv (v_load isAgg35 rfl (Has.own 0 rfl) rfl) ?_
 refine ua (ua (shO_nil ?_))
 refine kW kn ?_
 refine shW_ret (noGoto_ret ?_)
 refine q_res2 results31 (res_tmp rfl) (res_tmp rfl) (sr) ?_
 obtain ⟨rfl, rfl⟩ := inj2 r101
 exact ⟨_, _, rfl, rfl, h49⟩
set_option maxHeartbeats 1000000 in
theorem oyezlaw07_awake_w {r : Bool} (hr : oyezlaw07_awake = some r) :
    SpecV Tryz.prog 7 #[] F (.bool r) := by
 refine sp func7 ntmps7 fun K _ _ => ?_
 rw [oyezlaw07_awake] at hr
 refine wsr (ua (nsr ?_))
 obtain ⟨n, n2, l, l2, l3, h1, r2⟩ := b5_ok hr
 refine c0 call23 (oyezlaw07_Bell_w h1) ?_; rintro _ F3 _ hF4 hn5 ⟨a7, n11, c8, Lb9, a13, n17, c14, Lb15, a19, n23, c20, Lb21, rfl, rfl, hz10, hz16, hz22⟩
 replace hz10 := hz10.new fun p hp => hn5 p (by simp [hp])
 replace hz16 := hz16.new fun p hp => hn5 p (by simp [hp])
 replace hz22 := hz22.new fun p hp => hn5 p (by simp [hp])
 refine shO_L (lp (lp (lp (ln rfl)))) ?_
 obtain ⟨n3, n4, h25, r26⟩ := b2_ok r2
 refine o_callT (Lt := Lb9 ++ (Lb15 ++ (Lb21 ++ []))) (Lr := []) rfl call22 rfl rfl rfl (pT pR (lp (lp (lp (ln rfl))))) (fun F2 h2 h3 => by rw [(SlR.caps hz10).1]; rw [(SlR.caps hz16).1]; rw [(SlR.caps hz22).1]; exact book_Count_w (hz10.row (slE_ok (slE_ok (iE_ok _))) h2 (fun p hp => h3 p (List.mem_append_left _ hp))) (hz16.row (iE_ok _) h2 (fun p hp => h3 p (List.mem_append_right _ (List.mem_append_left _ hp)))) (hz22.row (prE_ok (iE_ok _) (prE_ok (iE_ok _) (iE_ok _))) h2 (fun p hp => h3 p (List.mem_append_right _ (List.mem_append_right _ (List.mem_append_left _ hp))))) h25) ?_
 refine um (ox rfl rfl rfl (ox rfl rfl rfl (ua (ua (nsr ?_)))))
 obtain ⟨n5, n6, l4, l5, l6, h27, r28⟩ := b5_ok r26
 refine c0 call23 (oyezlaw07_Bell_w h27) ?_; rintro _ F29 _ hF30 hn31 ⟨a33, n37, c34, Lb35, a39, n43, c40, Lb41, a45, n49, c46, Lb47, rfl, rfl, hz36, hz42, hz48⟩
 replace hz36 := hz36.new fun p hp => hn31 p (by simp [hp])
 replace hz42 := hz42.new fun p hp => hn31 p (by simp [hp])
 replace hz48 := hz48.new fun p hp => hn31 p (by simp [hp])
 refine shO_L (lp (lp (lp (ln rfl)))) ?_
 obtain ⟨l7, n7, h51, r52⟩ := b2_ok r28
 refine o_callTO (Lb := []) (Lt := Lb35 ++ (Lb41 ++ (Lb47 ++ []))) (Lr := Lb9 ++ (Lb15 ++ (Lb21 ++ []))) rfl call24 rfl rfl rfl (pT pR (ln (lp (lp (lp (ln rfl)))))) (fun F2 h2 h3 => by rw [(SlR.caps hz36).1]; rw [(SlR.caps hz42).1]; rw [(SlR.caps hz48).1]; exact book_First_w (hz36.row (slE_ok (slE_ok (iE_ok _))) h2 (fun p hp => h3 p (List.mem_append_left _ hp))) (hz42.row (iE_ok _) h2 (fun p hp => h3 p (List.mem_append_right _ (List.mem_append_left _ hp)))) (hz48.row (prE_ok (iE_ok _) (prE_ok (iE_ok _) (iE_ok _))) h2 (fun p hp => h3 p (List.mem_append_right _ (List.mem_append_right _ (List.mem_append_left _ hp))))) h51) (fun _ _ _ _ hq => by obtain ⟨a57, n61, c58, Lb59, rfl, rfl, hz60⟩ := hq; exact ⟨_, _, _, _, rfl, rfl, hz60.flat (fun _ _ h => h)⟩) ?_; rintro _ F53 _ hF54 hd56 hn55 ⟨a57, n61, c58, Lb59, rfl, rfl, hz60⟩
 have hn63 := newp (Lb' := []) (by rfl) hd56 hn55
 replace hz60 := hz60.new fun p hp => hn63 p (by simp [hp])
 refine shO_L (lp (ln (lp (lp (lp (ln rfl)))))) ?_
 refine um (ox rfl rfl rfl (ox rfl rfl rfl (ua (ua (nsr ?_)))))
 obtain ⟨n8, n9, l8, l9, l10, h64, r65⟩ := b5_ok r52
 refine c0 call23 (oyezlaw07_Bell_w h64) ?_; rintro _ F66 _ hF67 hn68 ⟨a70, n74, c71, Lb72, a76, n80, c77, Lb78, a82, n86, c83, Lb84, rfl, rfl, hz73, hz79, hz85⟩
 replace hz60 := hz60.mono (iE_ok _) hF67
 replace hz73 := hz73.new fun p hp => hn68 p (by simp [hp])
 replace hz79 := hz79.new fun p hp => hn68 p (by simp [hp])
 replace hz85 := hz85.new fun p hp => hn68 p (by simp [hp])
 refine shO_L (lp (lp (lp (ln rfl)))) ?_
 obtain rfl := (SlR.caps hz73).1
 refine shO_freezeR (Nat.le_refl _) (slE_ok (slE_ok (iE_ok _))) fP hz73 ?_; intro F88 hF89 h90
 replace hz60 := hz60.mono (iE_ok _) hF89
 replace hz79 := hz79.mono (iE_ok _) hF89
 replace hz85 := hz85.mono (prE_ok (iE_ok _) (prE_ok (iE_ok _) (iE_ok _))) hF89
 obtain rfl := (SlR.caps hz79).1
 refine shO_freezeR (Nat.le_refl _) (iE_ok _) fP hz79 ?_; intro F91 hF92 h93
 replace h90 := h90.mono (slE_ok (slE_ok (iE_ok _))) hF92
 replace hz60 := hz60.mono (iE_ok _) hF92
 replace hz85 := hz85.mono (prE_ok (iE_ok _) (prE_ok (iE_ok _) (iE_ok _))) hF92
 obtain rfl := (SlR.caps hz85).1
 refine shO_freezeR (Nat.le_refl _) (prE_ok (iE_ok _) (prE_ok (iE_ok _) (iE_ok _))) fP hz85 ?_; intro F94 hF95 h96
 replace h90 := h90.mono (slE_ok (slE_ok (iE_ok _))) hF95
 replace h93 := h93.mono (iE_ok _) hF95
 replace hz60 := hz60.mono (iE_ok _) hF95
 obtain ⟨l11, n10, h97, r98⟩ := b2_ok r65
 refine c0 call12 (book_Verdicts_w h90 h93 h96 h97) ?_; rintro _ F99 _ hF100 hn101 ⟨a103, c104, rfl, rfl, h105⟩
 replace hz60 := hz60.mono (iE_ok _) hF100
 refine shO_L (ln rfl) ?_
 refine um (ox rfl rfl rfl (ox rfl rfl rfl (ua (ua (nsr ?_)))))
 obtain ⟨n11, n12, l12, l13, l14, h106, r107⟩ := b5_ok r98
 refine c0 call23 (oyezlaw07_Bell_w h106) ?_; rintro _ F108 _ hF109 hn110 ⟨a112, n116, c113, Lb114, a118, n122, c119, Lb120, a124, n128, c125, Lb126, rfl, rfl, hz115, hz121, hz127⟩
 replace h105 := h105.mono (slE_ok (iE_ok _)) hF109
 replace hz60 := hz60.mono (iE_ok _) hF109
 replace hz115 := hz115.new fun p hp => hn110 p (by simp [hp])
 replace hz121 := hz121.new fun p hp => hn110 p (by simp [hp])
 replace hz127 := hz127.new fun p hp => hn110 p (by simp [hp])
 refine shO_L (lp (lp (lp (ln rfl)))) ?_
 obtain rfl := (SlR.caps hz115).1
 refine shO_freezeR (Nat.le_refl _) (slE_ok (slE_ok (iE_ok _))) fP hz115 ?_; intro F130 hF131 h132
 replace h105 := h105.mono (slE_ok (iE_ok _)) hF131
 replace hz60 := hz60.mono (iE_ok _) hF131
 replace hz121 := hz121.mono (iE_ok _) hF131
 replace hz127 := hz127.mono (prE_ok (iE_ok _) (prE_ok (iE_ok _) (iE_ok _))) hF131
 obtain rfl := (SlR.caps hz121).1
 refine shO_freezeR (Nat.le_refl _) (iE_ok _) fP hz121 ?_; intro F133 hF134 h135
 replace h105 := h105.mono (slE_ok (iE_ok _)) hF134
 replace h132 := h132.mono (slE_ok (slE_ok (iE_ok _))) hF134
 replace hz60 := hz60.mono (iE_ok _) hF134
 replace hz127 := hz127.mono (prE_ok (iE_ok _) (prE_ok (iE_ok _) (iE_ok _))) hF134
 obtain rfl := (SlR.caps hz127).1
 refine shO_freezeR (Nat.le_refl _) (prE_ok (iE_ok _) (prE_ok (iE_ok _) (iE_ok _))) fP hz127 ?_; intro F136 hF137 h138
 replace h105 := h105.mono (slE_ok (iE_ok _)) hF137
 replace h132 := h132.mono (slE_ok (slE_ok (iE_ok _))) hF137
 replace h135 := h135.mono (iE_ok _) hF137
 replace hz60 := hz60.mono (iE_ok _) hF137
 obtain ⟨l15, n13, h139, r140⟩ := b2_ok r107
 refine c0 call25 (book_Winds_w h132 h135 h138 h139) ?_; rintro _ F141 _ hF142 hn143 ⟨a145, n149, c146, Lb147, rfl, rfl, hz148⟩
 replace h105 := h105.mono (slE_ok (iE_ok _)) hF142
 replace hz60 := hz60.mono (iE_ok _) hF142
 replace hz148 := hz148.new fun p hp => hn143 p (by simp [hp])
 refine shO_L (lp (ln rfl)) ?_
 refine um (ox rfl rfl rfl (ox rfl rfl rfl (ua (ua (shO_nil (shW_seq ?_))))))
 obtain ⟨k, h151, r152⟩ := b1_ok r140
 refine jF ([]) [(73, .bool k)] ?_ fun F221 hF222 => ?_
 ·clear r152
  refine shW_region (um ?_)
  refine uv (v_neq rfl rfl) (um ?_)
  by_cases c153 : n4 ≠ 0
  ·have r154 := ite_t h151 c153
   refine fT c153 (fT c153 ?_)
   refine uv (v_pick_t (evD_true rfl c153) rfl) ?_
   refine um (shO_off (b' := true) 39 rfl rfl rfl rfl (shO_off (b' := true) 39 rfl rfl rfl rfl ?_))
   refine uv (v_pick_t rfl rfl) ?_
   refine um (shO_off (b' := true) 43 rfl rfl rfl rfl (shO_off (b' := true) 43 rfl rfl rfl rfl ?_))
   refine uv (v_pick_t rfl rfl) ?_
   refine um (shO_off (b' := true) 47 rfl rfl rfl rfl (shO_off (b' := true) 47 rfl rfl rfl rfl ?_))
   refine uv (v_pick_t rfl rfl) ?_
   refine um (shO_off (b' := true) 51 rfl rfl rfl rfl (shO_off (b' := true) 51 rfl rfl rfl rfl (shO_off (b' := true) 51 rfl rfl rfl rfl (shO_off (b' := true) 51 rfl rfl rfl rfl ?_))))
   refine uv (v_pick_t rfl rfl) ?_
   refine um (shO_off (b' := true) 57 rfl rfl rfl rfl (shO_off (b' := true) 57 rfl rfl rfl rfl (shO_off (b' := true) 57 rfl rfl rfl rfl (shO_off (b' := true) 57 rfl rfl rfl rfl (shO_off (b' := true) 57 rfl rfl rfl rfl (shO_off (b' := true) 57 rfl rfl rfl rfl ?_))))))
   refine uv (v_pick_t rfl rfl) ?_
   refine um (shO_off (b' := true) 65 rfl rfl rfl rfl (shO_off (b' := true) 65 rfl rfl rfl rfl (shO_off (b' := true) 65 rfl rfl rfl rfl (shO_off (b' := true) 65 rfl rfl rfl rfl (shO_off (b' := true) 65 rfl rfl rfl rfl (shO_off (b' := true) 65 rfl rfl rfl rfl (shO_off (b' := true) 65 rfl rfl rfl rfl ?_)))))))
   refine uv (v_pick_t rfl rfl) (shO_nil ?_)
   obtain rfl := inj1 r154
   exact mi kn ⟨FExt.refl _, rfl, z1⟩
  have r155 := ite_f h151 c153
  refine nF c153 (um (nF c153 ?_))
  refine uv (v_neq rfl rfl) (uv (v_pick_f (evD_false rfl c153) rfl) (um ?_))
  by_cases c156 : n7 ≠ 0
  ·have r157 := ite_t r155 c156
   refine fT c156 (fT c156 ?_)
   refine uv (v_pick_t (evD_true rfl c156) rfl) ?_
   refine um (shO_off (b' := true) 43 rfl rfl rfl rfl (shO_off (b' := true) 43 rfl rfl rfl rfl ?_))
   refine uv (v_pick_t rfl rfl) ?_
   refine um (shO_off (b' := true) 47 rfl rfl rfl rfl (shO_off (b' := true) 47 rfl rfl rfl rfl ?_))
   refine uv (v_pick_t rfl rfl) ?_
   refine um (shO_off (b' := true) 51 rfl rfl rfl rfl (shO_off (b' := true) 51 rfl rfl rfl rfl (shO_off (b' := true) 51 rfl rfl rfl rfl (shO_off (b' := true) 51 rfl rfl rfl rfl ?_))))
   refine uv (v_pick_t rfl rfl) ?_
   refine um (shO_off (b' := true) 57 rfl rfl rfl rfl (shO_off (b' := true) 57 rfl rfl rfl rfl (shO_off (b' := true) 57 rfl rfl rfl rfl (shO_off (b' := true) 57 rfl rfl rfl rfl (shO_off (b' := true) 57 rfl rfl rfl rfl (shO_off (b' := true) 57 rfl rfl rfl rfl ?_))))))
   refine uv (v_pick_t rfl rfl) ?_
   refine um (shO_off (b' := true) 65 rfl rfl rfl rfl (shO_off (b' := true) 65 rfl rfl rfl rfl (shO_off (b' := true) 65 rfl rfl rfl rfl (shO_off (b' := true) 65 rfl rfl rfl rfl (shO_off (b' := true) 65 rfl rfl rfl rfl (shO_off (b' := true) 65 rfl rfl rfl rfl (shO_off (b' := true) 65 rfl rfl rfl rfl ?_)))))))
   refine uv (v_pick_t rfl rfl) (shO_nil ?_)
   obtain rfl := inj1 r157
   exact mi kn ⟨FExt.refl _, rfl, z1⟩
  have r158 := ite_f r155 c156
  refine nF c156 (um (nF c156 ?_))
  refine uv (v_neq rfl rfl) (uv (v_pick_f (evD_false rfl c156) rfl) (um ?_))
  by_cases c159 : n10 ≠ 0
  ·have r160 := ite_t r158 c159
   refine fT c159 (fT c159 ?_)
   refine uv (v_pick_t (evD_true rfl c159) rfl) ?_
   refine um (shO_off (b' := true) 47 rfl rfl rfl rfl (shO_off (b' := true) 47 rfl rfl rfl rfl ?_))
   refine uv (v_pick_t rfl rfl) ?_
   refine um (shO_off (b' := true) 51 rfl rfl rfl rfl (shO_off (b' := true) 51 rfl rfl rfl rfl (shO_off (b' := true) 51 rfl rfl rfl rfl (shO_off (b' := true) 51 rfl rfl rfl rfl ?_))))
   refine uv (v_pick_t rfl rfl) ?_
   refine um (shO_off (b' := true) 57 rfl rfl rfl rfl (shO_off (b' := true) 57 rfl rfl rfl rfl (shO_off (b' := true) 57 rfl rfl rfl rfl (shO_off (b' := true) 57 rfl rfl rfl rfl (shO_off (b' := true) 57 rfl rfl rfl rfl (shO_off (b' := true) 57 rfl rfl rfl rfl ?_))))))
   refine uv (v_pick_t rfl rfl) ?_
   refine um (shO_off (b' := true) 65 rfl rfl rfl rfl (shO_off (b' := true) 65 rfl rfl rfl rfl (shO_off (b' := true) 65 rfl rfl rfl rfl (shO_off (b' := true) 65 rfl rfl rfl rfl (shO_off (b' := true) 65 rfl rfl rfl rfl (shO_off (b' := true) 65 rfl rfl rfl rfl (shO_off (b' := true) 65 rfl rfl rfl rfl ?_)))))))
   refine uv (v_pick_t rfl rfl) (shO_nil ?_)
   obtain rfl := inj1 r160
   exact mi kn ⟨FExt.refl _, rfl, z1⟩
  have r161 := ite_f r158 c159
  refine nF c159 (um (nF c159 ?_))
  refine uv (v_neq rfl rfl) (uv (v_pick_f (evD_false rfl c159) rfl) (um ?_))
  by_cases c162 : n13 ≠ 0
  ·have r163 := ite_t r161 c162
   refine fT c162 (fT c162 ?_)
   refine uv (v_pick_t (evD_true rfl c162) rfl) ?_
   refine um (shO_off (b' := true) 51 rfl rfl rfl rfl (shO_off (b' := true) 51 rfl rfl rfl rfl (shO_off (b' := true) 51 rfl rfl rfl rfl (shO_off (b' := true) 51 rfl rfl rfl rfl ?_))))
   refine uv (v_pick_t rfl rfl) ?_
   refine um (shO_off (b' := true) 57 rfl rfl rfl rfl (shO_off (b' := true) 57 rfl rfl rfl rfl (shO_off (b' := true) 57 rfl rfl rfl rfl (shO_off (b' := true) 57 rfl rfl rfl rfl (shO_off (b' := true) 57 rfl rfl rfl rfl (shO_off (b' := true) 57 rfl rfl rfl rfl ?_))))))
   refine uv (v_pick_t rfl rfl) ?_
   refine um (shO_off (b' := true) 65 rfl rfl rfl rfl (shO_off (b' := true) 65 rfl rfl rfl rfl (shO_off (b' := true) 65 rfl rfl rfl rfl (shO_off (b' := true) 65 rfl rfl rfl rfl (shO_off (b' := true) 65 rfl rfl rfl rfl (shO_off (b' := true) 65 rfl rfl rfl rfl (shO_off (b' := true) 65 rfl rfl rfl rfl ?_)))))))
   refine uv (v_pick_t rfl rfl) (shO_nil ?_)
   obtain rfl := inj1 r163
   exact mi kn ⟨FExt.refl _, rfl, z1⟩
  have r164 := ite_f r161 c162
  refine nF c162 (um (nF c162 ?_))
  refine uv (v_neq rfl rfl) (uv (v_pick_f (evD_false rfl c162) rfl) (um ?_))
  by_cases c165 : n3 ≠ 4
  ·have r166 := ite_t r164 c165
   refine fT c165 (fT c165 (fT c165 (fT c165 ?_)))
   refine uv (v_pick_t (evD_true rfl c165) rfl) ?_
   refine um (shO_off (b' := true) 57 rfl rfl rfl rfl (shO_off (b' := true) 57 rfl rfl rfl rfl (shO_off (b' := true) 57 rfl rfl rfl rfl (shO_off (b' := true) 57 rfl rfl rfl rfl (shO_off (b' := true) 57 rfl rfl rfl rfl (shO_off (b' := true) 57 rfl rfl rfl rfl ?_))))))
   refine uv (v_pick_t rfl rfl) ?_
   refine um (shO_off (b' := true) 65 rfl rfl rfl rfl (shO_off (b' := true) 65 rfl rfl rfl rfl (shO_off (b' := true) 65 rfl rfl rfl rfl (shO_off (b' := true) 65 rfl rfl rfl rfl (shO_off (b' := true) 65 rfl rfl rfl rfl (shO_off (b' := true) 65 rfl rfl rfl rfl (shO_off (b' := true) 65 rfl rfl rfl rfl ?_)))))))
   refine uv (v_pick_t rfl rfl) (shO_nil ?_)
   obtain rfl := inj1 r166
   exact mi kn ⟨FExt.refl _, rfl, z1⟩
  have r167 := ite_f r164 c165
  refine nF c165 (um (nF c165 ?_))
  refine bA (cs := #[.int .i64 1, .int .i64 2, .int .i64 3]) slt_35 [.int .i64 1, .int .i64 2, .int .i64 3] ?_; intro b168 hb168
  refine nF c165 ?_
  refine shO_freeze 0 rfl hb168 ?_; intro F169 hF170 hz171
  refine shO_L rfl ?_
  replace h105 := h105.mono (slE_ok (iE_ok _)) hF170
  replace hz60 := hz60.mono (iE_ok _) hF170
  replace hz148 := hz148.mono (slE_ok (iE_ok _)) hF170
  have h172 : RowR 1 (iE .i64) F169 (some ⟨b168, 0, none⟩) 3 [1, 2, 3] := RowR.of_block (iE_ok _) (vss := [[.int .i64 1], [.int .i64 2], [.int .i64 3]]) (xs := [1, 2, 3]) hz171 (.cons rfl (.cons rfl (.cons rfl .nil))) rfl (by simp [maxLen])
  obtain ⟨ok, h173, r174⟩ := b1_ok r167
  refine o_callT (Lt := Lb59 ++ []) (Lr := Lb147 ++ (Lb35 ++ (Lb41 ++ (Lb47 ++ (Lb9 ++ (Lb15 ++ (Lb21 ++ []))))))) rfl call26 rfl rfl rfl (pT ((fS fP).trans (pA pR)) (lp (ln rfl))) (fun F2 h2 h3 => by rw [(SlR.caps hz60).1]; exact oyezkit_Like_int_w (hz60.row (iE_ok _) h2 (fun p hp => h3 p (List.mem_append_left _ hp))) (h172.mono (iE_ok _) h2) h173) ?_
  refine nF c165 (uv (v_notB rfl) (uv (v_pick_f (evD_false rfl c165) rfl) (um ?_)))
  rcases bool_two (!ok) with c175 | c175
  ·have r176 := bt r174 c175
   refine fB c175 (fB c175 (fB c175 (fB c175 (fB c175 (fB c175 ?_)))))
   refine uv (v_pick_t (evB rfl c175) rfl) ?_
   refine um (shO_off (b' := true) 65 rfl rfl rfl rfl (shO_off (b' := true) 65 rfl rfl rfl rfl (shO_off (b' := true) 65 rfl rfl rfl rfl (shO_off (b' := true) 65 rfl rfl rfl rfl (shO_off (b' := true) 65 rfl rfl rfl rfl (shO_off (b' := true) 65 rfl rfl rfl rfl (shO_off (b' := true) 65 rfl rfl rfl rfl ?_)))))))
   refine uv (v_pick_t rfl rfl) (shO_nil ?_)
   obtain rfl := inj1 r176
   exact mi kn ⟨hF170, rfl, z1⟩
  have r177 := bf r174 c175
  refine nB c175 (um (nB c175 ?_))
  refine bA (cs := #[.int .i64 0]) slt_53 [.int .i64 0] ?_; intro b178 hb178
  refine nB c175 ?_
  refine bA (cs := #[.int .i64 1]) slt_53 [.int .i64 1] ?_; intro b179 hb179
  refine nB c175 ?_
  refine bA (cs := #[.slice (some ⟨b178, 0, none⟩) 1 1, .slice (some ⟨b179, 0, none⟩) 1 1]) slt_50 [.slice (some ⟨b178, 0, none⟩) 1 1, .slice (some ⟨b179, 0, none⟩) 1 1] ?_; intro b180 hb180
  refine nB c175 ?_
  refine shO_freeze 2 rfl hb178 ?_; intro F181 hF182 hz183
  refine shO_L rfl ?_
  replace h105 := h105.mono (slE_ok (iE_ok _)) hF182
  replace hz148 := hz148.mono (slE_ok (iE_ok _)) hF182
  have h184 : RowR 1 (iE .i64) F181 (some ⟨b178, 0, none⟩) 1 [0] := RowR.of_block (iE_ok _) (vss := [[.int .i64 0]]) (xs := [0]) hz183 (.cons rfl .nil) rfl (by simp [maxLen])
  refine shO_freeze 1 rfl hb179 ?_; intro F185 hF186 hz187
  refine shO_L rfl ?_
  replace h105 := h105.mono (slE_ok (iE_ok _)) hF186
  replace h184 := h184.mono (iE_ok _) hF186
  replace hz148 := hz148.mono (slE_ok (iE_ok _)) hF186
  have h188 : RowR 1 (iE .i64) F185 (some ⟨b179, 0, none⟩) 1 [1] := RowR.of_block (iE_ok _) (vss := [[.int .i64 1]]) (xs := [1]) hz187 (.cons rfl .nil) rfl (by simp [maxLen])
  refine shO_freeze 0 rfl hb180 ?_; intro F189 hF190 hz191
  refine shO_L rfl ?_
  replace h105 := h105.mono (slE_ok (iE_ok _)) hF190
  replace h184 := h184.mono (iE_ok _) hF190
  replace h188 := h188.mono (iE_ok _) hF190
  replace hz148 := hz148.mono (slE_ok (iE_ok _)) hF190
  have h192 : RowR 1 (slE 1 (iE .i64)) F189 (some ⟨b180, 0, none⟩) 2 [[0], [1]] := RowR.of_block (slE_ok (iE_ok _)) (vss := [[.slice (some ⟨b178, 0, none⟩) [0].length 1], [.slice (some ⟨b179, 0, none⟩) [1].length 1]]) (xs := [[0], [1]]) hz191 (.cons ⟨_, _, rfl, h184⟩ (.cons ⟨_, _, rfl, h188⟩ .nil)) rfl (by simp [maxLen])
  obtain ⟨ok2, h193, r194⟩ := b1_ok r177
  refine cV call27 (oyezkit_LikeRows_Verdict_w h105 h192 h193) (nB c175 (uv (v_notB rfl) (uv (v_pick_f (evB rfl c175) rfl) (um ?_))))
  rcases bool_two (!ok2) with c195 | c195
  ·have r196 := bt r194 c195
   refine fB c195 (fB c195 (fB c195 (fB c195 (fB c195 (fB c195 (fB c195 ?_))))))
   refine uv (v_pick_t (evB rfl c195) rfl) (shO_nil ?_)
   obtain rfl := inj1 r196
   exact mi kn ⟨(((hF170.trans hF182).trans hF186).trans hF190), rfl, z1⟩
  have r197 := bf r194 c195
  refine nB c195 (um (nB c195 ?_))
  refine bA (cs := #[.int .i64 1, .int .i64 2]) slt_35 [.int .i64 1, .int .i64 2] ?_; intro b198 hb198
  refine nB c195 ?_
  refine bA (cs := #[.int .i64 2, .int .i64 3]) slt_35 [.int .i64 2, .int .i64 3] ?_; intro b199 hb199
  refine nB c195 ?_
  refine bA (cs := #[.int .i64 3, .int .i64 4]) slt_35 [.int .i64 3, .int .i64 4] ?_; intro b200 hb200
  refine nB c195 ?_
  refine bA (cs := #[.slice (some ⟨b198, 0, none⟩) 2 2, .slice (some ⟨b199, 0, none⟩) 2 2, .slice (some ⟨b200, 0, none⟩) 2 2]) slt_23 [.slice (some ⟨b198, 0, none⟩) 2 2, .slice (some ⟨b199, 0, none⟩) 2 2, .slice (some ⟨b200, 0, none⟩) 2 2] ?_; intro b201 hb201
  refine nB c195 ?_
  refine shO_freeze 3 rfl hb198 ?_; intro F202 hF203 hz204
  refine shO_L rfl ?_
  replace hz148 := hz148.mono (slE_ok (iE_ok _)) hF203
  have h205 : RowR 1 (iE .i64) F202 (some ⟨b198, 0, none⟩) 2 [1, 2] := RowR.of_block (iE_ok _) (vss := [[.int .i64 1], [.int .i64 2]]) (xs := [1, 2]) hz204 (.cons rfl (.cons rfl .nil)) rfl (by simp [maxLen])
  refine shO_freeze 2 rfl hb199 ?_; intro F206 hF207 hz208
  refine shO_L rfl ?_
  replace h205 := h205.mono (iE_ok _) hF207
  replace hz148 := hz148.mono (slE_ok (iE_ok _)) hF207
  have h209 : RowR 1 (iE .i64) F206 (some ⟨b199, 0, none⟩) 2 [2, 3] := RowR.of_block (iE_ok _) (vss := [[.int .i64 2], [.int .i64 3]]) (xs := [2, 3]) hz208 (.cons rfl (.cons rfl .nil)) rfl (by simp [maxLen])
  refine shO_freeze 1 rfl hb200 ?_; intro F210 hF211 hz212
  refine shO_L rfl ?_
  replace h205 := h205.mono (iE_ok _) hF211
  replace h209 := h209.mono (iE_ok _) hF211
  replace hz148 := hz148.mono (slE_ok (iE_ok _)) hF211
  have h213 : RowR 1 (iE .i64) F210 (some ⟨b200, 0, none⟩) 2 [3, 4] := RowR.of_block (iE_ok _) (vss := [[.int .i64 3], [.int .i64 4]]) (xs := [3, 4]) hz212 (.cons rfl (.cons rfl .nil)) rfl (by simp [maxLen])
  refine shO_freeze 0 rfl hb201 ?_; intro F214 hF215 hz216
  refine shO_L rfl ?_
  replace h205 := h205.mono (iE_ok _) hF215
  replace h209 := h209.mono (iE_ok _) hF215
  replace h213 := h213.mono (iE_ok _) hF215
  replace hz148 := hz148.mono (slE_ok (iE_ok _)) hF215
  have h217 : RowR 1 (slE 1 (iE .i64)) F214 (some ⟨b201, 0, none⟩) 3 [[1, 2], [2, 3], [3, 4]] := RowR.of_block (slE_ok (iE_ok _)) (vss := [[.slice (some ⟨b198, 0, none⟩) [1, 2].length 2], [.slice (some ⟨b199, 0, none⟩) [2, 3].length 2], [.slice (some ⟨b200, 0, none⟩) [3, 4].length 2]]) (xs := [[1, 2], [2, 3], [3, 4]]) hz216 (.cons ⟨_, _, rfl, h205⟩ (.cons ⟨_, _, rfl, h209⟩ (.cons ⟨_, _, rfl, h213⟩ .nil))) rfl (by simp [maxLen])
  obtain ⟨ok3, h218, r219⟩ := b1_ok r197
  refine o_callT (Lt := Lb147 ++ []) (Lr := Lb59 ++ (Lb35 ++ (Lb41 ++ (Lb47 ++ (Lb9 ++ (Lb15 ++ (Lb21 ++ []))))))) rfl call28 rfl rfl rfl (pT pR (lp (ln rfl))) (fun F2 h2 h3 => by rw [(SlR.caps hz148).1]; exact oyezkit_LikeRows_int_w (hz148.row (slE_ok (iE_ok _)) h2 (fun p hp => h3 p (List.mem_append_left _ hp))) (h217.mono (slE_ok (iE_ok _)) h2) h218) ?_
  refine nB c195 (uv (v_notB rfl) (uv (v_pick_f (evB rfl c195) rfl) (shO_nil ?_)))
  obtain rfl := inj1 r219
  exact mi kn ⟨(((((((hF170.trans hF182).trans hF186).trans hF190).trans hF203).trans hF207).trans hF211).trans hF215), rfl, z1⟩
 refine shW_cond rfl (fun c223 => ?_) (fun c223 => ?_)
 ·have r224 := bt r152 c223
  refine wsr (ua (shO_nil (shW_ret (andThen_ret ?_))))
  refine qR1 results7 ?_
  obtain rfl := inj1 r224
  exact rfl
 have r225 := bf r152 c223
 refine shW_skip (wsr ?_)
 refine uv (v_build (v := .agg #[.int .i64 0, .int .i64 0, .bool true]) rfl (by intro w; kernel_rfl)) ?_
 refine uv (v_build (v := .agg #[.int .i64 0, .int .i64 0, .bool false]) rfl (by intro w; kernel_rfl)) ?_
 refine bA (cs := #[.int .i64 0, .int .i64 0, .bool true, .int .i64 0, .int .i64 0, .bool false]) slt_87 [.agg #[.int .i64 0, .int .i64 0, .bool true], .agg #[.int .i64 0, .int .i64 0, .bool false]] ?_; intro b226 hb226
 have hz228 : SlR K.w0.heap.size 58 3 (prE (iE .i64) (prE (iE .i64) bE)) F221 (some ⟨b226, 0, none⟩) 2 2 [(0, 0, true), (0, 0, false)] [(b226, ce #[.int .i64 0, .int .i64 0, .bool true, .int .i64 0, .int .i64 0, .bool false] 58)] := SlR.of_block (vss := [[.int .i64 0, .int .i64 0, .bool true], [.int .i64 0, .int .i64 0, .bool false]]) (prE_ok (iE_ok _) (prE_ok (iE_ok _) bE_ok)) hb226 (.cons ⟨_, _, rfl, rfl, ⟨_, _, rfl, rfl, rfl⟩⟩ (.cons ⟨_, _, rfl, rfl, ⟨_, _, rfl, rfl, rfl⟩⟩ .nil)) rfl rfl (by simp [maxLen])
 generalize hLLb227 : ([(b226, ce #[.int .i64 0, .int .i64 0, .bool true, .int .i64 0, .int .i64 0, .bool false] 58)] : LH) = Lb227 at hz228
 refine shO_perm (L' := Lb227 ++ []) (by rw [← hLLb227]; exact fO) ?_
 refine ua (nsr ?_)
 obtain ⟨n14, n15, l16, l17, l18, h230, r231⟩ := b5_ok r225
 refine c0 call23 (oyezlaw07_Bell_w h230) ?_; rintro _ F232 _ hF233 hn234 ⟨a236, n240, c237, Lb238, a242, n246, c243, Lb244, a248, n252, c249, Lb250, rfl, rfl, hz239, hz245, hz251⟩
 replace hz228 := hz228.mono (prE_ok (iE_ok _) (prE_ok (iE_ok _) bE_ok)) hF233
 replace hz239 := hz239.new fun p hp => hn234 p (by simp [hp])
 replace hz245 := hz245.new fun p hp => hn234 p (by simp [hp])
 replace hz251 := hz251.new fun p hp => hn234 p (by simp [hp])
 refine shO_L (lp (lp (lp (ln rfl)))) (um ?_)
 obtain ⟨l19, n16, h254, r255⟩ := b2_ok r231
 refine o_callTO (Lb := []) (Lt := Lb238 ++ (Lb244 ++ (Lb250 ++ (Lb227 ++ [])))) (Lr := []) rfl call29 rfl rfl rfl (pT pR (ln (lp (lp (lp (lp (ln rfl))))))) (fun F2 h2 h3 => by have h0 := book_Fewest_w (hz239.row (slE_ok (slE_ok (iE_ok _))) h2 (fun p hp => h3 p (List.mem_append_left _ hp))) (hz245.row (iE_ok _) h2 (fun p hp => h3 p (List.mem_append_right _ (List.mem_append_left _ hp)))) (hz251.row (prE_ok (iE_ok _) (prE_ok (iE_ok _) (iE_ok _))) h2 (fun p hp => h3 p (List.mem_append_right _ (List.mem_append_right _ (List.mem_append_left _ hp))))) (hz228.row (prE_ok (iE_ok _) (prE_ok (iE_ok _) bE_ok)) h2 (fun p hp => h3 p (List.mem_append_right _ (List.mem_append_right _ (List.mem_append_right _ (List.mem_append_left _ hp)))))) h254; rw [← (SlR.caps hz239).1] at h0; rw [← (SlR.caps hz245).1] at h0; rw [← (SlR.caps hz251).1] at h0; rw [← (SlR.caps hz228).1] at h0; exact h0) (fun _ _ _ _ hq => by obtain ⟨a260, n264, c261, Lb262, rfl, rfl, hz263⟩ := hq; exact ⟨_, _, _, _, rfl, rfl, hz263.flat (fun _ _ h => h)⟩) ?_; rintro _ F256 _ hF257 hd259 hn258 ⟨a260, n264, c261, Lb262, rfl, rfl, hz263⟩
 replace hz228 := hz228.mono (prE_ok (iE_ok _) (prE_ok (iE_ok _) bE_ok)) hF257
 have hn266 := newp (Lb' := []) (by rfl) hd259 hn258
 replace hz263 := hz263.new fun p hp => hn266 p (by simp [hp])
 refine shO_L (lp (ln (lp (lp (lp (lp (ln rfl))))))) ?_
 refine um (ox rfl rfl rfl (ox rfl rfl rfl (ua (ua (nsr ?_)))))
 obtain ⟨n17, n18, l20, l21, l22, h267, r268⟩ := b5_ok r255
 refine c0 call23 (oyezlaw07_Bell_w h267) ?_; rintro _ F269 _ hF270 hn271 ⟨a273, n277, c274, Lb275, a279, n283, c280, Lb281, a285, n289, c286, Lb287, rfl, rfl, hz276, hz282, hz288⟩
 replace hz228 := hz228.mono (prE_ok (iE_ok _) (prE_ok (iE_ok _) bE_ok)) hF270
 replace hz263 := hz263.mono (iE_ok _) hF270
 replace hz276 := hz276.new fun p hp => hn271 p (by simp [hp])
 replace hz282 := hz282.new fun p hp => hn271 p (by simp [hp])
 replace hz288 := hz288.new fun p hp => hn271 p (by simp [hp])
 refine shO_L (lp (lp (lp (ln rfl)))) ?_
 refine uv (v_build (v := .agg #[.int .i64 1, .int .i64 0, .bool false]) rfl (by intro w; kernel_rfl)) ?_
 obtain ⟨ok4, n19, h291, r292⟩ := b2_ok r268
 refine o_callT (Lt := Lb275 ++ (Lb281 ++ (Lb287 ++ []))) (Lr := Lb262 ++ (Lb238 ++ (Lb244 ++ (Lb250 ++ (Lb227 ++ []))))) rfl call13 rfl rfl rfl (pT pR (lp (lp (lp (ln rfl))))) (fun F2 h2 h3 => by rw [(SlR.caps hz276).1]; rw [(SlR.caps hz282).1]; rw [(SlR.caps hz288).1]; exact book_Refuted_w (hz276.row (slE_ok (slE_ok (iE_ok _))) h2 (fun p hp => h3 p (List.mem_append_left _ hp))) (hz282.row (iE_ok _) h2 (fun p hp => h3 p (List.mem_append_right _ (List.mem_append_left _ hp)))) (hz288.row (prE_ok (iE_ok _) (prE_ok (iE_ok _) (iE_ok _))) h2 (fun p hp => h3 p (List.mem_append_right _ (List.mem_append_right _ (List.mem_append_left _ hp))))) h291) ?_
 refine um (ox rfl rfl rfl (ox rfl rfl rfl (ua (ua (shO_nil (shW_seq ?_))))))
 refine shW_drawM [(.still, 1), (.still, 2), (.still, 3), (.seq, 0), (.seq, 4), (.still, 5), (.still, 6), (.still, 7), (.still, 8), (.still, 9)] (by kernel_rfl) (by kernel_rfl) (trivial) (by rfl) (by kernel_rfl) (mS [9] rfl (v_move rfl) ?_)
 obtain ⟨x, g293, hx294, r295⟩ := ix_ok r292
 obtain ⟨b296, o297, c298, vs299, ha300, hs301, hle302, ⟨_, _, rfl, rfl, ⟨_, _, rfl, rfl, rfl⟩⟩, hl303, hc304⟩ := SlR.at (prE_ok (iE_ok _) (prE_ok (iE_ok _) bE_ok)) hz228 (L := Lb227 ++ []) fP g293.1 hx294
 refine mS [91] rfl (v_indexO underlying87 sizeOf58 rfl ha300 rfl (SlR.idx hz228 g293)) (mL [92] (Lb227 ++ []) rfl (s0 (s3 (s3 (s3 (s3 (s3 (s3 (s3 (s4 sr))))))))) (fun H F' L' hF' hL' => v_loadA isAgg58 sizeOf58 rfl (hs301.ext hF' hL') hle302 (extract_cells hle302 hl303 hc304)) ?_)
 refine ⟨_, [], rfl, rfl, (sn _), by kernel_rfl, ?_⟩; intro H
 obtain ⟨n20, n21, l23, l24, l25, h305, r306⟩ := b5_ok r295
 refine c0 call23 (oyezlaw07_Bell_w h305) ?_; rintro _ F307 _ hF308 hn309 ⟨a311, n315, c312, Lb313, a317, n321, c318, Lb319, a323, n327, c324, Lb325, rfl, rfl, hz314, hz320, hz326⟩
 replace hz263 := hz263.mono (iE_ok _) hF308
 replace hz314 := hz314.new fun p hp => hn309 p (by simp [hp])
 replace hz320 := hz320.new fun p hp => hn309 p (by simp [hp])
 replace hz326 := hz326.new fun p hp => hn309 p (by simp [hp])
 refine shO_L (lp (lp (lp (ln rfl)))) ?_
 refine shO_nil ⟨_, rfl, hF308, [3, 2, 1], by kernel_rfl, .inl (.inr (fun d h => by cases h; rfl)), (fc (s0 (s3 (s3 (s3 (s3 (s3 (s3 (s3 (s3 (s3 (s3 (s4 sr)))))))))))) (fc sm (fc sm nm))), ?_⟩
 refine ⟨_, [(90, .agg #[.int .i64 n20, .int .i64 n21, .slice a311 n315 c312, .slice a317 n321 c318, .slice a323 n327 c324]), (93, .agg #[.int .i64 x.1, .int .i64 x.2.1, .bool x.2.2])], rfl, rfl, z2, by kernel_rfl, ?_⟩; intro H
 obtain rfl := (SlR.caps hz314).1
 refine shO_freezeR (Nat.le_refl _) (slE_ok (slE_ok (iE_ok _))) fP hz314 ?_; intro F329 hF330 h331
 replace hz263 := hz263.mono (iE_ok _) hF330
 replace hz320 := hz320.mono (iE_ok _) hF330
 replace hz326 := hz326.mono (prE_ok (iE_ok _) (prE_ok (iE_ok _) (iE_ok _))) hF330
 obtain rfl := (SlR.caps hz320).1
 refine shO_freezeR (Nat.le_refl _) (iE_ok _) fP hz320 ?_; intro F332 hF333 h334
 replace h331 := h331.mono (slE_ok (slE_ok (iE_ok _))) hF333
 replace hz263 := hz263.mono (iE_ok _) hF333
 replace hz326 := hz326.mono (prE_ok (iE_ok _) (prE_ok (iE_ok _) (iE_ok _))) hF333
 obtain rfl := (SlR.caps hz326).1
 refine shO_freezeR (Nat.le_refl _) (prE_ok (iE_ok _) (prE_ok (iE_ok _) (iE_ok _))) fP hz326 ?_; intro F335 hF336 h337
 replace h331 := h331.mono (slE_ok (slE_ok (iE_ok _))) hF336
 replace h334 := h334.mono (iE_ok _) hF336
 replace hz263 := hz263.mono (iE_ok _) hF336
 obtain ⟨l26, n22, h338, r339⟩ := b2_ok r306
 refine c0 call30 (book_Witness_w h331 h334 h337 h338) ?_; rintro _ F340 _ hF341 hn342 ⟨a344, c345, rfl, rfl, h346⟩
 replace hz263 := hz263.mono (iE_ok _) hF341
 refine shO_L (ln rfl) ?_
 refine shO_nil ⟨_, rfl, (((hF330.trans hF333).trans hF336).trans hF341), [], by kernel_rfl, .inl (.inl rfl), nm, ?_⟩
 refine mS [94] rfl (v_move rfl) (mS (v := .slice a344 l26.length c345) [89] rfl (v_extract rfl rfl) (mS (v := .int .i64 n22) [89] rfl (v_extract rfl rfl) (mS [95] rfl (v_assign rfl) (mS [96] rfl (v_assign rfl) (shM_nil (wsr ?_))))))
 obtain ⟨n23, n24, l27, l28, l29, h347, r348⟩ := b5_ok r339
 refine c0 call23 (oyezlaw07_Bell_w h347) ?_; rintro _ F349 _ hF350 hn351 ⟨a353, n357, c354, Lb355, a359, n363, c360, Lb361, a365, n369, c366, Lb367, rfl, rfl, hz356, hz362, hz368⟩
 replace h346 := h346.mono (iE_ok _) hF350
 replace hz263 := hz263.mono (iE_ok _) hF350
 replace hz356 := hz356.new fun p hp => hn351 p (by simp [hp])
 replace hz362 := hz362.new fun p hp => hn351 p (by simp [hp])
 replace hz368 := hz368.new fun p hp => hn351 p (by simp [hp])
 refine shO_L (lp (lp (lp (ln rfl)))) ?_
 refine bA (cs := #[.int .i64 0]) slt_35 [.int .i64 0] ?_; intro b371 hb371
 obtain rfl := (SlR.caps hz356).1
 refine shO_freezeR (Nat.le_refl _) (slE_ok (slE_ok (iE_ok _))) (fC fP) hz356 ?_; intro F372 hF373 h374
 replace h346 := h346.mono (iE_ok _) hF373
 replace hz263 := hz263.mono (iE_ok _) hF373
 replace hz362 := hz362.mono (iE_ok _) hF373
 replace hz368 := hz368.mono (prE_ok (iE_ok _) (prE_ok (iE_ok _) (iE_ok _))) hF373
 obtain rfl := (SlR.caps hz362).1
 refine shO_freezeR (Nat.le_refl _) (iE_ok _) (fC fP) hz362 ?_; intro F375 hF376 h377
 replace h346 := h346.mono (iE_ok _) hF376
 replace h374 := h374.mono (slE_ok (slE_ok (iE_ok _))) hF376
 replace hz263 := hz263.mono (iE_ok _) hF376
 replace hz368 := hz368.mono (prE_ok (iE_ok _) (prE_ok (iE_ok _) (iE_ok _))) hF376
 obtain rfl := (SlR.caps hz368).1
 refine shO_freezeR (Nat.le_refl _) (prE_ok (iE_ok _) (prE_ok (iE_ok _) (iE_ok _))) (fC fP) hz368 ?_; intro F378 hF379 h380
 replace h346 := h346.mono (iE_ok _) hF379
 replace h374 := h374.mono (slE_ok (slE_ok (iE_ok _))) hF379
 replace h377 := h377.mono (iE_ok _) hF379
 replace hz263 := hz263.mono (iE_ok _) hF379
 refine shO_freeze 0 rfl hb371 ?_; intro F381 hF382 hz383
 refine shO_L rfl ?_
 replace h346 := h346.mono (iE_ok _) hF382
 replace h374 := h374.mono (slE_ok (slE_ok (iE_ok _))) hF382
 replace h377 := h377.mono (iE_ok _) hF382
 replace h380 := h380.mono (prE_ok (iE_ok _) (prE_ok (iE_ok _) (iE_ok _))) hF382
 replace hz263 := hz263.mono (iE_ok _) hF382
 have h384 : RowR 1 (iE .i64) F381 (some ⟨b371, 0, none⟩) 1 [0] := RowR.of_block (iE_ok _) (vss := [[.int .i64 0]]) (xs := [0]) hz383 (.cons rfl .nil) rfl (by simp [maxLen])
 obtain ⟨l30, n25, h385, r386⟩ := b2_ok r348
 refine c0 call31 (book_Again_w h374 h377 h380 h384 h385) ?_; rintro _ F387 _ hF388 hn389 ⟨a391, c392, rfl, rfl, h393⟩
 replace h346 := h346.mono (iE_ok _) hF388
 replace hz263 := hz263.mono (iE_ok _) hF388
 refine shO_L (ln rfl) ?_
 refine um (ox rfl rfl rfl (ox rfl rfl rfl (ua (nsr (um ?_)))))
 refine uv (v_eql rfl rfl) (um ?_)
 by_cases c394 : n16 = 0
 ·have r395 := ite_t r386 c394
  refine nT c394 (um (nT c394 ?_))
  refine uv (v_eql rfl rfl) (uv (v_pick_t (evD_true rfl c394) rfl) (um ?_))
  by_cases c396 : n19 = 0
  ·have r397 := ite_t r395 c396
   refine nT c396 (um (nT c396 ?_))
   refine uv (v_eql rfl rfl) (uv (v_pick_t (evD_true rfl c396) rfl) (um ?_))
   by_cases c398 : n22 = 0
   ·have r399 := ite_t r397 c398
    refine nT c398 (um (nT c398 ?_))
    refine uv (v_eql rfl rfl) (uv (v_pick_t (evD_true rfl c398) rfl) (um ?_))
    by_cases c400 : n25 = 6
    ·have r401 := ite_t r399 c400
     refine nT c400 (um ?_)
     refine uv (v_pick_t (evD_true rfl c400) rfl) (um ?_)
     rcases bool_two ok4 with c402 | c402
     ·have r403 := bt r401 c402
      refine nB c402 (um (nB c402 ?_))
      refine bA (cs := #[.int .i64 0]) slt_35 [.int .i64 0] ?_; intro b404 hb404
      refine nB c402 ?_
      refine shO_freeze 0 rfl hb404 ?_; intro F405 hF406 hz407
      refine shO_L rfl ?_
      replace h346 := h346.mono (iE_ok _) hF406
      replace hz263 := hz263.mono (iE_ok _) hF406
      have h408 : RowR 1 (iE .i64) F405 (some ⟨b404, 0, none⟩) 1 [0] := RowR.of_block (iE_ok _) (vss := [[.int .i64 0]]) (xs := [0]) hz407 (.cons rfl .nil) rfl (by simp [maxLen])
      obtain ⟨ok5, h409, r410⟩ := b1_ok r403
      refine o_callT (Lt := Lb262 ++ []) (Lr := Lb275 ++ (Lb281 ++ (Lb287 ++ (Lb238 ++ (Lb244 ++ (Lb250 ++ (Lb227 ++ []))))))) rfl call26 rfl rfl rfl (pT ((fS (fS (fS fP))).trans (pA pR)) (lp (ln rfl))) (fun F2 h2 h3 => by rw [(SlR.caps hz263).1]; exact oyezkit_Like_int_w (hz263.row (iE_ok _) h2 (fun p hp => h3 p (List.mem_append_left _ hp))) (h408.mono (iE_ok _) h2) h409) ?_
      refine uv (v_pick_t (evB rfl c402) rfl) (um ?_)
      rcases bool_two ok5 with c411 | c411
      ·have r412 := bt r410 c411
       refine nB c411 (um (nB c411 ?_))
       refine bA (cs := #[.int .i64 1, .int .i64 2, .int .i64 3]) slt_35 [.int .i64 1, .int .i64 2, .int .i64 3] ?_; intro b413 hb413
       refine nB c411 ?_
       refine shO_freeze 0 rfl hb413 ?_; intro F414 hF415 hz416
       refine shO_L rfl ?_
       replace h346 := h346.mono (iE_ok _) hF415
       have h417 : RowR 1 (iE .i64) F414 (some ⟨b413, 0, none⟩) 3 [1, 2, 3] := RowR.of_block (iE_ok _) (vss := [[.int .i64 1], [.int .i64 2], [.int .i64 3]]) (xs := [1, 2, 3]) hz416 (.cons rfl (.cons rfl (.cons rfl .nil))) rfl (by simp [maxLen])
       obtain ⟨ok6, h418, r419⟩ := b1_ok r412
       refine cV call26 (oyezkit_Like_int_w h346 h417 h418) (uv (v_pick_t (evB rfl c411) rfl) ?_)
       refine ua (shO_nil ?_)
       refine kW kn (shW_ret (qR1 results7 ?_))
       obtain rfl := inj1 r419
       exact rfl
      have r420 := bf r410 c411
      refine fB c411 (fB c411 (fB c411 ?_))
      refine uv (v_pick_f (evB rfl c411) rfl) ?_
      refine ua (shO_nil ?_)
      refine kW kn (shW_ret (qR1 results7 ?_))
      obtain rfl := inj1 r420
      exact rfl
     have r421 := bf r401 c402
     refine fB c402 (fB c402 (fB c402 ?_))
     refine uv (v_pick_f (evB rfl c402) rfl) ?_
     refine um (shO_off (b' := false) 125 rfl rfl rfl rfl (shO_off (b' := false) 125 rfl rfl rfl rfl (shO_off (b' := false) 125 rfl rfl rfl rfl ?_)))
     refine uv (v_pick_f rfl rfl) ?_
     refine ua (shO_nil ?_)
     refine kW kn (shW_ret (qR1 results7 ?_))
     obtain rfl := inj1 r421
     exact rfl
    have r422 := ite_f r399 c400
    refine fF c400 (uv (v_pick_f (evD_false rfl c400) rfl) ?_)
    refine um (shO_off (b' := false) 120 rfl rfl rfl rfl (shO_off (b' := false) 120 rfl rfl rfl rfl (shO_off (b' := false) 120 rfl rfl rfl rfl ?_)))
    refine uv (v_pick_f rfl rfl) ?_
    refine um (shO_off (b' := false) 125 rfl rfl rfl rfl (shO_off (b' := false) 125 rfl rfl rfl rfl (shO_off (b' := false) 125 rfl rfl rfl rfl ?_)))
    refine uv (v_pick_f rfl rfl) ?_
    refine ua (shO_nil ?_)
    refine kW kn (shW_ret (qR1 results7 ?_))
    obtain rfl := inj1 r422
    exact rfl
   have r423 := ite_f r397 c398
   refine fF c398 (fF c398 ?_)
   refine uv (v_pick_f (evD_false rfl c398) rfl) ?_
   refine um (shO_off (b' := false) 117 rfl rfl rfl rfl ?_)
   refine uv (v_pick_f rfl rfl) ?_
   refine um (shO_off (b' := false) 120 rfl rfl rfl rfl (shO_off (b' := false) 120 rfl rfl rfl rfl (shO_off (b' := false) 120 rfl rfl rfl rfl ?_)))
   refine uv (v_pick_f rfl rfl) ?_
   refine um (shO_off (b' := false) 125 rfl rfl rfl rfl (shO_off (b' := false) 125 rfl rfl rfl rfl (shO_off (b' := false) 125 rfl rfl rfl rfl ?_)))
   refine uv (v_pick_f rfl rfl) ?_
   refine ua (shO_nil ?_)
   refine kW kn (shW_ret (qR1 results7 ?_))
   obtain rfl := inj1 r423
   exact rfl
  have r424 := ite_f r395 c396
  refine fF c396 (fF c396 ?_)
  refine uv (v_pick_f (evD_false rfl c396) rfl) ?_
  refine um (shO_off (b' := false) 113 rfl rfl rfl rfl (shO_off (b' := false) 113 rfl rfl rfl rfl ?_))
  refine uv (v_pick_f rfl rfl) ?_
  refine um (shO_off (b' := false) 117 rfl rfl rfl rfl ?_)
  refine uv (v_pick_f rfl rfl) ?_
  refine um (shO_off (b' := false) 120 rfl rfl rfl rfl (shO_off (b' := false) 120 rfl rfl rfl rfl (shO_off (b' := false) 120 rfl rfl rfl rfl ?_)))
  refine uv (v_pick_f rfl rfl) ?_
  refine um (shO_off (b' := false) 125 rfl rfl rfl rfl (shO_off (b' := false) 125 rfl rfl rfl rfl (shO_off (b' := false) 125 rfl rfl rfl rfl ?_)))
  refine uv (v_pick_f rfl rfl) ?_
  refine ua (shO_nil ?_)
  refine kW kn (shW_ret (qR1 results7 ?_))
  obtain rfl := inj1 r424
  exact rfl
 have r425 := ite_f r386 c394
 refine fF c394 (fF c394 ?_)
 refine uv (v_pick_f (evD_false rfl c394) rfl) ?_
 refine um (shO_off (b' := false) 109 rfl rfl rfl rfl (shO_off (b' := false) 109 rfl rfl rfl rfl ?_))
 refine uv (v_pick_f rfl rfl) ?_
 refine um (shO_off (b' := false) 113 rfl rfl rfl rfl (shO_off (b' := false) 113 rfl rfl rfl rfl ?_))
 refine uv (v_pick_f rfl rfl) ?_
 refine um (shO_off (b' := false) 117 rfl rfl rfl rfl ?_)
 refine uv (v_pick_f rfl rfl) ?_
 refine um (shO_off (b' := false) 120 rfl rfl rfl rfl (shO_off (b' := false) 120 rfl rfl rfl rfl (shO_off (b' := false) 120 rfl rfl rfl rfl ?_)))
 refine uv (v_pick_f rfl rfl) ?_
 refine um (shO_off (b' := false) 125 rfl rfl rfl rfl (shO_off (b' := false) 125 rfl rfl rfl rfl (shO_off (b' := false) 125 rfl rfl rfl rfl ?_)))
 refine uv (v_pick_f rfl rfl) ?_
 refine ua (shO_nil ?_)
 refine kW kn (shW_ret (qR1 results7 ?_))
 obtain rfl := inj1 r425
 exact rfl
theorem round_Beat_notice_w {hears : List (List Int)} {notices : List ((List Int) × Int × Int)} {n : Int} (_h_walks : RowR 1 (slE 1 (iE .i64)) F walks_a walks_c walks) (_h_hears : RowR 1 (slE 1 (iE .i64)) F hears_a hears_c hears) (_h_notices : RowR 3 (prE (slE 1 (iE .i64)) (prE (iE .i64) (iE .i64))) F notices_a notices_c notices) {r : Bool} (hr : round_Beat_notice walks hears houses start notices n = some r) :
    SpecV Tryz.prog 70 #[.agg #[.slice walks_a walks.length walks_c, .slice hears_a hears.length hears_c, .int .i64 houses, .int .i64 start, .slice notices_a notices.length notices_c], .int .i64 n] F (.bool r) := by
 refine sp func70 ntmps70 fun K _ _ => ?_
 rw [round_Beat_notice] at hr
 refine wsr ?_
 refine o_box rfl rfl ?_; intro b1 hb1
 refine ua (nsr (um ?_))
 refine uv (v_fieldAddr fa_26_4 rfl) (uv (v_load isAgg24 rfl (Has.own 0 rfl) rfl) (uv (v_lenS underlying24 rfl) ?_))
 obtain ⟨g2, r3⟩ := gd_ok hr
 refine uv (v_sub rfl rfl g2) ?_
 obtain ⟨ok, h4, r5⟩ := b1_ok r3
 refine cV call103 (round_in_w h4) ?_
 refine ua (shO_nil ?_)
 refine kW kn (shW_ret (qR1 results70 ?_))
 obtain rfl := inj1 r5
 exact rfl
set_option maxHeartbeats 1000000 in
theorem round_gone_w {hears : List (List Int)} {notices : List ((List Int) × Int × Int)} (h_walks : RowR 1 (slE 1 (iE .i64)) F walks_a walks_c walks) (h_hears : RowR 1 (slE 1 (iE .i64)) F hears_a hears_c hears) (h_notices : RowR 3 (prE (slE 1 (iE .i64)) (prE (iE .i64) (iE .i64))) F notices_a notices_c notices) (h_round : RowR 2 (prE (iE .i64) (iE .i64)) F round_a round_c round) {r : Option ((List (List Int)) × (List (List Int)) × Int × Int × (List ((List Int) × Int × Int)) × (List Int) × (List (Int × Int)) × (List Int))} {r2 : List Int} {r3 : Int} (hr : round_gone walks hears houses start notices round = some (r, r2, r3)) :
    SH.Spec Tryz.prog 32 #[.agg #[.slice walks_a walks.length walks_c, .slice hears_a hears.length hears_c, .int .i64 houses, .int .i64 start, .slice notices_a notices.length notices_c], .slice round_a round.length round_c] F [] fun F' L' v => ∃ (rv : Value) (r2a : Option Addr) (r2n : Nat) (r2c : Nat) (r2L : LH), v = .tuple #[rv, .slice r2a r2n r2c, .int .i64 r3] ∧ L' = r2L ++ [] ∧ PtrR 116 (prE (slE 1 (slE 1 (iE .i64))) (prE (slE 1 (slE 1 (iE .i64))) (prE (iE .i64) (prE (iE .i64) (prE (slE 3 (prE (slE 1 (iE .i64)) (prE (iE .i64) (iE .i64)))) (prE (arE 25 (cI .i64)) (prE (slE 2 (prE (iE .i64) (iE .i64))) (arE 15 (cI .i64))))))))) F' rv r ∧ SlR 0 3 1 (iE .i64) F' r2a r2n r2c r2 r2L := by
 refine sp func32 ntmps32 fun K _ _ => ?_
 rw [round_gone] at hr
 refine wsr ?_
 refine o_box rfl rfl ?_; intro b1 hb1
 refine ua (ua (ua (nsr ?_)))
 refine uv (v_loadA isAgg26 sizeOf26 rfl (Has.own 0 rfl) (nbL rfl) rfl) ?_
 obtain ⟨d, n, h2, r4⟩ := b2_ok hr
 refine c0 call18 (round_opened_w h_walks h_hears h_notices h2) ?_; rintro _ F5 _ hF6 hn7 ⟨v9, rfl, rfl, hp10⟩
 replace h_walks := h_walks.mono (slE_ok (iE_ok _)) hF6
 replace h_hears := h_hears.mono (slE_ok (iE_ok _)) hF6
 replace h_notices := h_notices.mono (prE_ok (slE_ok (iE_ok _)) (prE_ok (iE_ok _) (iE_ok _))) hF6
 replace h_round := h_round.mono (prE_ok (iE_ok _) (iE_ok _)) hF6
 refine shO_L (ln rfl) ?_
 refine um (ox rfl rfl rfl (ox rfl rfl rfl (ua (ua (shO_nil (shW_seq ?_))))))
 refine shW_block ?_
 refine wsr (um ?_)
 refine uv (v_neq rfl rfl) ?_
 refine ua (shO_nil ?_)
 refine cQ (fun c11 => ?_) fun c11 => ?_
 ·have r12 := ite_t r4 c11
  refine wsr (um (ua (ua (ua (shO_nil ?_)))))
  refine kW kn ?_
  refine shW_ret (inBlock_ret (andThen_ret ?_))
  refine q_res3 results32 (res_tmp rfl) (res_tmp rfl) (res_tmp rfl) (sr) ?_
  obtain ⟨rfl, rfl, rfl⟩ := inj3 r12
  exact ⟨_, _, _, _, [], rfl, rfl, rfl, SlR.nil _ _ _ _ _⟩
 have r13 := ite_f r4 c11
 refine wsr (um ?_)
 refine uv (v_lenS underlying30 rfl) (uv (v_gtrK rfl rfl) ?_)
 refine ua (shO_nil ?_)
 refine cQ (fun c14 => ?_) fun c14 => ?_
 ·have r15 := ite_t r13 c14
  refine wsr (ua (ua (ua (shO_nil ?_))))
  refine kW kn ?_
  refine shW_ret (inBlock_ret (andThen_ret ?_))
  refine q_res3 results32 (res_tmp rfl) (res_tmp rfl) (res_tmp rfl) (sr) ?_
  obtain ⟨rfl, rfl, rfl⟩ := inj3 r15
  exact ⟨_, _, _, _, [], rfl, rfl, rfl, SlR.nil _ _ _ _ _⟩
 have r16 := ite_f r13 c14
 refine shW_skip (inBlock_n (id := 0) (wsr ?_))
 refine uv (v_fieldAddr fa_26_3 rfl) (uv (v_load isAgg3 rfl (Has.own 0 rfl) rfl) ?_)
 refine ua (ua (nsr (ua (nsr ?_))))
 refine uv (v_loadA isAgg26 sizeOf26 rfl (Has.own 0 rfl) (nbL rfl) rfl) (uv (v_makeFunc rfl rfl) ?_)
 refine ua (shO_nil ?_)
 refine shW_join (fun e1 F1 L1 => ∃ (out : List Int) (v17 : Value) (a19 : Option Addr) (n23 : Nat) (c20 : Nat) (Lb21 : LH), round_gone_j1 d out = some (r, r2, r3) ∧ F5 = F1 ∧ L1 = (Lb21 ++ []) ∧ e1.sub [(7, v17), (11, .slice a19 n23 c20)] ∧ PtrR 116 (prE (slE 1 (slE 1 (iE .i64))) (prE (slE 1 (slE 1 (iE .i64))) (prE (iE .i64) (prE (iE .i64) (prE (slE 3 (prE (slE 1 (iE .i64)) (prE (iE .i64) (iE .i64)))) (prE (arE 25 (cI .i64)) (prE (slE 2 (prE (iE .i64) (iE .i64))) (arE 15 (cI .i64))))))))) F1 v17 d ∧ SlR K.w0.heap.size 3 1 (iE .i64) F1 a19 n23 c20 out Lb21) ?_ ?_
 ·refine wsr (um ?_)
  refine uv (v_lenS underlying30 rfl) ?_
  refine um (shO_nil ?_)
  refine shW_block ?_
  refine shW_lp (fun fu2 e1 F1 L1 => LA round fu2 fun tl k => ∃ (at_ : Int) (minute : Int) (out2 : List Int) (v25 : Value) (a27 : Option Addr) (n31 : Nat) (c28 : Nat) (Lb29 : LH), round_gone_l2 walks hears houses start notices d tl at_ minute out2 = some (r, r2, r3) ∧ F5 = F1 ∧ L1 = ((b1, ce #[.slice walks_a walks.length walks_c, .slice hears_a hears.length hears_c, .int .i64 houses, .int .i64 start, .slice notices_a notices.length notices_c] 26) :: (Lb29 ++ [])) ∧ e1.sub [(2, .pointer (some ⟨b1, 0, none⟩)), (7, v25), (9, .int .i64 at_), (10, .int .i64 minute), (11, .slice a27 n31 c28), (12, .func (.func 69) #[.agg #[.slice walks_a walks.length walks_c, .slice hears_a hears.length hears_c, .int .i64 houses, .int .i64 start, .slice notices_a notices.length notices_c]] #[]), (33, .slice round_a round.length round_c), (34, .int .i64 (round.length : Int)), (35, .int .i64 k)] ∧ PtrR 116 (prE (slE 1 (slE 1 (iE .i64))) (prE (slE 1 (slE 1 (iE .i64))) (prE (iE .i64) (prE (iE .i64) (prE (slE 3 (prE (slE 1 (iE .i64)) (prE (iE .i64) (iE .i64)))) (prE (arE 25 (cI .i64)) (prE (slE 2 (prE (iE .i64) (iE .i64))) (arE 15 (cI .i64))))))))) F1 v25 d ∧ SlR K.w0.heap.size 3 1 (iE .i64) F1 a27 n31 c28 out2 Lb29) _ (m0 (kc (ke kr)) ⟨_, _, rfl, Lst.start _, start, 0, [], v9, none, 0, 0, [], r16, rfl, rfl, (sc rfl z8), hp10, SlR.nil _ _ _ _ _⟩) ?_
  rintro fu2 e1 _ _ ⟨tl, k, hn34, hk33, at_, minute, out2, v25, a27, n31, c28, Lb29, r35, rfl, rfl, he36, hp26, hz30⟩
  refine shW_env _ he36 (wsr (uv (v_lssK rfl rfl) ?_))
  refine shO_nil (shW_seq ?_)
  refine cQ (fun c38 => ?_) fun c38 => ?_
  ·obtain ⟨x, tl2, rfl, hx40, g41, hk39⟩ := Lst.succ hk33 c38
   rw [round_gone_l2] at r35
   refine shW_skip (shW_seq ?_)
   refine shW_block (wsr ?_)
   obtain ⟨b42, o43, c44, vs45, ha46, hs47, hle48, ⟨_, _, rfl, rfl, rfl⟩, hl49, hc50⟩ := RowR.at (prE_ok (iE_ok _) (iE_ok _)) h_round ((b1, ce #[.slice walks_a walks.length walks_c, .slice hears_a hears.length hears_c, .int .i64 houses, .int .i64 start, .slice notices_a notices.length notices_c] 26) :: (Lb29 ++ [])) g41.1 hx40
   refine uv (v_indexO underlying30 sizeOf47 rfl ha46 rfl g41) (uv (v_loadA isAgg47 sizeOf47 rfl hs47 hle48 (extract_cells hle48 hl49 hc50)) ?_)
   refine o_alloc rfl zeroValue47 ?_; intro b51 hb51
   refine o_storeA (i := 0) sizeOf47 rfl rfl rfl (by simp [Value.oneCell']) rfl (nbL rfl) (shO_L rfl ?_)
   refine shO_nil (shW_seq ?_)
   obtain ⟨k2, h52, r53⟩ := b1_ok r35
   refine jE (((b51, ce #[.int .i64 x.1, .int .i64 x.2] 47) :: ((b1, ce #[.slice walks_a walks.length walks_c, .slice hears_a hears.length hears_c, .int .i64 houses, .int .i64 start, .slice notices_a notices.length notices_c] 26) :: (Lb29 ++ [])))) [(2, .pointer (some ⟨b1, 0, none⟩)), (7, v25), (9, .int .i64 at_), (10, .int .i64 minute), (11, .slice a27 n31 c28), (12, .func (.func 69) #[.agg #[.slice walks_a walks.length walks_c, .slice hears_a hears.length hears_c, .int .i64 houses, .int .i64 start, .slice notices_a notices.length notices_c]] #[]), (14, .pointer (some ⟨b51, 0, none⟩)), (33, .slice round_a round.length round_c), (34, .int .i64 (round.length : Int)), (35, .int .i64 k), (50, .bool k2)] ?_ ?_
   ·clear r53
    refine shW_region (um ?_)
    refine uv (v_fieldAddr fa_47_0 rfl) (uv (v_load isAgg3 rfl (Has.own 0 rfl) rfl) ?_)
    obtain ⟨ok, h54, r55⟩ := b1_ok h52
    refine cV call69 (round_Beat_stand_w h_walks h_hears h_notices h54) (uv (v_notB rfl) (um ?_))
    rcases bool_two (!ok) with c56 | c56
    ·have r57 := bt r55 c56
     refine fB c56 (fB c56 (fB c56 (fB c56 (fB c56 ?_))))
     refine uv (v_pick_t (evB rfl c56) rfl) (shO_nil ?_)
     obtain rfl := inj1 r57
     exact mi kr ⟨rfl, rfl, (sc rfl (sc rfl (sc rfl z8)))⟩
    have r58 := bf r55 c56
    refine nB c56 (uv (v_loadA isAgg26 sizeOf26 rfl (Has.own 1 rfl) (nbL rfl) rfl) (nB c56 (uv (v_fieldAddr fa_47_1 rfl) (nB c56 (uv (v_load isAgg3 rfl (Has.own 0 rfl) rfl) (nB c56 ?_))))))
    obtain ⟨ok2, h59, r60⟩ := b1_ok r58
    refine cV call70 (round_Beat_notice_w h_walks h_hears h_notices h59) (nB c56 (uv (v_notB rfl) (uv (v_pick_f (evB rfl c56) rfl) (shO_nil ?_))))
    obtain rfl := inj1 r60
    exact mi kr ⟨rfl, rfl, (sc rfl (sc rfl (sc rfl z8)))⟩
   refine shW_cond rfl (fun c62 => ?_) (fun c62 => ?_)
   ·have r63 := bt r53 c62
    refine wsr (ua (ua (ua (shO_nil ?_))))
    refine kW kn ?_
    refine shW_ret (andThen_ret (inBlock_ret (andThen_ret (andThen_ret (inBlock_ret (andThen_ret ?_))))))
    refine q_res3 results32 (res_tmp rfl) (res_tmp rfl) (res_tmp rfl) (sr) ?_
    obtain ⟨rfl, rfl, rfl⟩ := inj3 r63
    exact ⟨_, _, _, _, [], rfl, rfl, rfl, SlR.nil _ _ _ _ _⟩
   have r64 := bf r53 c62
   refine shW_skip (dW ?_)
   refine wm (wm ?_)
   refine wv (v_fieldAddr fa_47_0 rfl) (wv (v_load isAgg3 rfl (Has.own 0 rfl) rfl) ?_)
   obtain ⟨walks2, hears2, houses2, start2, notices2, walks3, pairs, hit, h65, r66⟩ := b8_ok r64
   have h86 := hp26; rw [h65] at h86; obtain ⟨b67, c68, m69, hv70, hz71, ⟨_, _, rfl, ⟨a72, c73, rfl, h74⟩, ⟨_, _, rfl, ⟨a75, c76, rfl, h77⟩, ⟨_, _, rfl, rfl, ⟨_, _, rfl, rfl, ⟨_, _, rfl, ⟨a78, c79, rfl, h80⟩, ⟨_, _, rfl, ⟨rfl, h81⟩, ⟨_, _, rfl, ⟨a82, c83, rfl, h84⟩, ⟨rfl, h85⟩⟩⟩⟩⟩⟩⟩⟩⟩ := h86; subst hv70
   have hz71 : F5 b67 = some (.cells ((([.slice a72 walks2.length c73] : List Value) ++ (([.slice a75 hears2.length c76] : List Value) ++ (([.int .i64 houses2] : List Value) ++ (([.int .i64 start2] : List Value) ++ (([.slice a78 notices2.length c79] : List Value) ++ (walks3.flatMap (cI .i64) ++ (([.slice a82 pairs.length c83] : List Value) ++ (hit.flatMap (cI .i64))))))))).toArray) 116 m69) := hz71
   refine wv (v_nilCheck rfl) (wv (v_fieldAddr fa_116_1 rfl) ?_)
   obtain ⟨g87, r88⟩ := gd_ok r66
   refine wv (v_indexA underlying111 sizeOf109 rfl rfl g87) ?_
   obtain ⟨g89, r90⟩ := gd_ok r88
   obtain ⟨x2, g91, hx92, r93⟩ := ix_ok r90
   have hq95 : (at_ * 5 + x.1 : Int).toNat = (at_ : Int).toNat * 5 + (x.1 : Int).toNat := by have := g87; have := g89; omega
   have hc94 := el_at2 (cI_ok .i64) h81 hq95 hx92 (li_arr (li_skip (A := ([.slice a72 walks2.length c73] : List Value)) (k := 1) (o := 4) rfl (li_skip (A := ([.slice a75 hears2.length c76] : List Value)) (k := 1) (o := 3) rfl (li_skip (A := ([.int .i64 houses2] : List Value)) (k := 1) (o := 2) rfl (li_skip (A := ([.int .i64 start2] : List Value)) (k := 1) (o := 1) rfl (li_skip (A := ([.slice a78 notices2.length c79] : List Value)) (k := 1) (o := 0) rfl (li_here (B := ([.slice a82 pairs.length c83] : List Value) ++ (hit.flatMap (cI .i64))) (lfl (cI_ok .i64) h81)))))))) (li_le (li_skip (A := ([.slice a72 walks2.length c73] : List Value)) (k := 1) (o := 4) rfl (li_skip (A := ([.slice a75 hears2.length c76] : List Value)) (k := 1) (o := 3) rfl (li_skip (A := ([.int .i64 houses2] : List Value)) (k := 1) (o := 2) rfl (li_skip (A := ([.int .i64 start2] : List Value)) (k := 1) (o := 1) rfl (li_skip (A := ([.slice a78 notices2.length c79] : List Value)) (k := 1) (o := 0) rfl (li_here (B := ([.slice a82 pairs.length c83] : List Value) ++ (hit.flatMap (cI .i64))) (lfl (cI_ok .i64) h81))))))))
   refine wv (v_indexA underlying109 sizeOf3 rfl rfl g89) (wv (v_load isAgg3 rfl (Has.frozen hz71) ((hc94).2.2 0 (by decide))) ?_)
   refine wa (shQ_nil (shW_seq (wsr (um ?_))))
   refine uv (v_eql rfl rfl) (shO_nil ?_)
   refine cQ (fun c96 => ?_) fun c96 => ?_
   ·have r97 := ite_t r93 c96
    refine wsr (ua (ua (ua (shO_nil ?_))))
    refine kW kn ?_
    refine shW_ret (andThen_ret (inBlock_ret (andThen_ret (andThen_ret (inBlock_ret (andThen_ret ?_))))))
    refine q_res3 results32 (res_tmp rfl) (res_tmp rfl) (res_tmp rfl) (sr) ?_
    obtain ⟨rfl, rfl, rfl⟩ := inj3 r97
    exact ⟨_, _, _, _, [], rfl, rfl, rfl, SlR.nil _ _ _ _ _⟩
   have r98 := ite_f r93 c96
   refine shW_skip (dW (wv (v_fieldAddr fa_47_0 rfl) (wv (v_load isAgg3 rfl (Has.own 0 rfl) rfl) ?_)))
   refine wm (wm ?_)
   obtain ⟨g99, r100⟩ := gd_ok r98
   refine wv (v_add rfl rfl g99) (wv (v_fieldAddr fa_26_4 rfl) (wv (v_load isAgg24 rfl (Has.own 1 rfl) rfl) (wv (v_fieldAddr fa_47_1 rfl) (wv (v_load isAgg3 rfl (Has.own 0 rfl) rfl) ?_))))
   obtain ⟨x3, g101, hx102, r103⟩ := ix_ok r100
   obtain ⟨b104, o105, c106, vs107, ha108, hs109, hle110, ⟨_, _, rfl, ⟨a113, c114, rfl, h115⟩, ⟨_, _, rfl, rfl, rfl⟩⟩, hl111, hc112⟩ := RowR.at (prE_ok (slE_ok (iE_ok _)) (prE_ok (iE_ok _) (iE_ok _))) h_notices ((b51, ce #[.int .i64 x.1, .int .i64 x.2] 47) :: ((b1, ce #[.slice walks_a walks.length walks_c, .slice hears_a hears.length hears_c, .int .i64 houses, .int .i64 start, .slice notices_a notices.length notices_c] 26) :: (Lb29 ++ []))) g101.1 hx102
   refine wv (v_indexO underlying24 sizeOf61 rfl ha108 rfl g101) (wv (v_fieldAddr fa_61_1 rfl) (wv (v_load isAgg3 rfl hs109 (hc112 1 (by decide))) ?_))
   obtain ⟨g116, r117⟩ := gd_ok r103
   refine wv (v_add rfl rfl g116) ?_
   refine wa (wa (shQ_nil (shW_region (um (um ?_)))))
   refine bA (cs := #[.int .i64 ((minute + x2) + x3.2.1)]) slt_35 [.int .i64 ((minute + x2) + x3.2.1)] ?_; intro b118 hb118
   obtain ⟨out3, h119, g120, r121⟩ := ap_ok r117
   refine o_appZ (xs := out2) (ys := [(minute + x2) + x3.2.1]) (zs := out3) rfl slt_35 rfl rfl (Nat.le_refl _) (fun _ => .c (.c (.c .h))) hz30 (SrcR.box (vss := [[.int .i64 ((minute + x2) + x3.2.1)]]) (ys := [(minute + x2) + x3.2.1]) 0 rfl (iE_ok _) (.cons rfl .nil) rfl rfl) h119 g120 (by decide) ?_; intro a122 n126 c123 Lb124 hz125
   refine kO (kd kr) ?_
   refine ua (shO_nil (inBlock_n (id := 2) (shW_region ?_)))
   refine uv (v_add rfl rfl (Lst.r64 hk33 c38 (RowR.lt h_round))) ?_
   refine um (shO_nil ?_)
   subst hn34; exact le (kd kr) ⟨_, _, rfl, hk39, x.1, (minute + x2) + x3.2.1, out3, .pointer (some ⟨b67, 0, none⟩), a122, n126, c123, Lb124, r121, rfl, rfl, (sc rfl z8), hp26, hz125⟩
  obtain rfl := Lst.zero hk33 c38
  rw [round_gone_l2] at r35
  refine shW_exit (andThen_exit (andThen_exit ?_))
  refine inBlock_exit ?_
  exact mi (kd kr) ⟨out2, v25, a27, n31, c28, Lb29, r35, rfl, rfl, z2, hp26, hz30⟩
 rintro e1 _ _ ⟨out, v17, a19, n23, c20, Lb21, r128, rfl, rfl, he129, hp18, hz22⟩
 refine shW_env _ he129 ?_
 rw [round_gone_j1] at r128
 refine wsr (um (um (ua (ua (ua (shO_nil (shW_ret ?_)))))))
 refine q_res3 results32 (res_tmp rfl) (res_tmp rfl) (res_tmp rfl) (sr) ?_
 obtain ⟨rfl, rfl, rfl⟩ := inj3 r128
 exact ⟨_, _, _, _, _, rfl, rfl, hp18, hz22.any⟩
theorem round_Ends_w {hears : List (List Int)} {notices : List ((List Int) × Int × Int)} (h_walks : RowR 1 (slE 1 (iE .i64)) F walks_a walks_c walks) (h_hears : RowR 1 (slE 1 (iE .i64)) F hears_a hears_c hears) (h_notices : RowR 3 (prE (slE 1 (iE .i64)) (prE (iE .i64) (iE .i64))) F notices_a notices_c notices) (h_round : RowR 2 (prE (iE .i64) (iE .i64)) F round_a round_c round) {r : List Int} {r2 : Int} (hr : round_Ends walks hears houses start notices round = some (r, r2)) :
    SH.Spec Tryz.prog 8 #[.agg #[.slice walks_a walks.length walks_c, .slice hears_a hears.length hears_c, .int .i64 houses, .int .i64 start, .slice notices_a notices.length notices_c], .slice round_a round.length round_c] F [] fun F' L' v => ∃ (ra : Option Addr) (rn : Nat) (rc : Nat) (rL : LH), v = .tuple #[.slice ra rn rc, .int .i64 r2] ∧ L' = rL ++ [] ∧ SlR 0 3 1 (iE .i64) F' ra rn rc r rL := by
 refine sp func8 ntmps8 fun K _ _ => ?_
 rw [round_Ends] at hr
 refine wsr ?_
 refine o_box rfl rfl ?_; intro b1 hb1
 refine ua (ua (nsr ?_))
 refine uv (v_loadA isAgg26 sizeOf26 rfl (Has.own 0 rfl) (nbL rfl) rfl) (um ?_)
 obtain ⟨d, l, n, h2, r3⟩ := b3_ok hr
 refine c0 call32 (round_gone_w h_walks h_hears h_notices h_round h2) ?_; rintro _ F4 _ hF5 hn6 ⟨v8, a10, n14, c11, Lb12, rfl, rfl, hp9, hz13⟩
 replace hz13 := hz13.new fun p hp => hn6 p (by simp [hp])
 refine shO_L (lp (ln rfl)) (kO (kf (fS fO) kr) ?_)
 refine um (ox rfl rfl rfl (ox rfl rfl rfl (ox rfl rfl rfl (ua (ua (ua (nsr (um (um ?_)))))))))
 refine ua (ua (shO_nil ?_))
 refine kW (kd kr) (shW_ret (q_res2 results8 (res_tmp rfl) (res_tmp rfl) (sr) ?_))
 obtain ⟨rfl, rfl⟩ := inj2 r3
 exact ⟨_, _, _, _, rfl, rfl, hz13.any⟩
theorem math_bits_Mul64_w {x : Int} {r r2 : Int} (hr : math_bits_Mul64 x y = some (r, r2)) :
    SpecV Tryz.prog 72 #[.int .u64 x, .int .u64 y] F (.tuple #[.int .u64 r, .int .u64 r2]) := by
 refine sp func72 ntmps72 fun K _ _ => ?_
 rw [math_bits_Mul64] at hr
 refine wsr (ua (ua (nsr (um ?_))))
 refine uv (u_and rfl rfl rfl) ?_
 refine ua (nsr (um ?_))
 refine uv (v_shr rfl rfl (by decide)) ?_
 refine ua (nsr (um ?_))
 refine uv (u_and rfl rfl rfl) ?_
 refine ua (nsr (um ?_))
 refine uv (v_shr rfl rfl (by decide)) ?_
 refine ua (nsr (um (um ?_)))
 refine uv (u_mul rfl rfl rfl) ?_
 obtain ⟨w0, h1, r3⟩ := bv_ok hr
 refine uv ((v_assign rfl).i h1) ?_
 refine nsr (um (um ?_))
 refine uv (u_mul rfl rfl rfl) (um (uv (v_shr rfl rfl (by decide)) (uv (u_add rfl rfl rfl) ?_)))
 obtain ⟨t, h4, r5⟩ := bv_ok r3
 refine uv ((v_assign rfl).i h4) ?_
 refine nsr (um ?_)
 refine uv (u_and rfl rfl rfl) ?_
 refine ua (nsr (um ?_))
 refine uv (v_shr rfl rfl (by decide)) ?_
 refine ua (nsr (um (um (um ?_))))
 refine uv (u_mul rfl rfl rfl) (uv (u_add rfl rfl rfl) ?_)
 obtain ⟨w1, h6, r7⟩ := bv_ok r5
 refine uv ((v_assign rfl).i h6) ?_
 refine nsr (um (um ?_))
 refine uv (u_mul rfl rfl rfl) (um (uv (u_add rfl rfl rfl) (um (uv (v_shr rfl rfl (by decide)) (uv (u_add rfl rfl rfl) ?_)))))
 obtain ⟨hi, h8, r9⟩ := bv_ok r7
 refine uv ((v_assign rfl).i h8) ?_
 refine nsr (um (um ?_))
 refine uv (u_mul rfl rfl rfl) ?_
 obtain ⟨lo, h10, r11⟩ := bv_ok r9
 refine uv ((v_assign rfl).i h10) ?_
 refine shO_nil (shW_ret ?_)
 refine q_res2 results72 (res_tmp rfl) (res_tmp rfl) (sr) ?_
 obtain ⟨rfl, rfl⟩ := inj2 r11
 exact rfl
theorem math_bits_Mul_w {x : Int} {r r2 : Int} (hr : math_bits_Mul x y = some (r, r2)) :
    SpecV Tryz.prog 35 #[.int .u64 x, .int .u64 y] F (.tuple #[.int .u64 r, .int .u64 r2]) := by
 refine sp func35 ntmps35 fun K _ _ => ?_
 rw [math_bits_Mul] at hr
 refine wsr (ua (ua (shO_nil (shW_seq ?_))))
 refine shW_cond rfl (fun c1 => nomatch c1) (fun c1 => ?_)
 refine shW_skip (wsr (um (um ?_)))
 obtain ⟨n, n2, h2, r3⟩ := b2_ok hr
 refine cV call72 (math_bits_Mul64_w h2) ?_
 refine um (ox rfl rfl rfl (ox rfl rfl rfl (ua (ua (nsr (um (um (ua (ua ?_)))))))))
 refine shO_nil (shW_ret ?_)
 refine q_res2 results35 (res_tmp rfl) (res_tmp rfl) (sr) ?_
 obtain ⟨rfl, rfl⟩ := inj2 r3
 exact rfl
set_option maxHeartbeats 1000000 in
theorem slices_Repeat_int_int_w {x : List Int} (h_x : RowR 1 (iE .i64) F x_a x_c x) {r : List Int} (hr : slices_Repeat_int_int x count = some r) :
    SH.Spec Tryz.prog 33 #[.slice x_a x.length x_c, .int .i64 count] F [] fun F' L' v => ∃ (ra : Option Addr) (rn : Nat) (rc : Nat) (rL : LH), v = .slice ra rn rc ∧ L' = rL ++ [] ∧ SlR 0 3 1 (iE .i64) F' ra rn rc r rL := by
 refine sp func33 ntmps33 fun K _ _ => ?_
 rw [slices_Repeat_int_int] at hr
 refine wsr (ua (shO_nil (shW_seq (wsr (um ?_)))))
 refine uv (v_lssK rfl rfl) (shO_nil ?_)
 obtain ⟨g2, r3⟩ := gd_ok hr
 refine shW_condP rfl (fun c1 => absurd c1 g2) (fun c1 => ?_)
 refine shW_skip (wsr (um ?_))
 refine uv (v_lenS underlying35 rfl) (uv (u_conv rfl underlying3 underlying95 rfl) (um (uv (u_conv rfl underlying3 underlying95 rfl) ?_)))
 obtain ⟨n, n2, h4, r5⟩ := b2_ok r3
 refine cV call35 (math_bits_Mul_w h4) ?_
 refine um (ox rfl rfl rfl (ox rfl rfl rfl (ua (ua (shO_nil (shW_seq ?_))))))
 obtain ⟨k, h6, r7⟩ := b1_ok r5
 refine jE ([]) [(0, .slice x_a x.length x_c), (6, .int .u64 n2), (26, .bool k)] ?_ ?_
 ·clear r7
  refine shW_region (um ?_)
  refine uv (v_gtrK rfl rfl) (um ?_)
  by_cases c8 : 0 < n
  ·have r9 := ite_t h6 c8
   refine fT c8 (fT c8 ?_)
   refine uv (v_pick_t (evD_true rfl c8) rfl) (shO_nil ?_)
   obtain rfl := inj1 r9
   exact mi kr ⟨rfl, rfl, z3⟩
  have r10 := ite_f h6 c8
  refine nF c8 (um (nF c8 ?_))
  refine uv (v_gtrK rfl rfl) (uv (v_pick_f (evD_false rfl c8) rfl) (shO_nil ?_))
  obtain rfl := inj1 r10
  exact mi kr ⟨rfl, rfl, z3⟩
 obtain ⟨g13, r14⟩ := gd_ok r7
 refine shW_cond rfl (fun c12 => absurd (g13.symm.trans c12) (by decide)) (fun c12 => ?_)
 refine shW_skip (wsr (um ?_))
 obtain ⟨g15, r16⟩ := gd_ok r14
 refine uv (i_conv underlying95 underlying3 rfl g15) ?_
 obtain ⟨g17, r18⟩ := gd_ok r16
 obtain ⟨l, h19, r20⟩ := bv_ok r18
 refine o_makeZ (R := (iE .i64)) (z0 := 0) (zs := l) rfl slt_35 (by decide) (iE_ok _) (fun _ => rfl) rfl g17 h19 (fun _ => .n) ?_; intro a21 n24 Lb22 hz23
 refine ua (nsr (um (um ?_)))
 obtain ⟨newslice, h26, r27⟩ := bv_ok r20
 refine o_copyZ (ys := x) (zs := newslice) rfl slt_35 (iE_ok _) rfl rfl (fun _ => .h) hz23 (RowR.src h_x) h26 ?_; intro Lb28 hz29
 obtain ⟨n3, h30, r31⟩ := bv_ok r27
 refine uv ((v_assign rfl).i h30) (shO_nil ?_)
 obtain ⟨newslice2, h34, r35⟩ := b1_ok r31
 refine shW_join (fun e1 F1 L1 => ∃ (Lb32 : LH), F = F1 ∧ L1 = (Lb32 ++ []) ∧ e1.sub [(7, .slice a21 n24 n24)] ∧ SlR K.w0.heap.size 3 1 (iE .i64) F1 a21 n24 n24 newslice2 Lb32) ?_ ?_
 ·clear r35
  refine shW_block ?_
  refine shW_lp (fun fu1 e1 F1 L1 => ∃ (newslice3 : List Int) (n4 : Int) (Lb36 : LH), slices_Repeat_int_int_l1 fu1 newslice3 n4 = some newslice2 ∧ F = F1 ∧ L1 = (Lb36 ++ []) ∧ e1.sub [(7, .slice a21 n24 n24), (8, .int .i64 n4)] ∧ SlR K.w0.heap.size 3 1 (iE .i64) F1 a21 n24 n24 newslice3 Lb36) FU (m0 kr ⟨newslice, n3, Lb28, h34, rfl, rfl, z2, hz29⟩) ?_
  rintro fu1 e1 _ _ ⟨newslice3, n4, Lb36, r40, rfl, rfl, he41, hz37⟩
  refine shW_env _ he41 ?_
  rcases fu1 with _ | fu1
  ·rw [slices_Repeat_int_int_l1] at r40; cases r40
  rw [slices_Repeat_int_int_l1] at r40
  refine shW_seq (wsr (um (um ?_)))
  refine uv ((v_lenS underlying35 rfl).i (SlR.lenI hz37)) (uv (v_lssK rfl rfl) (shO_nil ?_))
  refine cQ (fun c42 => ?_) fun c42 => ?_
  ·have r43 := ite_t r40 c42
   refine shW_skip (shW_block (shW_drawM [(.still, 0), (.still, 1), (.still, 2), (.still, 3), (.still, 4), (.still, 5), (.still, 6), (.seq, 7), (.still, 8), (.seq, 9)] (by kernel_rfl) (by kernel_rfl) (trivial) (by rfl) (by kernel_rfl) (mS [8] rfl (v_move rfl) (mS [7] rfl (v_move rfl) (mS [8] rfl (v_move rfl) ?_)))))
   obtain ⟨g44, r45⟩ := gd_ok r43
   have gv46 := SlR.gV hz37 g44
   refine mS (v := .slice (vwA a21 n24 (Int.toNat n4) 1) (n24 - Int.toNat n4) (n24 - Int.toNat n4)) [39, 40] rfl (OpV.eq (v' := .slice (vwA a21 n24 (Int.toNat n4) 1) (n24 - Int.toNat n4) (n24 - Int.toNat n4)) (v_slice (l := n4) (h := (n24 : Nat)) underlying35 sizeOf3 rfl (.inr ⟨_, rfl, rfl⟩) (.inl ⟨rfl, rfl⟩) (SlR.capV hz37 gv46)) rfl) (mS [7] rfl (v_move rfl) (mS [8] rfl (v_move rfl) ?_))
   obtain ⟨g47, r48⟩ := gd_ok r45
   refine mS (v := .slice a21 (Int.toNat n4) n24) [42, 43] rfl (v_slicePre underlying35 sizeOf3 rfl rfl hz37 g47) ?_
   refine ⟨_, [(41, .slice (vwA a21 n24 (Int.toNat n4) 1) (n24 - Int.toNat n4) (n24 - Int.toNat n4)), (44, .slice a21 (Int.toNat n4) n24)], rfl, rfl, z2, by kernel_rfl, ?_⟩; intro H
   obtain ⟨g49, r50⟩ := gd_ok r48
   obtain ⟨l2, h51, r52⟩ := bv_ok r50
   refine o_copyVP (l := n4) (zs := l2) rfl slt_35 (iE_ok _) rfl rfl (fun _ => .h) hz37 g49 h51 ?_; intro Lb53 hz54
   refine shO_nil ⟨_, rfl, FExt.refl _, [0], by kernel_rfl, .inl (.inr (fun d h => by cases h; rfl)), (fc sm nm), ?_⟩
   obtain ⟨g55, r56⟩ := gd_ok r52
   refine mL [38, 45] ([]) rfl sm (fun H F' L' hF' hL' => v_add rfl rfl g55) ?_
   refine ⟨_, [(46, .int .i64 (n4 + (((Nat.min (Int.toNat n4) (newslice3.length - (Int.toNat n4))) : Nat) : Int)))], rfl, rfl, z1, by kernel_rfl, ?_⟩; intro H
   obtain ⟨n5, h57, r58⟩ := bv_ok r56
   refine uv ((v_assign rfl).i h57) ?_
   refine shO_nil ⟨_, rfl, FExt.refl _, [], by kernel_rfl, .inl (.inl rfl), nm, ?_⟩
   refine shM_nil (inBlock_n (id := 1) ?_)
   exact le kr ⟨l2, n5, Lb53, r58, rfl, rfl, z2, hz54⟩
  have r59 := ite_f r40 c42
  refine shW_exit (andThen_exit (andThen_exit ?_))
  refine inBlock_exit ?_
  obtain rfl := inj1 r59
  exact mi kr ⟨Lb36, rfl, rfl, z1, hz37⟩
 rintro e1 _ _ ⟨Lb32, rfl, rfl, he60, hz33⟩
 refine shW_env _ he60 ?_
 refine wsr (um (ua (shO_nil (shW_ret ?_))))
 refine qR1 results33 ?_
 obtain rfl := inj1 r35
 exact ⟨_, _, _, _, rfl, rfl, hz33.any⟩
set_option maxHeartbeats 1000000 in
theorem round_Heard_w {hears : List (List Int)} {notices : List ((List Int) × Int × Int)} (h_walks : RowR 1 (slE 1 (iE .i64)) F walks_a walks_c walks) (h_hears : RowR 1 (slE 1 (iE .i64)) F hears_a hears_c hears) (h_notices : RowR 3 (prE (slE 1 (iE .i64)) (prE (iE .i64) (iE .i64))) F notices_a notices_c notices) (h_round : RowR 2 (prE (iE .i64) (iE .i64)) F round_a round_c round) {r : List (List Int)} {r2 : Int} (hr : round_Heard walks hears houses start notices round = some (r, r2)) :
    SH.Spec Tryz.prog 9 #[.agg #[.slice walks_a walks.length walks_c, .slice hears_a hears.length hears_c, .int .i64 houses, .int .i64 start, .slice notices_a notices.length notices_c], .slice round_a round.length round_c] F [] fun F' L' v => ∃ (ra : Option Addr) (rc : Nat), v = .tuple #[.slice ra r.length rc, .int .i64 r2] ∧ L' = [] ∧ RowR 1 (slE 1 (iE .i64)) F' ra rc r := by
 refine sp func9 ntmps9 fun K _ _ => ?_
 rw [round_Heard] at hr
 refine wsr ?_
 refine o_box rfl rfl ?_; intro b1 hb1
 refine ua (ua (nsr ?_))
 refine uv (v_loadA isAgg26 sizeOf26 rfl (Has.own 0 rfl) (nbL rfl) rfl) (um ?_)
 obtain ⟨d, l, n, h2, r3⟩ := b3_ok hr
 refine c0 call32 (round_gone_w h_walks h_hears h_notices h_round h2) ?_; rintro _ F4 _ hF5 hn6 ⟨v8, a10, n14, c11, Lb12, rfl, rfl, hp9, hz13⟩
 replace h_hears := h_hears.mono (slE_ok (iE_ok _)) hF5
 replace h_notices := h_notices.mono (prE_ok (slE_ok (iE_ok _)) (prE_ok (iE_ok _) (iE_ok _))) hF5
 replace h_round := h_round.mono (prE_ok (iE_ok _) (iE_ok _)) hF5
 replace hz13 := hz13.new fun p hp => hn6 p (by simp [hp])
 refine shO_L (lp (ln rfl)) (kO (kf (fS fO) kr) ?_)
 refine um (ox rfl rfl rfl (ox rfl rfl rfl (ox rfl rfl rfl (ua (ua (ua (shO_nil (shW_seq (wsr ?_)))))))))
 refine um (uv (v_neq rfl rfl) (shO_nil ?_))
 refine cQ (fun c16 => ?_) fun c16 => ?_
 ·have r17 := ite_t r3 c16
  refine wsr (um (ua (ua (shO_nil ?_))))
  refine kW kn ?_
  refine shW_ret (andThen_ret ?_)
  refine q_res2 results9 (res_tmp rfl) (res_tmp rfl) (sr) ?_
  obtain ⟨rfl, rfl⟩ := inj2 r17
  exact ⟨_, _, rfl, rfl, RowR.nil _ _ _⟩
 have r18 := ite_f r3 c16
 refine shW_skip (wsr (ua (shO_nil ?_)))
 obtain ⟨out, h25, r26⟩ := b1_ok r18
 refine shW_join (fun e1 F1 L1 => ∃ (a19 : Option Addr) (n23 : Nat) (c20 : Nat) (Lb21 : LH), FExt F4 F1 ∧ L1 = ((b1, ce #[.slice walks_a walks.length walks_c, .slice hears_a hears.length hears_c, .int .i64 houses, .int .i64 start, .slice notices_a notices.length notices_c] 26) :: (Lb12 ++ (Lb21 ++ []))) ∧ e1.sub [(1, .slice round_a round.length round_c), (2, .pointer (some ⟨b1, 0, none⟩)), (7, .slice a10 n14 c11), (9, .slice a19 n23 c20)] ∧ NlR K.w0.heap.size 35 3 1 (iE .i64) F1 a19 n23 c20 out Lb21) ?_ ?_
 ·clear r26
  refine wsr (uv (v_fieldAddr fa_26_4 rfl) (uv (v_load isAgg24 rfl (Has.own 0 rfl) rfl) (uv (v_lenS underlying24 rfl) ?_)))
  refine um (shO_nil ?_)
  refine shW_block ?_
  refine shW_lp (fun fu1 e1 F1 L1 => LA notices fu1 fun tl k => ∃ (out2 : List (List Int)) (a27 : Option Addr) (n31 : Nat) (c28 : Nat) (Lb29 : LH), round_Heard_l1 houses tl out2 = some out ∧ FExt F4 F1 ∧ L1 = ((b1, ce #[.slice walks_a walks.length walks_c, .slice hears_a hears.length hears_c, .int .i64 houses, .int .i64 start, .slice notices_a notices.length notices_c] 26) :: (Lb12 ++ (Lb29 ++ []))) ∧ e1.sub [(1, .slice round_a round.length round_c), (2, .pointer (some ⟨b1, 0, none⟩)), (7, .slice a10 n14 c11), (9, .slice a27 n31 c28), (26, .int .i64 (notices.length : Int)), (27, .int .i64 k)] ∧ NlR K.w0.heap.size 35 3 1 (iE .i64) F1 a27 n31 c28 out2 Lb29) _ (m0 (kc (ka (ke kr))) ⟨_, _, rfl, Lst.start _, [], none, 0, 0, [], h25, FExt.refl _, rfl, z6, NlR.nil _ _ _ _ _ _⟩) ?_
  rintro fu1 e1 F37 _ ⟨tl, k, hn34, hk33, out2, a27, n31, c28, Lb29, r35, hF38, rfl, he36, hz30⟩
  refine shW_env _ he36 ?_
  replace h_notices := h_notices.mono (prE_ok (slE_ok (iE_ok _)) (prE_ok (iE_ok _) (iE_ok _))) hF38
  refine wsr (uv (v_lssK rfl rfl) ?_)
  refine shO_nil (shW_seq ?_)
  refine cQ (fun c40 => ?_) fun c40 => ?_
  ·obtain ⟨x, tl2, rfl, hx42, g43, hk41⟩ := Lst.succ hk33 c40
   rw [round_Heard_l1] at r35
   refine shW_skip (shW_seq ?_)
   refine shW_block ?_
   refine shW_region (um ?_)
   refine bA (cs := #[.int .i64 (-1)]) slt_35 [.int .i64 (-1)] ?_; intro b44 hb44
   refine uv (v_fieldAddr fa_26_2 rfl) (uv (v_load isAgg3 rfl (Has.own 1 rfl) rfl) ?_)
   refine shO_freeze 0 rfl hb44 ?_; intro F45 hF46 hz47
   refine shO_L rfl ?_
   replace h_notices := h_notices.mono (prE_ok (slE_ok (iE_ok _)) (prE_ok (iE_ok _) (iE_ok _))) hF46
   replace hz30 := hz30.mono (iE_ok _) hF46
   have h48 : RowR 1 (iE .i64) F45 (some ⟨b44, 0, none⟩) 1 [-1] := RowR.of_block (iE_ok _) (vss := [[.int .i64 (-1)]]) (xs := [-1]) hz47 (.cons rfl .nil) rfl (by simp [maxLen])
   obtain ⟨l2, h49, r50⟩ := b1_ok r35
   refine c0 call33 (slices_Repeat_int_int_w h48 h49) ?_; rintro _ F51 _ hF52 hn53 ⟨a55, n59, c56, Lb57, rfl, rfl, hz58⟩
   replace h_notices := h_notices.mono (prE_ok (slE_ok (iE_ok _)) (prE_ok (iE_ok _) (iE_ok _))) hF52
   replace hz30 := hz30.mono (iE_ok _) hF52
   replace hz58 := hz58.new fun p hp => hn53 p (by simp [hp])
   refine shO_L (lp (ln rfl)) (kO (kf (fS fO) kr) ?_)
   refine bA (cs := #[.slice a55 n59 c56]) slt_23 [.slice a55 n59 c56] ?_; intro b61 hb61
   obtain ⟨out3, h62, g63, r64⟩ := ap_ok r50
   refine shO_split (fC (fC (fS (fS fP)))) hz30 ?_; intro hs67 Lo68 Lc69 hO65 hI66
   refine kO (kf (fS (fS fO)) (kf (fS (fS fO)) kr)) ?_
   refine o_appZ (xs := hs67) (ys := [(a55, n59, c56)]) (zs := hs67 ++ [(a55, n59, c56)]) rfl slt_23 rfl rfl (Nat.le_refl _) (fun _ => .c (.c .h)) hO65 (SrcR.box (vss := [[.slice a55 n59 c56]]) (ys := [(a55, n59, c56)]) 0 rfl hdE_ok (.cons rfl .nil) rfl rfl) rfl (lenH hI66 h62 g63) (by decide) ?_; intro a70 n71 c72 Lo73 hO74
   refine kO (kd kr) ?_
   refine shO_fold (p := fun X => NlR K.w0.heap.size 35 3 1 (iE .i64) F51 a70 n71 c72 out3 X) (InP.push hI66 rfl hO74 hz58 h62) (pT ((fC fP).trans (pA ((fC (fS fP)).trans (pA ((fC fP).trans (pA pR)))))) (lp (lp (lp (ln rfl))))) ?_; intro Lb76 hz77
   refine kO (kf (fS fO) kr) ?_
   refine ua (shO_nil (inBlock_n (id := 1) (shW_region ?_)))
   refine uv (v_add rfl rfl (Lst.r64 hk33 c40 (RowR.lt h_notices))) ?_
   refine um (shO_nil ?_)
   subst hn34; exact le (kc (kg (fS fP) kr)) ⟨_, _, rfl, hk41, out3, a70, n71, c72, Lb76, r64, ((hF38.trans hF46).trans hF52), rfl, z6, hz77⟩
  obtain rfl := Lst.zero hk33 c40
  rw [round_Heard_l1] at r35
  refine shW_exit (andThen_exit (andThen_exit ?_))
  refine inBlock_exit ?_
  obtain rfl := inj1 r35
  exact mi kr ⟨a27, n31, c28, Lb29, hF38, rfl, z4, hz30⟩
 rintro e1 F79 _ ⟨a19, n23, c20, Lb21, hF80, rfl, he78, hz22⟩
 refine shW_env _ he78 ?_
 replace h_hears := h_hears.mono (slE_ok (iE_ok _)) hF80
 replace h_round := h_round.mono (prE_ok (iE_ok _) (iE_ok _)) hF80
 replace hz13 := hz13.mono (iE_ok _) hF80
 obtain ⟨out4, h83, r84⟩ := b1_ok r26
 refine shW_join (fun e1 F1 L1 => ∃ (Lb81 : LH), FExt F79 F1 ∧ L1 = (Lb81 ++ []) ∧ e1.sub [(9, .slice a19 n23 c20)] ∧ NlR K.w0.heap.size 35 3 1 (iE .i64) F1 a19 n23 c20 out4 Lb81) ?_ ?_
 ·clear r84
  refine wsr (um ?_)
  refine uv (v_lenS underlying30 rfl) ?_
  refine um (shO_nil ?_)
  refine shW_block ?_
  refine shW_lp (fun fu2 e1 F1 L1 => LA round fu2 fun tl3 k2 => ∃ (out5 : List (List Int)) (Lb85 : LH), round_Heard_l2 hears l tl3 k2 out5 = some out4 ∧ FExt F79 F1 ∧ L1 = ((b1, ce #[.slice walks_a walks.length walks_c, .slice hears_a hears.length hears_c, .int .i64 houses, .int .i64 start, .slice notices_a notices.length notices_c] 26) :: (Lb12 ++ (Lb85 ++ []))) ∧ e1.sub [(2, .pointer (some ⟨b1, 0, none⟩)), (7, .slice a10 n14 c11), (9, .slice a19 n23 c20), (37, .slice round_a round.length round_c), (38, .int .i64 (round.length : Int)), (39, .int .i64 k2)] ∧ NlR K.w0.heap.size 35 3 1 (iE .i64) F1 a19 n23 c20 out5 Lb85) _ (m0 kr ⟨_, _, rfl, Lst.start _, out, Lb21, h83, FExt.refl _, rfl, z6, hz22⟩) ?_
  rintro fu2 e1 F91 _ ⟨tl3, k2, hn88, hk87, out5, Lb85, r89, hF92, rfl, he90, hz86⟩
  refine shW_env _ he90 ?_
  replace h_hears := h_hears.mono (slE_ok (iE_ok _)) hF92
  replace h_round := h_round.mono (prE_ok (iE_ok _) (iE_ok _)) hF92
  replace hz13 := hz13.mono (iE_ok _) hF92
  refine wsr (uv (v_lssK rfl rfl) ?_)
  refine shO_nil (shW_seq ?_)
  refine cQ (fun c94 => ?_) fun c94 => ?_
  ·obtain ⟨x2, tl4, rfl, hx96, g97, hk95⟩ := Lst.succ hk87 c94
   rw [round_Heard_l2] at r89
   refine shW_skip ?_
   obtain ⟨out6, h100, r101⟩ := b1_ok r89
   refine shW_join (fun e1 F1 L1 => ∃ (Lb98 : LH), FExt F91 F1 ∧ L1 = ((b1, ce #[.slice walks_a walks.length walks_c, .slice hears_a hears.length hears_c, .int .i64 houses, .int .i64 start, .slice notices_a notices.length notices_c] 26) :: (Lb12 ++ (Lb98 ++ []))) ∧ e1.sub [(2, .pointer (some ⟨b1, 0, none⟩)), (7, .slice a10 n14 c11), (9, .slice a19 n23 c20), (37, .slice round_a round.length round_c), (38, .int .i64 (round.length : Int)), (39, .int .i64 k2)] ∧ NlR K.w0.heap.size 35 3 1 (iE .i64) F1 a19 n23 c20 out6 Lb98) ?_ ?_
   ·clear r101
    refine shW_block ?_
    refine wsr (um ?_)
    obtain ⟨b102, o103, c104, vs105, ha106, hs107, hle108, ⟨_, _, rfl, rfl, rfl⟩, hl109, hc110⟩ := RowR.at (prE_ok (iE_ok _) (iE_ok _)) h_round ((b1, ce #[.slice walks_a walks.length walks_c, .slice hears_a hears.length hears_c, .int .i64 houses, .int .i64 start, .slice notices_a notices.length notices_c] 26) :: (Lb12 ++ (Lb85 ++ []))) g97.1 hx96
    refine uv (v_indexO underlying30 sizeOf47 rfl ha106 rfl g97) (uv (v_loadA isAgg47 sizeOf47 rfl hs107 hle108 (extract_cells hle108 hl109 hc110)) ?_)
    refine o_alloc rfl zeroValue47 ?_; intro b111 hb111
    refine ua (o_storeA (i := 0) sizeOf47 rfl rfl rfl (by simp [Value.oneCell']) rfl (nbL rfl) (shO_L rfl (nsr (uv (v_fieldAddr fa_26_1 rfl) (uv (v_load isAgg23 rfl (Has.own 1 rfl) rfl) (uv (v_fieldAddr fa_47_0 rfl) (uv (v_load isAgg3 rfl (Has.own 0 rfl) rfl) ?_)))))))
    obtain ⟨x3, g112, hx113, r114⟩ := ix_ok h100
    obtain ⟨b115, o116, c117, vs118, ha119, hs120, hle121, ⟨a124, c125, rfl, h126⟩, hl122, hc123⟩ := RowR.at (slE_ok (iE_ok _)) h_hears ((b111, ce #[.int .i64 x2.1, .int .i64 x2.2] 47) :: ((b1, ce #[.slice walks_a walks.length walks_c, .slice hears_a hears.length hears_c, .int .i64 houses, .int .i64 start, .slice notices_a notices.length notices_c] 26) :: (Lb12 ++ (Lb85 ++ [])))) g112.1 hx113
    refine uv (v_indexO underlying23 sizeOf35 rfl ha119 rfl g112) (uv (v_load isAgg35 rfl hs120 (hc123 0 (by decide))) (uv (v_lenS underlying35 rfl) ?_))
    refine um (shO_nil ?_)
    refine shW_block ?_
    refine shW_lp (fun fu3 e1 F1 L1 => LA x3 fu3 fun tl5 k3 => ∃ (out7 : List (List Int)) (Lb127 : LH), round_Heard_l3 l k2 x2 tl5 out7 = some out6 ∧ FExt F91 F1 ∧ L1 = ((b111, ce #[.int .i64 x2.1, .int .i64 x2.2] 47) :: ((b1, ce #[.slice walks_a walks.length walks_c, .slice hears_a hears.length hears_c, .int .i64 houses, .int .i64 start, .slice notices_a notices.length notices_c] 26) :: (Lb12 ++ (Lb127 ++ [])))) ∧ e1.sub [(2, .pointer (some ⟨b1, 0, none⟩)), (7, .slice a10 n14 c11), (9, .slice a19 n23 c20), (10, .int .i64 k2), (11, .pointer (some ⟨b111, 0, none⟩)), (37, .slice round_a round.length round_c), (38, .int .i64 (round.length : Int)), (39, .int .i64 k2), (49, .slice a124 x3.length c125), (50, .int .i64 (x3.length : Int)), (51, .int .i64 k3)] ∧ NlR K.w0.heap.size 35 3 1 (iE .i64) F1 a19 n23 c20 out7 Lb127) _ (m0 kr ⟨_, _, rfl, Lst.start _, out5, Lb85, r114, FExt.refl _, rfl, (sc rfl (sc rfl (sc rfl z8))), hz86⟩) ?_
    rintro fu3 e1 F133 _ ⟨tl5, k3, hn130, hk129, out7, Lb127, r131, hF134, rfl, he132, hz128⟩
    refine shW_env _ he132 ?_
    replace h126 := h126.mono (iE_ok _) hF134
    replace hz13 := hz13.mono (iE_ok _) hF134
    refine wsr (uv (v_lssK rfl rfl) ?_)
    refine shO_nil (shW_seq ?_)
    refine cQ (fun c136 => ?_) fun c136 => ?_
    ·obtain ⟨x4, tl6, rfl, hx138, g139, hk137⟩ := Lst.succ hk129 c136
     rw [round_Heard_l3] at r131
     refine shW_skip (shW_seq ?_)
     refine shW_block (wsr ?_)
     obtain ⟨b140, o141, c142, vs143, ha144, hs145, hle146, rfl, hl147, hc148⟩ := RowR.at (iE_ok _) h126 ((b111, ce #[.int .i64 x2.1, .int .i64 x2.2] 47) :: ((b1, ce #[.slice walks_a walks.length walks_c, .slice hears_a hears.length hears_c, .int .i64 houses, .int .i64 start, .slice notices_a notices.length notices_c] 26) :: (Lb12 ++ (Lb127 ++ [])))) g139.1 hx138
     refine uv (v_indexO underlying35 sizeOf3 rfl ha144 rfl g139) (uv (v_load isAgg3 rfl hs145 (hc148 0 (by decide))) ?_)
     refine ua (shO_nil ?_)
     obtain ⟨x5, g149, hx150, r151⟩ := ix_ok r131
     have hn163 := (NlR.caps hz128).1
     refine shW_open (fC (fC (fS fP))) hz128 hx150 ?_; intro hs152 Lo153 Lc154 a155 n156 c157 Lb158 hh159 hO160 hz161 hI162
     refine kW (kf (fS (fS (fS fO))) (kf (fS (fS (fS fO))) kr)) (shW_drawM [(.still, 0), (.still, 1), (.still, 2), (.still, 3), (.still, 4), (.still, 5), (.still, 6), (.still, 7), (.still, 8), (.still, 9), (.still, 10), (.still, 11), (.still, 12), (.still, 13), (.still, 14), (.still, 15), (.still, 16), (.still, 17), (.seq, 18), (.seq, 19), (.still, 20), (.seq, 21)] (by kernel_rfl) (by kernel_rfl) (trivial) (by rfl) (by kernel_rfl) (mS [9] rfl (v_move rfl) (mS [11] rfl (v_fieldAddr fa_47_1 rfl) (mL [56] ([(b111, ce #[.int .i64 x2.1, .int .i64 x2.2] 47)]) rfl (s0 (s2 (s1 (s3 (s3 (s3 (s3 sr))))))) (fun H F' L' hF' hL' => v_load isAgg3 rfl ((Has.own 0 rfl).ext hF' hL') rfl) ?_))))
     obtain ⟨b165, o166, c167, vs168, ha169, hs170, hle171, rfl, hl172, hc173⟩ := SlR.at hdE_ok hO160 (L := Lo153 ++ []) fP g149.1 hh159
     refine mS [55, 57] rfl (v_indexO underlying23 sizeOf35 rfl ha169 rfl (idxN hn163 g149)) (mL [58] (Lo153 ++ []) rfl (s0 (s1 (s1 (s4 (s3 (s3 (s3 sr))))))) (fun H F' L' hF' hL' => v_load isAgg35 rfl (hs170.ext hF' hL') (hc173 0 (by decide))) (mS [13] rfl (v_move rfl) (mS [9] rfl (v_move rfl) (mS [11] rfl (v_fieldAddr fa_47_1 rfl) (mL [62] ([(b111, ce #[.int .i64 x2.1, .int .i64 x2.2] 47)]) rfl (s0 (s2 (s1 (s3 (s3 (s3 (s3 sr))))))) (fun H F' L' hF' hL' => v_load isAgg3 rfl ((Has.own 0 rfl).ext hF' hL') rfl) ?_)))))
     obtain ⟨b174, o175, c176, vs177, ha178, hs179, hle180, rfl, hl181, hc182⟩ := SlR.at hdE_ok hO160 (L := Lo153 ++ []) fP g149.1 hh159
     refine mS [61, 63] rfl (v_indexO underlying23 sizeOf35 rfl ha178 rfl (idxN hn163 g149)) (mL [64] (Lo153 ++ []) rfl (s0 (s1 (s1 (s4 (s3 (s3 (s3 sr))))))) (fun H F' L' hF' hL' => v_load isAgg35 rfl (hs179.ext hF' hL') (hc182 0 (by decide))) (mS [13] rfl (v_move rfl) ?_))
     obtain ⟨x6, g183, hx184, r185⟩ := ix_ok r151
     obtain ⟨b186, o187, c188, vs189, ha190, hs191, hle192, rfl, hl193, hc194⟩ := SlR.at (iE_ok _) hz161 (L := Lb158 ++ []) fP g183.1 hx184
     refine mS [65, 66] rfl (v_indexO underlying35 sizeOf3 rfl ha190 rfl (SlR.idx hz161 g183)) (mL [67] (Lb158 ++ []) rfl (s0 (s1 (s1 (s3 (s4 (s3 (s3 sr))))))) (fun H F' L' hF' hL' => v_load isAgg3 rfl (hs191.ext hF' hL') (hc194 0 (by decide))) (mS [7] rfl (v_move rfl) (mS [10] rfl (v_move rfl) ?_)))
     obtain ⟨x7, g195, hx196, r197⟩ := ix_ok r185
     obtain ⟨b198, o199, c200, vs201, ha202, hs203, hle204, rfl, hl205, hc206⟩ := SlR.at (iE_ok _) hz13 (L := Lb12 ++ []) fP g195.1 hx196
     refine mS [69, 70] rfl (v_indexO underlying35 sizeOf3 rfl ha202 rfl (SlR.idx hz13 g195)) (mL [71] (Lb12 ++ []) rfl (s0 (s1 (s1 (s3 (s3 (s3 (s4 sr))))))) (fun H F' L' hF' hL' => v_load isAgg3 rfl (hs203.ext hF' hL') (hc206 0 (by decide))) ?_)
     refine ⟨_, [(68, .int .i64 x6), (72, .int .i64 x7)], rfl, rfl, z2, by kernel_rfl, ?_⟩; intro H
     refine bA (cs := #[.int .i64 x6, .int .i64 x7]) slt_35 [.int .i64 x6, .int .i64 x7] ?_; intro b207 hb207
     refine shO_nil ⟨_, rfl, FExt.refl _, [7, 5, 4, 3, 2, 1, 0], by kernel_rfl, .inl (.inr (fun d h => by cases h; rfl)), (fc sm (fc sm (fc (s0 (s1 (s1 (s1 (s4 (s3 (s3 (s3 sr)))))))) (fc sm (fc (s0 (s1 (s2 (s1 (s3 (s3 (s3 (s3 sr)))))))) (fc sm (fc sm nm))))))), ?_⟩
     refine ⟨_, [(73, .slice (some ⟨b207, 0, none⟩) 2 2)], rfl, rfl, z1, by kernel_rfl, ?_⟩; intro H
     refine shO_freeze 0 rfl hb207 ?_; intro F208 hF209 hz210
     refine shO_L rfl ?_
     replace h126 := h126.mono (iE_ok _) hF209
     replace hO160 := hO160.mono hdE_ok hF209
     replace hI162 := hI162.mono (iE_ok _) hF209
     replace hz161 := hz161.mono (iE_ok _) hF209
     have h211 : RowR 1 (iE .i64) F208 (some ⟨b207, 0, none⟩) 2 [x6, x7] := RowR.of_block (iE_ok _) (vss := [[.int .i64 x6], [.int .i64 x7]]) (xs := [x6, x7]) hz210 (.cons rfl (.cons rfl .nil)) rfl (by simp [maxLen])
     obtain ⟨n2, h212, r213⟩ := b1_ok r197
     refine cV call34 (round_soonest_w h211 h212) ?_
     refine shO_nil ⟨_, rfl, hF209, [7, 5, 4, 3, 2, 1, 0], by kernel_rfl, .inl (.inr (fun d h => by cases h; rfl)), (fc sm (fc sm (fc (s0 (s1 (s1 (s4 (s3 (s3 (s3 sr))))))) (fc sm (fc (s0 (s2 (s1 (s3 (s3 (s3 (s3 sr))))))) (fc sm (fc sm nm))))))), ?_⟩
     obtain ⟨b214, o215, c216, vs217, ha218, hs219, hle220, rfl, hl221, hc222⟩ := SlR.at (iE_ok _) hz161 (L := Lb158 ++ []) fP g183.1 hx184
     refine mS [59, 60] rfl (v_indexO underlying35 sizeOf3 rfl ha218 rfl (SlR.idx hz161 g183)) ?_
     refine ⟨_, [(74, .int .i64 n2), (75, .pointer (some ⟨b214, o215 + (x4 : Int).toNat * 1, none⟩))], rfl, rfl, z2, by kernel_rfl, ?_⟩; intro H
     obtain ⟨l3, h223, r224⟩ := bv_ok r213
     refine o_storeZ (u := n2) sizeOf3 (iE_ok _) rfl ha218 rfl rfl (fun _ => .c (.c (.s .h))) hz161 h223 g183 ?_; intro Lb225 hz226
     refine shO_nil ⟨undef, rfl, FExt.refl _, [], by kernel_rfl, .inl (.inl rfl), nm, ?_⟩
     refine shM_nil ?_
     refine inBlock_n (id := 5) (shW_region ?_)
     refine uv (v_add rfl rfl (Lst.r64 hk129 c136 (RowR.lt h126))) (um ?_)
     obtain ⟨out8, h227, r228⟩ := bv_ok r224
     refine shO_fold (p := fun X => NlR K.w0.heap.size 35 3 1 (iE .i64) F208 a19 n23 c20 out8 X) (InH.back0 hI162 hO160 hh159 hz226 h227) (pT ((fC (fC fP)).trans (pA ((fC (fC fP)).trans (pA ((fC (fC fP)).trans (pA pR)))))) (lp (lp (lp (ln rfl))))) ?_; intro Lb229 hz230
     refine kO (kf (fS fO) (kf (fS fO) kr)) (shO_nil ?_)
     subst hn130; exact le (kc (kc (kg (fS fP) kr))) ⟨_, _, rfl, hk137, out8, Lb229, r228, (hF134.trans hF209), rfl, (sc rfl (sc rfl (sc rfl z8))), hz230⟩
    obtain rfl := Lst.zero hk129 c136
    rw [round_Heard_l3] at r131
    refine shW_exit (andThen_exit (andThen_exit ?_))
    refine inBlock_exit (inBlock_n (id := 3) ?_)
    obtain rfl := inj1 r131
    exact mi (kd kr) ⟨Lb127, hF134, rfl, z6, hz128⟩
   rintro e1 F232 _ ⟨Lb98, hF233, rfl, he231, hz99⟩
   refine shW_env _ he231 ?_
   replace h_round := h_round.mono (prE_ok (iE_ok _) (iE_ok _)) hF233
   refine shW_region (uv (v_add rfl rfl (Lst.r64 hk87 c94 (RowR.lt h_round))) ?_)
   refine um (shO_nil ?_)
   subst hn88; exact le kr ⟨_, _, rfl, hk95, out6, Lb98, r101, (hF92.trans hF233), rfl, z6, hz99⟩
  obtain rfl := Lst.zero hk87 c94
  rw [round_Heard_l2] at r89
  refine shW_exit (andThen_exit (andThen_exit ?_))
  refine inBlock_exit ?_
  obtain rfl := inj1 r89
  exact mi (kd (kx kr)) ⟨Lb85, hF92, rfl, z1, hz86⟩
 rintro e1 F235 _ ⟨Lb81, hF236, rfl, he234, hz82⟩
 refine shW_env _ he234 ?_
 refine wsr (um (ua (ua (shO_nil ?_))))
 obtain rfl := (NlR.caps hz82).1
 refine shW_freezeN (Nat.le_refl _) (iE_ok _) fP hz82 ?_; intro F237 hF238 h239
 refine shW_ret (q_res2 results9 (res_tmp rfl) (res_tmp rfl) (sr) ?_)
 obtain ⟨rfl, rfl⟩ := inj2 r84
 exact ⟨_, _, rfl, rfl, h239⟩
set_option maxHeartbeats 1000000 in
theorem slices_Repeat_int_int__w {x : List (List Int)} (h_x : RowR 1 (slE 1 (iE .i64)) F x_a x_c x) {r : List (List Int)} (hr : slices_Repeat_int_int_ x count = some r) :
    SH.Spec Tryz.prog 10 #[.slice x_a x.length x_c, .int .i64 count] F [] fun F' L' v => ∃ (ra : Option Addr) (rn : Nat) (rc : Nat) (rL : LH), v = .slice ra rn rc ∧ L' = rL ++ [] ∧ SlR 0 35 1 (slE 1 (iE .i64)) F' ra rn rc r rL := by
 refine sp func10 ntmps10 fun K _ _ => ?_
 rw [slices_Repeat_int_int_] at hr
 refine wsr (ua (shO_nil (shW_seq (wsr (um ?_)))))
 refine uv (v_lssK rfl rfl) (shO_nil ?_)
 obtain ⟨g2, r3⟩ := gd_ok hr
 refine shW_condP rfl (fun c1 => absurd c1 g2) (fun c1 => ?_)
 refine shW_skip (wsr (um ?_))
 refine uv (v_lenS underlying23 rfl) (uv (u_conv rfl underlying3 underlying95 rfl) (um (uv (u_conv rfl underlying3 underlying95 rfl) ?_)))
 obtain ⟨n, n2, h4, r5⟩ := b2_ok r3
 refine cV call35 (math_bits_Mul_w h4) ?_
 refine um (ox rfl rfl rfl (ox rfl rfl rfl (ua (ua (shO_nil (shW_seq ?_))))))
 obtain ⟨k, h6, r7⟩ := b1_ok r5
 refine jE ([]) [(0, .slice x_a x.length x_c), (6, .int .u64 n2), (26, .bool k)] ?_ ?_
 ·clear r7
  refine shW_region (um ?_)
  refine uv (v_gtrK rfl rfl) (um ?_)
  by_cases c8 : 0 < n
  ·have r9 := ite_t h6 c8
   refine fT c8 (fT c8 ?_)
   refine uv (v_pick_t (evD_true rfl c8) rfl) (shO_nil ?_)
   obtain rfl := inj1 r9
   exact mi kr ⟨rfl, rfl, z3⟩
  have r10 := ite_f h6 c8
  refine nF c8 (um (nF c8 ?_))
  refine uv (v_gtrK rfl rfl) (uv (v_pick_f (evD_false rfl c8) rfl) (shO_nil ?_))
  obtain rfl := inj1 r10
  exact mi kr ⟨rfl, rfl, z3⟩
 obtain ⟨g13, r14⟩ := gd_ok r7
 refine shW_cond rfl (fun c12 => absurd (g13.symm.trans c12) (by decide)) (fun c12 => ?_)
 refine shW_skip (wsr (um ?_))
 obtain ⟨g15, r16⟩ := gd_ok r14
 refine uv (i_conv underlying95 underlying3 rfl g15) ?_
 obtain ⟨g17, r18⟩ := gd_ok r16
 obtain ⟨l, h19, r20⟩ := bv_ok r18
 refine o_makeZ (R := (slE 1 (iE .i64))) (z0 := []) (zs := l) rfl slt_23 (by decide) (slE_ok (iE_ok _)) (fun _ => ⟨_, _, rfl, RowR.nil _ _ _⟩) rfl g17 h19 (fun _ => .n) ?_; intro a21 n24 Lb22 hz23
 refine ua (nsr (um (um ?_)))
 obtain ⟨newslice, h26, r27⟩ := bv_ok r20
 refine o_copyZ (ys := x) (zs := newslice) rfl slt_23 (slE_ok (iE_ok _)) rfl rfl (fun _ => .h) hz23 (RowR.src h_x) h26 ?_; intro Lb28 hz29
 obtain ⟨n3, h30, r31⟩ := bv_ok r27
 refine uv ((v_assign rfl).i h30) (shO_nil ?_)
 obtain ⟨newslice2, h34, r35⟩ := b1_ok r31
 refine shW_join (fun e1 F1 L1 => ∃ (Lb32 : LH), F = F1 ∧ L1 = (Lb32 ++ []) ∧ e1.sub [(7, .slice a21 n24 n24)] ∧ SlR K.w0.heap.size 35 1 (slE 1 (iE .i64)) F1 a21 n24 n24 newslice2 Lb32) ?_ ?_
 ·clear r35
  refine shW_block ?_
  refine shW_lp (fun fu1 e1 F1 L1 => ∃ (newslice3 : List (List Int)) (n4 : Int) (Lb36 : LH), slices_Repeat_int_int__l1 fu1 newslice3 n4 = some newslice2 ∧ F = F1 ∧ L1 = (Lb36 ++ []) ∧ e1.sub [(7, .slice a21 n24 n24), (8, .int .i64 n4)] ∧ SlR K.w0.heap.size 35 1 (slE 1 (iE .i64)) F1 a21 n24 n24 newslice3 Lb36) FU (m0 kr ⟨newslice, n3, Lb28, h34, rfl, rfl, z2, hz29⟩) ?_
  rintro fu1 e1 _ _ ⟨newslice3, n4, Lb36, r40, rfl, rfl, he41, hz37⟩
  refine shW_env _ he41 ?_
  rcases fu1 with _ | fu1
  ·rw [slices_Repeat_int_int__l1] at r40; cases r40
  rw [slices_Repeat_int_int__l1] at r40
  refine shW_seq (wsr (um (um ?_)))
  refine uv ((v_lenS underlying23 rfl).i (SlR.lenI hz37)) (uv (v_lssK rfl rfl) (shO_nil ?_))
  refine cQ (fun c42 => ?_) fun c42 => ?_
  ·have r43 := ite_t r40 c42
   refine shW_skip (shW_block (shW_drawM [(.still, 0), (.still, 1), (.still, 2), (.still, 3), (.still, 4), (.still, 5), (.still, 6), (.seq, 7), (.still, 8), (.seq, 9)] (by kernel_rfl) (by kernel_rfl) (trivial) (by rfl) (by kernel_rfl) (mS [8] rfl (v_move rfl) (mS [7] rfl (v_move rfl) (mS [8] rfl (v_move rfl) ?_)))))
   obtain ⟨g44, r45⟩ := gd_ok r43
   have gv46 := SlR.gV hz37 g44
   refine mS (v := .slice (vwA a21 n24 (Int.toNat n4) 1) (n24 - Int.toNat n4) (n24 - Int.toNat n4)) [39, 40] rfl (OpV.eq (v' := .slice (vwA a21 n24 (Int.toNat n4) 1) (n24 - Int.toNat n4) (n24 - Int.toNat n4)) (v_slice (l := n4) (h := (n24 : Nat)) underlying23 sizeOf35 rfl (.inr ⟨_, rfl, rfl⟩) (.inl ⟨rfl, rfl⟩) (SlR.capV hz37 gv46)) rfl) (mS [7] rfl (v_move rfl) (mS [8] rfl (v_move rfl) ?_))
   obtain ⟨g47, r48⟩ := gd_ok r45
   refine mS (v := .slice a21 (Int.toNat n4) n24) [42, 43] rfl (v_slicePre underlying23 sizeOf35 rfl rfl hz37 g47) ?_
   refine ⟨_, [(41, .slice (vwA a21 n24 (Int.toNat n4) 1) (n24 - Int.toNat n4) (n24 - Int.toNat n4)), (44, .slice a21 (Int.toNat n4) n24)], rfl, rfl, z2, by kernel_rfl, ?_⟩; intro H
   obtain ⟨g49, r50⟩ := gd_ok r48
   obtain ⟨l2, h51, r52⟩ := bv_ok r50
   refine o_copyVP (l := n4) (zs := l2) rfl slt_23 (slE_ok (iE_ok _)) rfl rfl (fun _ => .h) hz37 g49 h51 ?_; intro Lb53 hz54
   refine shO_nil ⟨_, rfl, FExt.refl _, [0], by kernel_rfl, .inl (.inr (fun d h => by cases h; rfl)), (fc sm nm), ?_⟩
   obtain ⟨g55, r56⟩ := gd_ok r52
   refine mL [38, 45] ([]) rfl sm (fun H F' L' hF' hL' => v_add rfl rfl g55) ?_
   refine ⟨_, [(46, .int .i64 (n4 + (((Nat.min (Int.toNat n4) (newslice3.length - (Int.toNat n4))) : Nat) : Int)))], rfl, rfl, z1, by kernel_rfl, ?_⟩; intro H
   obtain ⟨n5, h57, r58⟩ := bv_ok r56
   refine uv ((v_assign rfl).i h57) ?_
   refine shO_nil ⟨_, rfl, FExt.refl _, [], by kernel_rfl, .inl (.inl rfl), nm, ?_⟩
   refine shM_nil (inBlock_n (id := 1) ?_)
   exact le kr ⟨l2, n5, Lb53, r58, rfl, rfl, z2, hz54⟩
  have r59 := ite_f r40 c42
  refine shW_exit (andThen_exit (andThen_exit ?_))
  refine inBlock_exit ?_
  obtain rfl := inj1 r59
  exact mi kr ⟨Lb36, rfl, rfl, z1, hz37⟩
 rintro e1 _ _ ⟨Lb32, rfl, rfl, he60, hz33⟩
 refine shW_env _ he60 ?_
 refine wsr (um (ua (shO_nil (shW_ret ?_))))
 refine qR1 results10 ?_
 obtain rfl := inj1 r35
 exact ⟨_, _, _, _, rfl, rfl, hz33.any⟩
set_option maxHeartbeats 1000000 in
theorem oyezlaw07_BookRounds_w {numbers_a : Option Addr} {numbers_c : Nat} {numbers : List Int} (h_numbers : RowR 1 (iE .u8) F numbers_a numbers_c numbers) (h_readings : RowR 1 (iE .u8) F readings_a readings_c readings) {r : Bool} (hr : oyezlaw07_BookRounds numbers readings = some r) :
    SpecV Tryz.prog 3 #[.slice numbers_a numbers.length numbers_c, .slice readings_a readings.length readings_c] F (.bool r) := by
 refine sp func3 ntmps3 fun K _ _ => ?_
 rw [oyezlaw07_BookRounds] at hr
 refine wsr (ua (nsr (um ?_)))
 obtain ⟨metal, at_, turn, h1, r2⟩ := b3_ok hr
 refine c0 call5 (oyezkit_Hang_w h_numbers h1) ?_; rintro _ F3 _ hF4 hn5 ⟨b7, a8, c9, rfl, rfl, h10⟩
 replace h_readings := h_readings.mono (iE_ok _) hF4
 refine shO_L (lb (ln rfl)) ?_
 obtain ⟨l, l2, n, n2, l3, at_2, turn2, h11, r12⟩ := b7_ok r2
 refine cG call4 (oyezlaw03_Made_w h10 h11) ?_; rintro _ F13 _ hF14 hd16 hn15 ⟨a17, c18, a20, c21, a23, n27, c24, Lb25, rfl, rfl, h19, h22, hz26⟩
 replace h_readings := h_readings.mono (iE_ok _) hF14
 have hn29 := newp (Lb' := [(b7, ce #[.slice a8 metal.length c9, .int .i64 at_2, .int .u32 turn2] 68)]) (by rfl) hd16 hn15
 replace hz26 := hz26.new fun p hp => hn29 p (by simp [hp])
 refine shO_L (lb (lp (ln rfl))) ?_
 refine o_alloc rfl zeroValue26 ?_; intro b30 hb30
 refine o_storeA (i := 0) sizeOf26 rfl rfl rfl (by simp [Value.oneCell']) rfl (nbL rfl) (shO_L rfl (nsr (uv (v_loadA isAgg26 sizeOf26 rfl (Has.own 0 rfl) (nbL rfl) rfl) ?_)))
 obtain ⟨l4, n3, n4, h31, r32⟩ := b3_ok r12
 refine o_callTO (Lb := []) (Lt := Lb25 ++ []) (Lr := [(b30, ce #[.slice a17 l.length c18, .slice a20 l2.length c21, .int .i64 n, .int .i64 n2, .slice a23 n27 c24] 26), (b7, ce #[.slice a8 metal.length c9, .int .i64 at_2, .int .u32 turn2] 68)]) rfl call6 rfl rfl rfl (pT ((fC (fC fP)).trans (pA pR)) (ln (lp (ln rfl)))) (fun F2 h2 h3 => by rw [(SlR.caps hz26).1]; exact round_Best_w (h19.mono (slE_ok (iE_ok _)) h2) (h22.mono (slE_ok (iE_ok _)) h2) (hz26.row (prE_ok (slE_ok (iE_ok _)) (prE_ok (iE_ok _) (iE_ok _))) h2 (fun p hp => h3 p (List.mem_append_left _ hp))) h31) (fun _ _ _ _ hq => by obtain ⟨a37, n41, c38, Lb39, rfl, rfl, hz40⟩ := hq; exact ⟨_, _, _, _, rfl, rfl, hz40.flat (fun _ _ h => h)⟩) ?_; rintro _ F33 _ hF34 hd36 hn35 ⟨a37, n41, c38, Lb39, rfl, rfl, hz40⟩
 replace h_readings := h_readings.mono (iE_ok _) hF34
 replace h19 := h19.mono (slE_ok (iE_ok _)) hF34
 replace h22 := h22.mono (slE_ok (iE_ok _)) hF34
 replace hz26 := hz26.mono (prE_ok (slE_ok (iE_ok _)) (prE_ok (iE_ok _) (iE_ok _))) hF34
 have hn43 := newp (Lb' := []) (by rfl) hd36 hn35
 replace hz40 := hz40.new fun p hp => hn43 p (by simp [hp])
 refine shO_L (lp (ln (lp (ln rfl)))) (kO (kf (fS (fS fO)) (kf (fS (fS fO)) kr)) ?_)
 refine um (ox rfl rfl rfl (ox rfl rfl rfl (ox rfl rfl rfl (ua (ua (ua (shO_nil (shW_seq ?_))))))))
 obtain ⟨k, h44, r45⟩ := b1_ok r32
 refine jE (((b30, ce #[.slice a17 l.length c18, .slice a20 l2.length c21, .int .i64 n, .int .i64 n2, .slice a23 n27 c24] 26) :: (Lb25 ++ (Lb39 ++ [])))) [(1, .slice readings_a readings.length readings_c), (5, .pointer (some ⟨b30, 0, none⟩)), (6, .slice a37 n41 c38), (8, .int .i64 n4), (47, .bool k)] ?_ ?_
 ·clear r45
  refine shW_region (um ?_)
  refine uv (v_neq rfl rfl) (um ?_)
  by_cases c46 : n4 ≠ 0
  ·have r47 := ite_t h44 c46
   refine fT c46 (fT c46 (fT c46 (fT c46 ?_)))
   refine uv (v_pick_t (evD_true rfl c46) rfl) ?_
   refine um (shO_off (b' := true) 43 rfl rfl rfl rfl (shO_off (b' := true) 43 rfl rfl rfl rfl (shO_off (b' := true) 43 rfl rfl rfl rfl ?_)))
   refine uv (v_pick_t rfl rfl) (shO_nil ?_)
   obtain rfl := inj1 r47
   exact mi (kc (kd (kg (fS fP) kr))) ⟨rfl, rfl, z5⟩
  have r48 := ite_f h44 c46
  refine nF c46 (uv (v_fieldAddr fa_26_4 rfl) (nF c46 (uv (v_load isAgg24 rfl (Has.own 0 rfl) rfl) (nF c46 (uv ((v_lenS underlying24 rfl).i (SlR.lenI hz26)) (nF c46 (uv (v_eql rfl rfl) ?_)))))))
  refine uv (v_pick_f (evD_false rfl c46) rfl) (um ?_)
  by_cases c49 : (l3.length : Int) = 0
  ·have r50 := ite_t r48 c49
   refine fT c49 (fT c49 (fT c49 ?_))
   refine uv (v_pick_t (evD_true rfl c49) rfl) (shO_nil ?_)
   obtain rfl := inj1 r50
   exact mi (kc (kd (kg (fS fP) kr))) ⟨rfl, rfl, z5⟩
  have r51 := ite_f r48 c49
  refine nF c49 (um (nF c49 ?_))
  refine uv ((v_lenS underlying30 rfl).i (SlR.lenI hz40)) (nF c49 (uv (v_gtrK rfl rfl) (uv (v_pick_f (evD_false rfl c49) rfl) (shO_nil ?_))))
  obtain rfl := inj1 r51
  exact mi (kc (kd (kg (fS fP) kr))) ⟨rfl, rfl, z5⟩
 refine shW_cond rfl (fun c53 => ?_) (fun c53 => ?_)
 ·have r54 := bt r45 c53
  refine wsr (um ?_)
  refine uv (v_eql rfl rfl) (um ?_)
  by_cases c55 : n4 = 0
  ·have r56 := ite_t r54 c55
   refine fT c55 (fT c55 ?_)
   refine uv (v_pick_t (evD_true rfl c55) rfl) ?_
   refine um (shO_on (b := true) 54 rfl rfl ?_)
   obtain ⟨ok, h57, r58⟩ := b1_ok r56
   refine cV call7 (oyezlaw07_awake_w h57) (uv (v_pick_t rfl rfl) ?_)
   refine ua (shO_nil ?_)
   refine kW kn ?_
   refine shW_ret (andThen_ret ?_)
   refine qR1 results3 ?_
   obtain rfl := inj1 r58
   exact rfl
  have r59 := ite_f r54 c55
  refine nF c55 (um (nF c55 ?_))
  refine uv (v_eql rfl rfl) (uv (v_pick_f (evD_false rfl c55) rfl) (um ?_))
  by_cases c60 : n4 = 6
  ·have r61 := ite_t r59 c60
   refine nT c60 ?_
   obtain ⟨ok2, h62, r63⟩ := b1_ok r61
   refine cV call7 (oyezlaw07_awake_w h62) (uv (v_pick_t (evD_true rfl c60) rfl) ?_)
   refine ua (shO_nil ?_)
   refine kW kn ?_
   refine shW_ret (andThen_ret ?_)
   refine qR1 results3 ?_
   obtain rfl := inj1 r63
   exact rfl
  have r64 := ite_f r59 c60
  refine fF c60 (uv (v_pick_f (evD_false rfl c60) rfl) ?_)
  refine ua (shO_nil ?_)
  refine kW kn ?_
  refine shW_ret (andThen_ret ?_)
  refine qR1 results3 ?_
  obtain rfl := inj1 r64
  exact rfl
 have r65 := bf r45 c53
 refine shW_skip (wsr ?_)
 refine uv (v_loadA isAgg26 sizeOf26 rfl (Has.own 0 rfl) (nbL rfl) rfl) (um ?_)
 obtain ⟨l5, n5, h66, r67⟩ := b2_ok r65
 refine o_callTO (Lb := []) (Lt := Lb25 ++ (Lb39 ++ [])) (Lr := [(b30, ce #[.slice a17 l.length c18, .slice a20 l2.length c21, .int .i64 n, .int .i64 n2, .slice a23 n27 c24] 26)]) rfl call8 rfl rfl rfl (pT ((fC fP).trans (pA ((fC fP).trans (pA pR)))) (ln (lp (lp (ln rfl))))) (fun F2 h2 h3 => by rw [(SlR.caps hz26).1]; rw [(SlR.caps hz40).1]; exact round_Ends_w (h19.mono (slE_ok (iE_ok _)) h2) (h22.mono (slE_ok (iE_ok _)) h2) (hz26.row (prE_ok (slE_ok (iE_ok _)) (prE_ok (iE_ok _) (iE_ok _))) h2 (fun p hp => h3 p (List.mem_append_left _ hp))) (hz40.row (prE_ok (iE_ok _) (iE_ok _)) h2 (fun p hp => h3 p (List.mem_append_right _ (List.mem_append_left _ hp)))) h66) (fun _ _ _ _ hq => by obtain ⟨a72, n76, c73, Lb74, rfl, rfl, hz75⟩ := hq; exact ⟨_, _, _, _, rfl, rfl, hz75.flat (fun _ _ h => h)⟩) ?_; rintro _ F68 _ hF69 hd71 hn70 ⟨a72, n76, c73, Lb74, rfl, rfl, hz75⟩
 replace h_readings := h_readings.mono (iE_ok _) hF69
 replace h19 := h19.mono (slE_ok (iE_ok _)) hF69
 replace h22 := h22.mono (slE_ok (iE_ok _)) hF69
 replace hz26 := hz26.mono (prE_ok (slE_ok (iE_ok _)) (prE_ok (iE_ok _) (iE_ok _))) hF69
 replace hz40 := hz40.mono (prE_ok (iE_ok _) (iE_ok _)) hF69
 have hn78 := newp (Lb' := []) (by rfl) hd71 hn70
 replace hz75 := hz75.new fun p hp => hn78 p (by simp [hp])
 refine shO_L (lp (ln (lp (lp (ln rfl))))) (kO (kf (fS (fS (fS fO))) kr) ?_)
 refine um (ox rfl rfl rfl (ox rfl rfl rfl (ua (ua (nsr ?_)))))
 refine uv (v_loadA isAgg26 sizeOf26 rfl (Has.own 0 rfl) (nbL rfl) rfl) (um ?_)
 obtain rfl := (SlR.caps hz26).1
 refine shO_freezeR (Nat.le_refl _) (prE_ok (slE_ok (iE_ok _)) (prE_ok (iE_ok _) (iE_ok _))) (fC (fS fP)) hz26 ?_; intro F79 hF80 h81
 replace h_readings := h_readings.mono (iE_ok _) hF80
 replace h19 := h19.mono (slE_ok (iE_ok _)) hF80
 replace h22 := h22.mono (slE_ok (iE_ok _)) hF80
 replace hz40 := hz40.mono (prE_ok (iE_ok _) (iE_ok _)) hF80
 replace hz75 := hz75.mono (iE_ok _) hF80
 obtain rfl := (SlR.caps hz40).1
 refine shO_freezeR (Nat.le_refl _) (prE_ok (iE_ok _) (iE_ok _)) (fC (fS fP)) hz40 ?_; intro F82 hF83 h84
 replace h_readings := h_readings.mono (iE_ok _) hF83
 replace h19 := h19.mono (slE_ok (iE_ok _)) hF83
 replace h22 := h22.mono (slE_ok (iE_ok _)) hF83
 replace h81 := h81.mono (prE_ok (slE_ok (iE_ok _)) (prE_ok (iE_ok _) (iE_ok _))) hF83
 replace hz75 := hz75.mono (iE_ok _) hF83
 obtain ⟨l6, n6, h85, r86⟩ := b2_ok r67
 refine c0 call9 (round_Heard_w h19 h22 h81 h84 h85) ?_; rintro _ F87 _ hF88 hn89 ⟨a91, c92, rfl, rfl, h93⟩
 replace h_readings := h_readings.mono (iE_ok _) hF88
 replace h22 := h22.mono (slE_ok (iE_ok _)) hF88
 replace h81 := h81.mono (prE_ok (slE_ok (iE_ok _)) (prE_ok (iE_ok _) (iE_ok _))) hF88
 replace h84 := h84.mono (prE_ok (iE_ok _) (iE_ok _)) hF88
 replace hz75 := hz75.mono (iE_ok _) hF88
 refine shO_L (ln rfl) ?_
 refine um (ox rfl rfl rfl (ox rfl rfl rfl (ua (ua (shO_nil (shW_seq ?_))))))
 obtain ⟨k2, h94, r95⟩ := b1_ok r86
 refine jE (((b30, ce #[.slice a17 l.length c18, .slice a20 l2.length c21, .int .i64 n, .int .i64 n2, .slice a23 l3.length c24] 26) :: (Lb74 ++ []))) [(1, .slice readings_a readings.length readings_c), (5, .pointer (some ⟨b30, 0, none⟩)), (6, .slice a37 l4.length c38), (9, .slice a72 n76 c73), (10, .slice a91 l6.length c92), (89, .bool k2)] ?_ ?_
 ·clear r95
  refine shW_region (um ?_)
  refine uv (v_neq rfl rfl) (um ?_)
  by_cases c96 : n5 ≠ 0
  ·have r97 := ite_t h94 c96
   refine fT c96 (fT c96 ?_)
   refine uv (v_pick_t (evD_true rfl c96) rfl) ?_
   refine um (shO_off (b' := true) 75 rfl rfl rfl rfl (shO_off (b' := true) 75 rfl rfl rfl rfl (shO_off (b' := true) 75 rfl rfl rfl rfl (shO_off (b' := true) 75 rfl rfl rfl rfl (shO_off (b' := true) 75 rfl rfl rfl rfl ?_)))))
   refine uv (v_pick_t rfl rfl) ?_
   refine um (shO_off (b' := true) 82 rfl rfl rfl rfl (shO_off (b' := true) 82 rfl rfl rfl rfl (shO_off (b' := true) 82 rfl rfl rfl rfl (shO_off (b' := true) 82 rfl rfl rfl rfl (shO_off (b' := true) 82 rfl rfl rfl rfl (shO_off (b' := true) 82 rfl rfl rfl rfl ?_))))))
   refine uv (v_pick_t rfl rfl) (shO_nil ?_)
   obtain rfl := inj1 r97
   exact mi kr ⟨rfl, rfl, z6⟩
  have r98 := ite_f h94 c96
  refine nF c96 (um (nF c96 ?_))
  refine uv (v_neq rfl rfl) (uv (v_pick_f (evD_false rfl c96) rfl) (um ?_))
  by_cases c99 : n6 ≠ 0
  ·have r100 := ite_t r98 c99
   refine fT c99 (fT c99 (fT c99 (fT c99 (fT c99 ?_))))
   refine uv (v_pick_t (evD_true rfl c99) rfl) ?_
   refine um (shO_off (b' := true) 82 rfl rfl rfl rfl (shO_off (b' := true) 82 rfl rfl rfl rfl (shO_off (b' := true) 82 rfl rfl rfl rfl (shO_off (b' := true) 82 rfl rfl rfl rfl (shO_off (b' := true) 82 rfl rfl rfl rfl (shO_off (b' := true) 82 rfl rfl rfl rfl ?_))))))
   refine uv (v_pick_t rfl rfl) (shO_nil ?_)
   obtain rfl := inj1 r100
   exact mi kr ⟨rfl, rfl, z6⟩
  have r101 := ite_f r98 c99
  refine nF c99 (um (nF c99 ?_))
  refine uv ((v_lenS underlying35 rfl).i (SlR.lenI hz75)) ?_
  refine nF c99 (um (nF c99 ?_))
  refine uv (v_lenS underlying30 rfl) (nF c99 (uv (v_neq rfl rfl) (uv (v_pick_f (evD_false rfl c99) rfl) (um ?_))))
  by_cases c102 : (l5.length : Int) ≠ (l4.length : Int)
  ·have r103 := ite_t r101 c102
   refine fT c102 (fT c102 (fT c102 (fT c102 (fT c102 (fT c102 ?_)))))
   refine uv (v_pick_t (evD_true rfl c102) rfl) (shO_nil ?_)
   obtain rfl := inj1 r103
   exact mi kr ⟨rfl, rfl, z6⟩
  have r104 := ite_f r101 c102
  refine nF c102 (um (nF c102 ?_))
  refine uv (v_lenS underlying23 rfl) (nF c102 (uv (v_fieldAddr fa_26_4 rfl) (nF c102 (uv (v_load isAgg24 rfl (Has.own 0 rfl) rfl) (nF c102 (uv (v_lenS underlying24 rfl) (nF c102 ?_)))))))
  refine uv (v_neq rfl rfl) (uv (v_pick_f (evD_false rfl c102) rfl) (shO_nil ?_))
  obtain rfl := inj1 r104
  exact mi kr ⟨rfl, rfl, z6⟩
 refine shW_cond rfl (fun c106 => ?_) (fun c106 => ?_)
 ·have r107 := bt r95 c106
  refine wsr (ua (shO_nil ?_))
  refine kW kn ?_
  refine shW_ret (andThen_ret ?_)
  refine qR1 results3 ?_
  obtain rfl := inj1 r107
  exact rfl
 have r108 := bf r95 c106
 refine shW_skip (wsr (um ?_))
 obtain ⟨metal2, at_3, turn3, h109, r110⟩ := b3_ok r108
 refine c0 call5 (oyezkit_Hang_w h_readings h109) ?_; rintro _ F111 _ hF112 hn113 ⟨b115, a116, c117, rfl, rfl, h118⟩
 replace h22 := h22.mono (slE_ok (iE_ok _)) hF112
 replace h81 := h81.mono (prE_ok (slE_ok (iE_ok _)) (prE_ok (iE_ok _) (iE_ok _))) hF112
 replace h84 := h84.mono (prE_ok (iE_ok _) (iE_ok _)) hF112
 replace h93 := h93.mono (slE_ok (iE_ok _)) hF112
 replace hz75 := hz75.mono (iE_ok _) hF112
 refine shO_L (lb (ln rfl)) ?_
 refine ua (nsr ?_)
 refine uv (v_fieldAddr fa_26_2 rfl) (uv (v_load isAgg3 rfl (Has.own 1 rfl) rfl) (uv (v_fieldAddr fa_26_4 rfl) (uv (v_load isAgg24 rfl (Has.own 1 rfl) rfl) (uv (v_lenS underlying24 rfl) ?_))))
 refine uv (v_build (v := .agg #[.int .i64 n, .int .i64 (l3.length : Int), .slice none 0 0, .slice none 0 0, .slice none 0 0]) rfl (by intro w; kernel_rfl)) ?_
 refine o_alloc rfl zeroValue43 ?_; intro b119 hb119
 refine o_storeA (i := 0) sizeOf43 rfl rfl rfl (by simp [Value.oneCell']) rfl (nbL rfl) (shO_L rfl (shO_nil ?_))
 obtain ⟨b_hears, h126, r127⟩ := b1_ok r110
 refine shW_join (fun e1 F1 L1 => ∃ (a120 : Option Addr) (n124 : Nat) (c121 : Nat) (Lb122 : LH), FExt F111 F1 ∧ L1 = ((b119, ce #[.int .i64 n, .int .i64 (l3.length : Int), .slice a120 n124 c121, .slice none 0 0, .slice none 0 0] 43) :: ((b115, ce #[.slice a116 metal2.length c117, .int .i64 at_3, .int .u32 turn3] 68) :: ((b30, ce #[.slice a17 l.length c18, .slice a20 l2.length c21, .int .i64 n, .int .i64 n2, .slice a23 l3.length c24] 26) :: (Lb74 ++ (Lb122 ++ []))))) ∧ e1.sub [(5, .pointer (some ⟨b30, 0, none⟩)), (6, .slice a37 l4.length c38), (9, .slice a72 n76 c73), (10, .slice a91 l6.length c92), (12, .pointer (some ⟨b115, 0, none⟩)), (13, .pointer (some ⟨b119, 0, none⟩))] ∧ SlR K.w0.heap.size 23 1 (slE 1 (slE 1 (iE .i64))) F1 a120 n124 c121 b_hears Lb122) ?_ ?_
 ·clear r127
  refine wsr (uv (v_fieldAddr fa_26_1 rfl) (uv (v_load isAgg23 rfl (Has.own 2 rfl) rfl) (uv (v_lenS underlying23 rfl) ?_)))
  refine um (shO_nil ?_)
  refine shW_block ?_
  refine shW_lp (fun fu1 e1 F1 L1 => LA l2 fu1 fun tl k3 => ∃ (b_hears2 : List (List (List Int))) (a128 : Option Addr) (n132 : Nat) (c129 : Nat) (Lb130 : LH), oyezlaw07_BookRounds_l1 tl b_hears2 = some b_hears ∧ FExt F111 F1 ∧ L1 = ((b119, ce #[.int .i64 n, .int .i64 (l3.length : Int), .slice a128 n132 c129, .slice none 0 0, .slice none 0 0] 43) :: ((b115, ce #[.slice a116 metal2.length c117, .int .i64 at_3, .int .u32 turn3] 68) :: ((b30, ce #[.slice a17 l.length c18, .slice a20 l2.length c21, .int .i64 n, .int .i64 n2, .slice a23 l3.length c24] 26) :: (Lb74 ++ (Lb130 ++ []))))) ∧ e1.sub [(5, .pointer (some ⟨b30, 0, none⟩)), (6, .slice a37 l4.length c38), (9, .slice a72 n76 c73), (10, .slice a91 l6.length c92), (12, .pointer (some ⟨b115, 0, none⟩)), (13, .pointer (some ⟨b119, 0, none⟩)), (99, .slice a20 l2.length c21), (100, .int .i64 (l2.length : Int)), (101, .int .i64 k3)] ∧ SlR K.w0.heap.size 23 1 (slE 1 (slE 1 (iE .i64))) F1 a128 n132 c129 b_hears2 Lb130) _ (m0 (kc (kc (kc (ka (ke kr))))) ⟨_, _, rfl, Lst.start _, [], none, 0, 0, [], h126, FExt.refl _, rfl, (sc rfl z8), SlR.nil _ _ _ _ _⟩) ?_
  rintro fu1 e1 F138 _ ⟨tl, k3, hn135, hk134, b_hears2, a128, n132, c129, Lb130, r136, hF139, rfl, he137, hz131⟩
  refine shW_env _ he137 ?_
  replace h22 := h22.mono (slE_ok (iE_ok _)) hF139
  refine wsr (uv (v_lssK rfl rfl) ?_)
  refine shO_nil (shW_seq ?_)
  refine cQ (fun c141 => ?_) fun c141 => ?_
  ·obtain ⟨x, tl2, rfl, hx143, g144, hk142⟩ := Lst.succ hk134 c141
   rw [oyezlaw07_BookRounds_l1] at r136
   refine shW_skip (shW_seq ?_)
   refine shW_block (wsr ?_)
   obtain ⟨b145, o146, c147, vs148, ha149, hs150, hle151, ⟨a154, c155, rfl, h156⟩, hl152, hc153⟩ := RowR.at (slE_ok (iE_ok _)) h22 ((b119, ce #[.int .i64 n, .int .i64 (l3.length : Int), .slice a128 n132 c129, .slice none 0 0, .slice none 0 0] 43) :: ((b115, ce #[.slice a116 metal2.length c117, .int .i64 at_3, .int .u32 turn3] 68) :: ((b30, ce #[.slice a17 l.length c18, .slice a20 l2.length c21, .int .i64 n, .int .i64 n2, .slice a23 l3.length c24] 26) :: (Lb74 ++ (Lb130 ++ []))))) g144.1 hx143
   refine uv (v_indexO underlying23 sizeOf35 rfl ha149 rfl g144) (uv (v_load isAgg35 rfl hs150 (hc153 0 (by decide))) ?_)
   refine ua (shO_nil ?_)
   refine shW_drawM [(.still, 0), (.still, 1), (.still, 2), (.seq, 3), (.seq, 4), (.seq, 5), (.seq, 6), (.still, 7), (.seq, 8)] (by kernel_rfl) (by kernel_rfl) (trivial) (by rfl) (by kernel_rfl) (mS [13] rfl (v_fieldAddr fa_43_2 rfl) (mL [105] ([(b119, ce #[.int .i64 n, .int .i64 (l3.length : Int), .slice a128 n132 c129, .slice none 0 0, .slice none 0 0] 43)]) rfl (s0 (s2 (s1 (s1 (s3 (s3 sr)))))) (fun H F' L' hF' hL' => v_load isAgg40 rfl ((Has.own 0 rfl).ext hF' hL') rfl) (mS [15] rfl (v_move rfl) ?_)))
   refine ⟨_, [(107, .slice a154 x.length c155)], rfl, rfl, z1, by kernel_rfl, ?_⟩; intro H
   refine bA (cs := #[.slice a154 x.length c155]) slt_23 [.slice a154 x.length c155] ?_; intro b157 hb157
   refine shO_nil ⟨_, rfl, FExt.refl _, [1, 0], by kernel_rfl, .inl (.inr (fun d h => by cases h; rfl)), (fc (s0 (s1 (s2 (s1 (s1 (s3 (s3 sr))))))) (fc sm nm)), ?_⟩
   refine ⟨_, [(108, .slice (some ⟨b157, 0, none⟩) 1 1)], rfl, rfl, z1, by kernel_rfl, ?_⟩; intro H
   refine shO_freeze 0 rfl hb157 ?_; intro F158 hF159 hz160
   refine shO_L rfl ?_
   replace h22 := h22.mono (slE_ok (iE_ok _)) hF159
   replace h156 := h156.mono (iE_ok _) hF159
   replace hz131 := hz131.mono (slE_ok (slE_ok (iE_ok _))) hF159
   have h161 : RowR 1 (slE 1 (iE .i64)) F158 (some ⟨b157, 0, none⟩) 1 [x] := RowR.of_block (slE_ok (iE_ok _)) (vss := [[.slice a154 x.length c155]]) (xs := [x]) hz160 (.cons ⟨_, _, rfl, h156⟩ .nil) rfl (by simp [maxLen])
   obtain ⟨l7, h162, r163⟩ := b1_ok r136
   refine c0 call10 (slices_Repeat_int_int__w h161 h162) ?_; rintro _ F164 _ hF165 hn166 ⟨a168, n172, c169, Lb170, rfl, rfl, hz171⟩
   replace h22 := h22.mono (slE_ok (iE_ok _)) hF165
   replace hz131 := hz131.mono (slE_ok (slE_ok (iE_ok _))) hF165
   replace hz171 := hz171.new fun p hp => hn166 p (by simp [hp])
   refine shO_L (lp (ln rfl)) (kO (kf (fS fO) (kf (fS fO) (kf (fS fO) kr))) ?_)
   refine shO_nil ⟨_, rfl, (hF159.trans hF165), [1, 0], by kernel_rfl, .inl (.inr (fun d h => by cases h; rfl)), (fc (s0 (s2 (s1 (s1 (s3 (s3 (s3 sr))))))) (fc sm nm)), ?_⟩
   refine ⟨_, [(109, .slice a168 n172 c169)], rfl, rfl, z1, by kernel_rfl, ?_⟩; intro H
   refine bA (cs := #[.slice a168 n172 c169]) slt_40 [.slice a168 n172 c169] ?_; intro b174 hb174
   refine shO_nil ⟨_, rfl, FExt.refl _, [1, 0], by kernel_rfl, .inl (.inr (fun d h => by cases h; rfl)), (fc (s0 (s1 (s2 (s1 (s1 (s3 (s3 (s3 sr)))))))) (fc sm nm)), ?_⟩
   refine ⟨_, [(106, .slice a128 n132 c129), (110, .slice (some ⟨b174, 0, none⟩) 1 1)], rfl, rfl, z2, by kernel_rfl, ?_⟩; intro H
   obtain rfl := (SlR.caps hz171).1
   refine shO_freezeR (Nat.le_refl _) (slE_ok (iE_ok _)) (fC (fC (fC (fC fP)))) hz171 ?_; intro F175 hF176 h177
   replace h22 := h22.mono (slE_ok (iE_ok _)) hF176
   replace hz131 := hz131.mono (slE_ok (slE_ok (iE_ok _))) hF176
   obtain ⟨l8, h178, g179, r180⟩ := ap_ok r163
   refine o_appZ (xs := b_hears2) (ys := [l7]) (zs := l8) rfl slt_40 rfl rfl (Nat.le_refl _) (fun _ => .c (.c (.c (.c (.s .h))))) hz131 (SrcR.box (vss := [[.slice a168 l7.length c169]]) (ys := [l7]) 0 rfl (slE_ok (slE_ok (iE_ok _))) (.cons ⟨_, _, rfl, h177⟩ .nil) rfl rfl) h178 g179 (by decide) ?_; intro a181 n185 c182 Lb183 hz184
   refine kO (kd kr) ?_
   refine shO_nil ⟨_, rfl, hF176, [], by kernel_rfl, .inl (.inl rfl), nm, ?_⟩
   refine mS [13] rfl (v_fieldAddr fa_43_2 rfl) ?_
   refine ⟨_, [(111, .slice a181 n185 c182), (112, .pointer (some ⟨b119, 2, none⟩))], rfl, rfl, z2, by kernel_rfl, ?_⟩; intro H
   refine o_store (i := 0) sizeOf40 rfl rfl rfl rfl (nbL rfl) (shO_L rfl ?_)
   refine shO_nil ⟨undef, rfl, FExt.refl _, [], by kernel_rfl, .inl (.inl rfl), nm, ?_⟩
   refine shM_nil ?_
   refine inBlock_n (id := 1) (shW_region ?_)
   refine uv (v_add rfl rfl (Lst.r64 hk134 c141 (RowR.lt h22))) ?_
   refine um (shO_nil ?_)
   subst hn135; exact le kr ⟨_, _, rfl, hk142, l8, a181, n185, c182, Lb183, r180, (((hF139.trans hF159).trans hF165).trans hF176), rfl, (sc rfl z8), hz184⟩
  obtain rfl := Lst.zero hk134 c141
  rw [oyezlaw07_BookRounds_l1] at r136
  refine shW_exit (andThen_exit (andThen_exit ?_))
  refine inBlock_exit ?_
  obtain rfl := inj1 r136
  exact mi kr ⟨a128, n132, c129, Lb130, hF139, rfl, z6, hz131⟩
 rintro e1 F188 _ ⟨a120, n124, c121, Lb122, hF189, rfl, he187, hz123⟩
 refine shW_env _ he187 ?_
 replace h81 := h81.mono (prE_ok (slE_ok (iE_ok _)) (prE_ok (iE_ok _) (iE_ok _))) hF189
 replace h84 := h84.mono (prE_ok (iE_ok _) (iE_ok _)) hF189
 replace h93 := h93.mono (slE_ok (iE_ok _)) hF189
 replace h118 := h118.mono (iE_ok _) hF189
 replace hz75 := hz75.mono (iE_ok _) hF189
 obtain ⟨b_readings, h196, r197⟩ := b1_ok r127
 refine shW_join (fun e1 F1 L1 => ∃ (a190 : Option Addr) (n194 : Nat) (c191 : Nat) (Lb192 : LH), FExt F188 F1 ∧ L1 = ((b119, ce #[.int .i64 n, .int .i64 (l3.length : Int), .slice a120 n124 c121, .slice a190 n194 c191, .slice none 0 0] 43) :: ((b30, ce #[.slice a17 l.length c18, .slice a20 l2.length c21, .int .i64 n, .int .i64 n2, .slice a23 l3.length c24] 26) :: (Lb74 ++ (Lb122 ++ (Lb192 ++ []))))) ∧ e1.sub [(5, .pointer (some ⟨b30, 0, none⟩)), (6, .slice a37 l4.length c38), (9, .slice a72 n76 c73), (10, .slice a91 l6.length c92), (13, .pointer (some ⟨b119, 0, none⟩))] ∧ SlR K.w0.heap.size 3 1 (iE .i64) F1 a190 n194 c191 b_readings Lb192) ?_ ?_
 ·clear r197
  refine wsr (um (shO_nil ?_))
  refine shW_block ?_
  obtain ⟨g204, r205⟩ := gd_ok h196
  refine shW_lp (fun fu2 e1 F1 L1 => ∃ (k4 : Int), Ctr 0 8 k4 fu2 ∧ ∃ (q_at : Int) (q_turn : Int) (b_readings2 : List Int) (a198 : Option Addr) (n202 : Nat) (c199 : Nat) (Lb200 : LH), oyezlaw07_BookRounds_l2 metal2 fu2 q_at q_turn b_readings2 = some b_readings ∧ FExt F188 F1 ∧ L1 = ((b119, ce #[.int .i64 n, .int .i64 (l3.length : Int), .slice a120 n124 c121, .slice a198 n202 c199, .slice none 0 0] 43) :: ((b115, ce #[.slice a116 metal2.length c117, .int .i64 q_at, .int .u32 q_turn] 68) :: ((b30, ce #[.slice a17 l.length c18, .slice a20 l2.length c21, .int .i64 n, .int .i64 n2, .slice a23 l3.length c24] 26) :: (Lb74 ++ (Lb122 ++ (Lb200 ++ [])))))) ∧ e1.sub [(5, .pointer (some ⟨b30, 0, none⟩)), (6, .slice a37 l4.length c38), (9, .slice a72 n76 c73), (10, .slice a91 l6.length c92), (12, .pointer (some ⟨b115, 0, none⟩)), (13, .pointer (some ⟨b119, 0, none⟩)), (114, .int .i64 k4)] ∧ SlR K.w0.heap.size 3 1 (iE .i64) F1 a198 n202 c199 b_readings2 Lb200) _ (m0 (kc (kc (kc (ka (ka (ke kr)))))) ⟨_, Ctr.start _ _, at_3, turn3, [], none, 0, 0, [], r205, FExt.refl _, rfl, z7, SlR.nil _ _ _ _ _⟩) ?_
  rintro fu2 e1 F210 _ ⟨k4, hk206, q_at, q_turn, b_readings2, a198, n202, c199, Lb200, r208, hF211, rfl, he209, hz201⟩
  refine shW_env _ he209 ?_
  replace h118 := h118.mono (iE_ok _) hF211
  refine wsr (uv (v_lssK rfl rfl) ?_)
  refine shO_nil (shW_seq ?_)
  refine cQ (fun c213 => ?_) fun c213 => ?_
  ·obtain ⟨fu2, rfl, hk214⟩ := Ctr.succ hk206 c213
   rw [oyezlaw07_BookRounds_l2] at r208
   refine shW_skip (shW_seq ?_)
   refine shW_block (shW_drawM [(.still, 0), (.still, 1), (.still, 2), (.seq, 3), (.seq, 4), (.seq, 5), (.still, 6), (.seq, 7)] (by kernel_rfl) (by kernel_rfl) (trivial) (by rfl) (by kernel_rfl) (mS [13] rfl (v_fieldAddr fa_43_3 rfl) (mL [116] ([(b119, ce #[.int .i64 n, .int .i64 (l3.length : Int), .slice a120 n124 c121, .slice a198 n202 c199, .slice none 0 0] 43)]) rfl (s0 (s2 (s1 (s1 (s3 (s3 (s3 sr))))))) (fun H F' L' hF' hL' => v_load isAgg35 rfl ((Has.own 0 rfl).ext hF' hL') rfl) (mS [12] rfl (v_move rfl) ?_))))
   refine ⟨_, [(118, .pointer (some ⟨b115, 0, none⟩))], rfl, rfl, z1, by kernel_rfl, ?_⟩; intro H
   obtain ⟨n7, at_4, turn4, h215, r216⟩ := b3_ok r208
   refine o_callG (Lb := [(b115, ce #[.slice a116 metal2.length c117, .int .i64 q_at, .int .u32 q_turn] 68)]) (Lr := (b119, ce #[.int .i64 n, .int .i64 (l3.length : Int), .slice a120 n124 c121, .slice a198 n202 c199, .slice none 0 0] 43) :: ((b30, ce #[.slice a17 l.length c18, .slice a20 l2.length c21, .int .i64 n, .int .i64 n2, .slice a23 l3.length c24] 26) :: (Lb74 ++ (Lb122 ++ (Lb200 ++ []))))) rfl call11 rfl rfl rfl (((fC fO).trans (pC pR))) (oyezkit_Bell_Strike_w h118 h215) ?_; rintro _ F217 _ hF218 hd220 hn219 ⟨rfl, rfl⟩
   replace hz201 := hz201.mono (iE_ok _) hF218
   refine shO_L (lb (ln rfl)) ?_
   refine shO_nil ⟨_, rfl, hF218, [1, 0], by kernel_rfl, .inl (.inr (fun d h => by cases h; rfl)), (fc (s0 (s1 (s2 (s1 (s3 (s3 (s3 sr))))))) (fc sm nm)), ?_⟩
   refine ⟨_, [(119, .int .i64 n7)], rfl, rfl, z1, by kernel_rfl, ?_⟩; intro H
   refine bA (cs := #[.int .i64 n7]) slt_35 [.int .i64 n7] ?_; intro b221 hb221
   refine shO_nil ⟨_, rfl, FExt.refl _, [1, 0], by kernel_rfl, .inl (.inr (fun d h => by cases h; rfl)), (fc (s0 (s1 (s1 (s2 (s1 (s3 (s3 (s3 sr)))))))) (fc sm nm)), ?_⟩
   refine ⟨_, [(117, .slice a198 n202 c199), (120, .slice (some ⟨b221, 0, none⟩) 1 1)], rfl, rfl, z2, by kernel_rfl, ?_⟩; intro H
   obtain ⟨l9, h222, g223, r224⟩ := ap_ok r216
   refine o_appZ (xs := b_readings2) (ys := [n7]) (zs := l9) rfl slt_35 rfl rfl (Nat.le_refl _) (fun _ => .c (.c (.c (.c (.s (.s .h)))))) hz201 (SrcR.box (vss := [[.int .i64 n7]]) (ys := [n7]) 0 rfl (iE_ok _) (.cons rfl .nil) rfl rfl) h222 g223 (by decide) ?_; intro a225 n229 c226 Lb227 hz228
   refine kO (kd kr) ?_
   refine shO_nil ⟨_, rfl, FExt.refl _, [], by kernel_rfl, .inl (.inl rfl), nm, ?_⟩
   refine mS [13] rfl (v_fieldAddr fa_43_3 rfl) ?_
   refine ⟨_, [(121, .slice a225 n229 c226), (122, .pointer (some ⟨b119, 3, none⟩))], rfl, rfl, z2, by kernel_rfl, ?_⟩; intro H
   refine o_store (i := 1) sizeOf35 rfl rfl rfl rfl (nbL rfl) (shO_L rfl ?_)
   refine shO_nil ⟨undef, rfl, FExt.refl _, [], by kernel_rfl, .inl (.inl rfl), nm, ?_⟩
   refine shM_nil ?_
   refine inBlock_n (id := 3) (shW_region ?_)
   refine uv (v_add rfl rfl (Ctr.r64 hk206 c213 g204)) ?_
   refine um (shO_nil ?_)
   exact le (kf (fC fO) kr) ⟨_, hk214, at_4, turn4, l9, a225, n229, c226, Lb227, r224, (hF211.trans hF218), rfl, z7, hz228⟩
  obtain rfl := Ctr.zero hk206 c213
  rw [oyezlaw07_BookRounds_l2] at r208
  refine shW_exit (andThen_exit (andThen_exit ?_))
  refine inBlock_exit ?_
  obtain rfl := inj1 r208
  exact mi (kc (kd kr)) ⟨a198, n202, c199, Lb200, hF211, rfl, z5, hz201⟩
 rintro e1 F232 _ ⟨a190, n194, c191, Lb192, hF233, rfl, he231, hz193⟩
 refine shW_env _ he231 ?_
 replace h81 := h81.mono (prE_ok (slE_ok (iE_ok _)) (prE_ok (iE_ok _) (iE_ok _))) hF233
 replace h84 := h84.mono (prE_ok (iE_ok _) (iE_ok _)) hF233
 replace h93 := h93.mono (slE_ok (iE_ok _)) hF233
 replace hz75 := hz75.mono (iE_ok _) hF233
 replace hz123 := hz123.mono (slE_ok (slE_ok (iE_ok _))) hF233
 refine shW_join (fun e1 F1 L1 => ∃ (b_cries : List (Int × Int × Int)) (a234 : Option Addr) (n238 : Nat) (c235 : Nat) (Lb236 : LH), oyezlaw07_BookRounds_j3 n l3 l6 b_hears b_readings b_cries = some r ∧ F232 = F1 ∧ L1 = ((b119, ce #[.int .i64 n, .int .i64 (l3.length : Int), .slice a120 n124 c121, .slice a190 n194 c191, .slice a234 n238 c235] 43) :: ((b30, ce #[.slice a17 l.length c18, .slice a20 l2.length c21, .int .i64 n, .int .i64 n2, .slice a23 l3.length c24] 26) :: (Lb122 ++ (Lb192 ++ (Lb236 ++ []))))) ∧ e1.sub [(5, .pointer (some ⟨b30, 0, none⟩)), (10, .slice a91 l6.length c92), (13, .pointer (some ⟨b119, 0, none⟩))] ∧ SlR K.w0.heap.size 49 3 (prE (iE .i64) (prE (iE .i64) (iE .i64))) F1 a234 n238 c235 b_cries Lb236) ?_ ?_
 ·refine wsr (um ?_)
  refine uv (v_lenS underlying30 rfl) ?_
  refine um (shO_nil ?_)
  refine shW_block ?_
  refine shW_lp (fun fu4 e1 F1 L1 => LA l4 fu4 fun tl3 k5 => ∃ (b_cries2 : List (Int × Int × Int)) (a240 : Option Addr) (n244 : Nat) (c241 : Nat) (Lb242 : LH), oyezlaw07_BookRounds_l4 l2 n l3 l5 l6 b_hears b_readings tl3 k5 b_cries2 = some r ∧ F232 = F1 ∧ L1 = ((b119, ce #[.int .i64 n, .int .i64 (l3.length : Int), .slice a120 n124 c121, .slice a190 n194 c191, .slice a240 n244 c241] 43) :: ((b30, ce #[.slice a17 l.length c18, .slice a20 l2.length c21, .int .i64 n, .int .i64 n2, .slice a23 l3.length c24] 26) :: (Lb74 ++ (Lb122 ++ (Lb192 ++ (Lb242 ++ [])))))) ∧ e1.sub [(5, .pointer (some ⟨b30, 0, none⟩)), (9, .slice a72 n76 c73), (10, .slice a91 l6.length c92), (13, .pointer (some ⟨b119, 0, none⟩)), (124, .slice a37 l4.length c38), (125, .int .i64 (l4.length : Int)), (126, .int .i64 k5)] ∧ SlR K.w0.heap.size 49 3 (prE (iE .i64) (prE (iE .i64) (iE .i64))) F1 a240 n244 c241 b_cries2 Lb242) _ (m0 (kc (kc (ka (ka (ka (ke kr)))))) ⟨_, _, rfl, Lst.start _, [], none, 0, 0, [], r197, rfl, rfl, z7, SlR.nil _ _ _ _ _⟩) ?_
  rintro fu4 e1 _ _ ⟨tl3, k5, hn247, hk246, b_cries2, a240, n244, c241, Lb242, r248, rfl, rfl, he249, hz243⟩
  refine shW_env _ he249 (wsr (uv (v_lssK rfl rfl) ?_))
  refine shO_nil (shW_seq ?_)
  refine cQ (fun c251 => ?_) fun c251 => ?_
  ·obtain ⟨x2, tl4, rfl, hx253, g254, hk252⟩ := Lst.succ hk246 c251
   rw [oyezlaw07_BookRounds_l4] at r248
   refine shW_skip (shW_seq ?_)
   refine shW_block ?_
   refine wsr (um ?_)
   obtain ⟨b255, o256, c257, vs258, ha259, hs260, hle261, ⟨_, _, rfl, rfl, rfl⟩, hl262, hc263⟩ := RowR.at (prE_ok (iE_ok _) (iE_ok _)) h84 ((b119, ce #[.int .i64 n, .int .i64 (l3.length : Int), .slice a120 n124 c121, .slice a190 n194 c191, .slice a240 n244 c241] 43) :: ((b30, ce #[.slice a17 l.length c18, .slice a20 l2.length c21, .int .i64 n, .int .i64 n2, .slice a23 l3.length c24] 26) :: (Lb74 ++ (Lb122 ++ (Lb192 ++ (Lb242 ++ [])))))) g254.1 hx253
   refine uv (v_indexO underlying30 sizeOf47 rfl ha259 rfl g254) (uv (v_loadA isAgg47 sizeOf47 rfl hs260 hle261 (extract_cells hle261 hl262 hc263)) ?_)
   refine o_alloc rfl zeroValue47 ?_; intro b264 hb264
   refine ua (o_storeA (i := 0) sizeOf47 rfl rfl rfl (by simp [Value.oneCell']) rfl (nbL rfl) (shO_L rfl ?_))
   refine shO_nil (shW_seq ?_)
   obtain ⟨k6, h265, r266⟩ := b1_ok r248
   refine jE (((b264, ce #[.int .i64 x2.1, .int .i64 x2.2] 47) :: ((b119, ce #[.int .i64 n, .int .i64 (l3.length : Int), .slice a120 n124 c121, .slice a190 n194 c191, .slice a240 n244 c241] 43) :: ((b30, ce #[.slice a17 l.length c18, .slice a20 l2.length c21, .int .i64 n, .int .i64 n2, .slice a23 l3.length c24] 26) :: (Lb74 ++ (Lb122 ++ (Lb192 ++ (Lb242 ++ [])))))))) [(5, .pointer (some ⟨b30, 0, none⟩)), (9, .slice a72 n76 c73), (10, .slice a91 l6.length c92), (13, .pointer (some ⟨b119, 0, none⟩)), (16, .int .i64 k5), (17, .pointer (some ⟨b264, 0, none⟩)), (124, .slice a37 l4.length c38), (125, .int .i64 (l4.length : Int)), (126, .int .i64 k5), (168, .bool k6)] ?_ ?_
   ·clear r266
    refine shW_region (um (um ?_))
    obtain ⟨x3, g267, hx268, r269⟩ := ix_ok h265
    obtain ⟨b270, o271, c272, vs273, ha274, hs275, hle276, rfl, hl277, hc278⟩ := SlR.at (iE_ok _) hz75 (L := (b264, ce #[.int .i64 x2.1, .int .i64 x2.2] 47) :: ((b119, ce #[.int .i64 n, .int .i64 (l3.length : Int), .slice a120 n124 c121, .slice a190 n194 c191, .slice a240 n244 c241] 43) :: ((b30, ce #[.slice a17 l.length c18, .slice a20 l2.length c21, .int .i64 n, .int .i64 n2, .slice a23 l3.length c24] 26) :: (Lb74 ++ (Lb122 ++ (Lb192 ++ (Lb242 ++ []))))))) (fC (fC (fC fP))) g267.1 hx268
    refine uv (v_indexO underlying35 sizeOf3 rfl ha274 rfl (SlR.idx hz75 g267)) (uv (v_load isAgg3 rfl hs275 (hc278 0 (by decide))) (uv (v_lssK rfl rfl) (um ?_)))
    by_cases c279 : x3 < 0
    ·have r280 := ite_t r269 c279
     refine fT c279 (fT c279 (fT c279 (fT c279 (fT c279 ?_))))
     refine uv (v_pick_t (evD_true rfl c279) rfl) ?_
     refine um (shO_off (b' := true) 143 rfl rfl rfl rfl (shO_off (b' := true) 143 rfl rfl rfl rfl (shO_off (b' := true) 143 rfl rfl rfl rfl ?_)))
     refine uv (v_pick_t rfl rfl) ?_
     refine um (shO_off (b' := true) 148 rfl rfl rfl rfl (shO_off (b' := true) 148 rfl rfl rfl rfl (shO_off (b' := true) 148 rfl rfl rfl rfl (shO_off (b' := true) 148 rfl rfl rfl rfl (shO_off (b' := true) 148 rfl rfl rfl rfl (shO_off (b' := true) 148 rfl rfl rfl rfl ?_))))))
     refine uv (v_pick_t rfl rfl) ?_
     refine um (shO_off (b' := true) 156 rfl rfl rfl rfl (shO_off (b' := true) 156 rfl rfl rfl rfl (shO_off (b' := true) 156 rfl rfl rfl rfl ?_)))
     refine uv (v_pick_t rfl rfl) ?_
     refine um (shO_off (b' := true) 161 rfl rfl rfl rfl (shO_off (b' := true) 161 rfl rfl rfl rfl (shO_off (b' := true) 161 rfl rfl rfl rfl (shO_off (b' := true) 161 rfl rfl rfl rfl (shO_off (b' := true) 161 rfl rfl rfl rfl (shO_off (b' := true) 161 rfl rfl rfl rfl ?_))))))
     refine uv (v_pick_t rfl rfl) (shO_nil ?_)
     obtain rfl := inj1 r280
     exact mi kr ⟨rfl, rfl, (sc rfl (sc rfl z8))⟩
    have r281 := ite_f r269 c279
    refine nF c279 (um (nF c279 (um (nF c279 ?_))))
    obtain ⟨b282, o283, c284, vs285, ha286, hs287, hle288, rfl, hl289, hc290⟩ := SlR.at (iE_ok _) hz75 (L := (b264, ce #[.int .i64 x2.1, .int .i64 x2.2] 47) :: ((b119, ce #[.int .i64 n, .int .i64 (l3.length : Int), .slice a120 n124 c121, .slice a190 n194 c191, .slice a240 n244 c241] 43) :: ((b30, ce #[.slice a17 l.length c18, .slice a20 l2.length c21, .int .i64 n, .int .i64 n2, .slice a23 l3.length c24] 26) :: (Lb74 ++ (Lb122 ++ (Lb192 ++ (Lb242 ++ []))))))) (fC (fC (fC fP))) g267.1 hx268
    refine uv (v_indexO underlying35 sizeOf3 rfl ha286 rfl (SlR.idx hz75 g267)) (nF c279 (uv (v_load isAgg3 rfl hs287 (hc290 0 (by decide))) (nF c279 (uv (v_gtrK rfl rfl) (uv (v_pick_f (evD_false rfl c279) rfl) (um ?_))))))
    by_cases c291 : 200 < x3
    ·have r292 := ite_t r281 c291
     refine fT c291 (fT c291 (fT c291 ?_))
     refine uv (v_pick_t (evD_true rfl c291) rfl) ?_
     refine um (shO_off (b' := true) 148 rfl rfl rfl rfl (shO_off (b' := true) 148 rfl rfl rfl rfl (shO_off (b' := true) 148 rfl rfl rfl rfl (shO_off (b' := true) 148 rfl rfl rfl rfl (shO_off (b' := true) 148 rfl rfl rfl rfl (shO_off (b' := true) 148 rfl rfl rfl rfl ?_))))))
     refine uv (v_pick_t rfl rfl) ?_
     refine um (shO_off (b' := true) 156 rfl rfl rfl rfl (shO_off (b' := true) 156 rfl rfl rfl rfl (shO_off (b' := true) 156 rfl rfl rfl rfl ?_)))
     refine uv (v_pick_t rfl rfl) ?_
     refine um (shO_off (b' := true) 161 rfl rfl rfl rfl (shO_off (b' := true) 161 rfl rfl rfl rfl (shO_off (b' := true) 161 rfl rfl rfl rfl (shO_off (b' := true) 161 rfl rfl rfl rfl (shO_off (b' := true) 161 rfl rfl rfl rfl (shO_off (b' := true) 161 rfl rfl rfl rfl ?_))))))
     refine uv (v_pick_t rfl rfl) (shO_nil ?_)
     obtain rfl := inj1 r292
     exact mi kr ⟨rfl, rfl, (sc rfl (sc rfl z8))⟩
    have r293 := ite_f r281 c291
    refine nF c291 (uv (v_fieldAddr fa_47_0 rfl) (nF c291 (uv (v_load isAgg3 rfl (Has.own 0 rfl) rfl) (nF c291 (uv (v_lssK rfl rfl) (uv (v_pick_f (evD_false rfl c291) rfl) (um ?_)))))))
    by_cases c294 : x2.1 < 0
    ·have r295 := ite_t r293 c294
     refine fT c294 (fT c294 (fT c294 (fT c294 (fT c294 (fT c294 ?_)))))
     refine uv (v_pick_t (evD_true rfl c294) rfl) ?_
     refine um (shO_off (b' := true) 156 rfl rfl rfl rfl (shO_off (b' := true) 156 rfl rfl rfl rfl (shO_off (b' := true) 156 rfl rfl rfl rfl ?_)))
     refine uv (v_pick_t rfl rfl) ?_
     refine um (shO_off (b' := true) 161 rfl rfl rfl rfl (shO_off (b' := true) 161 rfl rfl rfl rfl (shO_off (b' := true) 161 rfl rfl rfl rfl (shO_off (b' := true) 161 rfl rfl rfl rfl (shO_off (b' := true) 161 rfl rfl rfl rfl (shO_off (b' := true) 161 rfl rfl rfl rfl ?_))))))
     refine uv (v_pick_t rfl rfl) (shO_nil ?_)
     obtain rfl := inj1 r295
     exact mi kr ⟨rfl, rfl, (sc rfl (sc rfl z8))⟩
    have r296 := ite_f r293 c294
    refine nF c294 (uv (v_fieldAddr fa_47_0 rfl) (nF c294 (uv (v_load isAgg3 rfl (Has.own 0 rfl) rfl) (nF c294 (uv (v_fieldAddr fa_26_1 rfl) (nF c294 (uv (v_load isAgg23 rfl (Has.own 2 rfl) rfl) ?_)))))))
    refine nF c294 (uv (v_lenS underlying23 rfl) (nF c294 (uv (v_geqK rfl rfl) (uv (v_pick_f (evD_false rfl c294) rfl) (um ?_)))))
    by_cases c297 : (l2.length : Int) ≤ x2.1
    ·have r298 := ite_t r296 c297
     refine fT c297 (fT c297 (fT c297 ?_))
     refine uv (v_pick_t (evD_true rfl c297) rfl) ?_
     refine um (shO_off (b' := true) 161 rfl rfl rfl rfl (shO_off (b' := true) 161 rfl rfl rfl rfl (shO_off (b' := true) 161 rfl rfl rfl rfl (shO_off (b' := true) 161 rfl rfl rfl rfl (shO_off (b' := true) 161 rfl rfl rfl rfl (shO_off (b' := true) 161 rfl rfl rfl rfl ?_))))))
     refine uv (v_pick_t rfl rfl) (shO_nil ?_)
     obtain rfl := inj1 r298
     exact mi kr ⟨rfl, rfl, (sc rfl (sc rfl z8))⟩
    have r299 := ite_f r296 c297
    refine nF c297 (uv (v_fieldAddr fa_47_1 rfl) (nF c297 (uv (v_load isAgg3 rfl (Has.own 0 rfl) rfl) (nF c297 (uv (v_lssK rfl rfl) (uv (v_pick_f (evD_false rfl c297) rfl) (um ?_)))))))
    by_cases c300 : x2.2 < 0
    ·have r301 := ite_t r299 c300
     refine fT c300 (fT c300 (fT c300 (fT c300 (fT c300 (fT c300 ?_)))))
     refine uv (v_pick_t (evD_true rfl c300) rfl) (shO_nil ?_)
     obtain rfl := inj1 r301
     exact mi kr ⟨rfl, rfl, (sc rfl (sc rfl z8))⟩
    have r302 := ite_f r299 c300
    refine nF c300 (uv (v_fieldAddr fa_47_1 rfl) (nF c300 (uv (v_load isAgg3 rfl (Has.own 0 rfl) rfl) (nF c300 (uv (v_fieldAddr fa_26_4 rfl) (nF c300 (uv (v_load isAgg24 rfl (Has.own 2 rfl) rfl) ?_)))))))
    refine nF c300 (uv (v_lenS underlying24 rfl) (nF c300 (uv (v_geqK rfl rfl) (uv (v_pick_f (evD_false rfl c300) rfl) (shO_nil ?_)))))
    obtain rfl := inj1 r302
    exact mi kr ⟨rfl, rfl, (sc rfl (sc rfl z8))⟩
   refine shW_cond rfl (fun c304 => ?_) (fun c304 => ?_)
   ·have r305 := bt r266 c304
    refine wsr (ua (shO_nil ?_))
    refine kW kn ?_
    refine shW_ret (andThen_ret (inBlock_ret (andThen_ret (andThen_ret (inBlock_ret (andThen_ret ?_))))))
    refine qR1 results3 ?_
    obtain rfl := inj1 r305
    exact rfl
   have r306 := bf r266 c304
   refine shW_skip (shW_drawM [(.still, 0), (.still, 1), (.still, 2), (.still, 3), (.still, 4), (.still, 5), (.still, 6), (.still, 7), (.still, 8), (.still, 9), (.still, 10), (.still, 11), (.still, 12), (.seq, 13), (.seq, 14), (.still, 15), (.seq, 16)] (by kernel_rfl) (by kernel_rfl) (trivial) (by rfl) (by kernel_rfl) (mS [13] rfl (v_fieldAddr fa_43_4 rfl) (mL [169] ([(b119, ce #[.int .i64 n, .int .i64 (l3.length : Int), .slice a120 n124 c121, .slice a190 n194 c191, .slice a240 n244 c241] 43)]) rfl (s0 (s1 (s2 (s1 (s3 (s3 (s3 (s3 sr)))))))) (fun H F' L' hF' hL' => v_load isAgg41 rfl ((Has.own 0 rfl).ext hF' hL') rfl) (mS [9] rfl (v_move rfl) (mS [16] rfl (v_move rfl) ?_)))))
   obtain ⟨x4, g307, hx308, r309⟩ := ix_ok r306
   obtain ⟨b310, o311, c312, vs313, ha314, hs315, hle316, rfl, hl317, hc318⟩ := SlR.at (iE_ok _) hz75 (L := Lb74 ++ []) fP g307.1 hx308
   refine mS [171, 172] rfl (v_indexO underlying35 sizeOf3 rfl ha314 rfl (SlR.idx hz75 g307)) (mL [173] (Lb74 ++ []) rfl (s0 (s1 (s1 (s1 (s4 (s3 (s3 (s3 sr)))))))) (fun H F' L' hF' hL' => v_load isAgg3 rfl (hs315.ext hF' hL') (hc318 0 (by decide))) ?_)
   obtain ⟨g319, r320⟩ := gd_ok r309
   refine mS (v := .int .i64 (x4 * 7)) [174] rfl (v_mul rfl rfl g319) ?_
   obtain ⟨g321, r322⟩ := gd_ok r320
   refine mS (v := .int .i64 (Int.tdiv (x4 * 7) 200)) [175] rfl (v_quoT rfl rfl g321) (mS [17] rfl (v_fieldAddr fa_47_0 rfl) (mL [177] ([(b264, ce #[.int .i64 x2.1, .int .i64 x2.2] 47)]) rfl (s0 (s2 (s1 (s1 (s3 (s3 (s3 (s3 sr)))))))) (fun H F' L' hF' hL' => v_load isAgg3 rfl ((Has.own 0 rfl).ext hF' hL') rfl) (mS [17] rfl (v_fieldAddr fa_47_1 rfl) (mL [179] ([(b264, ce #[.int .i64 x2.1, .int .i64 x2.2] 47)]) rfl (s0 (s2 (s1 (s1 (s3 (s3 (s3 (s3 sr)))))))) (fun H F' L' hF' hL' => v_load isAgg3 rfl ((Has.own 0 rfl).ext hF' hL') rfl) ?_))))
   refine mS (v := .agg #[.int .i64 (Int.tdiv (x4 * 7) 200), .int .i64 x2.1, .int .i64 x2.2]) [176, 178, 180] rfl (v_build (v := .agg #[.int .i64 (Int.tdiv (x4 * 7) 200), .int .i64 x2.1, .int .i64 x2.2]) rfl (by intro w; kernel_rfl)) ?_
   refine ⟨_, [(181, .agg #[.int .i64 (Int.tdiv (x4 * 7) 200), .int .i64 x2.1, .int .i64 x2.2])], rfl, rfl, z1, by kernel_rfl, ?_⟩; intro H
   refine bA (cs := #[.int .i64 (Int.tdiv (x4 * 7) 200), .int .i64 x2.1, .int .i64 x2.2]) slt_41 [.agg #[.int .i64 (Int.tdiv (x4 * 7) 200), .int .i64 x2.1, .int .i64 x2.2]] ?_; intro b323 hb323
   refine shO_nil ⟨_, rfl, FExt.refl _, [3, 2, 1, 0], by kernel_rfl, .inl (.inr (fun d h => by cases h; rfl)), (fc sm (fc sm (fc (s0 (s1 (s1 (s2 (s1 (s3 (s3 (s3 (s3 sr))))))))) (fc sm nm)))), ?_⟩
   refine ⟨_, [(170, .slice a240 n244 c241), (182, .slice (some ⟨b323, 0, none⟩) 1 1)], rfl, rfl, z2, by kernel_rfl, ?_⟩; intro H
   obtain ⟨l10, h324, g325, r326⟩ := ap_ok r322
   refine o_appZ (xs := b_cries2) (ys := [(Int.tdiv (x4 * 7) 200, x2.1, x2.2)]) (zs := l10) rfl slt_41 rfl rfl (Nat.le_refl _) (fun _ => .c (.c (.c (.c (.s (.s (.s .h))))))) hz243 (SrcR.box (vss := [[.int .i64 (Int.tdiv (x4 * 7) 200), .int .i64 x2.1, .int .i64 x2.2]]) (ys := [(Int.tdiv (x4 * 7) 200, x2.1, x2.2)]) 0 rfl (prE_ok (iE_ok _) (prE_ok (iE_ok _) (iE_ok _))) (.cons ⟨_, _, rfl, rfl, ⟨_, _, rfl, rfl, rfl⟩⟩ .nil) rfl rfl) h324 g325 (by decide) ?_; intro a327 n331 c328 Lb329 hz330
   refine kO (kd kr) ?_
   refine shO_nil ⟨_, rfl, FExt.refl _, [3, 2], by kernel_rfl, .inl (.inr (fun d h => by cases h; rfl)), (fc sm (fc sm nm)), ?_⟩
   refine mS [13] rfl (v_fieldAddr fa_43_4 rfl) ?_
   refine ⟨_, [(183, .slice a327 n331 c328), (184, .pointer (some ⟨b119, 4, none⟩))], rfl, rfl, z2, by kernel_rfl, ?_⟩; intro H
   refine o_store (i := 1) sizeOf41 rfl rfl rfl rfl (nbL rfl) (shO_L rfl ?_)
   refine shO_nil ⟨undef, rfl, FExt.refl _, [], by kernel_rfl, .inl (.inl rfl), nm, ?_⟩
   refine shM_nil ?_
   refine inBlock_n (id := 5) (shW_region ?_)
   refine uv (v_add rfl rfl (Lst.r64 hk246 c251 (RowR.lt h84))) ?_
   refine um (shO_nil ?_)
   subst hn247; exact le (kd kr) ⟨_, _, rfl, hk252, l10, a327, n331, c328, Lb329, r326, rfl, rfl, z7, hz330⟩
  obtain rfl := Lst.zero hk246 c251
  rw [oyezlaw07_BookRounds_l4] at r248
  refine shW_exit (andThen_exit (andThen_exit ?_))
  refine inBlock_exit ?_
  exact mi (kc (kc (kx kr))) ⟨b_cries2, a240, n244, c241, Lb242, r248, rfl, rfl, z3, hz243⟩
 rintro e1 _ _ ⟨b_cries, a234, n238, c235, Lb236, r333, rfl, rfl, he334, hz237⟩
 refine shW_env _ he334 ?_
 rw [oyezlaw07_BookRounds_j3] at r333
 refine wsr (uv (v_loadA isAgg43 sizeOf43 rfl (Has.own 0 rfl) (nbL rfl) rfl) ?_)
 obtain rfl := (SlR.caps hz123).1
 refine shO_freezeR (Nat.le_refl _) (slE_ok (slE_ok (iE_ok _))) (fC (fC fP)) hz123 ?_; intro F335 hF336 h337
 replace h81 := h81.mono (prE_ok (slE_ok (iE_ok _)) (prE_ok (iE_ok _) (iE_ok _))) hF336
 replace h93 := h93.mono (slE_ok (iE_ok _)) hF336
 replace hz193 := hz193.mono (iE_ok _) hF336
 replace hz237 := hz237.mono (prE_ok (iE_ok _) (prE_ok (iE_ok _) (iE_ok _))) hF336
 obtain rfl := (SlR.caps hz193).1
 refine shO_freezeR (Nat.le_refl _) (iE_ok _) (fC (fC fP)) hz193 ?_; intro F338 hF339 h340
 replace h81 := h81.mono (prE_ok (slE_ok (iE_ok _)) (prE_ok (iE_ok _) (iE_ok _))) hF339
 replace h93 := h93.mono (slE_ok (iE_ok _)) hF339
 replace h337 := h337.mono (slE_ok (slE_ok (iE_ok _))) hF339
 replace hz237 := hz237.mono (prE_ok (iE_ok _) (prE_ok (iE_ok _) (iE_ok _))) hF339
 obtain rfl := (SlR.caps hz237).1
 refine shO_freezeR (Nat.le_refl _) (prE_ok (iE_ok _) (prE_ok (iE_ok _) (iE_ok _))) (fC (fC fP)) hz237 ?_; intro F341 hF342 h343
 replace h81 := h81.mono (prE_ok (slE_ok (iE_ok _)) (prE_ok (iE_ok _) (iE_ok _))) hF342
 replace h93 := h93.mono (slE_ok (iE_ok _)) hF342
 replace h337 := h337.mono (slE_ok (slE_ok (iE_ok _))) hF342
 replace h340 := h340.mono (iE_ok _) hF342
 obtain ⟨l11, n8, h344, r345⟩ := b2_ok r333
 refine c0 call12 (book_Verdicts_w h337 h340 h343 h344) ?_; rintro _ F346 _ hF347 hn348 ⟨a350, c351, rfl, rfl, h352⟩
 replace h81 := h81.mono (prE_ok (slE_ok (iE_ok _)) (prE_ok (iE_ok _) (iE_ok _))) hF347
 replace h93 := h93.mono (slE_ok (iE_ok _)) hF347
 replace h337 := h337.mono (slE_ok (slE_ok (iE_ok _))) hF347
 replace h340 := h340.mono (iE_ok _) hF347
 replace h343 := h343.mono (prE_ok (iE_ok _) (prE_ok (iE_ok _) (iE_ok _))) hF347
 refine shO_L (ln rfl) ?_
 refine um (ox rfl rfl rfl (ox rfl rfl rfl (ua (ua (shO_nil (shW_seq ?_))))))
 obtain ⟨k7, h353, r354⟩ := b1_ok r345
 refine jE ([(b119, ce #[.int .i64 n, .int .i64 (l3.length : Int), .slice a120 b_hears.length c121, .slice a190 b_readings.length c191, .slice a234 b_cries.length c235] 43), (b30, ce #[.slice a17 l.length c18, .slice a20 l2.length c21, .int .i64 n, .int .i64 n2, .slice a23 l3.length c24] 26)]) [(5, .pointer (some ⟨b30, 0, none⟩)), (10, .slice a91 l6.length c92), (13, .pointer (some ⟨b119, 0, none⟩)), (18, .slice a350 l11.length c351), (199, .bool k7)] ?_ ?_
 ·clear r354
  refine shW_region (um ?_)
  refine uv (v_neq rfl rfl) (um ?_)
  by_cases c355 : n8 ≠ 0
  ·have r356 := ite_t h353 c355
   refine fT c355 (fT c355 (fT c355 (fT c355 (fT c355 ?_))))
   refine uv (v_pick_t (evD_true rfl c355) rfl) (shO_nil ?_)
   obtain rfl := inj1 r356
   exact mi kr ⟨rfl, rfl, z5⟩
  have r357 := ite_f h353 c355
  refine nF c355 (um (nF c355 ?_))
  refine uv (v_lenS underlying50 rfl) (nF c355 (uv (v_fieldAddr fa_26_2 rfl) (nF c355 (uv (v_load isAgg3 rfl (Has.own 1 rfl) rfl) (nF c355 (uv (v_neq rfl rfl) (uv (v_pick_f (evD_false rfl c355) rfl) ?_)))))))
  refine shO_nil ?_
  obtain rfl := inj1 r357
  exact mi kr ⟨rfl, rfl, z5⟩
 refine shW_cond rfl (fun c359 => ?_) (fun c359 => ?_)
 ·have r360 := bt r354 c359
  refine wsr (ua (shO_nil ?_))
  refine kW kn ?_
  refine shW_ret (andThen_ret ?_)
  refine qR1 results3 ?_
  obtain rfl := inj1 r360
  exact rfl
 have r361 := bf r354 c359
 refine shW_skip ?_
 refine shW_join (fun e1 F1 L1 => oyezlaw07_BookRounds_j5 = some r ∧ F346 = F1 ∧ L1 = [] ∧ e1.sub []) ?_ ?_
 ·refine wsr (um ?_)
  refine uv (v_lenS underlying50 rfl) ?_
  refine um (shO_nil ?_)
  refine shW_block ?_
  refine shW_lp (fun fu6 e1 F1 L1 => LA l11 fu6 fun tl5 k8 => oyezlaw07_BookRounds_l6 n l3 l6 b_hears b_readings b_cries tl5 k8 = some r ∧ F346 = F1 ∧ L1 = [(b119, ce #[.int .i64 n, .int .i64 (l3.length : Int), .slice a120 b_hears.length c121, .slice a190 b_readings.length c191, .slice a234 b_cries.length c235] 43), (b30, ce #[.slice a17 l.length c18, .slice a20 l2.length c21, .int .i64 n, .int .i64 n2, .slice a23 l3.length c24] 26)] ∧ e1.sub [(5, .pointer (some ⟨b30, 0, none⟩)), (10, .slice a91 l6.length c92), (13, .pointer (some ⟨b119, 0, none⟩)), (200, .slice a350 l11.length c351), (201, .int .i64 (l11.length : Int)), (202, .int .i64 k8)]) _ (m0 kr ⟨_, _, rfl, Lst.start _, r361, rfl, rfl, z6⟩) ?_
  rintro fu6 e1 _ _ ⟨tl5, k8, hn363, hk362, r364, rfl, rfl, he365⟩
  refine shW_env _ he365 (wsr (uv (v_lssK rfl rfl) ?_))
  refine shO_nil (shW_seq ?_)
  refine cQ (fun c367 => ?_) fun c367 => ?_
  ·obtain ⟨x5, tl6, rfl, hx369, g370, hk368⟩ := Lst.succ hk362 c367
   rw [oyezlaw07_BookRounds_l6] at r364
   refine shW_skip ?_
   refine shW_join (fun e1 F1 L1 => oyezlaw07_BookRounds_j7 k8 (oyezlaw07_BookRounds_l6 n l3 l6 b_hears b_readings b_cries tl6) = some r ∧ F346 = F1 ∧ L1 = [(b119, ce #[.int .i64 n, .int .i64 (l3.length : Int), .slice a120 b_hears.length c121, .slice a190 b_readings.length c191, .slice a234 b_cries.length c235] 43), (b30, ce #[.slice a17 l.length c18, .slice a20 l2.length c21, .int .i64 n, .int .i64 n2, .slice a23 l3.length c24] 26)] ∧ e1.sub [(5, .pointer (some ⟨b30, 0, none⟩)), (10, .slice a91 l6.length c92), (13, .pointer (some ⟨b119, 0, none⟩)), (200, .slice a350 l11.length c351), (201, .int .i64 (l11.length : Int)), (202, .int .i64 k8)]) ?_ ?_
   ·refine shW_block ?_
    refine wsr (um ?_)
    obtain ⟨b371, o372, c373, vs374, ha375, hs376, hle377, ⟨a380, c381, rfl, h382⟩, hl378, hc379⟩ := RowR.at (slE_ok (iE_ok _)) h352 ([(b119, ce #[.int .i64 n, .int .i64 (l3.length : Int), .slice a120 b_hears.length c121, .slice a190 b_readings.length c191, .slice a234 b_cries.length c235] 43), (b30, ce #[.slice a17 l.length c18, .slice a20 l2.length c21, .int .i64 n, .int .i64 n2, .slice a23 l3.length c24] 26)]) g370.1 hx369
    refine uv (v_indexO underlying50 sizeOf53 rfl ha375 rfl g370) (uv (v_load isAgg53 rfl hs376 (hc379 0 (by decide))) ?_)
    refine ua (ua (shO_nil (shW_seq (wsr (um ?_)))))
    refine uv (v_lenS underlying53 rfl) (uv (v_fieldAddr fa_26_4 rfl) (uv (v_load isAgg24 rfl (Has.own 1 rfl) rfl) (uv (v_lenS underlying24 rfl) (uv (v_neq rfl rfl) (shO_nil ?_)))))
    refine cQ (fun c383 => ?_) fun c383 => ?_
    ·have r384 := ite_t r364 c383
     refine wsr (ua (shO_nil ?_))
     refine kW kn ?_
     refine shW_ret (andThen_ret (inBlock_ret (andThen_ret (andThen_ret (inBlock_ret (andThen_ret ?_))))))
     refine qR1 results3 ?_
     obtain rfl := inj1 r384
     exact rfl
    have r385 := ite_f r364 c383
    refine shW_skip (wsr (um ?_))
    refine uv (v_lenS underlying53 rfl) ?_
    refine um (shO_nil ?_)
    refine shW_block ?_
    refine shW_lp (fun fu8 e1 F1 L1 => LA x5 fu8 fun tl7 k9 => oyezlaw07_BookRounds_l8 n l3 l6 b_hears b_readings b_cries k8 (oyezlaw07_BookRounds_l6 n l3 l6 b_hears b_readings b_cries tl6) tl7 k9 = some r ∧ F346 = F1 ∧ L1 = [(b119, ce #[.int .i64 n, .int .i64 (l3.length : Int), .slice a120 b_hears.length c121, .slice a190 b_readings.length c191, .slice a234 b_cries.length c235] 43), (b30, ce #[.slice a17 l.length c18, .slice a20 l2.length c21, .int .i64 n, .int .i64 n2, .slice a23 l3.length c24] 26)] ∧ e1.sub [(5, .pointer (some ⟨b30, 0, none⟩)), (10, .slice a91 l6.length c92), (13, .pointer (some ⟨b119, 0, none⟩)), (19, .int .i64 k8), (200, .slice a350 l11.length c351), (201, .int .i64 (l11.length : Int)), (202, .int .i64 k8), (213, .slice a380 x5.length c381), (214, .int .i64 (x5.length : Int)), (215, .int .i64 k9)]) _ (m0 kr ⟨_, _, rfl, Lst.start _, r385, rfl, rfl, (sc rfl (sc rfl z8))⟩) ?_
    rintro fu8 e1 _ _ ⟨tl7, k9, hn387, hk386, r388, rfl, rfl, he389⟩
    refine shW_env _ he389 (wsr (uv (v_lssK rfl rfl) ?_))
    refine shO_nil (shW_seq ?_)
    refine cQ (fun c391 => ?_) fun c391 => ?_
    ·obtain ⟨x6, tl8, rfl, hx393, g394, hk392⟩ := Lst.succ hk386 c391
     rw [oyezlaw07_BookRounds_l8] at r388
     refine shW_skip (shW_seq ?_)
     refine shW_block ?_
     refine wsr (um ?_)
     obtain ⟨b395, o396, c397, vs398, ha399, hs400, hle401, rfl, hl402, hc403⟩ := RowR.at (iE_ok _) h382 ([(b119, ce #[.int .i64 n, .int .i64 (l3.length : Int), .slice a120 b_hears.length c121, .slice a190 b_readings.length c191, .slice a234 b_cries.length c235] 43), (b30, ce #[.slice a17 l.length c18, .slice a20 l2.length c21, .int .i64 n, .int .i64 n2, .slice a23 l3.length c24] 26)]) g394.1 hx393
     refine uv (v_indexO underlying53 sizeOf54 rfl ha399 rfl g394) (uv (v_load isAgg54 rfl hs400 (hc403 0 (by decide))) ?_)
     refine ua (ua (nsr (ua (shO_nil (shW_seq ?_)))))
     refine dW ?_
     refine wm (wm ?_)
     obtain ⟨x7, g404, hx405, r406⟩ := ix_ok r388
     obtain ⟨b407, o408, c409, vs410, ha411, hs412, hle413, ⟨a416, c417, rfl, h418⟩, hl414, hc415⟩ := RowR.at (slE_ok (iE_ok _)) h93 ([(b119, ce #[.int .i64 n, .int .i64 (l3.length : Int), .slice a120 b_hears.length c121, .slice a190 b_readings.length c191, .slice a234 b_cries.length c235] 43), (b30, ce #[.slice a17 l.length c18, .slice a20 l2.length c21, .int .i64 n, .int .i64 n2, .slice a23 l3.length c24] 26)]) g404.1 hx405
     refine wv (v_indexO underlying23 sizeOf35 rfl ha411 rfl g404) (wv (v_load isAgg35 rfl hs412 (hc415 0 (by decide))) (wv (v_lenS underlying35 rfl) (wv (v_fieldAddr fa_26_2 rfl) (wv (v_load isAgg3 rfl (Has.own 1 rfl) rfl) (wv (v_neq rfl rfl) (shQ_nil ?_))))))
     refine cQ (fun c419 => ?_) fun c419 => ?_
     ·have r420 := ite_t r406 c419
      refine wsr (ua (shO_nil ?_))
      refine kW kn ?_
      refine shW_ret (andThen_ret (inBlock_ret (andThen_ret (andThen_ret (inBlock_ret (inBlock_ret (andThen_ret (andThen_ret (inBlock_ret ?_)))))))))
      refine andThen_ret (qR1 results3 ?_)
      obtain rfl := inj1 r420
      exact rfl
     have r421 := ite_f r406 c419
     refine shW_skip ?_
     obtain ⟨want, h422, r423⟩ := b1_ok r421
     refine jE ([(b119, ce #[.int .i64 n, .int .i64 (l3.length : Int), .slice a120 b_hears.length c121, .slice a190 b_readings.length c191, .slice a234 b_cries.length c235] 43), (b30, ce #[.slice a17 l.length c18, .slice a20 l2.length c21, .int .i64 n, .int .i64 n2, .slice a23 l3.length c24] 26)]) [(5, .pointer (some ⟨b30, 0, none⟩)), (10, .slice a91 l6.length c92), (13, .pointer (some ⟨b119, 0, none⟩)), (19, .int .i64 k8), (21, .int .i64 k9), (22, .int .i64 x6), (23, .int .i64 want), (200, .slice a350 l11.length c351), (201, .int .i64 (l11.length : Int)), (202, .int .i64 k8), (213, .slice a380 x5.length c381), (214, .int .i64 (x5.length : Int)), (215, .int .i64 k9)] ?_ ?_
     ·clear r423
      refine wsr (um (um ?_))
      obtain ⟨b424, o425, c426, vs427, ha428, hs429, hle430, ⟨a433, c434, rfl, h435⟩, hl431, hc432⟩ := RowR.at (slE_ok (iE_ok _)) h93 ([(b119, ce #[.int .i64 n, .int .i64 (l3.length : Int), .slice a120 b_hears.length c121, .slice a190 b_readings.length c191, .slice a234 b_cries.length c235] 43), (b30, ce #[.slice a17 l.length c18, .slice a20 l2.length c21, .int .i64 n, .int .i64 n2, .slice a23 l3.length c24] 26)]) g404.1 hx405
      refine uv (v_indexO underlying23 sizeOf35 rfl ha428 rfl g404) (uv (v_load isAgg35 rfl hs429 (hc432 0 (by decide))) (um ?_))
      obtain ⟨x8, g436, hx437, r438⟩ := ix_ok h422
      obtain ⟨b439, o440, c441, vs442, ha443, hs444, hle445, rfl, hl446, hc447⟩ := RowR.at (iE_ok _) h435 ([(b119, ce #[.int .i64 n, .int .i64 (l3.length : Int), .slice a120 b_hears.length c121, .slice a190 b_readings.length c191, .slice a234 b_cries.length c235] 43), (b30, ce #[.slice a17 l.length c18, .slice a20 l2.length c21, .int .i64 n, .int .i64 n2, .slice a23 l3.length c24] 26)]) g436.1 hx437
      refine uv (v_indexO underlying35 sizeOf3 rfl ha443 rfl g436) (uv (v_load isAgg3 rfl hs444 (hc447 0 (by decide))) (uv (v_neq rfl rfl) (shO_nil ?_)))
      refine cQ (fun c448 => ?_) fun c448 => ?_
      ·have r449 := ite_t r438 c448
       refine shW_region (ua (shO_nil ?_))
       obtain rfl := inj1 r449
       exact mi kr ⟨rfl, rfl, (sc rfl (sc rfl (sc rfl (sc rfl (sc rfl z8)))))⟩
      have r450 := ite_f r438 c448
      refine shW_skip ?_
      obtain rfl := inj1 r450
      exact mi kr ⟨rfl, rfl, (sc rfl (sc rfl (sc rfl (sc rfl (sc rfl z8)))))⟩
     refine shW_seq (wsr (um (um ?_)))
     refine uv (v_neq rfl rfl) (shO_nil ?_)
     refine cQ (fun c452 => ?_) fun c452 => ?_
     ·have r453 := ite_t r423 c452
      refine wsr (ua (shO_nil ?_))
      refine kW kn ?_
      refine shW_ret (andThen_ret (inBlock_ret (andThen_ret (andThen_ret (inBlock_ret (inBlock_ret (andThen_ret (andThen_ret (inBlock_ret ?_)))))))))
      refine andThen_ret (qR1 results3 ?_)
      obtain rfl := inj1 r453
      exact rfl
     have r454 := ite_f r423 c452
     refine shW_skip (wsr ?_)
     refine uv (v_loadA isAgg43 sizeOf43 rfl (Has.own 0 rfl) (nbL rfl) rfl) ?_
     refine um (um ?_)
     refine uv (v_build (v := .agg #[.int .i64 k8, .int .i64 k9, .bool false]) rfl (by intro w; kernel_rfl)) ?_
     obtain ⟨ok3, n9, h455, r456⟩ := b2_ok r454
     refine cV call13 (book_Refuted_w h337 h340 h343 h455) ?_
     refine um (ox rfl rfl rfl (ox rfl rfl rfl (ua (ua (shO_nil ?_)))))
     obtain ⟨k10, h457, r458⟩ := b1_ok r456
     refine jE ([(b119, ce #[.int .i64 n, .int .i64 (l3.length : Int), .slice a120 b_hears.length c121, .slice a190 b_readings.length c191, .slice a234 b_cries.length c235] 43), (b30, ce #[.slice a17 l.length c18, .slice a20 l2.length c21, .int .i64 n, .int .i64 n2, .slice a23 l3.length c24] 26)]) [(5, .pointer (some ⟨b30, 0, none⟩)), (10, .slice a91 l6.length c92), (13, .pointer (some ⟨b119, 0, none⟩)), (19, .int .i64 k8), (200, .slice a350 l11.length c351), (201, .int .i64 (l11.length : Int)), (202, .int .i64 k8), (213, .slice a380 x5.length c381), (214, .int .i64 (x5.length : Int)), (215, .int .i64 k9), (262, .bool k10)] ?_ ?_
     ·clear r458
      refine shW_region (um ?_)
      refine uv (v_neq rfl rfl) (um ?_)
      by_cases c459 : n9 ≠ 0
      ·have r460 := ite_t h457 c459
       refine fT c459 (fT c459 (fT c459 (fT c459 (fT c459 (fT c459 (fT c459 (fT c459 (fT c459 (fU ?_)))))))))
       refine fU (fT c459 ?_)
       refine uv (v_pick_t (evD_true rfl c459) rfl) (shO_nil ?_)
       obtain rfl := inj1 r460
       exact mi kr ⟨rfl, rfl, (sc rfl (sc rfl (sc rfl z8)))⟩
      have r461 := ite_f h457 c459
      refine nF c459 (uv (v_fieldAddr fa_26_4 rfl) (nF c459 (uv (v_load isAgg24 rfl (Has.own 1 rfl) rfl) ?_)))
      refine nF c459 (um (nF c459 ?_))
      obtain ⟨x9, g462, hx463, r464⟩ := ix_ok r461
      obtain ⟨b465, o466, c467, vs468, ha469, hs470, hle471, ⟨_, _, rfl, ⟨a474, c475, rfl, h476⟩, ⟨_, _, rfl, rfl, rfl⟩⟩, hl472, hc473⟩ := RowR.at (prE_ok (slE_ok (iE_ok _)) (prE_ok (iE_ok _) (iE_ok _))) h81 ([(b119, ce #[.int .i64 n, .int .i64 (l3.length : Int), .slice a120 b_hears.length c121, .slice a190 b_readings.length c191, .slice a234 b_cries.length c235] 43), (b30, ce #[.slice a17 l.length c18, .slice a20 l2.length c21, .int .i64 n, .int .i64 n2, .slice a23 l3.length c24] 26)]) g462.1 hx463
      refine uv (v_indexO underlying24 sizeOf61 rfl ha469 rfl g462) (nF c459 (uv (v_fieldAddr fa_61_0 rfl) (nF c459 (uv (v_load isAgg35 rfl hs470 (hc473 0 (by decide))) ?_))))
      refine nF c459 (um (nF c459 ?_))
      obtain ⟨ok4, h477, r478⟩ := b1_ok r464
      refine cV call14 (slices_Contains_int_int_w h476 h477) ?_
      refine nF c459 (um ?_)
      rcases bool_two ok4 with c479 | c479
      ·have r480 := bt r478 c479
       refine nB c479 (um (nB c479 ?_))
       refine uv (v_notB rfl) (nF c459 (uv (v_pick_t (evB rfl c479) rfl) (uv (v_pick_f (evD_false rfl c459) rfl) (shO_nil ?_))))
       obtain rfl := inj1 r480
       exact mi kr ⟨rfl, rfl, (sc rfl (sc rfl (sc rfl z8)))⟩
      have r481 := bf r478 c479
      refine fB c479 (fB c479 (nF c459 ?_))
      refine uv (v_pick_f (evB rfl c479) rfl) (uv (v_pick_f (evD_false rfl c459) rfl) (shO_nil ?_))
      obtain rfl := inj1 r481
      exact mi kr ⟨rfl, rfl, (sc rfl (sc rfl (sc rfl z8)))⟩
     refine shW_cond rfl (fun c483 => ?_) (fun c483 => ?_)
     ·have r484 := bt r458 c483
      refine wsr (ua (shO_nil ?_))
      refine kW kn ?_
      refine shW_ret (inBlock_ret (andThen_ret (andThen_ret (inBlock_ret (inBlock_ret (andThen_ret (andThen_ret (inBlock_ret (andThen_ret ?_)))))))))
      refine qR1 results3 ?_
      obtain rfl := inj1 r484
      exact rfl
     have r485 := bf r458 c483
     refine shW_skip (inBlock_n (id := 9) (shW_region ?_))
     refine uv (v_add rfl rfl (Lst.r64 hk386 c391 (RowR.lt h382))) ?_
     refine um (shO_nil ?_)
     subst hn387; exact le kr ⟨_, _, rfl, hk392, r485, rfl, rfl, (sc rfl (sc rfl z8))⟩
    obtain rfl := Lst.zero hk386 c391
    rw [oyezlaw07_BookRounds_l8] at r388
    refine shW_exit (andThen_exit (andThen_exit ?_))
    refine inBlock_exit (inBlock_n (id := 7) ?_)
    exact mi kr ⟨r388, rfl, rfl, z6⟩
   rintro e1 _ _ ⟨r486, rfl, rfl, he487⟩
   refine shW_env _ he487 ?_
   rw [oyezlaw07_BookRounds_j7] at r486
   refine shW_region (uv (v_add rfl rfl (Lst.r64 hk362 c367 (RowR.lt h352))) ?_)
   refine um (shO_nil ?_)
   subst hn363; exact le kr ⟨_, _, rfl, hk368, r486, rfl, rfl, z6⟩
  obtain rfl := Lst.zero hk362 c367
  rw [oyezlaw07_BookRounds_l6] at r364
  refine shW_exit (andThen_exit (andThen_exit ?_))
  refine inBlock_exit ?_
  exact mi kn ⟨r364, rfl, rfl, (sn _)⟩
 rintro e1 _ _ ⟨r488, rfl, rfl, he489⟩
 refine shW_env _ he489 ?_
 rw [oyezlaw07_BookRounds_j5] at r488
 refine wsr ?_
 obtain ⟨ok5, h490, r491⟩ := b1_ok r488
 refine cV call7 (oyezlaw07_awake_w h490) ?_
 refine ua (shO_nil (shW_ret ?_))
 refine qR1 results3 ?_
 obtain rfl := inj1 r491
 exact rfl
end Go.Proofs.YtggpjocmoelpbaaGreat
