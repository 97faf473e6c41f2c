/- The walks that this claim needs, printed by a program of mine; part 2. -/
import Derived.Test.YtggpjocmoelpbaaGreatZANA1
namespace Go.Proofs.YtggpjocmoelpbaaGreat
open Go.SH Go.PL
open Tryz 
variable {eq : ((List Int) × (List Int)) → Option Bool} {eq_1 eq_2 f_1 f_2 so_1 so_2 : Array Value} {heard : Bool} {F : FS} {eq_f f_f so_f : FuncId} {hour house houses n notice notices stand wind : Int} {complaints : List (Int × Int × Bool)} {cries : List (Int × Int × Int)} {hears : List (List (List Int))} {g got : List Bool} {course readings : List Int} {a_c b_c b_d b_so b_x complaints_c course_c cries_c hears_c l_c readings_c s1_c s2_c s__c : Nat} {mb_d mb_so mb_x : Nat × Nat} {a_a b_a complaints_a course_a cries_a hears_a l_a readings_a s1_a s2_a s__a : Option Addr}
set_option maxHeartbeats 1000000 in
theorem book_Book_listed_w {l : List Int} (h_hears : RowR 1 (slE 1 (slE 1 (iE .i64))) F hears_a hears_c hears) (h_readings : RowR 1 (iE .i64) F readings_a readings_c readings) (h_cries : RowR 3 (prE (iE .i64) (prE (iE .i64) (iE .i64))) F cries_a cries_c cries) (h_l : RowR 1 (iE .i64) F l_a l_c l) {r : Int} (hr : book_Book_listed houses notices hears readings cries l = some r) :
    SpecV Tryz.prog 60 #[.agg #[.int .i64 houses, .int .i64 notices, .slice hears_a hears.length hears_c, .slice readings_a readings.length readings_c, .slice cries_a cries.length cries_c], .slice l_a l.length l_c] F (.int .i64 r) := by
 refine sp func60 ntmps60 fun K _ _ => ?_
 rw [book_Book_listed] at hr
 refine wsr ?_
 refine o_box rfl rfl ?_; intro b1 hb1
 refine ua (shO_nil ?_)
 refine shW_join (fun e1 F1 L1 => book_Book_listed_j1 = some r ∧ F = F1 ∧ L1 = [] ∧ e1.sub []) ?_ ?_
 ·refine wsr (um ?_)
  refine uv (v_lenS underlying35 rfl) ?_
  refine um (shO_nil ?_)
  refine shW_block ?_
  refine shW_lp (fun fu2 e1 F1 L1 => LA l fu2 fun tl k => book_Book_listed_l2 houses notices hears readings cries l tl k = some r ∧ F = F1 ∧ L1 = [(b1, ce #[.int .i64 houses, .int .i64 notices, .slice hears_a hears.length hears_c, .slice readings_a readings.length readings_c, .slice cries_a cries.length cries_c] 43)] ∧ e1.sub [(1, .slice l_a l.length l_c), (2, .pointer (some ⟨b1, 0, none⟩)), (7, .slice l_a l.length l_c), (8, .int .i64 (l.length : Int)), (9, .int .i64 k)]) _ (m0 kr ⟨_, _, rfl, Lst.start _, hr, rfl, rfl, z5⟩) ?_
  rintro fu2 e1 _ _ ⟨tl, k, hn3, hk2, r4, rfl, rfl, he5⟩
  refine shW_env _ he5 (wsr (uv (v_lssK rfl rfl) ?_))
  refine shO_nil (shW_seq ?_)
  refine cQ (fun c7 => ?_) fun c7 => ?_
  ·obtain ⟨x, tl2, rfl, hx9, g10, hk8⟩ := Lst.succ hk2 c7
   rw [book_Book_listed_l2] at r4
   refine shW_skip (shW_seq ?_)
   refine shW_block ?_
   refine wsr (um ?_)
   obtain ⟨b11, o12, c13, vs14, ha15, hs16, hle17, rfl, hl18, hc19⟩ := RowR.at (iE_ok _) h_l ([(b1, ce #[.int .i64 houses, .int .i64 notices, .slice hears_a hears.length hears_c, .slice readings_a readings.length readings_c, .slice cries_a cries.length cries_c] 43)]) g10.1 hx9
   refine uv (v_indexO underlying35 sizeOf3 rfl ha15 rfl g10) (uv (v_load isAgg3 rfl hs16 (hc19 0 (by decide))) ?_)
   refine ua (ua (shO_nil (shW_seq (wsr ?_))))
   refine uv (v_loadA isAgg43 sizeOf43 rfl (Has.own 0 rfl) (nbL rfl) rfl) (um ?_)
   obtain ⟨ok, h20, r21⟩ := b1_ok r4
   refine cV call94 (book_Book_house_w h_hears h_readings h_cries h20) (uv (v_notB rfl) (shO_nil ?_))
   refine shW_cond rfl (fun c22 => ?_) (fun c22 => ?_)
   ·have r23 := bt r21 c22
    refine wsr (ua (shO_nil ?_))
    refine kW kn ?_
    refine shW_ret (andThen_ret (inBlock_ret (andThen_ret (andThen_ret (inBlock_ret (andThen_ret ?_))))))
    refine qR1 results60 ?_
    obtain rfl := inj1 r23
    exact rfl
   have r24 := bf r21 c22
   refine shW_skip (wsr (um (um ?_)))
   obtain ⟨g25, r26⟩ := gd_ok r24
   obtain ⟨l2, h27, r28⟩ := bv_ok r26
   obtain ⟨a29, c30, h31, hvh31⟩ := RowR.slice (iE_ok _) h_l g25 h27
   refine uv ((v_slice (l := 0) (h := k) underlying35 sizeOf3 rfl (.inl ⟨rfl, rfl⟩) (.inr ⟨_, rfl, rfl⟩) hvh31.1).eq hvh31.2) (um ?_)
   obtain ⟨ok2, h33, r34⟩ := b1_ok r28
   refine cV call14 (slices_Contains_int_int_w h31 h33) (shO_nil ?_)
   refine shW_cond rfl (fun c35 => ?_) (fun c35 => ?_)
   ·have r36 := bt r34 c35
    refine wsr (ua (shO_nil ?_))
    refine kW kn ?_
    refine shW_ret (inBlock_ret (andThen_ret (andThen_ret (inBlock_ret (andThen_ret ?_)))))
    refine qR1 results60 ?_
    obtain rfl := inj1 r36
    exact rfl
   have r37 := bf r34 c35
   refine shW_skip (inBlock_n (id := 1) (shW_region ?_))
   refine uv (v_add rfl rfl (Lst.r64 hk2 c7 (RowR.lt h_l))) ?_
   refine um (shO_nil ?_)
   subst hn3; exact le kr ⟨_, _, rfl, hk8, r37, rfl, rfl, z5⟩
  obtain rfl := Lst.zero hk2 c7
  rw [book_Book_listed_l2] at r4
  refine shW_exit (andThen_exit (andThen_exit ?_))
  refine inBlock_exit ?_
  exact mi kn ⟨r4, rfl, rfl, (sn _)⟩
 rintro e1 _ _ ⟨r38, rfl, rfl, he39⟩
 refine shW_env _ he39 ?_
 rw [book_Book_listed_j1] at r38
 refine wsr (ua (shO_nil (shW_ret ?_)))
 refine qR1 results60 ?_
 obtain rfl := inj1 r38
 exact rfl
set_option maxHeartbeats 1000000 in
theorem slices_IndexFunc_int_int__w {s_ : List Int} {f : Int → Option Bool} (h_s_ : RowR 1 (iE .i64) F s__a s__c s_) (h_f : FnR Tryz.prog F f_f f_1 f_2 (iE .i64) Value.bool f) {r : Int} (hr : slices_IndexFunc_int_int_ s_ f = some r) :
    SpecV Tryz.prog 115 #[.slice s__a s_.length s__c, .func (.func f_f) f_1 f_2] F (.int .i64 r) := by
 refine sp func115 ntmps115 fun K _ _ => ?_
 rw [slices_IndexFunc_int_int_] at hr
 refine wsr (ua (shO_nil ?_))
 refine shW_join (fun e1 F1 L1 => slices_IndexFunc_int_int__j1 = some r ∧ F = F1 ∧ L1 = [] ∧ e1.sub []) ?_ ?_
 ·refine wsr (um ?_)
  refine uv (v_lenS underlying35 rfl) ?_
  refine um (shO_nil ?_)
  refine shW_block ?_
  refine shW_lp (fun fu2 e1 F1 L1 => LA s_ fu2 fun tl k => slices_IndexFunc_int_int__l2 f tl k = some r ∧ F = F1 ∧ L1 = [] ∧ e1.sub [(0, .slice s__a s_.length s__c), (1, .func (.func f_f) f_1 f_2), (7, .int .i64 (s_.length : Int)), (8, .int .i64 k)]) _ (m0 kr ⟨_, _, rfl, Lst.start _, hr, rfl, rfl, z4⟩) ?_
  rintro fu2 e1 _ _ ⟨tl, k, hn2, hk1, r3, rfl, rfl, he4⟩
  refine shW_env _ he4 (wsr (uv (v_lssK rfl rfl) ?_))
  refine shO_nil (shW_seq ?_)
  refine cQ (fun c6 => ?_) fun c6 => ?_
  ·obtain ⟨x, tl2, rfl, hx8, g9, hk7⟩ := Lst.succ hk1 c6
   rw [slices_IndexFunc_int_int__l2] at r3
   refine shW_skip (shW_seq ?_)
   refine shW_block ?_
   refine wsr (um (ua (nsr (um (um (um ?_))))))
   obtain ⟨b10, o11, c12, vs13, ha14, hs15, hle16, rfl, hl17, hc18⟩ := RowR.at (iE_ok _) h_s_ ([]) g9.1 hx8
   refine uv (v_indexO underlying35 sizeOf3 rfl ha14 rfl g9) (uv (v_load isAgg3 rfl hs15 (hc18 0 (by decide))) ?_)
   obtain ⟨ok, h19, r20⟩ := b1_ok r3
   refine o_callV rfl h_f.1 rfl rfl rfl (h_f.2 _ (FExt.refl _) _ _ _ rfl h19) (shO_nil ?_)
   refine shW_cond rfl (fun c21 => ?_) (fun c21 => ?_)
   ·have r22 := bt r20 c21
    refine wsr (um (ua (shO_nil (shW_ret (inBlock_ret (andThen_ret (andThen_ret (inBlock_ret (andThen_ret ?_)))))))))
    refine qR1 results115 ?_
    obtain rfl := inj1 r22
    exact rfl
   have r23 := bf r20 c21
   refine shW_skip (inBlock_n (id := 1) (shW_region ?_))
   refine uv (v_add rfl rfl (Lst.r64 hk1 c6 (RowR.lt h_s_))) ?_
   refine um (shO_nil ?_)
   subst hn2; exact le kr ⟨_, _, rfl, hk7, r23, rfl, rfl, z4⟩
  obtain rfl := Lst.zero hk1 c6
  rw [slices_IndexFunc_int_int__l2] at r3
  refine shW_exit (andThen_exit (andThen_exit ?_))
  refine inBlock_exit ?_
  exact mi kr ⟨r3, rfl, rfl, (sn _)⟩
 rintro e1 _ _ ⟨r24, rfl, rfl, he25⟩
 refine shW_env _ he25 ?_
 rw [slices_IndexFunc_int_int__j1] at r24
 refine wsr (ua (shO_nil (shW_ret ?_)))
 refine qR1 results115 ?_
 obtain rfl := inj1 r24
 exact rfl
theorem slices_ContainsFunc_int_int__w {s_ : List Int} {f : Int → Option Bool} (h_s_ : RowR 1 (iE .i64) F s__a s__c s_) (h_f : FnR Tryz.prog F f_f f_1 f_2 (iE .i64) Value.bool f) {r : Bool} (hr : slices_ContainsFunc_int_int_ s_ f = some r) :
    SpecV Tryz.prog 95 #[.slice s__a s_.length s__c, .func (.func f_f) f_1 f_2] F (.bool r) := by
 refine sp func95 ntmps95 fun K _ _ => ?_
 rw [slices_ContainsFunc_int_int_] at hr
 refine wsr (ua (nsr (um (um ?_))))
 obtain ⟨n, h1, r2⟩ := b1_ok hr
 refine cV call115 (slices_IndexFunc_int_int__w h_s_ h_f h1) (uv (v_geqK rfl rfl) ?_)
 refine ua (shO_nil (shW_ret ?_))
 refine qR1 results95 ?_
 obtain rfl := inj1 r2
 exact rfl
theorem book_every_int_1_w {x : Int} {so : Int → Option Bool} (hb_so : F b_so = some (.cells #[.func (.func so_f) so_1 so_2] 63 mb_so)) (h_so : FnR Tryz.prog F so_f so_1 so_2 (iE .i64) Value.bool so) {r : Bool} (hr : book_every_int_1 x so = some r) :
    SpecV Tryz.prog 96 #[.int .i64 x, .pointer (some ⟨b_so, 0, none⟩)] F (.bool r) := by
 refine sp func96 ntmps96 fun K _ _ => ?_
 rw [book_every_int_1] at hr
 refine wsr (ua (nsr ?_))
 refine uv (v_load isAgg63 rfl (Has.frozen hb_so) rfl) (um ?_)
 obtain ⟨ok, h1, r2⟩ := b1_ok hr
 refine o_callV rfl h_so.1 rfl rfl rfl (h_so.2 _ (FExt.refl _) _ _ _ rfl h1) (uv (v_notB rfl) ?_)
 refine ua (shO_nil (shW_ret ?_))
 refine qR1 results96 ?_
 obtain rfl := inj1 r2
 exact rfl
theorem book_every_int_w {l : List Int} {so : Int → Option Bool} (h_l : RowR 1 (iE .i64) F l_a l_c l) (h_so : FnR Tryz.prog F so_f so_1 so_2 (iE .i64) Value.bool so) {r : Bool} (hr : book_every_int l so = some r) :
    SpecV Tryz.prog 64 #[.slice l_a l.length l_c, .func (.func so_f) so_1 so_2] F (.bool r) := by
 refine sp func64 ntmps64 fun K _ _ => ?_
 rw [book_every_int] at hr
 refine wsr ?_
 refine o_box rfl rfl ?_; intro b1 hb1
 refine ua (nsr (um ?_))
 refine uv (v_makeFunc rfl rfl) ?_
 refine shO_freeze 0 rfl hb1 ?_; intro F2 hF3 hz4
 refine shO_L rfl ?_
 replace h_l := h_l.mono (iE_ok _) hF3
 replace h_so := h_so.mono hF3
 have hn5 : FnR Tryz.prog F2 96 #[] #[.pointer (some ⟨b1, 0, none⟩)] (iE .i64) Value.bool (fun xx_ : Int => book_every_int_1 xx_ so) := ⟨call96, fun F2 h2 vs xx_ r ha hr => by obtain rfl := ha; exact book_every_int_1_w (h2 _ _ hz4) (h_so.mono h2) hr⟩
 obtain ⟨ok, h6, r7⟩ := b1_ok hr
 refine cV call95 (slices_ContainsFunc_int_int__w h_l hn5 h6) (uv (v_notB rfl) ?_)
 refine ua (shO_nil (shW_ret ?_))
 refine qR1 results64 ?_
 obtain rfl := inj1 r7
 exact rfl
set_option maxHeartbeats 1000000 in
theorem slices_IndexFunc_int_int___w {s_ : List (List (List Int))} {f : (List (List Int)) → Option Bool} (h_s_ : RowR 1 (slE 1 (slE 1 (iE .i64))) F s__a s__c s_) (h_f : FnR Tryz.prog F f_f f_1 f_2 (slE 1 (slE 1 (iE .i64))) Value.bool f) {r : Int} (hr : slices_IndexFunc_int_int__ s_ f = some r) :
    SpecV Tryz.prog 140 #[.slice s__a s_.length s__c, .func (.func f_f) f_1 f_2] F (.int .i64 r) := by
 refine sp func140 ntmps140 fun K _ _ => ?_
 rw [slices_IndexFunc_int_int__] at hr
 refine wsr (ua (shO_nil ?_))
 refine shW_join (fun e1 F1 L1 => slices_IndexFunc_int_int___j1 = some r ∧ F = F1 ∧ L1 = [] ∧ e1.sub []) ?_ ?_
 ·refine wsr (um ?_)
  refine uv (v_lenS underlying40 rfl) ?_
  refine um (shO_nil ?_)
  refine shW_block ?_
  refine shW_lp (fun fu2 e1 F1 L1 => LA s_ fu2 fun tl k => slices_IndexFunc_int_int___l2 f tl k = some r ∧ F = F1 ∧ L1 = [] ∧ e1.sub [(0, .slice s__a s_.length s__c), (1, .func (.func f_f) f_1 f_2), (7, .int .i64 (s_.length : Int)), (8, .int .i64 k)]) _ (m0 kr ⟨_, _, rfl, Lst.start _, hr, rfl, rfl, z4⟩) ?_
  rintro fu2 e1 _ _ ⟨tl, k, hn2, hk1, r3, rfl, rfl, he4⟩
  refine shW_env _ he4 (wsr (uv (v_lssK rfl rfl) ?_))
  refine shO_nil (shW_seq ?_)
  refine cQ (fun c6 => ?_) fun c6 => ?_
  ·obtain ⟨x, tl2, rfl, hx8, g9, hk7⟩ := Lst.succ hk1 c6
   rw [slices_IndexFunc_int_int___l2] at r3
   refine shW_skip (shW_seq ?_)
   refine shW_block ?_
   refine wsr (um (ua (nsr (um (um (um ?_))))))
   obtain ⟨b10, o11, c12, vs13, ha14, hs15, hle16, ⟨a19, c20, rfl, h21⟩, hl17, hc18⟩ := RowR.at (slE_ok (slE_ok (iE_ok _))) h_s_ ([]) g9.1 hx8
   refine uv (v_indexO underlying40 sizeOf23 rfl ha14 rfl g9) (uv (v_load isAgg23 rfl hs15 (hc18 0 (by decide))) ?_)
   obtain ⟨ok, h22, r23⟩ := b1_ok r3
   refine o_callV rfl h_f.1 rfl rfl rfl (h_f.2 _ (FExt.refl _) _ _ _ ⟨_, _, rfl, h21⟩ h22) (shO_nil ?_)
   refine shW_cond rfl (fun c24 => ?_) (fun c24 => ?_)
   ·have r25 := bt r23 c24
    refine wsr (um (ua (shO_nil (shW_ret (inBlock_ret (andThen_ret (andThen_ret (inBlock_ret (andThen_ret ?_)))))))))
    refine qR1 results140 ?_
    obtain rfl := inj1 r25
    exact rfl
   have r26 := bf r23 c24
   refine shW_skip (inBlock_n (id := 1) (shW_region ?_))
   refine uv (v_add rfl rfl (Lst.r64 hk1 c6 (RowR.lt h_s_))) ?_
   refine um (shO_nil ?_)
   subst hn2; exact le kr ⟨_, _, rfl, hk7, r26, rfl, rfl, z4⟩
  obtain rfl := Lst.zero hk1 c6
  rw [slices_IndexFunc_int_int___l2] at r3
  refine shW_exit (andThen_exit (andThen_exit ?_))
  refine inBlock_exit ?_
  exact mi kr ⟨r3, rfl, rfl, (sn _)⟩
 rintro e1 _ _ ⟨r27, rfl, rfl, he28⟩
 refine shW_env _ he28 ?_
 rw [slices_IndexFunc_int_int___j1] at r27
 refine wsr (ua (shO_nil (shW_ret ?_)))
 refine qR1 results140 ?_
 obtain rfl := inj1 r27
 exact rfl
theorem slices_ContainsFunc_int_int___w {s_ : List (List (List Int))} {f : (List (List Int)) → Option Bool} (h_s_ : RowR 1 (slE 1 (slE 1 (iE .i64))) F s__a s__c s_) (h_f : FnR Tryz.prog F f_f f_1 f_2 (slE 1 (slE 1 (iE .i64))) Value.bool f) {r : Bool} (hr : slices_ContainsFunc_int_int__ s_ f = some r) :
    SpecV Tryz.prog 131 #[.slice s__a s_.length s__c, .func (.func f_f) f_1 f_2] F (.bool r) := by
 refine sp func131 ntmps131 fun K _ _ => ?_
 rw [slices_ContainsFunc_int_int__] at hr
 refine wsr (ua (nsr (um (um ?_))))
 obtain ⟨n, h1, r2⟩ := b1_ok hr
 refine cV call140 (slices_IndexFunc_int_int___w h_s_ h_f h1) (uv (v_geqK rfl rfl) ?_)
 refine ua (shO_nil (shW_ret ?_))
 refine qR1 results131 ?_
 obtain rfl := inj1 r2
 exact rfl
theorem book_every_int_1__w {x_a : Option Addr} {x_c : Nat} {x : List (List Int)} {so : (List (List Int)) → Option Bool} (h_x : RowR 1 (slE 1 (iE .i64)) F x_a x_c x) (hb_so : F b_so = some (.cells #[.func (.func so_f) so_1 so_2] 191 mb_so)) (h_so : FnR Tryz.prog F so_f so_1 so_2 (slE 1 (slE 1 (iE .i64))) Value.bool so) {r : Bool} (hr : book_every_int_1_ x so = some r) :
    SpecV Tryz.prog 132 #[.slice x_a x.length x_c, .pointer (some ⟨b_so, 0, none⟩)] F (.bool r) := by
 refine sp func132 ntmps132 fun K _ _ => ?_
 rw [book_every_int_1_] at hr
 refine wsr (ua (nsr ?_))
 refine uv (v_load isAgg191 rfl (Has.frozen hb_so) rfl) (um ?_)
 obtain ⟨ok, h1, r2⟩ := b1_ok hr
 refine o_callV rfl h_so.1 rfl rfl rfl (h_so.2 _ (FExt.refl _) _ _ _ ⟨_, _, rfl, h_x⟩ h1) (uv (v_notB rfl) ?_)
 refine ua (shO_nil (shW_ret ?_))
 refine qR1 results132 ?_
 obtain rfl := inj1 r2
 exact rfl
theorem book_every_int__w {l : List (List (List Int))} {so : (List (List Int)) → Option Bool} (h_l : RowR 1 (slE 1 (slE 1 (iE .i64))) F l_a l_c l) (h_so : FnR Tryz.prog F so_f so_1 so_2 (slE 1 (slE 1 (iE .i64))) Value.bool so) {r : Bool} (hr : book_every_int_ l so = some r) :
    SpecV Tryz.prog 111 #[.slice l_a l.length l_c, .func (.func so_f) so_1 so_2] F (.bool r) := by
 refine sp func111 ntmps111 fun K _ _ => ?_
 rw [book_every_int_] at hr
 refine wsr ?_
 refine o_box rfl rfl ?_; intro b1 hb1
 refine ua (nsr (um ?_))
 refine uv (v_makeFunc rfl rfl) ?_
 refine shO_freeze 0 rfl hb1 ?_; intro F2 hF3 hz4
 refine shO_L rfl ?_
 replace h_l := h_l.mono (slE_ok (slE_ok (iE_ok _))) hF3
 replace h_so := h_so.mono hF3
 have hn8 : FnR Tryz.prog F2 132 #[] #[.pointer (some ⟨b1, 0, none⟩)] (slE 1 (slE 1 (iE .i64))) Value.bool (fun xx_ : (List (List Int)) => book_every_int_1_ xx_ so) := ⟨call132, fun F2 h2 vs xx_ r ha hr => by obtain ⟨a5, c6, rfl, h7⟩ := ha; exact book_every_int_1__w h7 (h2 _ _ hz4) (h_so.mono h2) hr⟩
 obtain ⟨ok, h9, r10⟩ := b1_ok hr
 refine cV call131 (slices_ContainsFunc_int_int___w h_l hn8 h9) (uv (v_notB rfl) ?_)
 refine ua (shO_nil (shW_ret ?_))
 refine qR1 results111 ?_
 obtain rfl := inj1 r10
 exact rfl
theorem book_Book_counted_1_w {l : List (List Int)} (_h_l : RowR 1 (slE 1 (iE .i64)) F l_a l_c l) {r : Bool} (hr : book_Book_counted_1 l = some r) :
    SpecV Tryz.prog 112 #[.slice l_a l.length l_c] F (.bool r) := by
 refine sp func112 ntmps112 fun K _ _ => ?_
 rw [book_Book_counted_1] at hr
 refine wsr (ua (nsr (um ?_)))
 refine uv (v_lenS underlying23 rfl) (uv (v_eql rfl rfl) ?_)
 refine ua (shO_nil (shW_ret ?_))
 refine qR1 results112 ?_
 obtain rfl := inj1 hr
 exact rfl
set_option maxHeartbeats 1000000 in
theorem book_Book_counted_w (h_hears : RowR 1 (slE 1 (slE 1 (iE .i64))) F hears_a hears_c hears) (_h_readings : RowR 1 (iE .i64) F readings_a readings_c readings) (_h_cries : RowR 3 (prE (iE .i64) (prE (iE .i64) (iE .i64))) F cries_a cries_c cries) {r : Bool} (hr : book_Book_counted houses notices hears readings cries = some r) :
    SpecV Tryz.prog 89 #[.agg #[.int .i64 houses, .int .i64 notices, .slice hears_a hears.length hears_c, .slice readings_a readings.length readings_c, .slice cries_a cries.length cries_c]] F (.bool r) := by
 refine sp func89 ntmps89 fun K _ _ => ?_
 rw [book_Book_counted] at hr
 refine wsr ?_
 refine o_box rfl rfl ?_; intro b1 hb1
 refine ua (nsr ?_)
 refine uv (v_fieldAddr fa_43_0 rfl) (uv (v_load isAgg3 rfl (Has.own 0 rfl) rfl) ?_)
 obtain ⟨ok, h2, r3⟩ := b1_ok hr
 refine cV call93 (book_in_w h2) (um ?_)
 rcases bool_two ok with c4 | c4
 ·have r5 := bt r3 c4
  refine nB c4 (uv (v_fieldAddr fa_43_1 rfl) (nB c4 (uv (v_load isAgg3 rfl (Has.own 0 rfl) rfl) (nB c4 ?_))))
  obtain ⟨ok2, h6, r7⟩ := b1_ok r5
  refine cV call93 (book_in_w h6) (uv (v_pick_t (evB rfl c4) rfl) (um ?_))
  rcases bool_two ok2 with c8 | c8
  ·have r9 := bt r7 c8
   refine nB c8 (uv (v_fieldAddr fa_43_2 rfl) (nB c8 (uv (v_load isAgg40 rfl (Has.own 0 rfl) rfl) (nB c8 (uv (v_lenS underlying40 rfl) (nB c8 ?_))))))
   obtain ⟨ok3, h10, r11⟩ := b1_ok r9
   refine cV call93 (book_in_w h10) (uv (v_pick_t (evB rfl c8) rfl) (um ?_))
   rcases bool_two ok3 with c12 | c12
   ·have r13 := bt r11 c12
    refine nB c12 (uv (v_fieldAddr fa_43_3 rfl) (nB c12 (uv (v_load isAgg35 rfl (Has.own 0 rfl) rfl) (nB c12 (uv (v_lenS underlying35 rfl) (nB c12 ?_))))))
    obtain ⟨ok4, h14, r15⟩ := b1_ok r13
    refine cV call93 (book_in_w h14) (uv (v_pick_t (evB rfl c12) rfl) (um ?_))
    rcases bool_two ok4 with c16 | c16
    ·have r17 := bt r15 c16
     refine nB c16 (uv (v_fieldAddr fa_43_4 rfl) (nB c16 (uv (v_load isAgg41 rfl (Has.own 0 rfl) rfl) (nB c16 (uv (v_lenS underlying41 rfl) (nB c16 (uv (v_leqK rfl rfl) ?_)))))))
     refine uv (v_pick_t (evB rfl c16) rfl) (um ?_)
     by_cases c18 : (cries.length : Int) ≤ 12
     ·have r19 := ite_t r17 c18
      refine nT c18 (uv (v_fieldAddr fa_43_2 rfl) (nT c18 (uv (v_load isAgg40 rfl (Has.own 0 rfl) rfl) (nT c18 ?_))))
      have hn23 : FnR Tryz.prog F 112 #[] #[] (slE 1 (slE 1 (iE .i64))) Value.bool (fun xx_ : (List (List Int)) => book_Book_counted_1 xx_) := ⟨call112, fun F2 h2 vs xx_ r ha hr => by obtain ⟨a20, c21, rfl, h22⟩ := ha; exact book_Book_counted_1_w h22 hr⟩
      obtain ⟨ok5, h24, r25⟩ := b1_ok r19
      refine cV call111 (book_every_int__w h_hears hn23 h24) (uv (v_pick_t (evD_true rfl c18) rfl) ?_)
      refine ua (shO_nil ?_)
      refine kW kn (shW_ret (qR1 results89 ?_))
      obtain rfl := inj1 r25
      exact rfl
     have r26 := ite_f r17 c18
     refine fF c18 (fF c18 (fF c18 ?_))
     refine uv (v_pick_f (evD_false rfl c18) rfl) ?_
     refine ua (shO_nil ?_)
     refine kW kn (shW_ret (qR1 results89 ?_))
     obtain rfl := inj1 r26
     exact rfl
    have r27 := bf r15 c16
    refine fB c16 (fB c16 (fB c16 (fB c16 ?_)))
    refine uv (v_pick_f (evB rfl c16) rfl) ?_
    refine um (shO_off (b' := false) 29 rfl rfl rfl rfl (shO_off (b' := false) 29 rfl rfl rfl rfl (shO_off (b' := false) 29 rfl rfl rfl rfl ?_)))
    refine uv (v_pick_f rfl rfl) ?_
    refine ua (shO_nil ?_)
    refine kW kn (shW_ret (qR1 results89 ?_))
    obtain rfl := inj1 r27
    exact rfl
   have r28 := bf r11 c12
   refine fB c12 (fB c12 (fB c12 (fB c12 ?_)))
   refine uv (v_pick_f (evB rfl c12) rfl) ?_
   refine um (shO_off (b' := false) 23 rfl rfl rfl rfl (shO_off (b' := false) 23 rfl rfl rfl rfl (shO_off (b' := false) 23 rfl rfl rfl rfl (shO_off (b' := false) 23 rfl rfl rfl rfl ?_))))
   refine uv (v_pick_f rfl rfl) ?_
   refine um (shO_off (b' := false) 29 rfl rfl rfl rfl (shO_off (b' := false) 29 rfl rfl rfl rfl (shO_off (b' := false) 29 rfl rfl rfl rfl ?_)))
   refine uv (v_pick_f rfl rfl) ?_
   refine ua (shO_nil ?_)
   refine kW kn (shW_ret (qR1 results89 ?_))
   obtain rfl := inj1 r28
   exact rfl
  have r29 := bf r7 c8
  refine fB c8 (fB c8 (fB c8 (fB c8 ?_)))
  refine uv (v_pick_f (evB rfl c8) rfl) ?_
  refine um (shO_off (b' := false) 17 rfl rfl rfl rfl (shO_off (b' := false) 17 rfl rfl rfl rfl (shO_off (b' := false) 17 rfl rfl rfl rfl (shO_off (b' := false) 17 rfl rfl rfl rfl ?_))))
  refine uv (v_pick_f rfl rfl) ?_
  refine um (shO_off (b' := false) 23 rfl rfl rfl rfl (shO_off (b' := false) 23 rfl rfl rfl rfl (shO_off (b' := false) 23 rfl rfl rfl rfl (shO_off (b' := false) 23 rfl rfl rfl rfl ?_))))
  refine uv (v_pick_f rfl rfl) ?_
  refine um (shO_off (b' := false) 29 rfl rfl rfl rfl (shO_off (b' := false) 29 rfl rfl rfl rfl (shO_off (b' := false) 29 rfl rfl rfl rfl ?_)))
  refine uv (v_pick_f rfl rfl) ?_
  refine ua (shO_nil ?_)
  refine kW kn (shW_ret (qR1 results89 ?_))
  obtain rfl := inj1 r29
  exact rfl
 have r30 := bf r3 c4
 refine fB c4 (fB c4 (fB c4 ?_))
 refine uv (v_pick_f (evB rfl c4) rfl) ?_
 refine um (shO_off (b' := false) 11 rfl rfl rfl rfl (shO_off (b' := false) 11 rfl rfl rfl rfl (shO_off (b' := false) 11 rfl rfl rfl rfl (shO_off (b' := false) 11 rfl rfl rfl rfl ?_))))
 refine uv (v_pick_f rfl rfl) ?_
 refine um (shO_off (b' := false) 17 rfl rfl rfl rfl (shO_off (b' := false) 17 rfl rfl rfl rfl (shO_off (b' := false) 17 rfl rfl rfl rfl (shO_off (b' := false) 17 rfl rfl rfl rfl ?_))))
 refine uv (v_pick_f rfl rfl) ?_
 refine um (shO_off (b' := false) 23 rfl rfl rfl rfl (shO_off (b' := false) 23 rfl rfl rfl rfl (shO_off (b' := false) 23 rfl rfl rfl rfl (shO_off (b' := false) 23 rfl rfl rfl rfl ?_))))
 refine uv (v_pick_f rfl rfl) ?_
 refine um (shO_off (b' := false) 29 rfl rfl rfl rfl (shO_off (b' := false) 29 rfl rfl rfl rfl (shO_off (b' := false) 29 rfl rfl rfl rfl ?_)))
 refine uv (v_pick_f rfl rfl) ?_
 refine ua (shO_nil ?_)
 refine kW kn (shW_ret (qR1 results89 ?_))
 obtain rfl := inj1 r30
 exact rfl
theorem book_read_w {r : Bool} (hr : book_read n = some r) :
    SpecV Tryz.prog 90 #[.int .i64 n] F (.bool r) := by
 refine sp func90 ntmps90 fun K _ _ => ?_
 rw [book_read] at hr
 refine wsr (ua (nsr (um ?_)))
 refine uv (v_eql rfl rfl) (um ?_)
 by_cases c1 : n = (-1)
 ·have r2 := ite_t hr c1
  refine fT c1 (fT c1 ?_)
  refine uv (v_pick_t (evD_true rfl c1) rfl) ?_
  refine ua (shO_nil (shW_ret ?_))
  refine qR1 results90 ?_
  obtain rfl := inj1 r2
  exact rfl
 have r3 := ite_f hr c1
 refine nF c1 (um (nF c1 ?_))
 obtain ⟨ok, h4, r5⟩ := b1_ok r3
 refine cV call93 (book_in_w h4) (uv (v_pick_f (evD_false rfl c1) rfl) ?_)
 refine ua (shO_nil (shW_ret ?_))
 refine qR1 results90 ?_
 obtain rfl := inj1 r5
 exact rfl
set_option maxHeartbeats 1000000 in
theorem slices_IndexFunc_book_Cry_book_Cry_w {s_ : List (Int × Int × Int)} {f : (Int × Int × Int) → Option Bool} (h_s_ : RowR 3 (prE (iE .i64) (prE (iE .i64) (iE .i64))) F s__a s__c s_) (h_f : FnR Tryz.prog F f_f f_1 f_2 (agE (prE (iE .i64) (prE (iE .i64) (iE .i64)))) Value.bool f) {r : Int} (hr : slices_IndexFunc_book_Cry_book_Cry s_ f = some r) :
    SpecV Tryz.prog 133 #[.slice s__a s_.length s__c, .func (.func f_f) f_1 f_2] F (.int .i64 r) := by
 refine sp func133 ntmps133 fun K _ _ => ?_
 rw [slices_IndexFunc_book_Cry_book_Cry] at hr
 refine wsr (ua (shO_nil ?_))
 refine shW_join (fun e1 F1 L1 => slices_IndexFunc_book_Cry_book_Cry_j1 = some r ∧ F = F1 ∧ L1 = [] ∧ e1.sub []) ?_ ?_
 ·refine wsr (um ?_)
  refine uv (v_lenS underlying41 rfl) ?_
  refine um (shO_nil ?_)
  refine shW_block ?_
  refine shW_lp (fun fu2 e1 F1 L1 => LA s_ fu2 fun tl k => slices_IndexFunc_book_Cry_book_Cry_l2 f tl k = some r ∧ F = F1 ∧ L1 = [] ∧ e1.sub [(0, .slice s__a s_.length s__c), (1, .func (.func f_f) f_1 f_2), (7, .int .i64 (s_.length : Int)), (8, .int .i64 k)]) _ (m0 kr ⟨_, _, rfl, Lst.start _, hr, rfl, rfl, z4⟩) ?_
  rintro fu2 e1 _ _ ⟨tl, k, hn2, hk1, r3, rfl, rfl, he4⟩
  refine shW_env _ he4 (wsr (uv (v_lssK rfl rfl) ?_))
  refine shO_nil (shW_seq ?_)
  refine cQ (fun c6 => ?_) fun c6 => ?_
  ·obtain ⟨x, tl2, rfl, hx8, g9, hk7⟩ := Lst.succ hk1 c6
   rw [slices_IndexFunc_book_Cry_book_Cry_l2] at r3
   refine shW_skip (shW_seq ?_)
   refine shW_block ?_
   refine wsr (um (ua (nsr (um (um (um ?_))))))
   obtain ⟨b10, o11, c12, vs13, ha14, hs15, hle16, ⟨_, _, rfl, rfl, ⟨_, _, rfl, rfl, rfl⟩⟩, hl17, hc18⟩ := RowR.at (prE_ok (iE_ok _) (prE_ok (iE_ok _) (iE_ok _))) h_s_ ([]) g9.1 hx8
   refine uv (v_indexO underlying41 sizeOf49 rfl ha14 rfl g9) (uv (v_loadA isAgg49 sizeOf49 rfl hs15 hle16 (extract_cells hle16 hl17 hc18)) ?_)
   obtain ⟨ok, h19, r20⟩ := b1_ok r3
   refine o_callV rfl h_f.1 rfl rfl rfl (h_f.2 _ (FExt.refl _) _ _ _ ⟨_, rfl, ⟨_, _, rfl, rfl, ⟨_, _, rfl, rfl, rfl⟩⟩⟩ h19) (shO_nil ?_)
   refine shW_cond rfl (fun c21 => ?_) (fun c21 => ?_)
   ·have r22 := bt r20 c21
    refine wsr (um (ua (shO_nil (shW_ret (inBlock_ret (andThen_ret (andThen_ret (inBlock_ret (andThen_ret ?_)))))))))
    refine qR1 results133 ?_
    obtain rfl := inj1 r22
    exact rfl
   have r23 := bf r20 c21
   refine shW_skip (inBlock_n (id := 1) (shW_region ?_))
   refine uv (v_add rfl rfl (Lst.r64 hk1 c6 (RowR.lt h_s_))) ?_
   refine um (shO_nil ?_)
   subst hn2; exact le kr ⟨_, _, rfl, hk7, r23, rfl, rfl, z4⟩
  obtain rfl := Lst.zero hk1 c6
  rw [slices_IndexFunc_book_Cry_book_Cry_l2] at r3
  refine shW_exit (andThen_exit (andThen_exit ?_))
  refine inBlock_exit ?_
  exact mi kr ⟨r3, rfl, rfl, (sn _)⟩
 rintro e1 _ _ ⟨r24, rfl, rfl, he25⟩
 refine shW_env _ he25 ?_
 rw [slices_IndexFunc_book_Cry_book_Cry_j1] at r24
 refine wsr (ua (shO_nil (shW_ret ?_)))
 refine qR1 results133 ?_
 obtain rfl := inj1 r24
 exact rfl
theorem slices_ContainsFunc_book_Cry_book_Cry_w {s_ : List (Int × Int × Int)} {f : (Int × Int × Int) → Option Bool} (h_s_ : RowR 3 (prE (iE .i64) (prE (iE .i64) (iE .i64))) F s__a s__c s_) (h_f : FnR Tryz.prog F f_f f_1 f_2 (agE (prE (iE .i64) (prE (iE .i64) (iE .i64)))) Value.bool f) {r : Bool} (hr : slices_ContainsFunc_book_Cry_book_Cry s_ f = some r) :
    SpecV Tryz.prog 113 #[.slice s__a s_.length s__c, .func (.func f_f) f_1 f_2] F (.bool r) := by
 refine sp func113 ntmps113 fun K _ _ => ?_
 rw [slices_ContainsFunc_book_Cry_book_Cry] at hr
 refine wsr (ua (nsr (um (um ?_))))
 obtain ⟨n, h1, r2⟩ := b1_ok hr
 refine cV call133 (slices_IndexFunc_book_Cry_book_Cry_w h_s_ h_f h1) (uv (v_geqK rfl rfl) ?_)
 refine ua (shO_nil (shW_ret ?_))
 refine qR1 results113 ?_
 obtain rfl := inj1 r2
 exact rfl
theorem book_every_Cry_1_w {so : (Int × Int × Int) → Option Bool} (hb_so : F b_so = some (.cells #[.func (.func so_f) so_1 so_2] 173 mb_so)) (h_so : FnR Tryz.prog F so_f so_1 so_2 (agE (prE (iE .i64) (prE (iE .i64) (iE .i64)))) Value.bool so) {r : Bool} (hr : book_every_Cry_1 hour stand notice so = some r) :
    SpecV Tryz.prog 114 #[.agg #[.int .i64 hour, .int .i64 stand, .int .i64 notice], .pointer (some ⟨b_so, 0, none⟩)] F (.bool r) := by
 refine sp func114 ntmps114 fun K _ _ => ?_
 rw [book_every_Cry_1] at hr
 refine wsr ?_
 refine o_box rfl rfl ?_; intro b1 hb1
 refine ua (nsr ?_)
 refine uv (v_load isAgg173 rfl (Has.frozen hb_so) rfl) (uv (v_loadA isAgg49 sizeOf49 rfl (Has.own 0 rfl) (nbL rfl) rfl) ?_)
 obtain ⟨ok, h2, r3⟩ := b1_ok hr
 refine o_callV rfl h_so.1 rfl rfl rfl (h_so.2 _ (FExt.refl _) _ _ _ ⟨_, rfl, ⟨_, _, rfl, rfl, ⟨_, _, rfl, rfl, rfl⟩⟩⟩ h2) (uv (v_notB rfl) ?_)
 refine ua (shO_nil ?_)
 refine kW kn (shW_ret (qR1 results114 ?_))
 obtain rfl := inj1 r3
 exact rfl
theorem book_every_Cry_w {l : List (Int × Int × Int)} {so : (Int × Int × Int) → Option Bool} (h_l : RowR 3 (prE (iE .i64) (prE (iE .i64) (iE .i64))) F l_a l_c l) (h_so : FnR Tryz.prog F so_f so_1 so_2 (agE (prE (iE .i64) (prE (iE .i64) (iE .i64)))) Value.bool so) {r : Bool} (hr : book_every_Cry l so = some r) :
    SpecV Tryz.prog 91 #[.slice l_a l.length l_c, .func (.func so_f) so_1 so_2] F (.bool r) := by
 refine sp func91 ntmps91 fun K _ _ => ?_
 rw [book_every_Cry] at hr
 refine wsr ?_
 refine o_box rfl rfl ?_; intro b1 hb1
 refine ua (nsr (um ?_))
 refine uv (v_makeFunc rfl rfl) ?_
 refine shO_freeze 0 rfl hb1 ?_; intro F2 hF3 hz4
 refine shO_L rfl ?_
 replace h_l := h_l.mono (prE_ok (iE_ok _) (prE_ok (iE_ok _) (iE_ok _))) hF3
 replace h_so := h_so.mono hF3
 have hn5 : FnR Tryz.prog F2 114 #[] #[.pointer (some ⟨b1, 0, none⟩)] (agE (prE (iE .i64) (prE (iE .i64) (iE .i64)))) Value.bool (fun xx_ : (Int × Int × Int) => book_every_Cry_1 xx_.1 xx_.2.1 xx_.2.2 so) := ⟨call114, fun F2 h2 vs xx_ r ha hr => by obtain ⟨_, rfl, ⟨_, _, rfl, rfl, ⟨_, _, rfl, rfl, rfl⟩⟩⟩ := ha; exact book_every_Cry_1_w (h2 _ _ hz4) (h_so.mono h2) hr⟩
 obtain ⟨ok, h6, r7⟩ := b1_ok hr
 refine cV call113 (slices_ContainsFunc_book_Cry_book_Cry_w h_l hn5 h6) (uv (v_notB rfl) ?_)
 refine ua (shO_nil (shW_ret ?_))
 refine qR1 results91 ?_
 obtain rfl := inj1 r7
 exact rfl
theorem book_Book_notice_w (_h_hears : RowR 1 (slE 1 (slE 1 (iE .i64))) F hears_a hears_c hears) (_h_readings : RowR 1 (iE .i64) F readings_a readings_c readings) (_h_cries : RowR 3 (prE (iE .i64) (prE (iE .i64) (iE .i64))) F cries_a cries_c cries) {r : Bool} (hr : book_Book_notice houses notices hears readings cries n = some r) :
    SpecV Tryz.prog 58 #[.agg #[.int .i64 houses, .int .i64 notices, .slice hears_a hears.length hears_c, .slice readings_a readings.length readings_c, .slice cries_a cries.length cries_c], .int .i64 n] F (.bool r) := by
 refine sp func58 ntmps58 fun K _ _ => ?_
 rw [book_Book_notice] at hr
 refine wsr ?_
 refine o_box rfl rfl ?_; intro b1 hb1
 refine ua (nsr (um ?_))
 refine uv (v_fieldAddr fa_43_1 rfl) (uv (v_load isAgg3 rfl (Has.own 0 rfl) rfl) ?_)
 obtain ⟨g2, r3⟩ := gd_ok hr
 refine uv (v_sub rfl rfl g2) ?_
 obtain ⟨ok, h4, r5⟩ := b1_ok r3
 refine cV call93 (book_in_w h4) ?_
 refine ua (shO_nil ?_)
 refine kW kn (shW_ret (qR1 results58 ?_))
 obtain rfl := inj1 r5
 exact rfl
theorem book_Book_hour_w {h : Int} (_h_hears : RowR 1 (slE 1 (slE 1 (iE .i64))) F hears_a hears_c hears) (_h_readings : RowR 1 (iE .i64) F readings_a readings_c readings) (_h_cries : RowR 3 (prE (iE .i64) (prE (iE .i64) (iE .i64))) F cries_a cries_c cries) {r : Bool} (hr : book_Book_hour houses notices hears readings cries h = some r) :
    SpecV Tryz.prog 59 #[.agg #[.int .i64 houses, .int .i64 notices, .slice hears_a hears.length hears_c, .slice readings_a readings.length readings_c, .slice cries_a cries.length cries_c], .int .i64 h] F (.bool r) := by
 refine sp func59 ntmps59 fun K _ _ => ?_
 rw [book_Book_hour] at hr
 refine wsr ?_
 refine o_box rfl rfl ?_; intro b1 hb1
 refine ua (nsr (um ?_))
 refine uv (v_fieldAddr fa_43_3 rfl) (uv (v_load isAgg35 rfl (Has.own 0 rfl) rfl) (uv (v_lenS underlying35 rfl) ?_))
 obtain ⟨g2, r3⟩ := gd_ok hr
 refine uv (v_sub rfl rfl g2) ?_
 obtain ⟨ok, h4, r5⟩ := b1_ok r3
 refine cV call93 (book_in_w h4) ?_
 refine ua (shO_nil ?_)
 refine kW kn (shW_ret (qR1 results59 ?_))
 obtain rfl := inj1 r5
 exact rfl
set_option maxHeartbeats 1000000 in
theorem book_Check_1_w {b_b : Nat} {mb_b : Nat × Nat} (hb_b : F b_b = some (.cells #[.int .i64 houses, .int .i64 notices, .slice hears_a hears.length hears_c, .slice readings_a readings.length readings_c, .slice cries_a cries.length cries_c] 43 mb_b)) (h_hears : RowR 1 (slE 1 (slE 1 (iE .i64))) F hears_a hears_c hears) (h_readings : RowR 1 (iE .i64) F readings_a readings_c readings) (h_cries : RowR 3 (prE (iE .i64) (prE (iE .i64) (iE .i64))) F cries_a cries_c cries) {r : Bool} (hr : book_Check_1 hour stand notice houses notices hears readings cries = some r) :
    SpecV Tryz.prog 92 #[.agg #[.int .i64 hour, .int .i64 stand, .int .i64 notice], .pointer (some ⟨b_b, 0, none⟩)] F (.bool r) := by
 refine sp func92 ntmps92 fun K _ _ => ?_
 rw [book_Check_1] at hr
 refine wsr ?_
 refine o_box rfl rfl ?_; intro b1 hb1
 refine ua (nsr ?_)
 refine uv (v_loadA isAgg43 sizeOf43 rfl (Has.frozen hb_b) (nbL rfl) rfl) (uv (v_fieldAddr fa_49_0 rfl) (uv (v_load isAgg3 rfl (Has.own 0 rfl) rfl) ?_))
 obtain ⟨ok, h2, r3⟩ := b1_ok hr
 refine cV call59 (book_Book_hour_w h_hears h_readings h_cries h2) (um ?_)
 rcases bool_two ok with c4 | c4
 ·have r5 := bt r3 c4
  refine nB c4 (uv (v_fieldAddr fa_49_1 rfl) (nB c4 (uv (v_load isAgg3 rfl (Has.own 0 rfl) rfl) (nB c4 (uv (v_fieldAddr fa_43_2 rfl) (nB c4 (uv (v_load isAgg40 rfl (Has.frozen hb_b) rfl) ?_)))))))
  refine nB c4 (uv (v_lenS underlying40 rfl) (nB c4 ?_))
  obtain ⟨g6, r7⟩ := gd_ok r5
  refine uv (v_sub rfl rfl g6) (nB c4 ?_)
  obtain ⟨ok2, h8, r9⟩ := b1_ok r7
  refine cV call93 (book_in_w h8) (uv (v_pick_t (evB rfl c4) rfl) (um ?_))
  rcases bool_two ok2 with c10 | c10
  ·have r11 := bt r9 c10
   refine nB c10 (uv (v_loadA isAgg43 sizeOf43 rfl (Has.frozen hb_b) (nbL rfl) rfl) (nB c10 (uv (v_fieldAddr fa_49_2 rfl) (nB c10 (uv (v_load isAgg3 rfl (Has.own 0 rfl) rfl) (nB c10 ?_))))))
   obtain ⟨ok3, h12, r13⟩ := b1_ok r11
   refine cV call58 (book_Book_notice_w h_hears h_readings h_cries h12) (uv (v_pick_t (evB rfl c10) rfl) ?_)
   refine ua (shO_nil ?_)
   refine kW kn (shW_ret (qR1 results92 ?_))
   obtain rfl := inj1 r13
   exact rfl
  have r14 := bf r9 c10
  refine fB c10 (fB c10 (fB c10 (fB c10 ?_)))
  refine uv (v_pick_f (evB rfl c10) rfl) ?_
  refine ua (shO_nil ?_)
  refine kW kn (shW_ret (qR1 results92 ?_))
  obtain rfl := inj1 r14
  exact rfl
 have r15 := bf r3 c4
 refine fB c4 (fB c4 (fB c4 (fB c4 (fB c4 (fB c4 (fB c4 ?_))))))
 refine uv (v_pick_f (evB rfl c4) rfl) ?_
 refine um (shO_off (b' := false) 17 rfl rfl rfl rfl (shO_off (b' := false) 17 rfl rfl rfl rfl (shO_off (b' := false) 17 rfl rfl rfl rfl (shO_off (b' := false) 17 rfl rfl rfl rfl ?_))))
 refine uv (v_pick_f rfl rfl) ?_
 refine ua (shO_nil ?_)
 refine kW kn (shW_ret (qR1 results92 ?_))
 obtain rfl := inj1 r15
 exact rfl
set_option maxHeartbeats 1000000 in
theorem book_Check_w (h_hears : RowR 1 (slE 1 (slE 1 (iE .i64))) F hears_a hears_c hears) (h_readings : RowR 1 (iE .i64) F readings_a readings_c readings) (h_cries : RowR 3 (prE (iE .i64) (prE (iE .i64) (iE .i64))) F cries_a cries_c cries) {r : Int} (hr : book_Check houses notices hears readings cries = some r) :
    SpecV Tryz.prog 57 #[.agg #[.int .i64 houses, .int .i64 notices, .slice hears_a hears.length hears_c, .slice readings_a readings.length readings_c, .slice cries_a cries.length cries_c]] F (.int .i64 r) := by
 refine sp func57 ntmps57 fun K _ _ => ?_
 rw [book_Check] at hr
 refine wsr ?_
 refine o_box rfl rfl ?_; intro b1 hb1
 refine ua (shO_nil (shW_seq (wsr ?_)))
 refine uv (v_loadA isAgg43 sizeOf43 rfl (Has.own 0 rfl) (nbL rfl) rfl) ?_
 obtain ⟨ok, h2, r3⟩ := b1_ok hr
 refine cV call89 (book_Book_counted_w h_hears h_readings h_cries h2) (uv (v_notB rfl) (shO_nil ?_))
 refine shW_cond rfl (fun c4 => ?_) (fun c4 => ?_)
 ·have r5 := bt r3 c4
  refine wsr (ua (shO_nil ?_))
  refine kW kn ?_
  refine shW_ret (andThen_ret ?_)
  refine qR1 results57 ?_
  obtain rfl := inj1 r5
  exact rfl
 have r6 := bf r3 c4
 refine shW_skip ?_
 refine shW_join (fun e1 F1 L1 => book_Check_j1 houses notices hears readings cries = some r ∧ F = F1 ∧ L1 = [(b1, ce #[.int .i64 houses, .int .i64 notices, .slice hears_a hears.length hears_c, .slice readings_a readings.length readings_c, .slice cries_a cries.length cries_c] 43)] ∧ e1.sub [(1, .pointer (some ⟨b1, 0, none⟩))]) ?_ ?_
 ·refine wsr (uv (v_fieldAddr fa_43_2 rfl) (uv (v_load isAgg40 rfl (Has.own 0 rfl) rfl) (uv (v_lenS underlying40 rfl) ?_)))
  refine um (shO_nil ?_)
  refine shW_block ?_
  refine shW_lp (fun fu2 e1 F1 L1 => LA hears fu2 fun tl k => book_Check_l2 houses notices hears readings cries tl = some r ∧ F = F1 ∧ L1 = [(b1, ce #[.int .i64 houses, .int .i64 notices, .slice hears_a hears.length hears_c, .slice readings_a readings.length readings_c, .slice cries_a cries.length cries_c] 43)] ∧ e1.sub [(1, .pointer (some ⟨b1, 0, none⟩)), (12, .slice hears_a hears.length hears_c), (13, .int .i64 (hears.length : Int)), (14, .int .i64 k)]) _ (m0 kr ⟨_, _, rfl, Lst.start _, r6, rfl, rfl, z4⟩) ?_
  rintro fu2 e1 _ _ ⟨tl, k, hn8, hk7, r9, rfl, rfl, he10⟩
  refine shW_env _ he10 (wsr (uv (v_lssK rfl rfl) ?_))
  refine shO_nil (shW_seq ?_)
  refine cQ (fun c12 => ?_) fun c12 => ?_
  ·obtain ⟨x, tl2, rfl, hx14, g15, hk13⟩ := Lst.succ hk7 c12
   rw [book_Check_l2] at r9
   refine shW_skip ?_
   refine shW_join (fun e1 F1 L1 => book_Check_j3 (book_Check_l2 houses notices hears readings cries tl2) = some r ∧ F = F1 ∧ L1 = [(b1, ce #[.int .i64 houses, .int .i64 notices, .slice hears_a hears.length hears_c, .slice readings_a readings.length readings_c, .slice cries_a cries.length cries_c] 43)] ∧ e1.sub [(1, .pointer (some ⟨b1, 0, none⟩)), (12, .slice hears_a hears.length hears_c), (13, .int .i64 (hears.length : Int)), (14, .int .i64 k)]) ?_ ?_
   ·refine shW_block (wsr ?_)
    obtain ⟨b16, o17, c18, vs19, ha20, hs21, hle22, ⟨a25, c26, rfl, h27⟩, hl23, hc24⟩ := RowR.at (slE_ok (slE_ok (iE_ok _))) h_hears ([(b1, ce #[.int .i64 houses, .int .i64 notices, .slice hears_a hears.length hears_c, .slice readings_a readings.length readings_c, .slice cries_a cries.length cries_c] 43)]) g15.1 hx14
    refine uv (v_indexO underlying40 sizeOf23 rfl ha20 rfl g15) (uv (v_load isAgg23 rfl hs21 (hc24 0 (by decide))) ?_)
    refine ua (nsr (um ?_))
    refine uv (v_lenS underlying23 rfl) ?_
    refine um (shO_nil ?_)
    refine shW_block ?_
    refine shW_lp (fun fu4 e1 F1 L1 => LA x fu4 fun tl3 k2 => book_Check_l4 houses notices hears readings cries (book_Check_l2 houses notices hears readings cries tl2) tl3 = some r ∧ F = F1 ∧ L1 = [(b1, ce #[.int .i64 houses, .int .i64 notices, .slice hears_a hears.length hears_c, .slice readings_a readings.length readings_c, .slice cries_a cries.length cries_c] 43)] ∧ e1.sub [(1, .pointer (some ⟨b1, 0, none⟩)), (12, .slice hears_a hears.length hears_c), (13, .int .i64 (hears.length : Int)), (14, .int .i64 k), (18, .slice a25 x.length c26), (19, .int .i64 (x.length : Int)), (20, .int .i64 k2)]) _ (m0 kr ⟨_, _, rfl, Lst.start _, r9, rfl, rfl, z7⟩) ?_
    rintro fu4 e1 _ _ ⟨tl3, k2, hn29, hk28, r30, rfl, rfl, he31⟩
    refine shW_env _ he31 (wsr (uv (v_lssK rfl rfl) ?_))
    refine shO_nil (shW_seq ?_)
    refine cQ (fun c33 => ?_) fun c33 => ?_
    ·obtain ⟨x2, tl4, rfl, hx35, g36, hk34⟩ := Lst.succ hk28 c33
     rw [book_Check_l4] at r30
     refine shW_skip (shW_seq ?_)
     refine shW_block (wsr ?_)
     obtain ⟨b37, o38, c39, vs40, ha41, hs42, hle43, ⟨a46, c47, rfl, h48⟩, hl44, hc45⟩ := RowR.at (slE_ok (iE_ok _)) h27 ([(b1, ce #[.int .i64 houses, .int .i64 notices, .slice hears_a hears.length hears_c, .slice readings_a readings.length readings_c, .slice cries_a cries.length cries_c] 43)]) g36.1 hx35
     refine uv (v_indexO underlying23 sizeOf35 rfl ha41 rfl g36) (uv (v_load isAgg35 rfl hs42 (hc45 0 (by decide))) ?_)
     refine ua (nsr ?_)
     refine uv (v_loadA isAgg43 sizeOf43 rfl (Has.own 0 rfl) (nbL rfl) rfl) (um ?_)
     obtain ⟨n, h49, r50⟩ := b1_ok r30
     refine cV call60 (book_Book_listed_w h_hears h_readings h_cries h48 h49) ?_
     refine ua (nsr (um ?_))
     refine uv (v_neq rfl rfl) (shO_nil ?_)
     refine cQ (fun c51 => ?_) fun c51 => ?_
     ·have r52 := ite_t r50 c51
      refine wsr (um (ua (shO_nil ?_)))
      refine kW kn ?_
      refine shW_ret (inBlock_ret (andThen_ret (andThen_ret (inBlock_ret (inBlock_ret (andThen_ret (andThen_ret (inBlock_ret (andThen_ret ?_)))))))))
      refine qR1 results57 ?_
      obtain rfl := inj1 r52
      exact rfl
     have r53 := ite_f r50 c51
     refine shW_skip (inBlock_n (id := 3) (shW_region ?_))
     refine uv (v_add rfl rfl (Lst.r64 hk28 c33 (RowR.lt h27))) ?_
     refine um (shO_nil ?_)
     subst hn29; exact le kr ⟨_, _, rfl, hk34, r53, rfl, rfl, z7⟩
    obtain rfl := Lst.zero hk28 c33
    rw [book_Check_l4] at r30
    refine shW_exit (andThen_exit (andThen_exit ?_))
    refine inBlock_exit (inBlock_n (id := 1) ?_)
    exact mi kr ⟨r30, rfl, rfl, z4⟩
   rintro e1 _ _ ⟨r54, rfl, rfl, he55⟩
   refine shW_env _ he55 ?_
   rw [book_Check_j3] at r54
   refine shW_region (uv (v_add rfl rfl (Lst.r64 hk7 c12 (RowR.lt h_hears))) ?_)
   refine um (shO_nil ?_)
   subst hn8; exact le kr ⟨_, _, rfl, hk13, r54, rfl, rfl, z4⟩
  obtain rfl := Lst.zero hk7 c12
  rw [book_Check_l2] at r9
  refine shW_exit (andThen_exit (andThen_exit ?_))
  refine inBlock_exit ?_
  exact mi kr ⟨r9, rfl, rfl, z1⟩
 rintro e1 _ _ ⟨r56, rfl, rfl, he57⟩
 refine shW_env _ he57 ?_
 rw [book_Check_j1] at r56
 refine shW_seq (shW_block (wsr (uv (v_fieldAddr fa_43_3 rfl) (uv (v_load isAgg35 rfl (Has.own 0 rfl) rfl) ?_))))
 have hn58 : FnR Tryz.prog F 90 #[] #[] (iE .i64) Value.bool (fun xx_ : Int => book_read xx_) := ⟨call90, fun F2 h2 vs xx_ r ha hr => by obtain rfl := ha; exact book_read_w hr⟩
 obtain ⟨ok2, h59, r60⟩ := b1_ok r56
 refine cV call64 (book_every_int_w h_readings hn58 h59) (uv (v_notB rfl) ?_)
 refine ua (shO_nil ?_)
 refine shW_cond rfl (fun c61 => ?_) (fun c61 => ?_)
 ·have r62 := bt r60 c61
  refine wsr (ua (shO_nil ?_))
  refine kW kn ?_
  refine shW_ret (inBlock_ret (andThen_ret ?_))
  refine qR1 results57 ?_
  obtain rfl := inj1 r62
  exact rfl
 have r63 := bf r60 c61
 refine wsr (uv (v_fieldAddr fa_43_4 rfl) (uv (v_load isAgg41 rfl (Has.own 0 rfl) rfl) (uv (v_makeFunc rfl rfl) ?_)))
 refine shO_freeze 0 rfl hb1 ?_; intro F64 hF65 hz66
 refine shO_L rfl ?_
 replace h_hears := h_hears.mono (slE_ok (slE_ok (iE_ok _))) hF65
 replace h_readings := h_readings.mono (iE_ok _) hF65
 replace h_cries := h_cries.mono (prE_ok (iE_ok _) (prE_ok (iE_ok _) (iE_ok _))) hF65
 have hn67 : FnR Tryz.prog F64 92 #[] #[.pointer (some ⟨b1, 0, none⟩)] (agE (prE (iE .i64) (prE (iE .i64) (iE .i64)))) Value.bool (fun xx_ : (Int × Int × Int) => book_Check_1 xx_.1 xx_.2.1 xx_.2.2 houses notices hears readings cries) := ⟨call92, fun F2 h2 vs xx_ r ha hr => by obtain ⟨_, rfl, ⟨_, _, rfl, rfl, ⟨_, _, rfl, rfl, rfl⟩⟩⟩ := ha; exact book_Check_1_w (h2 _ _ hz66) (h_hears.mono (slE_ok (slE_ok (iE_ok _))) h2) (h_readings.mono (iE_ok _) h2) (h_cries.mono (prE_ok (iE_ok _) (prE_ok (iE_ok _) (iE_ok _))) h2) hr⟩
 obtain ⟨ok3, h68, r69⟩ := b1_ok r63
 refine cV call91 (book_every_Cry_w h_cries hn67 h68) (uv (v_notB rfl) ?_)
 refine ua (shO_nil ?_)
 refine shW_cond rfl (fun c70 => ?_) (fun c70 => ?_)
 ·have r71 := bt r69 c70
  refine wsr (ua (shO_nil (shW_ret (inBlock_ret (andThen_ret ?_)))))
  refine qR1 results57 ?_
  obtain rfl := inj1 r71
  exact rfl
 have r72 := bf r69 c70
 refine shW_skip (inBlock_n (id := 4) (wsr (ua (shO_nil (shW_ret ?_)))))
 refine qR1 results57 ?_
 obtain rfl := inj1 r72
 exact rfl
set_option maxHeartbeats 1000000 in
theorem book_opened_w (h_hears : RowR 1 (slE 1 (slE 1 (iE .i64))) F hears_a hears_c hears) (h_readings : RowR 1 (iE .i64) F readings_a readings_c readings) (h_cries : RowR 3 (prE (iE .i64) (prE (iE .i64) (iE .i64))) F cries_a cries_c cries) {r : Option (Int × Int × (List (List (List Int))) × (List Int) × (List (Int × Int × Int)))} {r2 : Int} (hr : book_opened houses notices hears readings cries = some (r, r2)) :
    SH.Spec Tryz.prog 46 #[.agg #[.int .i64 houses, .int .i64 notices, .slice hears_a hears.length hears_c, .slice readings_a readings.length readings_c, .slice cries_a cries.length cries_c]] F [] fun F' L' v => ∃ (rv : Value), v = .tuple #[rv, .int .i64 r2] ∧ L' = [] ∧ PtrR 152 (prE (iE .i64) (prE (iE .i64) (prE (slE 1 (slE 1 (slE 1 (iE .i64)))) (prE (slE 1 (iE .i64)) (slE 3 (prE (iE .i64) (prE (iE .i64) (iE .i64)))))))) F' rv r := by
 refine sp func46 ntmps46 fun K _ _ => ?_
 rw [book_opened] at hr
 refine wsr ?_
 refine o_box rfl rfl ?_; intro b1 hb1
 refine ua (ua (shO_nil (shW_seq (wsr ?_))))
 refine uv (v_loadA isAgg43 sizeOf43 rfl (Has.own 0 rfl) (nbL rfl) rfl) ?_
 obtain ⟨n, h2, r3⟩ := b1_ok hr
 refine cV call57 (book_Check_w h_hears h_readings h_cries h2) ?_
 refine ua (nsr (um ?_))
 refine uv (v_neq rfl rfl) (shO_nil ?_)
 refine cQ (fun c4 => ?_) fun c4 => ?_
 ·have r5 := ite_t r3 c4
  refine wsr (um (ua (ua (shO_nil ?_))))
  refine kW kn ?_
  refine shW_ret (andThen_ret ?_)
  refine q_res2 results46 (res_tmp rfl) (res_tmp rfl) (sr) ?_
  obtain ⟨rfl, rfl⟩ := inj2 r5
  exact ⟨_, rfl, rfl, rfl⟩
 have r6 := ite_f r3 c4
 refine shW_skip (wsr ?_)
 refine uv (v_loadA isAgg43 sizeOf43 rfl (Has.own 0 rfl) (nbL rfl) rfl) ?_
 refine uv (v_build (v := .agg #[.int .i64 houses, .int .i64 notices, .slice hears_a hears.length hears_c, .slice readings_a readings.length readings_c, .slice cries_a cries.length cries_c]) rfl (by intro w; kernel_rfl)) ?_
 refine o_box rfl rfl ?_; intro b7 hb7
 refine ua (ua (shO_nil ?_))
 refine shW_freeze 0 rfl hb7 ?_; intro F8 hF9 hz10
 refine shW_L (L' := [(b1, ce #[.int .i64 houses, .int .i64 notices, .slice hears_a hears.length hears_c, .slice readings_a readings.length readings_c, .slice cries_a cries.length cries_c] 43)]) rfl ?_
 replace h_hears := h_hears.mono (slE_ok (slE_ok (iE_ok _))) hF9
 replace h_readings := h_readings.mono (iE_ok _) hF9
 replace h_cries := h_cries.mono (prE_ok (iE_ok _) (prE_ok (iE_ok _) (iE_ok _))) hF9
 refine kW kn (shW_ret (q_res2 results46 (res_tmp rfl) (res_tmp rfl) (sr) ?_))
 obtain ⟨rfl, rfl⟩ := inj2 r6
 exact ⟨_, rfl, rfl, ⟨_, _, _, rfl, hz10, ⟨_, _, rfl, rfl, ⟨_, _, rfl, rfl, ⟨_, _, rfl, ⟨_, _, rfl, h_hears⟩, ⟨_, _, rfl, ⟨_, _, rfl, h_readings⟩, ⟨_, _, rfl, h_cries⟩⟩⟩⟩⟩⟩⟩
theorem book_least_w {more_a : Option Addr} {more_c : Nat} {more : List Int} (h_more : RowR 1 (iE .i64) F more_a more_c more) {r : Int} (hr : book_least n more = some r) :
    SpecV Tryz.prog 84 #[.int .i64 n, .slice more_a more.length more_c] F (.int .i64 r) := by
 refine sp func84 ntmps84 fun K _ _ => ?_
 rw [book_least] at hr
 refine wsr (ua (shO_nil ?_))
 obtain ⟨n2, h1, r2⟩ := b1_ok hr
 refine jE ([]) [(0, .int .i64 n2)] ?_ ?_
 ·clear r2
  refine wsr (um ?_)
  refine uv (v_lenS underlying35 rfl) ?_
  refine um (shO_nil ?_)
  refine shW_block ?_
  refine shW_lp (fun fu1 e1 F1 L1 => LA more fu1 fun tl k => ∃ (n3 : Int), book_least_l1 tl n3 = some n2 ∧ F = F1 ∧ L1 = [] ∧ e1.sub [(0, .int .i64 n3), (7, .slice more_a more.length more_c), (8, .int .i64 (more.length : Int)), (9, .int .i64 k)]) _ (m0 kr ⟨_, _, rfl, Lst.start _, n, h1, rfl, rfl, z4⟩) ?_
  rintro fu1 e1 _ _ ⟨tl, k, hn4, hk3, n3, r5, rfl, rfl, he6⟩
  refine shW_env _ he6 (wsr (uv (v_lssK rfl rfl) ?_))
  refine shO_nil (shW_seq ?_)
  refine cQ (fun c8 => ?_) fun c8 => ?_
  ·obtain ⟨x, tl2, rfl, hx10, g11, hk9⟩ := Lst.succ hk3 c8
   rw [book_least_l1] at r5
   refine shW_skip (shW_seq ?_)
   refine shW_block (wsr ?_)
   obtain ⟨b12, o13, c14, vs15, ha16, hs17, hle18, rfl, hl19, hc20⟩ := RowR.at (iE_ok _) h_more ([]) g11.1 hx10
   refine uv (v_indexO underlying35 sizeOf3 rfl ha16 rfl g11) (uv (v_load isAgg3 rfl hs17 (hc20 0 (by decide))) ?_)
   refine ua (shO_nil (shW_region (um (um ?_))))
   refine uv (v_min2 rfl rfl) ?_
   refine ua (shO_nil (inBlock_n (id := 1) (shW_region ?_)))
   refine uv (v_add rfl rfl (Lst.r64 hk3 c8 (RowR.lt h_more))) ?_
   refine um (shO_nil ?_)
   subst hn4; exact le kr ⟨_, _, rfl, hk9, if x < n3 then x else n3, r5, rfl, rfl, z4⟩
  obtain rfl := Lst.zero hk3 c8
  rw [book_least_l1] at r5
  refine shW_exit (andThen_exit (andThen_exit ?_))
  refine inBlock_exit ?_
  obtain rfl := inj1 r5
  exact mi kr ⟨rfl, rfl, z1⟩
 refine wsr (um (ua (shO_nil (shW_ret ?_))))
 refine qR1 results84 ?_
 obtain rfl := inj1 r2
 exact rfl
theorem book_near_w {a b : Int} {r : Bool} (hr : book_near a b = some r) :
    SpecV Tryz.prog 48 #[.int .i64 a, .int .i64 b] F (.bool r) := by
 refine sp func48 ntmps48 fun K _ _ => ?_
 rw [book_near] at hr
 refine wsr (ua (nsr (um (um ?_))))
 obtain ⟨g1, r2⟩ := gd_ok hr
 refine uv (v_sub rfl rfl g1) ?_
 obtain ⟨g3, r4⟩ := gd_ok r2
 refine uv (v_add rfl rfl g3) (uv (v_remT rfl rfl (by decide)) ?_)
 refine ua (nsr (um (um ?_)))
 obtain ⟨g5, r6⟩ := gd_ok r4
 refine uv (v_sub rfl rfl g5) ?_
 refine bA (cs := #[.int .i64 (8 - (Int.tmod ((a - b) + 8) 8))]) slt_35 [.int .i64 (8 - (Int.tmod ((a - b) + 8) 8))] ?_; intro b7 hb7
 refine shO_freeze 0 rfl hb7 ?_; intro F8 hF9 hz10
 refine shO_L rfl ?_
 have h11 : RowR 1 (iE .i64) F8 (some ⟨b7, 0, none⟩) 1 [8 - (Int.tmod ((a - b) + 8) 8)] := RowR.of_block (iE_ok _) (vss := [[.int .i64 (8 - (Int.tmod ((a - b) + 8) 8))]]) (xs := [8 - (Int.tmod ((a - b) + 8) 8)]) hz10 (.cons rfl .nil) rfl (by simp [maxLen])
 obtain ⟨n, h12, r13⟩ := b1_ok r6
 refine cV call84 (book_least_w h11 h12) (uv (v_leqK rfl rfl) ?_)
 refine ua (shO_nil (shW_ret ?_))
 refine qR1 results48 ?_
 obtain rfl := inj1 r13
 exact rfl
theorem book_Book_can_w (_h_hears : RowR 1 (slE 1 (slE 1 (iE .i64))) F hears_a hears_c hears) (h_readings : RowR 1 (iE .i64) F readings_a readings_c readings) (_h_cries : RowR 3 (prE (iE .i64) (prE (iE .i64) (iE .i64))) F cries_a cries_c cries) {r : Bool} (hr : book_Book_can houses notices hears readings cries hour wind = some r) :
    SpecV Tryz.prog 97 #[.agg #[.int .i64 houses, .int .i64 notices, .slice hears_a hears.length hears_c, .slice readings_a readings.length readings_c, .slice cries_a cries.length cries_c], .int .i64 hour, .int .i64 wind] F (.bool r) := by
 refine sp func97 ntmps97 fun K _ _ => ?_
 rw [book_Book_can] at hr
 refine wsr ?_
 refine o_box rfl rfl ?_; intro b1 hb1
 refine ua (nsr ?_)
 refine uv (v_fieldAddr fa_43_3 rfl) (uv (v_load isAgg35 rfl (Has.own 0 rfl) rfl) (um ?_))
 obtain ⟨x, g2, hx3, r4⟩ := ix_ok hr
 obtain ⟨b5, o6, c7, vs8, ha9, hs10, hle11, rfl, hl12, hc13⟩ := RowR.at (iE_ok _) h_readings ([(b1, ce #[.int .i64 houses, .int .i64 notices, .slice hears_a hears.length hears_c, .slice readings_a readings.length readings_c, .slice cries_a cries.length cries_c] 43)]) g2.1 hx3
 refine uv (v_indexO underlying35 sizeOf3 rfl ha9 rfl g2) (uv (v_load isAgg3 rfl hs10 (hc13 0 (by decide))) (uv (v_eql rfl rfl) (um ?_)))
 by_cases c14 : x = (-1)
 ·have r15 := ite_t r4 c14
  refine fT c14 (fT c14 (fT c14 (fT c14 (fT c14 (fT c14 (fT c14 ?_))))))
  refine uv (v_pick_t (evD_true rfl c14) rfl) ?_
  refine ua (shO_nil ?_)
  refine kW kn (shW_ret (qR1 results97 ?_))
  obtain rfl := inj1 r15
  exact rfl
 have r16 := ite_f r4 c14
 refine nF c14 (um (nF c14 ?_))
 refine uv (v_fieldAddr fa_43_3 rfl) (nF c14 (uv (v_load isAgg35 rfl (Has.own 0 rfl) rfl) ?_))
 refine nF c14 (um (nF c14 ?_))
 obtain ⟨b17, o18, c19, vs20, ha21, hs22, hle23, rfl, hl24, hc25⟩ := RowR.at (iE_ok _) h_readings ([(b1, ce #[.int .i64 houses, .int .i64 notices, .slice hears_a hears.length hears_c, .slice readings_a readings.length readings_c, .slice cries_a cries.length cries_c] 43)]) g2.1 hx3
 refine uv (v_indexO underlying35 sizeOf3 rfl ha21 rfl g2) (nF c14 (uv (v_load isAgg3 rfl hs22 (hc25 0 (by decide))) (nF c14 ?_)))
 obtain ⟨ok, h26, r27⟩ := b1_ok r16
 refine cV call48 (book_near_w h26) (uv (v_pick_f (evD_false rfl c14) rfl) ?_)
 refine ua (shO_nil ?_)
 refine kW kn (shW_ret (qR1 results97 ?_))
 obtain rfl := inj1 r27
 exact rfl
theorem slices_Clone_int_int_w {s_ : List Int} (h_s_ : RowR 1 (iE .i64) F s__a s__c s_) {r : List Int} (hr : slices_Clone_int_int s_ = some r) :
    SH.Spec Tryz.prog 68 #[.slice s__a s_.length s__c] F [] fun F' L' v => ∃ (ra : Option Addr) (rn : Nat) (rc : Nat) (rL : LH), v = .slice ra rn rc ∧ L' = rL ++ [] ∧ SlR 0 3 1 (iE .i64) F' ra rn rc r rL := by
 refine sp func68 ntmps68 fun K _ _ => ?_
 rw [slices_Clone_int_int] at hr
 refine wsr (ua (shO_nil (shW_seq (wsr (um ?_)))))
 refine uv (v_eqlNil underlying35 rfl) (shO_nil ?_)
 refine shW_cond rfl (fun c1 => ?_) (fun c1 => ?_)
 ·have r2 := nilIf_t hr (RowR.isNone h_s_ c1)
  refine wsr (ua (shO_nil (shW_ret (andThen_ret ?_))))
  refine qR1 results68 ?_
  obtain rfl := inj1 r2
  exact ⟨_, _, _, [], rfl, rfl, SlR.nil _ _ _ _ _⟩
 have r3 := nilIf_f hr
 refine shW_skip (wsr ?_)
 refine o_buildSlice (cs := #[]) rfl rfl (buildSlice_none slt_35) ?_; intro b4 hb4
 refine um ?_
 have hz6 : SlR K.w0.heap.size 3 1 (iE .i64) F (some ⟨b4, 0, none⟩) 0 0 ([] : List Int) [(b4, ce #[] 3)] := SlR.of_block (vss := []) (iE_ok _) hb4 .nil rfl rfl (by simp [maxLen])
 generalize hLLb5 : ([(b4, ce #[] 3)] : LH) = Lb5 at hz6
 refine shO_perm (L' := Lb5 ++ []) (by rw [← hLLb5]; exact fO) ?_
 obtain ⟨l, h8, g9, r10⟩ := ap_ok r3
 refine o_appZ (xs := ([] : List Int)) (ys := s_) (zs := l) rfl slt_35 rfl rfl (Nat.le_refl _) (fun _ => .h) hz6 (RowR.src h_s_) h8 g9 (by decide) ?_; intro a11 n15 c12 Lb13 hz14
 refine ua (shO_nil (shW_ret ?_))
 refine qR1 results68 ?_
 obtain rfl := inj1 r10
 exact ⟨_, _, _, _, rfl, rfl, hz14.any⟩
set_option maxHeartbeats 1000000 in
theorem book_desk_hear_w (hb_d : F b_d = some (.cells #[.int .i64 houses, .int .i64 notices, .slice hears_a hears.length hears_c, .slice readings_a readings.length readings_c, .slice cries_a cries.length cries_c] 152 mb_d)) (h_hears : RowR 1 (slE 1 (slE 1 (iE .i64))) F hears_a hears_c hears) (_h_readings : RowR 1 (iE .i64) F readings_a readings_c readings) (h_cries : RowR 3 (prE (iE .i64) (prE (iE .i64) (iE .i64))) F cries_a cries_c cries) (h_g : g.length = 24) {r : List Bool} (hr : book_desk_hear houses notices hears readings cries g hour wind = some r) :
    SH.Spec Tryz.prog 99 #[.pointer (some ⟨b_d, 0, none⟩), .agg (arr cB g), .int .i64 hour, .int .i64 wind] F [] fun _ L' v => v = .agg (arr cB r) ∧ L' = [] ∧ r.length = 24 := by
 refine sp func99 ntmps99 fun K _ _ => ?_
 rw [book_desk_hear] at hr
 refine wsr ?_
 refine o_box rfl rfl ?_; intro b1 hb1
 refine o_alloc rfl zeroValue104 ?_; intro b2 hb2
 refine shO_L rfl (shO_nil ?_)
 obtain ⟨g2, h4, r5⟩ := b1_ok hr
 refine shW_join (fun e1 F1 L1 => F = F1 ∧ L1 = [(b2, ce (arr cB (List.replicate 24 false)) 104), (b1, ce (arr cB g2) 104)] ∧ e1.sub [(5, .pointer (some ⟨b1, 0, none⟩)), (8, .pointer (some ⟨b2, 0, none⟩))] ∧ g2.length = 24) ?_ ?_
 ·clear r5
  refine wsr (um ?_)
  refine uv (v_nilCheck rfl) (uv (v_fieldAddr fa_152_0 rfl) (uv (v_fieldAddr fa_43_4 rfl) (uv (v_load isAgg41 rfl (Has.frozen hb_d) rfl) (uv (v_lenS underlying41 rfl) ?_))))
  refine um (shO_nil ?_)
  refine shW_block ?_
  refine shW_lp (fun fu1 e1 F1 L1 => LA cries fu1 fun tl k => ∃ (g3 : List Bool), book_desk_hear_l1 hears hour wind tl g3 = some g2 ∧ F = F1 ∧ L1 = [(b2, ce (arr cB (List.replicate 24 false)) 104), (b1, ce (arr cB g3) 104)] ∧ e1.sub [(0, .pointer (some ⟨b_d, 0, none⟩)), (2, .int .i64 hour), (3, .int .i64 wind), (5, .pointer (some ⟨b1, 0, none⟩)), (8, .pointer (some ⟨b2, 0, none⟩)), (17, .slice cries_a cries.length cries_c), (18, .int .i64 (cries.length : Int)), (19, .int .i64 k)] ∧ g3.length = 24) _ (m0 kr ⟨_, _, rfl, Lst.start _, g, h4, rfl, rfl, z8, h_g⟩) ?_
  rintro fu1 e1 _ _ ⟨tl, k, hn8, hk7, g3, r9, rfl, rfl, he10, h6⟩
  refine shW_env _ he10 (wsr (uv (v_lssK rfl rfl) ?_))
  refine shO_nil (shW_seq ?_)
  refine cQ (fun c12 => ?_) fun c12 => ?_
  ·obtain ⟨x, tl2, rfl, hx14, g15, hk13⟩ := Lst.succ hk7 c12
   rw [book_desk_hear_l1] at r9
   refine shW_skip ?_
   obtain ⟨g4, h17, r18⟩ := b1_ok r9
   refine shW_join (fun e1 F1 L1 => F = F1 ∧ L1 = [(b2, ce (arr cB (List.replicate 24 false)) 104), (b1, ce (arr cB g4) 104)] ∧ e1.sub [(0, .pointer (some ⟨b_d, 0, none⟩)), (2, .int .i64 hour), (3, .int .i64 wind), (5, .pointer (some ⟨b1, 0, none⟩)), (8, .pointer (some ⟨b2, 0, none⟩)), (17, .slice cries_a cries.length cries_c), (18, .int .i64 (cries.length : Int)), (19, .int .i64 k)] ∧ g4.length = 24) ?_ ?_
   ·clear r18
    refine shW_block (wsr ?_)
    obtain ⟨b19, o20, c21, vs22, ha23, hs24, hle25, ⟨_, _, rfl, rfl, ⟨_, _, rfl, rfl, rfl⟩⟩, hl26, hc27⟩ := RowR.at (prE_ok (iE_ok _) (prE_ok (iE_ok _) (iE_ok _))) h_cries ([(b2, ce (arr cB (List.replicate 24 false)) 104), (b1, ce (arr cB g3) 104)]) g15.1 hx14
    refine uv (v_indexO underlying41 sizeOf49 rfl ha23 rfl g15) (uv (v_loadA isAgg49 sizeOf49 rfl hs24 hle25 (extract_cells hle25 hl26 hc27)) ?_)
    refine o_alloc rfl zeroValue49 ?_; intro b28 hb28
    refine o_storeA (i := 0) sizeOf49 rfl rfl rfl (by simp [Value.oneCell']) rfl (nbL rfl) (shO_L rfl ?_)
    refine shO_nil (shW_seq (wsr ?_))
    refine uv (v_fieldAddr fa_49_0 rfl) (uv (v_load isAgg3 rfl (Has.own 0 rfl) rfl) (um (uv (v_neq rfl rfl) (shO_nil ?_))))
    refine cQ (fun c29 => ?_) fun c29 => ?_
    ·have r30 := ite_t h17 c29
     refine shW_exit (andThen_exit ?_)
     refine inBlock_exit ?_
     obtain rfl := inj1 r30
     exact mi (kd kr) ⟨rfl, rfl, z8, h6⟩
    have r31 := ite_f h17 c29
    refine shW_skip (dW (wm (wv (v_nilCheck rfl) (wv (v_fieldAddr fa_152_0 rfl) (wv (v_fieldAddr fa_43_2 rfl) (wv (v_load isAgg40 rfl (Has.frozen hb_d) rfl) (wv (v_fieldAddr fa_49_1 rfl) ?_)))))))
    refine wv (v_load isAgg3 rfl (Has.own 0 rfl) rfl) ?_
    obtain ⟨x2, g32, hx33, r34⟩ := ix_ok r31
    obtain ⟨b35, o36, c37, vs38, ha39, hs40, hle41, ⟨a44, c45, rfl, h46⟩, hl42, hc43⟩ := RowR.at (slE_ok (slE_ok (iE_ok _))) h_hears ([(b28, ce #[.int .i64 x.1, .int .i64 x.2.1, .int .i64 x.2.2] 49), (b2, ce (arr cB (List.replicate 24 false)) 104), (b1, ce (arr cB g3) 104)]) g32.1 hx33
    refine wv (v_indexO underlying40 sizeOf23 rfl ha39 rfl g32) (wv (v_load isAgg23 rfl hs40 (hc43 0 (by decide))) (wm ?_))
    obtain ⟨x3, g47, hx48, r49⟩ := ix_ok r34
    obtain ⟨b50, o51, c52, vs53, ha54, hs55, hle56, ⟨a59, c60, rfl, h61⟩, hl57, hc58⟩ := RowR.at (slE_ok (iE_ok _)) h46 ([(b28, ce #[.int .i64 x.1, .int .i64 x.2.1, .int .i64 x.2.2] 49), (b2, ce (arr cB (List.replicate 24 false)) 104), (b1, ce (arr cB g3) 104)]) g47.1 hx48
    refine wv (v_indexO underlying23 sizeOf35 rfl ha54 rfl g47) (wv (v_load isAgg35 rfl hs55 (hc58 0 (by decide))) (wv (v_lenS underlying35 rfl) ?_))
    refine wm (shQ_nil ?_)
    refine shW_block ?_
    refine shW_lp (fun fu2 e1 F1 L1 => LA x3 fu2 fun tl3 k2 => ∃ (g5 : List Bool), book_desk_hear_l2 x tl3 g5 = some g4 ∧ F = F1 ∧ L1 = [(b28, ce #[.int .i64 x.1, .int .i64 x.2.1, .int .i64 x.2.2] 49), (b2, ce (arr cB (List.replicate 24 false)) 104), (b1, ce (arr cB g5) 104)] ∧ e1.sub [(0, .pointer (some ⟨b_d, 0, none⟩)), (2, .int .i64 hour), (3, .int .i64 wind), (5, .pointer (some ⟨b1, 0, none⟩)), (8, .pointer (some ⟨b2, 0, none⟩)), (10, .pointer (some ⟨b28, 0, none⟩)), (17, .slice cries_a cries.length cries_c), (18, .int .i64 (cries.length : Int)), (19, .int .i64 k), (38, .slice a59 x3.length c60), (39, .int .i64 (x3.length : Int)), (40, .int .i64 k2)] ∧ g5.length = 24) _ (m0 kr ⟨_, _, rfl, Lst.start _, g3, r49, rfl, rfl, (sc rfl (sc rfl (sc rfl (sc rfl z8)))), h6⟩) ?_
    rintro fu2 e1 _ _ ⟨tl3, k2, hn64, hk63, g5, r65, rfl, rfl, he66, h62⟩
    refine shW_env _ he66 (wsr (uv (v_lssK rfl rfl) ?_))
    refine shO_nil (shW_seq ?_)
    refine cQ (fun c68 => ?_) fun c68 => ?_
    ·obtain ⟨x4, tl4, rfl, hx70, g71, hk69⟩ := Lst.succ hk63 c68
     rw [book_desk_hear_l2] at r65
     refine shW_skip (shW_seq ?_)
     refine shW_block (wsr ?_)
     obtain ⟨b72, o73, c74, vs75, ha76, hs77, hle78, rfl, hl79, hc80⟩ := RowR.at (iE_ok _) h61 ([(b28, ce #[.int .i64 x.1, .int .i64 x.2.1, .int .i64 x.2.2] 49), (b2, ce (arr cB (List.replicate 24 false)) 104), (b1, ce (arr cB g5) 104)]) g71.1 hx70
     refine uv (v_indexO underlying35 sizeOf3 rfl ha76 rfl g71) (uv (v_load isAgg3 rfl hs77 (hc80 0 (by decide))) ?_)
     refine ua (shO_nil ?_)
     refine shW_drawM [(.still, 0), (.still, 1), (.still, 2), (.still, 3), (.still, 4), (.seq, 5)] (by kernel_rfl) (by kernel_rfl) (trivial) (by rfl) (by kernel_rfl) (mS [12] rfl (v_move rfl) (mS [10] rfl (v_fieldAddr fa_49_2 rfl) (mL [45] ([(b28, ce #[.int .i64 x.1, .int .i64 x.2.1, .int .i64 x.2.2] 49)]) rfl (s0 (s2 (s1 (s1 sr)))) (fun H F' L' hF' hL' => v_load isAgg3 rfl ((Has.own 0 rfl).ext hF' hL') rfl) ?_)))
     obtain ⟨g81, r82⟩ := gd_ok r65
     refine mS [5, 44] rfl (v_indexA underlying104 sizeOf102 rfl rfl g81) ?_
     obtain ⟨g83, r84⟩ := gd_ok r82
     obtain ⟨x5, g85, hx86, r87⟩ := ix_ok r84
     have hq89 : (x4 * 4 + x.2.2 : Int).toNat = (x4 : Int).toNat * 4 + (x.2.2 : Int).toNat := by have := g81; have := g83; omega
     refine mS [46, 47] rfl (v_indexA underlying102 sizeOf4 rfl rfl g83) ?_
     refine ⟨_, [(48, .pointer (some ⟨b1, 0 + (x4 : Int).toNat * 4 + (x.2.2 : Int).toNat * 1, none⟩))], rfl, rfl, z1, by kernel_rfl, ?_⟩; intro H
     obtain ⟨l, h90, r91⟩ := bv_ok r87
     have h92 : l.length = 24 := by rw [h90, List.length_set]; exact h62
     refine o_storeArr2 (i := 2) sizeOf4 cB_ok rfl rfl rfl rfl hq89 (by have := g85; have := h62; omega) h62 ?_
     refine shO_L (L' := [(b28, ce #[.int .i64 x.1, .int .i64 x.2.1, .int .i64 x.2.2] 49), (b2, ce (arr cB (List.replicate 24 false)) 104), (b1, ce (arr cB l) 104)]) (by rw [h90]; rfl) ?_
     refine shO_nil ⟨undef, rfl, FExt.refl _, [], by kernel_rfl, .inl (.inl rfl), nm, ?_⟩
     refine shM_nil ?_
     refine inBlock_n (id := 3) (shW_region ?_)
     refine uv (v_add rfl rfl (Lst.r64 hk63 c68 (RowR.lt h61))) ?_
     refine um (shO_nil ?_)
     subst hn64; exact le kr ⟨_, _, rfl, hk69, l, r91, rfl, rfl, (sc rfl (sc rfl (sc rfl (sc rfl z8)))), h92⟩
    obtain rfl := Lst.zero hk63 c68
    rw [book_desk_hear_l2] at r65
    refine shW_exit (andThen_exit (andThen_exit ?_))
    refine inBlock_exit (inBlock_n (id := 1) ?_)
    obtain rfl := inj1 r65
    exact mi (kd kr) ⟨rfl, rfl, z8, h62⟩
   rintro e1 _ _ ⟨rfl, rfl, he93, h16⟩
   refine shW_env _ he93 (shW_region (uv (v_add rfl rfl (Lst.r64 hk7 c12 (RowR.lt h_cries))) ?_))
   refine um (shO_nil ?_)
   subst hn8; exact le kr ⟨_, _, rfl, hk13, g4, r18, rfl, rfl, z8, h16⟩
  obtain rfl := Lst.zero hk7 c12
  rw [book_desk_hear_l1] at r9
  refine shW_exit (andThen_exit (andThen_exit ?_))
  refine inBlock_exit ?_
  obtain rfl := inj1 r9
  exact mi kr ⟨rfl, rfl, z2, h6⟩
 rintro e1 _ _ ⟨rfl, rfl, he94, h3⟩
 refine shW_env _ he94 (wsr (uv (v_loadW isAgg104 sizeOf104 rfl (Has.own 1 rfl) (arr_sz cB_ok h3)) (o_storeW (i := 0) sizeOf104 rfl rfl rfl (arr_sz cB_ok List.length_replicate) (arr_sz cB_ok h3) (arr_one cB_ok) (shO_L rfl (shO_nil (kW (kc kn) (shW_ret ?_)))))))
 refine q_res1 results99 (res_cellA (cs := arr cB g2) isAgg104 sizeOf104 rfl (Has.own 0 rfl) (li_le (li_end (lfl cB_ok h3))) (li_ext (lfl cB_ok h3) (li_end (lfl cB_ok h3)))) (s1 sr) ?_
 obtain rfl := inj1 r5
 exact ⟨rfl, rfl, h3⟩
set_option maxHeartbeats 1000000 in
theorem book_turned_1_w {b_wind : Nat} {mb_wind : Nat × Nat} (hb_wind : F b_wind = some (.cells #[.int .i64 wind] 3 mb_wind)) {xs : List Int} (hr : book_turned_1 wind = some xs) :
    IterOK Tryz.prog 116 #[] #[.pointer (some ⟨b_wind, 0, none⟩)] F (fun x : Int => #[.int .i64 x]) xs := by
 intro G0 hG0 yv J Jx hJm hJxm hy Fc L0 hG hJ0
 replace hb_wind := (hG0.trans hG) _ _ hb_wind
 have hfull0 : xs = [] ++ xs := rfl
 show SH.Spec Tryz.prog 116 #[yv, .pointer (some ⟨b_wind, 0, none⟩)] Fc L0 _
 refine sp func116 ntmps116 fun K _ _ => ?_
 rw [book_turned_1] at hr; refine shW_L (L' := L0 ++ []) (by simp) ?_
 refine wsr (um (shO_nil ?_))
 refine shW_block ?_
 obtain ⟨g6, r7⟩ := gd_ok hr
 refine shW_lp (fun fu1 e1 F1 L1 => ∃ (k : Int), Ctr 0 8 k fu1 ∧ ∃ (pre1 : List Int) (rem2 : List Int) (Lj3 : LH), book_turned_1_l1 wind fu1 k = some rem2 ∧ FExt Fc F1 ∧ L1 = (Lj3 ++ []) ∧ e1.sub [(0, yv), (1, .pointer (some ⟨b_wind, 0, none⟩)), (4, .int .i64 k)] ∧ xs = pre1 ++ rem2 ∧ J pre1 F1 Lj3 ∧ FExt G0 F1) _ (m0 kr ⟨_, Ctr.start _ _, [], xs, L0, r7, FExt.refl _, rfl, z3, hfull0, hJ0, hG⟩) ?_
 rintro fu1 e1 F12 _ ⟨k, hk8, pre1, rem2, Lj3, r10, hF13, rfl, he11, hfull5, hJ4, hG⟩
 refine shW_env _ he11 ?_
 replace hb_wind := hF13 _ _ hb_wind
 refine wsr (uv (v_lssK rfl rfl) ?_)
 refine shO_nil (shW_seq ?_)
 refine cQ (fun c15 => ?_) fun c15 => ?_
 ·obtain ⟨fu1, rfl, hk16⟩ := Ctr.succ hk8 c15
  rw [book_turned_1_l1] at r10
  refine shW_skip (shW_seq ?_)
  refine shW_block ?_
  refine wsr (um (ua (nsr (um ?_))))
  refine uv (v_load isAgg3 rfl (Has.frozen hb_wind) rfl) ?_
  obtain ⟨ok, h17, r18⟩ := b1_ok r10
  refine cV call48 (book_near_w h17) (um ?_)
  rcases bool_two ok with c19 | c19
  ·have r20 := bt r18 c19
   refine nB c19 (um (nB c19 (um (nB c19 ?_))))
   obtain ⟨tl21, r23, hx22⟩ := yl_ok r20
   refine o_callC (Lb := Lj3) (Lr := []) (vs := [.int .i64 k]) rfl rfl rfl fP (hy pre1 k tl21 (by rw [hfull5, hx22]) _ _ hG hJ4) ?_
   rintro v31 F24 Lj25 hF26 hz27; obtain ⟨yb28, rfl, hbt29, hbf30⟩ := yield_bool hz27
   replace hG := hG.trans hF26
   refine nB c19 (uv (v_notB rfl) (uv (v_pick_t (evB rfl c19) rfl) (shO_nil ?_)))
   refine shW_cond rfl (fun c32 => ?_) (fun c32 => ?_)
   ·have hJ33 := hbf30 (by simpa using c32)
    refine shW_ret (inBlock_ret (andThen_ret (andThen_ret (inBlock_ret ?_))))
    refine q_end0s (.inl rfl) results116 (sr) ?_
    exact .inr (by rw [List.append_nil]; exact hJ33)
   have hJ34 := hbt29 (by simpa using c32)
   have hfull35 : xs = (pre1 ++ [k]) ++ tl21 := by rw [hfull5, hx22]; simp
   refine shW_skip (inBlock_n (id := 1) (shW_region ?_))
   refine uv (v_add rfl rfl (Ctr.r64 hk8 c15 g6)) ?_
   refine um (shO_nil ?_)
   exact le kr ⟨_, hk16, pre1 ++ [k], tl21, Lj25, r23, (hF13.trans hF26), rfl, z3, hfull35, hJ34, hG⟩
  have r36 := bf r18 c19
  refine fB c19 (fB c19 (fB c19 (fB c19 ?_)))
  refine uv (v_pick_f (evB rfl c19) rfl) (shO_nil ?_)
  refine shW_cond rfl (fun c37 => nomatch c37) (fun c37 => ?_)
  refine shW_skip (inBlock_n (id := 1) (shW_region ?_))
  refine uv (v_add rfl rfl (Ctr.r64 hk8 c15 g6)) ?_
  refine um (shO_nil ?_)
  exact le kr ⟨_, hk16, pre1, rem2, Lj3, r36, hF13, rfl, z3, hfull5, hJ4, hG⟩
 obtain rfl := Ctr.zero hk8 c15
 rw [book_turned_1_l1] at r10
 refine shW_exit (andThen_exit (andThen_exit ?_))
 refine inBlock_exit (q_end0s (.inr rfl) results116 (sr) ?_)
 obtain rfl := inj1 r10
 exact .inl (by have e1 := hfull5; rw [List.append_nil] at e1; rw [List.append_nil, e1]; exact hJ4)
theorem book_turned_w {r : List Int} (hr : book_turned wind = some r) :
    SH.Spec Tryz.prog 100 #[.int .i64 wind] F [] fun F' L' v => ∃ (rcp : Array Value), v = .func (.func 116) #[] rcp ∧ L' = [] ∧ IterOK Tryz.prog 116 #[] rcp F' (fun x : Int => #[.int .i64 x]) r := by
 refine sp func100 ntmps100 fun K _ _ => ?_
 rw [book_turned] at hr
 refine wsr ?_
 refine o_box rfl rfl ?_; intro b1 hb1
 refine ua (nsr ?_)
 refine uv (v_makeFunc rfl rfl) ?_
 refine ua (shO_nil ?_)
 refine shW_freeze 0 rfl hb1 ?_; intro F2 hF3 hz4
 refine shW_L (L' := []) rfl ?_
 obtain ⟨l, h5, r7⟩ := b1_ok hr
 have hit6 : IterOK Tryz.prog 116 #[] #[.pointer (some ⟨b1, 0, none⟩)] F2 (fun x : Int => #[.int .i64 x]) l := book_turned_1_w hz4 h5
 refine shW_ret (qR1 results100 ?_)
 obtain rfl := inj1 r7
 exact ⟨_, rfl, rfl, hit6⟩
set_option maxHeartbeats 1000000 in
theorem slices_IndexFunc_book_ending_book_ending_w {s_ : List ((List Bool) × (List Int))} {f : ((List Bool) × (List Int)) → Option Bool} (h_s_ : RowR 25 (prE (arE 24 cB) (slE 1 (iE .i64))) F s__a s__c s_) (h_f : FnR Tryz.prog F f_f f_1 f_2 (agE (prE (arE 24 cB) (slE 1 (iE .i64)))) Value.bool f) {r : Int} (hr : slices_IndexFunc_book_ending_book_ending s_ f = some r) :
    SpecV Tryz.prog 117 #[.slice s__a s_.length s__c, .func (.func f_f) f_1 f_2] F (.int .i64 r) := by
 refine sp func117 ntmps117 fun K _ _ => ?_
 rw [slices_IndexFunc_book_ending_book_ending] at hr
 refine wsr (ua (shO_nil ?_))
 refine shW_join (fun e1 F1 L1 => slices_IndexFunc_book_ending_book_ending_j1 = some r ∧ F = F1 ∧ L1 = [] ∧ e1.sub []) ?_ ?_
 ·refine wsr (um ?_)
  refine uv (v_lenS underlying99 rfl) ?_
  refine um (shO_nil ?_)
  refine shW_block ?_
  refine shW_lp (fun fu2 e1 F1 L1 => LA s_ fu2 fun tl k => slices_IndexFunc_book_ending_book_ending_l2 f tl k = some r ∧ F = F1 ∧ L1 = [] ∧ e1.sub [(0, .slice s__a s_.length s__c), (1, .func (.func f_f) f_1 f_2), (7, .int .i64 (s_.length : Int)), (8, .int .i64 k)]) _ (m0 kr ⟨_, _, rfl, Lst.start _, hr, rfl, rfl, z4⟩) ?_
  rintro fu2 e1 _ _ ⟨tl, k, hn2, hk1, r3, rfl, rfl, he4⟩
  refine shW_env _ he4 (wsr (uv (v_lssK rfl rfl) ?_))
  refine shO_nil (shW_seq ?_)
  refine cQ (fun c6 => ?_) fun c6 => ?_
  ·obtain ⟨x, tl2, rfl, hx8, g9, hk7⟩ := Lst.succ hk1 c6
   rw [slices_IndexFunc_book_ending_book_ending_l2] at r3
   refine shW_skip (shW_seq ?_)
   refine shW_block ?_
   refine wsr (um (ua (nsr (um (um (um ?_))))))
   obtain ⟨b10, o11, c12, vs13, ha14, hs15, hle16, ⟨_, _, rfl, ⟨rfl, h19⟩, ⟨a20, c21, rfl, h22⟩⟩, hl17, hc18⟩ := RowR.at (prE_ok (arE_ok (n := 24) (sz := 1) cB_ok) (slE_ok (iE_ok _))) h_s_ ([]) g9.1 hx8
   refine uv (v_indexO underlying99 sizeOf106 rfl ha14 rfl g9) (uv (v_loadA isAgg106 sizeOf106 rfl hs15 hle16 (extract_cells hle16 hl17 hc18)) ?_)
   obtain ⟨ok, h23, r24⟩ := b1_ok r3
   refine o_callV rfl h_f.1 rfl rfl rfl (h_f.2 _ (FExt.refl _) _ _ _ ⟨_, rfl, ⟨_, _, rfl, ⟨rfl, h19⟩, ⟨_, _, rfl, h22⟩⟩⟩ h23) (shO_nil ?_)
   refine shW_cond rfl (fun c25 => ?_) (fun c25 => ?_)
   ·have r26 := bt r24 c25
    refine wsr (um (ua (shO_nil (shW_ret (inBlock_ret (andThen_ret (andThen_ret (inBlock_ret (andThen_ret ?_)))))))))
    refine qR1 results117 ?_
    obtain rfl := inj1 r26
    exact rfl
   have r27 := bf r24 c25
   refine shW_skip (inBlock_n (id := 1) (shW_region ?_))
   refine uv (v_add rfl rfl (Lst.r64 hk1 c6 (RowR.lt h_s_))) ?_
   refine um (shO_nil ?_)
   subst hn2; exact le kr ⟨_, _, rfl, hk7, r27, rfl, rfl, z4⟩
  obtain rfl := Lst.zero hk1 c6
  rw [slices_IndexFunc_book_ending_book_ending_l2] at r3
  refine shW_exit (andThen_exit (andThen_exit ?_))
  refine inBlock_exit ?_
  exact mi kr ⟨r3, rfl, rfl, (sn _)⟩
 rintro e1 _ _ ⟨r28, rfl, rfl, he29⟩
 refine shW_env _ he29 ?_
 rw [slices_IndexFunc_book_ending_book_ending_j1] at r28
 refine wsr (ua (shO_nil (shW_ret ?_)))
 refine qR1 results117 ?_
 obtain rfl := inj1 r28
 exact rfl
theorem slices_ContainsFunc_book_ending_book_ending_w {s_ : List ((List Bool) × (List Int))} {f : ((List Bool) × (List Int)) → Option Bool} (h_s_ : RowR 25 (prE (arE 24 cB) (slE 1 (iE .i64))) F s__a s__c s_) (h_f : FnR Tryz.prog F f_f f_1 f_2 (agE (prE (arE 24 cB) (slE 1 (iE .i64)))) Value.bool f) {r : Bool} (hr : slices_ContainsFunc_book_ending_book_ending s_ f = some r) :
    SpecV Tryz.prog 101 #[.slice s__a s_.length s__c, .func (.func f_f) f_1 f_2] F (.bool r) := by
 refine sp func101 ntmps101 fun K _ _ => ?_
 rw [slices_ContainsFunc_book_ending_book_ending] at hr
 refine wsr (ua (nsr (um (um ?_))))
 obtain ⟨n, h1, r2⟩ := b1_ok hr
 refine cV call117 (slices_IndexFunc_book_ending_book_ending_w h_s_ h_f h1) (uv (v_geqK rfl rfl) ?_)
 refine ua (shO_nil (shW_ret ?_))
 refine qR1 results101 ?_
 obtain rfl := inj1 r2
 exact rfl
set_option maxHeartbeats 1000000 in
theorem book_desk_endings_1_w {wind2 : Int} {x_f : FuncId} {x_1 x_2 : Array Value} {x : (Int × Int) → Option Bool} {b_x_ : Nat} {x2 : Int} {mb_x_ : Nat × Nat} {b_d_ : Nat} {mb_d_ : Nat × Nat} {b_x__ x3_b : Nat} {x3_es : Array MapEntry} {x3_cl : Nat} {x3 : List ((Int × (List Bool)) × Bool)} {mb_x__ : Nat × Nat} {b_next_ : Nat} {next__a : Option Addr} {next__n next__c : Nat} {next__L : LH} {next_ : List (Int × (List Bool) × (List Int))} (h_got : got.length = 24) (h_course : RowR 1 (iE .i64) F course_a course_c course) (hb_x : F b_x = some (.cells #[.func (.func x_f) x_1 x_2] 75 mb_x)) (h_x : FnR Tryz.prog F x_f x_1 x_2 (prE (iE .i64) (iE .i64)) Value.bool x) (hb_x_ : F b_x_ = some (.cells #[.int .i64 x2] 3 mb_x_)) (hb_d : F b_d = some (.cells #[.pointer (some ⟨b_d_, 0, none⟩)] 98 mb_d)) (hb_d_ : F b_d_ = some (.cells #[.int .i64 houses, .int .i64 notices, .slice hears_a hears.length hears_c, .slice readings_a readings.length readings_c, .slice cries_a cries.length cries_c] 152 mb_d_)) (h_hears : RowR 1 (slE 1 (slE 1 (iE .i64))) F hears_a hears_c hears) (h_readings : RowR 1 (iE .i64) F readings_a readings_c readings) (h_cries : RowR 3 (prE (iE .i64) (prE (iE .i64) (iE .i64))) F cries_a cries_c cries) (hb_x__ : F b_x__ = some (.cells #[.map (some x3_b)] 175 mb_x__)) (h_x3 : MapRP gk_177 (vA (cP (cI .i64) (cA cB))) Value.bool x3_es x3) (h_next_ : SlR 0 179 26 (prE (iE .i64) (prE (arE 24 cB) (slE 1 (iE .i64)))) F next__a next__n next__c next_ next__L) {r : List ((Int × (List Bool)) × Bool)} {r2 : List (Int × (List Bool) × (List Int))} (hr : book_desk_endings_1 wind got course wind2 x x2 houses notices hears readings cries x3 next_ = some (r, r2)) :
    SH.Spec Tryz.prog 98 #[.agg ((([.int .i64 wind] : List Value) ++ (got.flatMap cB ++ (([.slice course_a course.length course_c] : List Value)))).toArray), .int .i64 wind2, .pointer (some ⟨b_x, 0, none⟩), .pointer (some ⟨b_x_, 0, none⟩), .pointer (some ⟨b_d, 0, none⟩), .pointer (some ⟨b_x__, 0, none⟩), .pointer (some ⟨b_next_, 0, none⟩)] F ((x3_b, .map x3_es x3_cl) :: ((b_next_, ce #[.slice next__a next__n next__c] 174) :: (next__L ++ []))) fun F' L' v => ∃ (x_es2 : Array MapEntry) (x_cl2 : Nat) (r2a : Option Addr) (r2n : Nat) (r2c : Nat) (r2L : LH), v = .tuple #[] ∧ L' = (x3_b, .map x_es2 x_cl2) :: ((b_next_, ce #[.slice r2a r2n r2c] 174) :: (r2L ++ [])) ∧ MapRP gk_177 (vA (cP (cI .i64) (cA cB))) Value.bool x_es2 r ∧ SlR 0 179 26 (prE (iE .i64) (prE (arE 24 cB) (slE 1 (iE .i64)))) F' r2a r2n r2c r2 r2L := by
 refine sp func98 ntmps98 fun K _ _ => ?_
 rw [book_desk_endings_1] at hr
 refine shW_L (L' := (x3_b, .map x3_es x3_cl) :: ((b_next_, ce #[.slice next__a next__n next__c] 174) :: (next__L ++ []))) (by simp) (wsr ?_)
 refine o_box rfl rfl ?_; intro b1 hb1
 refine shO_nil (shW_seq (wsr ?_))
 refine uv (v_load isAgg75 rfl (Has.frozen hb_x) rfl) (uv (v_load isAgg3 rfl (Has.frozen hb_x_) rfl) (um ?_))
 obtain ⟨ok, h2, r3⟩ := b1_ok hr
 refine o_callV rfl h_x.1 rfl rfl rfl (h_x.2 _ (FExt.refl _) _ _ _ ⟨_, _, rfl, rfl, rfl⟩ h2) (uv (v_notB rfl) (shO_nil ?_))
 refine shW_cond rfl (fun c4 => ?_) (fun c4 => ?_)
 ·have r5 := bt r3 c4
  refine kW (kd kr) ?_
  refine shW_ret (andThen_ret ?_)
  refine q_end0 (.inl rfl) results98 ?_
  obtain ⟨rfl, rfl⟩ := inj2 r5
  exact ⟨_, _, _, _, _, _, rfl, rfl, h_x3, h_next_.any⟩
 have r6 := bf r3 c4
 refine shW_skip (wsr (um ?_))
 refine uv (v_load isAgg98 rfl (Has.frozen hb_d) rfl) (uv (v_fieldAddr fa_179_0 rfl) (uv (v_fieldAddr fa_177_1 rfl) (uv (v_loadA isAgg104 sizeOf104 rfl (Has.own 0 rfl) (li_le (li_skip (A := ([.int .i64 wind] : List Value)) (k := 1) (o := 0) rfl (li_here (lfl cB_ok h_got)))) (li_ext (lfl cB_ok h_got) (li_skip (A := ([.int .i64 wind] : List Value)) (k := 1) (o := 0) rfl (li_here (lfl cB_ok h_got))))) (uv (v_load isAgg3 rfl (Has.frozen hb_x_) rfl) (um ?_)))))
 obtain ⟨a, h7, r8⟩ := b1_ok r6
 refine c0 call99 (book_desk_hear_w hb_d_ h_hears h_readings h_cries h_got h7) ?_; rintro _ F9 _ hF10 hn11 ⟨rfl, rfl, h13⟩
 replace h_course := h_course.mono (iE_ok _) hF10
 replace h_next_ := h_next_.mono (prE_ok (iE_ok _) (prE_ok (arE_ok (n := 24) (sz := 1) cB_ok) (slE_ok (iE_ok _)))) hF10
 replace hb_x__ := hF10 _ _ hb_x__
 refine shO_L (ln rfl) ?_
 refine uv (v_build (v := .agg ((([.int .i64 wind2] : List Value) ++ (a.flatMap cB)).toArray)) rfl (by intro w; obtain ⟨a0, a1, a2, a3, a4, a5, a6, a7, a8, a9, a10, a11, a12, a13, a14, a15, a16, a17, a18, a19, a20, a21, a22, a23, rfl⟩ := len_24 h13; kernel_rfl)) ?_
 refine o_alloc rfl zeroValue177 ?_; intro b14 hb14
 refine shO_L (L' := (b14, ce ((([.int .i64 0] : List Value) ++ ((List.replicate 24 false).flatMap cB)).toArray) 177) :: ((b1, ce ((([.int .i64 wind] : List Value) ++ (got.flatMap cB ++ (([.slice course_a course.length course_c] : List Value)))).toArray) 179) :: ((x3_b, .map x3_es x3_cl) :: ((b_next_, ce #[.slice next__a next__n next__c] 174) :: (next__L ++ []))))) rfl (o_storeW (i := 0) sizeOf177 rfl rfl rfl (lz (la rfl (lfl cB_ok List.length_replicate))) (lz (la rfl (lfl cB_ok h13))) (oc_app (by simp [Value.oneCell']) (flat_one cB_ok _)) (shO_L (L' := (b14, ce ((([.int .i64 wind2] : List Value) ++ (a.flatMap cB)).toArray) 177) :: ((b1, ce ((([.int .i64 wind] : List Value) ++ (got.flatMap cB ++ (([.slice course_a course.length course_c] : List Value)))).toArray) 179) :: ((x3_b, .map x3_es x3_cl) :: ((b_next_, ce #[.slice next__a next__n next__c] 174) :: (next__L ++ []))))) rfl (nsr (uv (v_load isAgg175 rfl (Has.frozen hb_x__) rfl) (uv (v_loadA isAgg177 sizeOf177 rfl (Has.own 0 rfl) (li_le (li_cat rfl (li_here rfl) (li_skip (A := ([.int .i64 wind2] : List Value)) (k := 1) (o := 0) rfl (li_end (lfl cB_ok h13))))) (li_ext (la rfl (lfl cB_ok h13)) (li_cat rfl (li_here rfl) (li_skip (A := ([.int .i64 wind2] : List Value)) (k := 1) (o := 0) rfl (li_end (lfl cB_ok h13)))))) ?_)))))
 obtain ⟨g15, r16⟩ := gd_ok r8
 refine uv (OpV.eq (v' := .bool ((mget x3 (wind2, a)).getD false)) (v_lookS1P (k := (wind2, a)) (z0 := false) rfl underlying175 key_177 zeroValue4 rfl rfl (HasM.own 2 rfl) (show MapRP gk_177 (vA (cP (cI .i64) (cA cB))) Value.bool x3_es (x3 : List ((Int × (List Bool)) × Bool)) from h_x3) ⟨g15, h13⟩) rfl) (uv (v_notB rfl) (shO_nil ?_))
 refine shW_cond rfl (fun c17 => ?_) (fun c17 => ?_)
 ·have r18 := bt r16 c17
  refine wsr (uv (v_load isAgg175 rfl (Has.frozen hb_x__) rfl) (uv (v_loadA isAgg177 sizeOf177 rfl (Has.own 0 rfl) (li_le (li_cat rfl (li_here rfl) (li_skip (A := ([.int .i64 wind2] : List Value)) (k := 1) (o := 0) rfl (li_end (lfl cB_ok h13))))) (li_ext (la rfl (lfl cB_ok h13)) (li_cat rfl (li_here rfl) (li_skip (A := ([.int .i64 wind2] : List Value)) (k := 1) (o := 0) rfl (li_end (lfl cB_ok h13)))))) ?_))
  obtain ⟨g22, r23⟩ := gd_ok r18
  refine o_mapUpdateP (i := 2) (k := (wind2, a)) (v := true) underlying175 key_177 rfl rfl rfl rfl (show MapRP gk_177 (vA (cP (cI .i64) (cA cB))) Value.bool x3_es (x3 : List ((Int × (List Bool)) × Bool)) from h_x3) ⟨g22, h13⟩ ?_; intro es19 cl20 hR21
  obtain ⟨met, h24, r25⟩ := bv_ok r23
  rw [← h24] at hR21
  refine shO_L (L' := (b14, ce ((([.int .i64 wind2] : List Value) ++ (a.flatMap cB)).toArray) 177) :: ((b1, ce ((([.int .i64 wind] : List Value) ++ (got.flatMap cB ++ (([.slice course_a course.length course_c] : List Value)))).toArray) 179) :: ((x3_b, .map es19 cl20) :: ((b_next_, ce #[.slice next__a next__n next__c] 174) :: (next__L ++ []))))) rfl (shO_nil (shW_drawM [(.still, 0), (.still, 1), (.still, 2), (.still, 3), (.still, 5), (.pre, 6), (.seq, 4), (.alloc (ce #[.int .i64 wind2] 3) (fun b => .slice (some ⟨b, 0, none⟩) 1 1) [(35, .int .i64 wind2)], 6), (.seq, 7), (.still, 8), (.seq, 9), (.seq, 10), (.seq, 11)] (by kernel_rfl) (by kernel_rfl) (⟨⟨_, _, rfl, rfl, rfl, rfl, rfl, mk_build rfl (buildSlice_all slt_35 [.int .i64 wind2] rfl (by decide) (by simp [Value.cells]) (by decide))⟩, trivial⟩) (by rfl) (by kernel_rfl) (mL [6] ([(b_next_, ce #[.slice next__a next__n next__c] 174)]) rfl (s0 (s1 (s1 (s1 (s2 (s3 sr)))))) (fun H F' L' hF' hL' => v_load isAgg174 rfl ((Has.own 0 rfl).ext hF' hL') rfl) (mL [9] ([(b14, ce ((([.int .i64 wind2] : List Value) ++ (a.flatMap cB)).toArray) 177)]) rfl (s0 (s2 (s1 (s1 (s1 (s3 sr)))))) (fun H F' L' hF' hL' => v_loadA isAgg177 sizeOf177 rfl ((Has.own 0 rfl).ext hF' hL') (li_le (li_cat rfl (li_here rfl) (li_skip (A := ([.int .i64 wind2] : List Value)) (k := 1) (o := 0) rfl (li_end (lfl cB_ok h13))))) (li_ext (la rfl (lfl cB_ok h13)) (li_cat rfl (li_here rfl) (li_skip (A := ([.int .i64 wind2] : List Value)) (k := 1) (o := 0) rfl (li_end (lfl cB_ok h13)))))) (mS [7] rfl (v_fieldAddr fa_179_1 rfl) (mL [32] ([(b1, ce ((([.int .i64 wind] : List Value) ++ (got.flatMap cB ++ (([.slice course_a course.length course_c] : List Value)))).toArray) 179)]) rfl (s0 (s1 (s2 (s1 (s1 (s3 sr)))))) (fun H F' L' hF' hL' => v_load isAgg35 rfl ((Has.own 0 rfl).ext hF' hL') (li_cell (li_skip (A := ([.int .i64 wind] : List Value)) (k := 1) (o := 24) rfl (li_skip (A := got.flatMap cB) (k := 24) (o := 0) (lfl cB_ok h_got) (li_end rfl))))) (mS [1] rfl (v_move rfl) ?_)))))))
  refine ⟨⟨_, rfl, z1, by kernel_rfl⟩, ?_⟩
  refine ⟨_, [(33, .slice course_a course.length course_c)], rfl, rfl, z1, by kernel_rfl, ?_⟩; intro H
  obtain ⟨l, h26, r27⟩ := b1_ok r25
  refine c0 call68 (slices_Clone_int_int_w h_course h26) ?_; rintro _ F28 _ hF29 hn30 ⟨a32, n36, c33, Lb34, rfl, rfl, hz35⟩
  replace h_next_ := h_next_.mono (prE_ok (iE_ok _) (prE_ok (arE_ok (n := 24) (sz := 1) cB_ok) (slE_ok (iE_ok _)))) hF29
  replace hz35 := hz35.new fun p hp => hn30 p (by simp [hp])
  refine shO_L (lp (ln rfl)) (kO (kf (fS fO) (kf (fS fO) (kf (fS fO) (kf (fS fO) kr)))) ?_)
  refine shO_nil ⟨_, rfl, hF29, [5, 1, 0], by kernel_rfl, .inl (.inr (fun d h => by cases h; rfl)), (fc sm (fc (s0 (s2 (s1 (s1 (s1 (s3 (s3 sr))))))) (fc (s0 (s1 (s1 (s1 (s2 (s3 (s3 sr))))))) nm))), ?_⟩
  refine shM_bs rfl ?_; intro b38 hb38
  refine shM_L (L' := (b38, ce #[.int .i64 wind2] 3) :: ((b14, ce ((([.int .i64 wind2] : List Value) ++ (a.flatMap cB)).toArray) 177) :: ((b1, ce ((([.int .i64 wind] : List Value) ++ (got.flatMap cB ++ (([.slice course_a course.length course_c] : List Value)))).toArray) 179) :: ((x3_b, .map es19 cl20) :: ((b_next_, ce #[.slice next__a next__n next__c] 174) :: (Lb34 ++ (next__L ++ []))))))) rfl ?_
  refine ⟨_, [(34, .slice a32 n36 c33), (36, .slice (some ⟨b38, 0, none⟩) 1 1)], rfl, rfl, z2, by kernel_rfl, ?_⟩; intro H
  obtain ⟨l2, h39, g40, r41⟩ := ap_ok r27
  refine o_appZ (xs := l) (ys := [wind2]) (zs := l2) rfl slt_35 rfl rfl (Nat.le_refl _) (fun _ => .c (.c (.c (.c (.c .h))))) hz35 (SrcR.box (vss := [[.int .i64 wind2]]) (ys := [wind2]) 0 rfl (iE_ok _) (.cons rfl .nil) rfl rfl) h39 g40 (by decide) ?_; intro a42 n46 c43 Lb44 hz45
  refine kO (kd kr) ?_
  refine shO_nil ⟨_, rfl, FExt.refl _, [1, 0], by kernel_rfl, .inl (.inr (fun d h => by cases h; rfl)), (fc (s0 (s2 (s1 (s1 (s1 (s3 (s3 sr))))))) (fc (s0 (s1 (s1 (s1 (s2 (s3 (s3 sr))))))) nm)), ?_⟩
  refine mL [31, 37] ([]) rfl sm (fun H F' L' hF' hL' => v_build (v := .agg ((([.int .i64 wind2] : List Value) ++ (a.flatMap cB ++ (([.slice a42 n46 c43] : List Value)))).toArray)) rfl (by intro w; obtain ⟨a0, a1, a2, a3, a4, a5, a6, a7, a8, a9, a10, a11, a12, a13, a14, a15, a16, a17, a18, a19, a20, a21, a22, a23, rfl⟩ := len_24 h13; kernel_rfl)) ?_
  refine ⟨_, [(38, .agg ((([.int .i64 wind2] : List Value) ++ (a.flatMap cB ++ (([.slice a42 n46 c43] : List Value)))).toArray))], rfl, rfl, z1, by kernel_rfl, ?_⟩; intro H
  refine o_buildSlice (cs := (([.int .i64 wind2] : List Value) ++ (a.flatMap cB ++ (([.slice a42 n46 c43] : List Value)))).toArray) rfl rfl (buildSlice_one slt_174 (.agg (([.int .i64 wind2] : List Value) ++ (a.flatMap cB ++ (([.slice a42 n46 c43] : List Value)))).toArray) (lz (la rfl (la (lfl cB_ok h13) rfl))) (by decide)) ?_; intro b48 hb48
  refine shO_nil ⟨_, rfl, FExt.refl _, [0], by kernel_rfl, .inl (.inr (fun d h => by cases h; rfl)), (fc (s0 (s1 (s1 (s1 (s1 (s2 (s3 (s3 sr)))))))) nm), ?_⟩
  refine ⟨_, [(30, .slice next__a next__n next__c), (39, .slice (some ⟨b48, 0, none⟩) 1 1)], rfl, rfl, z2, by kernel_rfl, ?_⟩; intro H
  obtain rfl := (SlR.caps hz45).1
  refine shO_freezeR (Nat.le_refl _) (iE_ok _) (fC (fC (fC (fC (fC fP))))) hz45 ?_; intro F49 hF50 h51
  replace h_next_ := h_next_.mono (prE_ok (iE_ok _) (prE_ok (arE_ok (n := 24) (sz := 1) cB_ok) (slE_ok (iE_ok _)))) hF50
  obtain ⟨l3, h52, g53, r54⟩ := ap_ok r41
  refine o_appZ (xs := next_) (ys := [(wind2, a, l2)]) (zs := l3) rfl slt_174 rfl rfl (Nat.zero_le _) (fun _ => .c (.c (.c (.c (.c .h))))) h_next_ (SrcR.box (vss := [(([.int .i64 wind2] : List Value) ++ (a.flatMap cB ++ (([.slice a42 l2.length c43] : List Value))))]) (ys := [(wind2, a, l2)]) 0 rfl (prE_ok (iE_ok _) (prE_ok (arE_ok (n := 24) (sz := 1) cB_ok) (slE_ok (iE_ok _)))) (.cons ⟨_, _, rfl, rfl, ⟨_, _, rfl, ⟨rfl, h13⟩, ⟨_, _, rfl, h51⟩⟩⟩ .nil) (by simp) rfl) h52 g53 (by decide) ?_; intro a55 n59 c56 Lb57 hz58
  refine kO (kd kr) ?_
  refine shO_nil ⟨_, rfl, hF50, [], by kernel_rfl, .inl (.inl rfl), nm, ?_⟩
  refine ⟨_, [(6, .pointer (some ⟨b_next_, 0, none⟩)), (40, .slice a55 n59 c56)], rfl, rfl, z2, by kernel_rfl, ?_⟩; intro H
  refine o_store (i := 3) sizeOf174 rfl rfl rfl rfl (nbL rfl) (shO_L (L' := (b14, ce ((([.int .i64 wind2] : List Value) ++ (a.flatMap cB)).toArray) 177) :: ((b1, ce ((([.int .i64 wind] : List Value) ++ (got.flatMap cB ++ (([.slice course_a course.length course_c] : List Value)))).toArray) 179) :: ((x3_b, .map es19 cl20) :: ((b_next_, ce #[.slice a55 n59 c56] 174) :: (Lb57 ++ []))))) rfl ?_)
  refine shO_nil ⟨undef, rfl, FExt.refl _, [], by kernel_rfl, .inl (.inl rfl), nm, ?_⟩
  refine shM_nil (q_end0s (.inr rfl) results98 (s1 (s1 (s2 (s2 (s4 sr))))) ?_)
  obtain ⟨rfl, rfl⟩ := inj2 r54
  exact ⟨_, _, _, _, _, _, rfl, rfl, hR21, hz58.any⟩
 have r61 := bf r16 c17
 refine shW_skip (q_end0s (.inr rfl) results98 (s1 (s1 (s2 (s2 (s4 sr))))) ?_)
 obtain ⟨rfl, rfl⟩ := inj2 r61
 exact ⟨_, _, _, _, _, _, rfl, rfl, h_x3, h_next_.any⟩
theorem book_desk_endings_2_w {got2 : List Bool} {course2_a : Option Addr} {course2_c : Nat} {course2 : List Int} (h_got : got.length = 24) (_h_course : RowR 1 (iE .i64) F course_a course_c course) (hb_x : F b_x = some (.cells ((([.int .i64 wind] : List Value) ++ (got2.flatMap cB ++ (([.slice course2_a course2.length course2_c] : List Value)))).toArray) 179 mb_x)) (h_got2 : got2.length = 24) (_h_course2 : RowR 1 (iE .i64) F course2_a course2_c course2) {r : Bool} (hr : book_desk_endings_2 got course wind got2 course2 = some r) :
    SpecV Tryz.prog 102 #[.agg ((got.flatMap cB ++ (([.slice course_a course.length course_c] : List Value))).toArray), .pointer (some ⟨b_x, 0, none⟩)] F (.bool r) := by
 refine sp func102 ntmps102 fun K _ _ => ?_
 rw [book_desk_endings_2] at hr
 refine wsr ?_
 refine o_box rfl rfl ?_; intro b1 hb1
 refine ua (nsr ?_)
 refine uv (v_fieldAddr fa_106_0 rfl) (uv (v_loadA isAgg104 sizeOf104 rfl (Has.own 0 rfl) (li_le (li_here (lfl cB_ok h_got))) (li_ext (lfl cB_ok h_got) (li_here (lfl cB_ok h_got)))) (uv (v_fieldAddr fa_179_0 rfl) (uv (v_fieldAddr fa_177_1 rfl) (uv (v_loadA isAgg104 sizeOf104 rfl (Has.frozen hb_x) (li_le (li_skip (k := 1) (o := 0) rfl (li_here (lfl cB_ok h_got2)))) (li_ext (lfl cB_ok h_got2) (li_skip (k := 1) (o := 0) rfl (li_here (lfl cB_ok h_got2))))) (uv (v_eqA (eqg_104 _ _ _ _) (fun w => eqb_deep (eqd_104 got got2 h_got h_got2 w)) rfl rfl) ?_)))))
 refine ua (shO_nil ?_)
 refine kW kn (shW_ret (qR1 results102 ?_))
 obtain rfl := inj1 hr
 exact rfl
set_option maxHeartbeats 1000000 in
theorem book_desk_endings_w (hb_d : F b_d = some (.cells #[.int .i64 houses, .int .i64 notices, .slice hears_a hears.length hears_c, .slice readings_a readings.length readings_c, .slice cries_a cries.length cries_c] 152 mb_d)) (h_hears : RowR 1 (slE 1 (slE 1 (iE .i64))) F hears_a hears_c hears) (h_readings : RowR 1 (iE .i64) F readings_a readings_c readings) (h_cries : RowR 3 (prE (iE .i64) (prE (iE .i64) (iE .i64))) F cries_a cries_c cries) {r : List ((List Bool) × (List Int))} (hr : book_desk_endings houses notices hears readings cries = some r) :
    SH.Spec Tryz.prog 67 #[.pointer (some ⟨b_d, 0, none⟩)] F [] fun F' L' v => ∃ (ra : Option Addr) (rn : Nat) (rc : Nat) (rL : LH), v = .slice ra rn rc ∧ L' = rL ++ [] ∧ SlR 0 106 25 (prE (arE 24 cB) (slE 1 (iE .i64))) F' ra rn rc r rL := by
 refine sp func67 ntmps67 fun K _ _ => ?_
 rw [book_desk_endings] at hr
 refine wsr ?_
 refine o_box rfl rfl ?_; intro b1 hb1
 refine ua (nsr (ua (shO_nil ?_)))
 obtain ⟨now, h8, r9⟩ := b1_ok hr
 refine shW_join (fun e1 F1 L1 => ∃ (a2 : Option Addr) (n6 : Nat) (c3 : Nat) (Lb4 : LH), FExt F F1 ∧ L1 = (Lb4 ++ []) ∧ e1.sub [(3, .slice a2 n6 c3)] ∧ SlR 0 179 26 (prE (iE .i64) (prE (arE 24 cB) (slE 1 (iE .i64)))) F1 a2 n6 c3 now Lb4) ?_ ?_
 ·clear r9
  refine wsr (uv (v_load isAgg98 rfl (Has.own 0 rfl) rfl) (uv (v_nilCheck rfl) (uv (v_fieldAddr fa_152_0 rfl) (uv (v_fieldAddr fa_43_3 rfl) (uv (v_load isAgg35 rfl (Has.frozen hb_d) rfl) (uv (v_lenS underlying35 rfl) ?_))))))
  refine um (shO_nil ?_)
  refine shW_block ?_
  refine shW_freeze 0 rfl hb1 ?_; intro F10 hF11 hz12
  refine shW_L (L' := []) rfl ?_
  replace h_hears := h_hears.mono (slE_ok (slE_ok (iE_ok _))) hF11
  replace h_readings := h_readings.mono (iE_ok _) hF11
  replace h_cries := h_cries.mono (prE_ok (iE_ok _) (prE_ok (iE_ok _) (iE_ok _))) hF11
  replace hb_d := hF11 _ _ hb_d
  refine shW_lpF (fun fu1 e1 F1 L1 => LA readings fu1 fun tl k => ∃ (now2 : List (Int × (List Bool) × (List Int))) (a13 : Option Addr) (n17 : Nat) (c14 : Nat) (Lb15 : LH), book_desk_endings_l1 houses notices hears readings cries tl k now2 = some now ∧ FExt F10 F1 ∧ L1 = (Lb15 ++ []) ∧ e1.sub [(1, .pointer (some ⟨b1, 0, none⟩)), (3, .slice a13 n17 c14), (21, .int .i64 (readings.length : Int)), (22, .int .i64 k)] ∧ SlR 0 179 26 (prE (iE .i64) (prE (arE 24 cB) (slE 1 (iE .i64)))) F1 a13 n17 c14 now2 Lb15) _ (m0 (ke kr) ⟨_, _, rfl, Lst.start _, [], none, 0, 0, [], h8, FExt.refl _, rfl, z4, SlR.nil _ _ _ _ _⟩) ?_
  rintro fu1 e1 F23 _ ⟨tl, k, hn20, hk19, now2, a13, n17, c14, Lb15, r21, hF24, rfl, he22, hz16⟩
  refine shW_env _ he22 ?_
  replace h_hears := h_hears.mono (slE_ok (slE_ok (iE_ok _))) hF24
  replace h_readings := h_readings.mono (iE_ok _) hF24
  replace h_cries := h_cries.mono (prE_ok (iE_ok _) (prE_ok (iE_ok _) (iE_ok _))) hF24
  replace hb_d := hF24 _ _ hb_d
  replace hz12 := hF24 _ _ hz12
  refine wsr (uv (v_lssK rfl rfl) ?_)
  refine shO_nil (shW_seq ?_)
  refine cQ (fun c26 => ?_) fun c26 => ?_
  ·obtain ⟨x, tl2, rfl, hx28, g29, hk27⟩ := Lst.succ hk19 c26
   rw [book_desk_endings_l1] at r21
   refine shW_skip ?_
   obtain ⟨now3, h36, r37⟩ := b1_ok r21
   refine shW_join (fun e1 F1 L1 => ∃ (a30 : Option Addr) (n34 : Nat) (c31 : Nat) (Lb32 : LH), FExt F23 F1 ∧ L1 = (Lb32 ++ []) ∧ e1.sub [(1, .pointer (some ⟨b1, 0, none⟩)), (3, .slice a30 n34 c31), (21, .int .i64 (readings.length : Int)), (22, .int .i64 k)] ∧ SlR 0 179 26 (prE (iE .i64) (prE (arE 24 cB) (slE 1 (iE .i64)))) F1 a30 n34 c31 now3 Lb32) ?_ ?_
   ·clear r37
    refine shW_block ?_
    refine wsr (um ?_)
    refine o_alloc rfl zeroValue3 ?_; intro b38 hb38
    refine o_store (i := 0) sizeOf3 rfl rfl rfl rfl (nbL rfl) (shO_L rfl (nsr ?_))
    refine o_makeMap rfl ?_; intro b39 hb39
    refine o_alloc rfl zeroValue175 ?_; intro b40 hb40
    refine o_store (i := 0) sizeOf175 rfl rfl rfl rfl (nbL rfl) (shO_L rfl (nsr ?_))
    refine o_alloc rfl zeroValue174 ?_; intro b41 hb41
    refine nsr (uv (v_load isAgg98 rfl (Has.frozen hz12) rfl) (uv (v_nilCheck rfl) (uv (v_fieldAddr fa_152_0 rfl) (uv (v_loadA isAgg43 sizeOf43 rfl (Has.frozen hb_d) (nbL rfl) rfl) (uv (v_makeFunc rfl rfl) ?_)))))
    refine o_alloc rfl zeroValue75 ?_; intro b42 hb42
    refine o_store (i := 0) sizeOf75 rfl rfl rfl rfl (nbL rfl) (shO_L rfl (nsr (uv (v_makeFunc rfl rfl) ?_)))
    refine o_alloc rfl zeroValue181 ?_; intro b43 hb43
    refine o_store (i := 0) sizeOf181 rfl rfl rfl rfl (nbL rfl) (shO_L rfl (shO_nil ?_))
    obtain ⟨next_4, m, h86, r87⟩ := b2_ok h36
    refine shW_joinF (fun e1 F1 L1 => ∃ (a74 : Option Addr) (n78 : Nat) (c75 : Nat) (Lb76 : LH) (es82 : Array MapEntry) (cl83 : Nat), FExt F23 F1 ∧ L1 = ((b43, ce (#[.func (.func 98) #[] #[.pointer (some ⟨b42, 0, none⟩), .pointer (some ⟨b38, 0, none⟩), .pointer (some ⟨b1, 0, none⟩), .pointer (some ⟨b40, 0, none⟩), .pointer (some ⟨b41, 0, none⟩)]]) 181) :: ((b41, ce #[.slice a74 n78 c75] 174) :: ((b39, .map es82 cl83) :: (Lb15 ++ (Lb76 ++ []))))) ∧ e1.sub [(1, .pointer (some ⟨b1, 0, none⟩)), (3, .slice a13 n17 c14), (6, .pointer (some ⟨b41, 0, none⟩)), (8, .pointer (some ⟨b43, 0, none⟩)), (21, .int .i64 (readings.length : Int)), (22, .int .i64 k)] ∧ SlR 0 179 26 (prE (iE .i64) (prE (arE 24 cB) (slE 1 (iE .i64)))) F1 a74 n78 c75 next_4 Lb76 ∧ F1 b42 = some (ce (#[.func (.func 97) #[.agg #[.int .i64 houses, .int .i64 notices, .slice hears_a hears.length hears_c, .slice readings_a readings.length readings_c, .slice cries_a cries.length cries_c]] #[]]) 75) ∧ F1 b38 = some (ce #[.int .i64 k] 3) ∧ MapRP gk_177 (vA (cP (cI .i64) (cA cB))) Value.bool es82 m ∧ F1 b40 = some (ce #[.map (some b39)] 175)) ?_ ?_
    ·clear r87
     refine wsr (uv (v_load isAgg3 rfl (Has.own 5 rfl) rfl) (uv (v_eql rfl rfl) (shO_nil ?_)))
     refine cQ (fun c88 => ?_) fun c88 => ?_
     ·have r89 := ite_t h86 c88
      refine wsr (um (shO_nil ?_))
      refine shW_block ?_
      refine shW_freeze 1 rfl hb42 ?_; intro F90 hF91 hz92
      refine shW_L (L' := (b43, ce (#[.func (.func 98) #[] #[.pointer (some ⟨b42, 0, none⟩), .pointer (some ⟨b38, 0, none⟩), .pointer (some ⟨b1, 0, none⟩), .pointer (some ⟨b40, 0, none⟩), .pointer (some ⟨b41, 0, none⟩)]]) 181) :: ((b41, ce #[.slice none 0 0] 174) :: ((b40, ce #[.map (some b39)] 175) :: ((b39, .map #[] 0) :: ((b38, ce #[.int .i64 k] 3) :: (Lb15 ++ [])))))) rfl ?_
      replace h_hears := h_hears.mono (slE_ok (slE_ok (iE_ok _))) hF91
      replace h_readings := h_readings.mono (iE_ok _) hF91
      replace h_cries := h_cries.mono (prE_ok (iE_ok _) (prE_ok (iE_ok _) (iE_ok _))) hF91
      replace hb_d := hF91 _ _ hb_d
      replace hz12 := hF91 _ _ hz12
      refine shW_freeze 4 rfl hb38 ?_; intro F93 hF94 hz95
      refine shW_L (L' := (b43, ce (#[.func (.func 98) #[] #[.pointer (some ⟨b42, 0, none⟩), .pointer (some ⟨b38, 0, none⟩), .pointer (some ⟨b1, 0, none⟩), .pointer (some ⟨b40, 0, none⟩), .pointer (some ⟨b41, 0, none⟩)]]) 181) :: ((b41, ce #[.slice none 0 0] 174) :: ((b40, ce #[.map (some b39)] 175) :: ((b39, .map #[] 0) :: (Lb15 ++ []))))) rfl ?_
      replace h_hears := h_hears.mono (slE_ok (slE_ok (iE_ok _))) hF94
      replace h_readings := h_readings.mono (iE_ok _) hF94
      replace h_cries := h_cries.mono (prE_ok (iE_ok _) (prE_ok (iE_ok _) (iE_ok _))) hF94
      replace hb_d := hF94 _ _ hb_d
      replace hz12 := hF94 _ _ hz12
      replace hz92 := hF94 _ _ hz92
      refine shW_freeze 2 rfl hb40 ?_; intro F96 hF97 hz98
      refine shW_L (L' := (b43, ce (#[.func (.func 98) #[] #[.pointer (some ⟨b42, 0, none⟩), .pointer (some ⟨b38, 0, none⟩), .pointer (some ⟨b1, 0, none⟩), .pointer (some ⟨b40, 0, none⟩), .pointer (some ⟨b41, 0, none⟩)]]) 181) :: ((b41, ce #[.slice none 0 0] 174) :: ((b39, .map #[] 0) :: (Lb15 ++ [])))) rfl ?_
      replace h_hears := h_hears.mono (slE_ok (slE_ok (iE_ok _))) hF97
      replace h_readings := h_readings.mono (iE_ok _) hF97
      replace h_cries := h_cries.mono (prE_ok (iE_ok _) (prE_ok (iE_ok _) (iE_ok _))) hF97
      replace hb_d := hF97 _ _ hb_d
      replace hz12 := hF97 _ _ hz12
      replace hz92 := hF97 _ _ hz92
      replace hz95 := hF97 _ _ hz95
      obtain ⟨g108, r109⟩ := gd_ok r89
      refine shW_lpF (fun fu2 e1 F1 L1 => ∃ (k2 : Int), Ctr 0 8 k2 fu2 ∧ ∃ (next_5 : List (Int × (List Bool) × (List Int))) (m2 : List ((Int × (List Bool)) × Bool)) (a99 : Option Addr) (n103 : Nat) (c100 : Nat) (Lb101 : LH) (es105 : Array MapEntry) (cl106 : Nat), book_desk_endings_l2 houses notices hears readings cries k fu2 k2 next_5 m2 = some (next_4, m) ∧ FExt F96 F1 ∧ L1 = ((b43, ce (#[.func (.func 98) #[] #[.pointer (some ⟨b42, 0, none⟩), .pointer (some ⟨b38, 0, none⟩), .pointer (some ⟨b1, 0, none⟩), .pointer (some ⟨b40, 0, none⟩), .pointer (some ⟨b41, 0, none⟩)]]) 181) :: ((b41, ce #[.slice a99 n103 c100] 174) :: ((b39, .map es105 cl106) :: (Lb15 ++ (Lb101 ++ []))))) ∧ e1.sub [(1, .pointer (some ⟨b1, 0, none⟩)), (3, .slice a13 n17 c14), (6, .pointer (some ⟨b41, 0, none⟩)), (8, .pointer (some ⟨b43, 0, none⟩)), (21, .int .i64 (readings.length : Int)), (22, .int .i64 k), (34, .int .i64 k2)] ∧ SlR 0 179 26 (prE (iE .i64) (prE (arE 24 cB) (slE 1 (iE .i64)))) F1 a99 n103 c100 next_5 Lb101 ∧ MapRP gk_177 (vA (cP (cI .i64) (cA cB))) Value.bool es105 m2) _ (m0 (kc (kc (kc (ka (ke kr))))) ⟨_, Ctr.start _ _, [], [], none, 0, 0, [], #[], 0, r109, FExt.refl _, rfl, z7, SlR.nil _ _ _ _ _, MapRP.nil⟩) ?_
      rintro fu2 e1 F114 _ ⟨k2, hk110, next_5, m2, a99, n103, c100, Lb101, es105, cl106, r112, hF115, rfl, he113, hz102, hR107⟩
      refine shW_env _ he113 ?_
      replace h_hears := h_hears.mono (slE_ok (slE_ok (iE_ok _))) hF115
      replace h_readings := h_readings.mono (iE_ok _) hF115
      replace h_cries := h_cries.mono (prE_ok (iE_ok _) (prE_ok (iE_ok _) (iE_ok _))) hF115
      replace hb_d := hF115 _ _ hb_d
      replace hz12 := hF115 _ _ hz12
      replace hz92 := hF115 _ _ hz92
      replace hz95 := hF115 _ _ hz95
      replace hz98 := hF115 _ _ hz98
      refine wsr (uv (v_lssK rfl rfl) ?_)
      refine shO_nil (shW_seq ?_)
      refine cQ (fun c117 => ?_) fun c117 => ?_
      ·obtain ⟨fu2, rfl, hk118⟩ := Ctr.succ hk110 c117
       rw [book_desk_endings_l2] at r112
       refine shW_skip (shW_seq ?_)
       refine shW_block ?_
       refine wsr (um (ua (shO_nil (shW_region ?_))))
       refine uv (v_load isAgg181 rfl (Has.own 0 rfl) rfl) ?_
       refine uv (v_build (v := .agg ((([.int .i64 0] : List Value) ++ ((List.replicate 24 false).flatMap cB ++ (([.slice none 0 0] : List Value)))).toArray)) rfl (by intro w; kernel_rfl)) ?_
       refine um ?_
       have hn119 : FnR Tryz.prog F114 97 #[.agg #[.int .i64 houses, .int .i64 notices, .slice hears_a hears.length hears_c, .slice readings_a readings.length readings_c, .slice cries_a cries.length cries_c]] #[] (prE (iE .i64) (iE .i64)) Value.bool (fun xx_ : Int × Int => book_Book_can houses notices hears readings cries xx_.1 xx_.2) := ⟨call97, fun F2 h2 vs xx_ r ha hr => by obtain ⟨_, _, rfl, rfl, rfl⟩ := ha; exact book_Book_can_w (h_hears.mono (slE_ok (slE_ok (iE_ok _))) h2) (h_readings.mono (iE_ok _) h2) (h_cries.mono (prE_ok (iE_ok _) (prE_ok (iE_ok _) (iE_ok _))) h2) hr⟩
       obtain ⟨x2, next_6, h120, r121⟩ := b2_ok r112
       refine o_callG (Lb := (b39, .map es105 cl106) :: ((b41, ce #[.slice a99 n103 c100] 174) :: (Lb101 ++ []))) (Lr := (b43, ce (#[.func (.func 98) #[] #[.pointer (some ⟨b42, 0, none⟩), .pointer (some ⟨b38, 0, none⟩), .pointer (some ⟨b1, 0, none⟩), .pointer (some ⟨b40, 0, none⟩), .pointer (some ⟨b41, 0, none⟩)]]) 181) :: (Lb15 ++ [])) rfl call98 rfl rfl rfl (pT ((fC (fC fO)).trans (pC ((fC fO).trans (pC ((fC (fS fP)).trans (pA pR)))))) (lb (lb (lp (ln rfl))))) (book_desk_endings_1_w List.length_replicate (RowR.nil _ _ _) hz92 hn119 hz95 hz12 hb_d h_hears h_readings h_cries hz98 hR107 hz102 h120) ?_; rintro _ F122 _ hF123 hd125 hn124 ⟨es126, cl127, a130, n134, c131, Lb132, rfl, rfl, hR128, hz133⟩
       refine shO_L (lb (lb (lp (ln rfl)))) (kO (kc (kc (kf (fS fO) kr))) ?_)
       refine shO_nil (inBlock_n (id := 3) (shW_region ?_))
       refine uv (v_add rfl rfl (Ctr.r64 hk110 c117 g108)) ?_
       refine um (shO_nil ?_)
       refine lf ?_
       exact mf (kf (fC (fC fO)) (kf (fC fO) (kc (kg (fS fP) kr)))) ⟨_, hk118, next_6, x2, a130, n134, c131, Lb132, es126, cl127, r121, (hF115.trans hF123), rfl, z7, hz133, hR128⟩
      obtain rfl := Ctr.zero hk110 c117
      rw [book_desk_endings_l2] at r112
      refine shW_exit (andThen_exit (andThen_exit ?_))
      refine inBlock_exit ?_
      obtain ⟨rfl, rfl⟩ := inj2 r112
      exact mf kr ⟨a99, n103, c100, Lb101, es105, cl106, (((hF91.trans hF94).trans hF97).trans hF115), rfl, z6, hz102, hz92, hz95, hR107, hz98⟩
     have r135 := ite_f h86 c88
     refine shW_skip ?_
     refine shmz_freeze 1 rfl hb42 ?_; intro F136 hF137 hz138
     refine shmz_L (L' := (b43, ce (#[.func (.func 98) #[] #[.pointer (some ⟨b42, 0, none⟩), .pointer (some ⟨b38, 0, none⟩), .pointer (some ⟨b1, 0, none⟩), .pointer (some ⟨b40, 0, none⟩), .pointer (some ⟨b41, 0, none⟩)]]) 181) :: ((b41, ce #[.slice none 0 0] 174) :: ((b40, ce #[.map (some b39)] 175) :: ((b39, .map #[] 0) :: ((b38, ce #[.int .i64 k] 3) :: (Lb15 ++ [])))))) rfl ?_
     refine shmz_freeze 4 rfl hb38 ?_; intro F139 hF140 hz141
     refine shmz_L (L' := (b43, ce (#[.func (.func 98) #[] #[.pointer (some ⟨b42, 0, none⟩), .pointer (some ⟨b38, 0, none⟩), .pointer (some ⟨b1, 0, none⟩), .pointer (some ⟨b40, 0, none⟩), .pointer (some ⟨b41, 0, none⟩)]]) 181) :: ((b41, ce #[.slice none 0 0] 174) :: ((b40, ce #[.map (some b39)] 175) :: ((b39, .map #[] 0) :: (Lb15 ++ []))))) rfl ?_
     replace hz138 := hF140 _ _ hz138
     refine shmz_freeze 2 rfl hb40 ?_; intro F142 hF143 hz144
     refine shmz_L (L' := (b43, ce (#[.func (.func 98) #[] #[.pointer (some ⟨b42, 0, none⟩), .pointer (some ⟨b38, 0, none⟩), .pointer (some ⟨b1, 0, none⟩), .pointer (some ⟨b40, 0, none⟩), .pointer (some ⟨b41, 0, none⟩)]]) 181) :: ((b41, ce #[.slice none 0 0] 174) :: ((b39, .map #[] 0) :: (Lb15 ++ [])))) rfl ?_
     replace hz138 := hF143 _ _ hz138
     replace hz141 := hF143 _ _ hz141
     obtain ⟨rfl, rfl⟩ := inj2 r135
     exact mf (kc (kc (kc (ka (ke kr))))) ⟨none, 0, 0, [], #[], 0, ((hF137.trans hF140).trans hF143), rfl, z6, SlR.nil _ _ _ _ _, hz138, hz141, MapRP.nil, hz144⟩
    rintro e1 F146 _ ⟨a74, n78, c75, Lb76, es82, cl83, hF147, rfl, he145, hz77, hz80, hz81, hR84, hz85⟩
    refine shW_env _ he145 ?_
    replace h_hears := h_hears.mono (slE_ok (slE_ok (iE_ok _))) hF147
    replace h_readings := h_readings.mono (iE_ok _) hF147
    replace h_cries := h_cries.mono (prE_ok (iE_ok _) (prE_ok (iE_ok _) (iE_ok _))) hF147
    replace hz16 := hz16.mono (prE_ok (iE_ok _) (prE_ok (arE_ok (n := 24) (sz := 1) cB_ok) (slE_ok (iE_ok _)))) hF147
    replace hb_d := hF147 _ _ hb_d
    replace hz12 := hF147 _ _ hz12
    obtain ⟨next_7, h154, r155⟩ := b1_ok r87
    refine shW_join (fun e1 F1 L1 => ∃ (a148 : Option Addr) (n152 : Nat) (c149 : Nat) (Lb150 : LH), FExt F146 F1 ∧ L1 = ((b41, ce #[.slice a148 n152 c149] 174) :: (Lb150 ++ [])) ∧ e1.sub [(1, .pointer (some ⟨b1, 0, none⟩)), (6, .pointer (some ⟨b41, 0, none⟩)), (21, .int .i64 (readings.length : Int)), (22, .int .i64 k)] ∧ SlR 0 179 26 (prE (iE .i64) (prE (arE 24 cB) (slE 1 (iE .i64)))) F1 a148 n152 c149 next_7 Lb150) ?_ ?_
    ·clear r155
     refine wsr (um ?_)
     refine uv ((v_lenS underlying174 rfl).i (SlR.lenI hz16)) ?_
     refine um (shO_nil ?_)
     refine shW_block ?_
     refine shW_lp (fun fu3 e1 F1 L1 => LA now2 fu3 fun tl3 k3 => ∃ (next_8 : List (Int × (List Bool) × (List Int))) (m3 : List ((Int × (List Bool)) × Bool)) (a156 : Option Addr) (n160 : Nat) (c157 : Nat) (Lb158 : LH) (es162 : Array MapEntry) (cl163 : Nat), book_desk_endings_l3 houses notices hears readings cries k tl3 next_8 m3 = some next_7 ∧ FExt F146 F1 ∧ L1 = ((b43, ce (#[.func (.func 98) #[] #[.pointer (some ⟨b42, 0, none⟩), .pointer (some ⟨b38, 0, none⟩), .pointer (some ⟨b1, 0, none⟩), .pointer (some ⟨b40, 0, none⟩), .pointer (some ⟨b41, 0, none⟩)]]) 181) :: ((b41, ce #[.slice a156 n160 c157] 174) :: ((b39, .map es162 cl163) :: (Lb158 ++ (Lb15 ++ []))))) ∧ e1.sub [(1, .pointer (some ⟨b1, 0, none⟩)), (6, .pointer (some ⟨b41, 0, none⟩)), (8, .pointer (some ⟨b43, 0, none⟩)), (21, .int .i64 (readings.length : Int)), (22, .int .i64 k), (42, .slice a13 n17 c14), (43, .int .i64 (now2.length : Int)), (44, .int .i64 k3)] ∧ SlR 0 179 26 (prE (iE .i64) (prE (arE 24 cB) (slE 1 (iE .i64)))) F1 a156 n160 c157 next_8 Lb158 ∧ MapRP gk_177 (vA (cP (cI .i64) (cA cB))) Value.bool es162 m3) _ (m0 (kc (kc (kc (kg (fS fP) kr)))) ⟨_, _, rfl, Lst.start _, next_4, m, a74, n78, c75, Lb76, es82, cl83, h154, FExt.refl _, rfl, z8, hz77, hR84⟩) ?_
     rintro fu3 e1 F169 _ ⟨tl3, k3, hn166, hk165, next_8, m3, a156, n160, c157, Lb158, es162, cl163, r167, hF170, rfl, he168, hz159, hR164⟩
     refine shW_env _ he168 ?_
     replace h_hears := h_hears.mono (slE_ok (slE_ok (iE_ok _))) hF170
     replace h_readings := h_readings.mono (iE_ok _) hF170
     replace h_cries := h_cries.mono (prE_ok (iE_ok _) (prE_ok (iE_ok _) (iE_ok _))) hF170
     replace hz16 := hz16.mono (prE_ok (iE_ok _) (prE_ok (arE_ok (n := 24) (sz := 1) cB_ok) (slE_ok (iE_ok _)))) hF170
     replace hb_d := hF170 _ _ hb_d
     replace hz12 := hF170 _ _ hz12
     replace hz80 := hF170 _ _ hz80
     replace hz81 := hF170 _ _ hz81
     replace hz85 := hF170 _ _ hz85
     refine wsr (uv (v_lssK rfl rfl) ?_)
     refine shO_nil (shW_seq ?_)
     refine cQ (fun c172 => ?_) fun c172 => ?_
     ·obtain ⟨x3, tl4, rfl, hx174, g175, hk173⟩ := Lst.succ hk165 c172
      rw [book_desk_endings_l3] at r167
      refine shW_skip ?_
      obtain ⟨next_9, m4, h185, r186⟩ := b2_ok r167
      refine shW_join (fun e1 F1 L1 => ∃ (a176 : Option Addr) (n180 : Nat) (c177 : Nat) (Lb178 : LH) (es182 : Array MapEntry) (cl183 : Nat), FExt F169 F1 ∧ L1 = ((b43, ce (#[.func (.func 98) #[] #[.pointer (some ⟨b42, 0, none⟩), .pointer (some ⟨b38, 0, none⟩), .pointer (some ⟨b1, 0, none⟩), .pointer (some ⟨b40, 0, none⟩), .pointer (some ⟨b41, 0, none⟩)]]) 181) :: ((b41, ce #[.slice a176 n180 c177] 174) :: ((b39, .map es182 cl183) :: (Lb178 ++ (Lb15 ++ []))))) ∧ e1.sub [(1, .pointer (some ⟨b1, 0, none⟩)), (6, .pointer (some ⟨b41, 0, none⟩)), (8, .pointer (some ⟨b43, 0, none⟩)), (21, .int .i64 (readings.length : Int)), (22, .int .i64 k), (42, .slice a13 n17 c14), (43, .int .i64 (now2.length : Int)), (44, .int .i64 k3)] ∧ SlR 0 179 26 (prE (iE .i64) (prE (arE 24 cB) (slE 1 (iE .i64)))) F1 a176 n180 c177 next_9 Lb178 ∧ MapRP gk_177 (vA (cP (cI .i64) (cA cB))) Value.bool es182 m4) ?_ ?_
      ·clear r186
       refine shW_block (wsr ?_)
       obtain ⟨b187, o188, c189, vs190, ha191, hs192, hle193, ⟨_, _, rfl, rfl, ⟨_, _, rfl, ⟨rfl, h196⟩, ⟨a197, c198, rfl, h199⟩⟩⟩, hl194, hc195⟩ := SlR.at (prE_ok (iE_ok _) (prE_ok (arE_ok (n := 24) (sz := 1) cB_ok) (slE_ok (iE_ok _)))) hz16 (L := (b43, ce (#[.func (.func 98) #[] #[.pointer (some ⟨b42, 0, none⟩), .pointer (some ⟨b38, 0, none⟩), .pointer (some ⟨b1, 0, none⟩), .pointer (some ⟨b40, 0, none⟩), .pointer (some ⟨b41, 0, none⟩)]]) 181) :: ((b41, ce #[.slice a156 n160 c157] 174) :: ((b39, .map es162 cl163) :: (Lb158 ++ (Lb15 ++ []))))) (fC (fC (fC (fS fP)))) g175.1 hx174
       refine uv (v_indexO underlying174 sizeOf179 rfl ha191 rfl (SlR.idx hz16 g175)) (uv (v_loadA isAgg179 sizeOf179 rfl hs192 hle193 (extract_cells hle193 hl194 hc195)) ?_)
       refine o_alloc rfl zeroValue179 ?_; intro b200 hb200
       refine shO_L (L' := (b200, ce ((([.int .i64 0] : List Value) ++ ((List.replicate 24 false).flatMap cB ++ (([.slice none 0 0] : List Value)))).toArray) 179) :: ((b43, ce (#[.func (.func 98) #[] #[.pointer (some ⟨b42, 0, none⟩), .pointer (some ⟨b38, 0, none⟩), .pointer (some ⟨b1, 0, none⟩), .pointer (some ⟨b40, 0, none⟩), .pointer (some ⟨b41, 0, none⟩)]]) 181) :: ((b41, ce #[.slice a156 n160 c157] 174) :: ((b39, .map es162 cl163) :: (Lb158 ++ (Lb15 ++ [])))))) rfl (o_storeW (i := 0) sizeOf179 rfl rfl rfl (lz (la rfl (la (lfl cB_ok List.length_replicate) rfl))) (lz (la rfl (la (lfl cB_ok h196) rfl))) (oc_app (by simp [Value.oneCell']) (oc_app (flat_one cB_ok _) (by simp [Value.oneCell']))) (shO_L (L' := (b200, ce ((([.int .i64 x3.1] : List Value) ++ (x3.2.1.flatMap cB ++ (([.slice a197 x3.2.2.length c198] : List Value)))).toArray) 179) :: ((b43, ce (#[.func (.func 98) #[] #[.pointer (some ⟨b42, 0, none⟩), .pointer (some ⟨b38, 0, none⟩), .pointer (some ⟨b1, 0, none⟩), .pointer (some ⟨b40, 0, none⟩), .pointer (some ⟨b41, 0, none⟩)]]) 181) :: ((b41, ce #[.slice a156 n160 c157] 174) :: ((b39, .map es162 cl163) :: (Lb158 ++ (Lb15 ++ [])))))) rfl (nsr (uv (v_fieldAddr fa_179_0 rfl) (uv (v_fieldAddr fa_177_0 rfl) (uv (v_load isAgg3 rfl (Has.own 0 rfl) (li_cell (li_here rfl))) ?_))))))
       obtain ⟨y, h201, r202⟩ := b1_ok h185
       refine c0 call100 (book_turned_w h201) ?_; rintro _ F203 _ hF204 hn205 ⟨cp207, rfl, rfl, hit208⟩
       replace h_hears := h_hears.mono (slE_ok (slE_ok (iE_ok _))) hF204
       replace h_readings := h_readings.mono (iE_ok _) hF204
       replace h_cries := h_cries.mono (prE_ok (iE_ok _) (prE_ok (iE_ok _) (iE_ok _))) hF204
       replace h199 := h199.mono (iE_ok _) hF204
       replace hz159 := hz159.mono (prE_ok (iE_ok _) (prE_ok (arE_ok (n := 24) (sz := 1) cB_ok) (slE_ok (iE_ok _)))) hF204
       replace hb_d := hF204 _ _ hb_d
       replace hz12 := hF204 _ _ hz12
       replace hz80 := hF204 _ _ hz80
       replace hz81 := hF204 _ _ hz81
       replace hz85 := hF204 _ _ hz85
       refine shO_L (ln rfl) (shO_nil (shW_block ?_))
       refine shW_rangeFunc (encs := (fun x : Int => #[.int .i64 x])) (xs := y) rfl call116 rfl (fun _ => rfl) hit208 (fun pre F1 L1 => ∃ (tl5 : List Int) (next_10 : List (Int × (List Bool) × (List Int))) (m5 : List ((Int × (List Bool)) × Bool)) (a209 : Option Addr) (n213 : Nat) (c210 : Nat) (Lb211 : LH) (es215 : Array MapEntry) (cl216 : Nat), y = pre ++ tl5 ∧ book_desk_endings_l4 houses notices hears readings cries k x3 tl5 next_10 m5 = some (next_9, m4) ∧ L1 = ((b200, ce ((([.int .i64 x3.1] : List Value) ++ (x3.2.1.flatMap cB ++ (([.slice a197 x3.2.2.length c198] : List Value)))).toArray) 179) :: ((b43, ce (#[.func (.func 98) #[] #[.pointer (some ⟨b42, 0, none⟩), .pointer (some ⟨b38, 0, none⟩), .pointer (some ⟨b1, 0, none⟩), .pointer (some ⟨b40, 0, none⟩), .pointer (some ⟨b41, 0, none⟩)]]) 181) :: ((b41, ce #[.slice a209 n213 c210] 174) :: ((b39, .map es215 cl216) :: (Lb211 ++ (Lb15 ++ [])))))) ∧ SlR 0 179 26 (prE (iE .i64) (prE (arE 24 cB) (slE 1 (iE .i64)))) F1 a209 n213 c210 next_10 Lb211 ∧ MapRP gk_177 (vA (cP (cI .i64) (cA cB))) Value.bool es215 m5) (fun _ _ _ => False) ?_ ?_ ?_ ?_ ?_ ?_
       ·rintro pre F1 F2 L1 ⟨tl5, next_10, m5, a209, n213, c210, Lb211, es215, cl216, hs218, r219, rfl, hz212, hR217⟩ hx; exact ⟨tl5, next_10, m5, a209, n213, c210, Lb211, es215, cl216, hs218, r219, rfl, hz212.mono (prE_ok (iE_ok _) (prE_ok (arE_ok (n := 24) (sz := 1) cB_ok) (slE_ok (iE_ok _)))) hx, hR217⟩
       ·intro c F1 F2 L1 h hx; exact h
       ·exact ⟨_, next_8, m3, a156, n160, c157, Lb158, es162, cl163, rfl, r202, rfl, hz159, hR164⟩
       ·rintro l220 wr221 Fr222 Xr223 Ha224 Hb225 hnb226 hH230 pre x4 tl6 hxs229 F227 _ hF228 ⟨tl5, next_10, m5, a209, n213, c210, Lb211, es215, cl216, hs218, r231, rfl, hz212, hR217⟩
        obtain rfl := rest_head hs218 hxs229
        rw [book_desk_endings_l4] at r231
        replace h_hears := h_hears.mono (slE_ok (slE_ok (iE_ok _))) hF228
        replace h_readings := h_readings.mono (iE_ok _) hF228
        replace h_cries := h_cries.mono (prE_ok (iE_ok _) (prE_ok (iE_ok _) (iE_ok _))) hF228
        replace h199 := h199.mono (iE_ok _) hF228
        replace hb_d := hF228 _ _ hb_d
        replace hz12 := hF228 _ _ hz12
        replace hz80 := hF228 _ _ hz80
        replace hz81 := hF228 _ _ hz81
        replace hz85 := hF228 _ _ hz85
        refine shW_env [(1, .pointer (some ⟨b1, 0, none⟩)), (6, .pointer (some ⟨b41, 0, none⟩)), (8, .pointer (some ⟨b43, 0, none⟩)), (11, .pointer (some ⟨b200, 0, none⟩)), (21, .int .i64 (readings.length : Int)), (22, .int .i64 k), (42, .slice a13 n17 c14), (43, .int .i64 (now2.length : Int)), (44, .int .i64 k3), (51, .func (.func 116) #[] cp207), (52, .int .i64 x4)] (by exact (sc rfl (sc rfl (sc rfl z8)))) ?_
        refine shW_region (ua (shO_nil ?_))
        refine ⟨rfl, ?_⟩
        refine shW_block (shW_region (uv (v_load isAgg181 rfl (Has.own 1 rfl) rfl) (uv (v_loadA isAgg179 sizeOf179 rfl (Has.own 0 rfl) (li_le (li_cat rfl (li_here rfl) (li_cat (lfl cB_ok h196) (li_skip (A := ([.int .i64 x3.1] : List Value)) (k := 1) (o := 0) rfl (li_here (lfl cB_ok h196))) (li_skip (A := ([.int .i64 x3.1] : List Value)) (k := 1) (o := 24) rfl (li_skip (A := x3.2.1.flatMap cB) (k := 24) (o := 0) (lfl cB_ok h196) (li_end rfl)))))) (li_ext (la rfl (la (lfl cB_ok h196) rfl)) (li_cat rfl (li_here rfl) (li_cat (lfl cB_ok h196) (li_skip (A := ([.int .i64 x3.1] : List Value)) (k := 1) (o := 0) rfl (li_here (lfl cB_ok h196))) (li_skip (A := ([.int .i64 x3.1] : List Value)) (k := 1) (o := 24) rfl (li_skip (A := x3.2.1.flatMap cB) (k := 24) (o := 0) (lfl cB_ok h196) (li_end rfl))))))) (um ?_))))
        have hn232 : FnR Tryz.prog F227 97 #[.agg #[.int .i64 houses, .int .i64 notices, .slice hears_a hears.length hears_c, .slice readings_a readings.length readings_c, .slice cries_a cries.length cries_c]] #[] (prE (iE .i64) (iE .i64)) Value.bool (fun xx_ : Int × Int => book_Book_can houses notices hears readings cries xx_.1 xx_.2) := ⟨call97, fun F2 h2 vs xx_ r ha hr => by obtain ⟨_, _, rfl, rfl, rfl⟩ := ha; exact book_Book_can_w (h_hears.mono (slE_ok (slE_ok (iE_ok _))) h2) (h_readings.mono (iE_ok _) h2) (h_cries.mono (prE_ok (iE_ok _) (prE_ok (iE_ok _) (iE_ok _))) h2) hr⟩
        obtain ⟨x5, next_11, h233, r234⟩ := b2_ok r231
        refine o_callG (Lb := (b39, .map es215 cl216) :: ((b41, ce #[.slice a209 n213 c210] 174) :: (Lb211 ++ []))) (Lr := (b200, ce ((([.int .i64 x3.1] : List Value) ++ (x3.2.1.flatMap cB ++ (([.slice a197 x3.2.2.length c198] : List Value)))).toArray) 179) :: ((b43, ce (#[.func (.func 98) #[] #[.pointer (some ⟨b42, 0, none⟩), .pointer (some ⟨b38, 0, none⟩), .pointer (some ⟨b1, 0, none⟩), .pointer (some ⟨b40, 0, none⟩), .pointer (some ⟨b41, 0, none⟩)]]) 181) :: (Lb15 ++ []))) rfl call98 rfl rfl rfl (pT ((fC (fC (fC fO))).trans (pC ((fC (fC fO)).trans (pC ((fC (fC fP)).trans (pA pR)))))) (lb (lb (lp (ln rfl))))) (book_desk_endings_1_w h196 h199 hz80 hn232 hz81 hz12 hb_d h_hears h_readings h_cries hz85 hR217 hz212 h233) ?_; rintro _ F235 _ hF236 hd238 hn237 ⟨es239, cl240, a243, n247, c244, Lb245, rfl, rfl, hR241, hz246⟩
        refine shO_L (lb (lb (lp (ln rfl)))) (kO (kc (kc (kf (fS fO) (kf (fS fO) kr)))) ?_)
        refine shO_nil (inBlock_n (id := 7) ?_)
        refine ⟨(b200, ce ((([.int .i64 x3.1] : List Value) ++ (x3.2.1.flatMap cB ++ (([.slice a197 x3.2.2.length c198] : List Value)))).toArray) 179) :: ((b43, ce (#[.func (.func 98) #[] #[.pointer (some ⟨b42, 0, none⟩), .pointer (some ⟨b38, 0, none⟩), .pointer (some ⟨b1, 0, none⟩), .pointer (some ⟨b40, 0, none⟩), .pointer (some ⟨b41, 0, none⟩)]]) 181) :: ((b41, ce #[.slice a243 n247 c244] 174) :: ((b39, .map es239 cl240) :: (Lb245 ++ (Lb15 ++ []))))), (show KL _ _ from kf (fC (fC fO)) (kf (fC (fC fO)) (kf (fC fO) kr))), ?_⟩; exact ⟨_, next_11, x5, a243, n247, c244, Lb245, es239, cl240, (by rw [hxs229]; simp), r234, rfl, hz246, hR241⟩
       ·rintro F248 _ hF249 ⟨tl5, next_10, m5, a209, n213, c210, Lb211, es215, cl216, hs218, r250, rfl, hz212, hR217⟩
        obtain rfl := rest_nil hs218; rw [book_desk_endings_l4] at r250
        refine inBlock_n (id := 6) (inBlock_n (id := 5) ?_)
        obtain ⟨rfl, rfl⟩ := inj2 r250
        exact mi (kd kr) ⟨a209, n213, c210, Lb211, es215, cl216, (hF204.trans hF249), rfl, z8, hz212, hR217⟩
       intro c F1 L1 hx h; exact h.elim
      rintro e1 F252 _ ⟨a176, n180, c177, Lb178, es182, cl183, hF253, rfl, he251, hz179, hR184⟩
      refine shW_env _ he251 ?_
      replace hz16 := hz16.mono (prE_ok (iE_ok _) (prE_ok (arE_ok (n := 24) (sz := 1) cB_ok) (slE_ok (iE_ok _)))) hF253
      refine shW_region (uv (v_add rfl rfl (Lst.r64 hk165 c172 (SlR.llt hz16))) ?_)
      refine um (shO_nil ?_)
      subst hn166; exact le kr ⟨_, _, rfl, hk173, next_9, m4, a176, n180, c177, Lb178, es182, cl183, r186, (hF170.trans hF253), rfl, z8, hz179, hR184⟩
     obtain rfl := Lst.zero hk165 c172
     rw [book_desk_endings_l3] at r167
     refine shW_exit (andThen_exit (andThen_exit ?_))
     refine inBlock_exit ?_
     obtain rfl := inj1 r167
     exact mi (kd (kc (kd (ka kn)))) ⟨a156, n160, c157, Lb158, hF170, rfl, z4, hz159⟩
    rintro e1 F255 _ ⟨a148, n152, c149, Lb150, hF256, rfl, he254, hz151⟩
    refine shW_env _ he254 (shW_region (uv (v_load isAgg174 rfl (Has.own 0 rfl) rfl) ?_))
    refine ua (shO_nil (inBlock_n (id := 1) ?_))
    obtain rfl := inj1 r155
    exact mi (kd kr) ⟨a148, n152, c149, Lb150, (hF147.trans hF256), rfl, z4, hz151⟩
   rintro e1 F258 _ ⟨a30, n34, c31, Lb32, hF259, rfl, he257, hz33⟩
   refine shW_env _ he257 ?_
   replace h_readings := h_readings.mono (iE_ok _) hF259
   refine shW_region (uv (v_add rfl rfl (Lst.r64 hk19 c26 (RowR.lt h_readings))) ?_)
   refine um (shO_nil ?_)
   subst hn20; refine lf ?_
   exact mf kr ⟨_, _, rfl, hk27, now3, a30, n34, c31, Lb32, r37, (hF24.trans hF259), rfl, z4, hz33⟩
  obtain rfl := Lst.zero hk19 c26
  rw [book_desk_endings_l1] at r21
  refine shW_exit (andThen_exit (andThen_exit ?_))
  refine inBlock_exit ?_
  obtain rfl := inj1 r21
  exact mi kr ⟨a13, n17, c14, Lb15, (hF11.trans hF24), rfl, z1, hz16⟩
 rintro e1 F261 _ ⟨a2, n6, c3, Lb4, hF262, rfl, he260, hz5⟩
 refine shW_env _ he260 ?_
 refine wsr (ua (shO_nil ?_))
 obtain ⟨out, h269, r270⟩ := b1_ok r9
 refine shW_join (fun e1 F1 L1 => ∃ (a263 : Option Addr) (n267 : Nat) (c264 : Nat) (Lb265 : LH), FExt F261 F1 ∧ L1 = (Lb265 ++ []) ∧ e1.sub [(13, .slice a263 n267 c264)] ∧ SlR K.w0.heap.size 106 25 (prE (arE 24 cB) (slE 1 (iE .i64))) F1 a263 n267 c264 out Lb265) ?_ ?_
 ·clear r270
  refine wsr (um ?_)
  refine uv ((v_lenS underlying174 rfl).i (SlR.lenI hz5)) ?_
  refine um (shO_nil ?_)
  refine shW_block ?_
  refine shW_lp (fun fu5 e1 F1 L1 => LA now fu5 fun tl7 k4 => ∃ (out2 : List ((List Bool) × (List Int))) (a271 : Option Addr) (n275 : Nat) (c272 : Nat) (Lb273 : LH), book_desk_endings_l5 tl7 out2 = some out ∧ FExt F261 F1 ∧ L1 = (Lb273 ++ (Lb4 ++ [])) ∧ e1.sub [(13, .slice a271 n275 c272), (60, .slice a2 n6 c3), (61, .int .i64 (now.length : Int)), (62, .int .i64 k4)] ∧ SlR K.w0.heap.size 106 25 (prE (arE 24 cB) (slE 1 (iE .i64))) F1 a271 n275 c272 out2 Lb273) _ (m0 (ke kr) ⟨_, _, rfl, Lst.start _, [], none, 0, 0, [], h269, FExt.refl _, rfl, z4, SlR.nil _ _ _ _ _⟩) ?_
  rintro fu5 e1 F281 _ ⟨tl7, k4, hn278, hk277, out2, a271, n275, c272, Lb273, r279, hF282, rfl, he280, hz274⟩
  refine shW_env _ he280 ?_
  replace hz5 := hz5.mono (prE_ok (iE_ok _) (prE_ok (arE_ok (n := 24) (sz := 1) cB_ok) (slE_ok (iE_ok _)))) hF282
  refine wsr (uv (v_lssK rfl rfl) ?_)
  refine shO_nil (shW_seq ?_)
  refine cQ (fun c284 => ?_) fun c284 => ?_
  ·obtain ⟨x6, tl8, rfl, hx286, g287, hk285⟩ := Lst.succ hk277 c284
   rw [book_desk_endings_l5] at r279
   refine shW_skip (shW_seq ?_)
   refine shW_block (wsr ?_)
   obtain ⟨b288, o289, c290, vs291, ha292, hs293, hle294, ⟨_, _, rfl, rfl, ⟨_, _, rfl, ⟨rfl, h297⟩, ⟨a298, c299, rfl, h300⟩⟩⟩, hl295, hc296⟩ := SlR.at (prE_ok (iE_ok _) (prE_ok (arE_ok (n := 24) (sz := 1) cB_ok) (slE_ok (iE_ok _)))) hz5 (L := Lb273 ++ (Lb4 ++ [])) (fS fP) g287.1 hx286
   refine uv (v_indexO underlying174 sizeOf179 rfl ha292 rfl (SlR.idx hz5 g287)) (uv (v_loadA isAgg179 sizeOf179 rfl hs293 hle294 (extract_cells hle294 hl295 hc296)) ?_)
   refine o_alloc rfl zeroValue179 ?_; intro b301 hb301
   refine shO_L (L' := (b301, ce ((([.int .i64 0] : List Value) ++ ((List.replicate 24 false).flatMap cB ++ (([.slice none 0 0] : List Value)))).toArray) 179) :: (Lb273 ++ (Lb4 ++ []))) rfl (o_storeW (i := 0) sizeOf179 rfl rfl rfl (lz (la rfl (la (lfl cB_ok List.length_replicate) rfl))) (lz (la rfl (la (lfl cB_ok h297) rfl))) (oc_app (by simp [Value.oneCell']) (oc_app (flat_one cB_ok _) (by simp [Value.oneCell']))) (shO_L (L' := (b301, ce ((([.int .i64 x6.1] : List Value) ++ (x6.2.1.flatMap cB ++ (([.slice a298 x6.2.2.length c299] : List Value)))).toArray) 179) :: (Lb273 ++ (Lb4 ++ []))) rfl ?_))
   refine nsr (um ?_)
   refine uv (v_makeFunc rfl rfl) ?_
   refine shO_freeze 0 rfl hb301 ?_; intro F302 hF303 hz304
   refine shO_L rfl ?_
   replace h300 := h300.mono (iE_ok _) hF303
   replace hz5 := hz5.mono (prE_ok (iE_ok _) (prE_ok (arE_ok (n := 24) (sz := 1) cB_ok) (slE_ok (iE_ok _)))) hF303
   replace hz274 := hz274.mono (prE_ok (arE_ok (n := 24) (sz := 1) cB_ok) (slE_ok (iE_ok _))) hF303
   have hn309 : FnR Tryz.prog F302 102 #[] #[.pointer (some ⟨b301, 0, none⟩)] (agE (prE (arE 24 cB) (slE 1 (iE .i64)))) Value.bool (fun xx_ : ((List Bool) × (List Int)) => book_desk_endings_2 xx_.1 xx_.2 x6.1 x6.2.1 x6.2.2) := ⟨call102, fun F2 h2 vs xx_ r ha hr => by obtain ⟨_, rfl, ⟨_, _, rfl, ⟨rfl, h305⟩, ⟨a306, c307, rfl, h308⟩⟩⟩ := ha; exact book_desk_endings_2_w h305 h308 (h2 _ _ hz304) h297 (h300.mono (iE_ok _) h2) hr⟩
   obtain ⟨ok, h310, r311⟩ := b1_ok r279
   refine o_callT (Lt := Lb273 ++ []) (Lr := Lb4 ++ []) rfl call101 rfl rfl rfl (pT pR (lp (ln rfl))) (fun F2 h2 h3 => by rw [(SlR.caps hz274).1]; exact slices_ContainsFunc_book_ending_book_ending_w (hz274.row (prE_ok (arE_ok (n := 24) (sz := 1) cB_ok) (slE_ok (iE_ok _))) h2 (fun p hp => h3 p (List.mem_append_left _ hp))) (hn309.mono h2) h310) ?_
   refine uv (v_notB rfl) (shO_nil ?_)
   refine shW_cond rfl (fun c312 => ?_) (fun c312 => ?_)
   ·have r313 := bt r311 c312
    refine shW_region (um ?_)
    refine uv (v_fieldAddr fa_179_0 rfl) (uv (v_fieldAddr fa_177_1 rfl) (uv (v_loadA isAgg104 sizeOf104 rfl (Has.frozen hz304) (li_le (li_skip (A := ([.int .i64 x6.1] : List Value)) (k := 1) (o := 0) rfl (li_here (lfl cB_ok h297)))) (li_ext (lfl cB_ok h297) (li_skip (A := ([.int .i64 x6.1] : List Value)) (k := 1) (o := 0) rfl (li_here (lfl cB_ok h297))))) (uv (v_fieldAddr fa_179_1 rfl) (uv (v_load isAgg35 rfl (Has.frozen hz304) (li_cell (li_skip (A := ([.int .i64 x6.1] : List Value)) (k := 1) (o := 24) rfl (li_skip (A := x6.2.1.flatMap cB) (k := 24) (o := 0) (lfl cB_ok h297) (li_end rfl))))) ?_))))
    refine uv (v_build (v := .agg ((x6.2.1.flatMap cB ++ (([.slice a298 x6.2.2.length c299] : List Value))).toArray)) rfl (by intro w; have hq_ := h297; revert hq_; generalize x6.2.1 = zq_; intro hq_; obtain ⟨a0, a1, a2, a3, a4, a5, a6, a7, a8, a9, a10, a11, a12, a13, a14, a15, a16, a17, a18, a19, a20, a21, a22, a23, rfl⟩ := len_24 hq_; show _ = _; kernel_rfl)) ?_
    refine o_buildSlice (cs := (x6.2.1.flatMap cB ++ (([.slice a298 x6.2.2.length c299] : List Value))).toArray) rfl rfl (buildSlice_one slt_99 (.agg (x6.2.1.flatMap cB ++ (([.slice a298 x6.2.2.length c299] : List Value))).toArray) (lz (la (lfl cB_ok h297) rfl)) (by decide)) ?_; intro b314 hb314
    obtain ⟨out3, h315, g316, r317⟩ := ap_ok r313
    refine o_appZ (xs := out2) (ys := [(x6.2.1, x6.2.2)]) (zs := out3) rfl slt_99 rfl rfl (Nat.le_refl _) (fun _ => .c .h) hz274 (SrcR.box (vss := [(x6.2.1.flatMap cB ++ (([.slice a298 x6.2.2.length c299] : List Value)))]) (ys := [(x6.2.1, x6.2.2)]) 0 rfl (prE_ok (arE_ok (n := 24) (sz := 1) cB_ok) (slE_ok (iE_ok _))) (.cons ⟨_, _, rfl, ⟨rfl, h297⟩, ⟨_, _, rfl, h300⟩⟩ .nil) (by simp) rfl) h315 g316 (by decide) ?_; intro a318 n322 c319 Lb320 hz321
    refine kO (kd kr) ?_
    refine ua (shO_nil (inBlock_n (id := 9) (shW_region ?_)))
    refine uv (v_add rfl rfl (Lst.r64 hk277 c284 (SlR.llt hz5))) ?_
    refine um (shO_nil ?_)
    subst hn278; exact le kr ⟨_, _, rfl, hk285, out3, a318, n322, c319, Lb320, r317, (hF282.trans hF303), rfl, z4, hz321⟩
   have r324 := bf r311 c312
   refine shW_skip (inBlock_n (id := 9) (shW_region ?_))
   refine uv (v_add rfl rfl (Lst.r64 hk277 c284 (SlR.llt hz5))) ?_
   refine um (shO_nil ?_)
   subst hn278; exact le kr ⟨_, _, rfl, hk285, out2, a271, n275, c272, Lb273, r324, (hF282.trans hF303), rfl, z4, hz274⟩
  obtain rfl := Lst.zero hk277 c284
  rw [book_desk_endings_l5] at r279
  refine shW_exit (andThen_exit (andThen_exit ?_))
  refine inBlock_exit ?_
  obtain rfl := inj1 r279
  exact mi (ka kn) ⟨a271, n275, c272, Lb273, hF282, rfl, z1, hz274⟩
 rintro e1 F326 _ ⟨a263, n267, c264, Lb265, hF327, rfl, he325, hz266⟩
 refine shW_env _ he325 ?_
 refine wsr (um (ua (shO_nil (shW_ret ?_))))
 refine qR1 results67 ?_
 obtain rfl := inj1 r270
 exact ⟨_, _, _, _, rfl, rfl, hz266.any⟩
set_option maxHeartbeats 1000000 in
theorem book_told_w (h_hears : RowR 1 (slE 1 (slE 1 (iE .i64))) F hears_a hears_c hears) (h_readings : RowR 1 (iE .i64) F readings_a readings_c readings) (h_cries : RowR 3 (prE (iE .i64) (prE (iE .i64) (iE .i64))) F cries_a cries_c cries) {r : Option (Int × Int × (List (List (List Int))) × (List Int) × (List (Int × Int × Int)))} {r2 : List ((List Bool) × (List Int))} {r3 : Int} (hr : book_told houses notices hears readings cries = some (r, r2, r3)) :
    SH.Spec Tryz.prog 36 #[.agg #[.int .i64 houses, .int .i64 notices, .slice hears_a hears.length hears_c, .slice readings_a readings.length readings_c, .slice cries_a cries.length cries_c]] F [] fun F' L' v => ∃ (rv : Value) (r2a : Option Addr) (r2n : Nat) (r2c : Nat) (r2L : LH), v = .tuple #[rv, .slice r2a r2n r2c, .int .i64 r3] ∧ L' = r2L ++ [] ∧ PtrR 152 (prE (iE .i64) (prE (iE .i64) (prE (slE 1 (slE 1 (slE 1 (iE .i64)))) (prE (slE 1 (iE .i64)) (slE 3 (prE (iE .i64) (prE (iE .i64) (iE .i64)))))))) F' rv r ∧ SlR 0 106 25 (prE (arE 24 cB) (slE 1 (iE .i64))) F' r2a r2n r2c r2 r2L := by
 refine sp func36 ntmps36 fun K _ _ => ?_
 rw [book_told] at hr
 refine wsr ?_
 refine o_box rfl rfl ?_; intro b1 hb1
 refine ua (ua (ua (nsr ?_)))
 refine uv (v_loadA isAgg43 sizeOf43 rfl (Has.own 0 rfl) (nbL rfl) rfl) ?_
 obtain ⟨d, n, h2, r4⟩ := b2_ok hr
 refine c0 call46 (book_opened_w h_hears h_readings h_cries h2) ?_; rintro _ F5 _ hF6 hn7 ⟨v9, rfl, rfl, hp10⟩
 refine shO_L (ln rfl) ?_
 refine um (ox rfl rfl rfl (ox rfl rfl rfl (ua (ua (shO_nil (shW_seq (wsr (um ?_))))))))
 refine uv (v_neq rfl rfl) (shO_nil ?_)
 refine cQ (fun c11 => ?_) fun c11 => ?_
 ·have r12 := ite_t r4 c11
  refine wsr (um (ua (ua (ua (shO_nil ?_)))))
  refine kW kn ?_
  refine shW_ret (andThen_ret ?_)
  refine q_res3 results36 (res_tmp rfl) (res_tmp rfl) (res_tmp rfl) (sr) ?_
  obtain ⟨rfl, rfl, rfl⟩ := inj3 r12
  exact ⟨_, _, _, _, [], rfl, rfl, rfl, SlR.nil _ _ _ _ _⟩
 have r13 := ite_f r4 c11
 refine shW_skip (wsr (um ?_))
 obtain ⟨houses2, notices2, hears2, readings2, cries2, h14, r15⟩ := b5_ok r13
 have h30 := hp10; rw [h14] at h30; obtain ⟨b16, c17, m18, hv19, hz20, ⟨_, _, rfl, rfl, ⟨_, _, rfl, rfl, ⟨_, _, rfl, ⟨a21, c22, rfl, h23⟩, ⟨_, _, rfl, ⟨a24, c25, rfl, h26⟩, ⟨a27, c28, rfl, h29⟩⟩⟩⟩⟩⟩ := h30; subst hv19
 have hz20 : F5 b16 = some (.cells #[.int .i64 houses2, .int .i64 notices2, .slice a21 hears2.length c22, .slice a24 readings2.length c25, .slice a27 cries2.length c28] 152 m18) := hz20
 obtain ⟨l, h31, r32⟩ := b1_ok r15
 refine c0 call67 (book_desk_endings_w hz20 h23 h26 h29 h31) ?_; rintro _ F33 _ hF34 hn35 ⟨a37, n41, c38, Lb39, rfl, rfl, hz40⟩
 replace h23 := h23.mono (slE_ok (slE_ok (iE_ok _))) hF34
 replace h26 := h26.mono (iE_ok _) hF34
 replace h29 := h29.mono (prE_ok (iE_ok _) (prE_ok (iE_ok _) (iE_ok _))) hF34
 replace hz20 := hF34 _ _ hz20
 replace hz40 := hz40.new fun p hp => hn35 p (by simp [hp])
 refine shO_L (lp (ln rfl)) (kO (kf (fS fO) kr) ?_)
 refine ua (shO_nil (shW_seq (wsr (um ?_))))
 refine uv ((v_lenS underlying99 rfl).i (SlR.lenI hz40)) (uv (v_eql rfl rfl) (shO_nil ?_))
 refine cQ (fun c43 => ?_) fun c43 => ?_
 ·have r44 := ite_t r32 c43
  refine wsr (ua (ua (ua (shO_nil ?_))))
  refine kW kn ?_
  refine shW_ret (andThen_ret ?_)
  refine q_res3 results36 (res_tmp rfl) (res_tmp rfl) (res_tmp rfl) (sr) ?_
  obtain ⟨rfl, rfl, rfl⟩ := inj3 r44
  exact ⟨_, _, _, _, [], rfl, rfl, rfl, SlR.nil _ _ _ _ _⟩
 have r45 := ite_f r32 c43
 refine shW_skip (wsr (um (um (ua (ua (ua (shO_nil ?_)))))))
 refine kW (kd kr) (shW_ret (q_res3 results36 (res_tmp rfl) (res_tmp rfl) (res_tmp rfl) (sr) ?_))
 obtain ⟨rfl, rfl, rfl⟩ := inj3 r45
 exact ⟨_, _, _, _, _, rfl, rfl, ⟨_, _, _, rfl, hz20, ⟨_, _, rfl, rfl, ⟨_, _, rfl, rfl, ⟨_, _, rfl, ⟨_, _, rfl, h23⟩, ⟨_, _, rfl, ⟨_, _, rfl, h26⟩, ⟨_, _, rfl, h29⟩⟩⟩⟩⟩⟩, hz40.any⟩
set_option maxHeartbeats 1000000 in
theorem book_Verdicts_w (h_hears : RowR 1 (slE 1 (slE 1 (iE .i64))) F hears_a hears_c hears) (h_readings : RowR 1 (iE .i64) F readings_a readings_c readings) (h_cries : RowR 3 (prE (iE .i64) (prE (iE .i64) (iE .i64))) F cries_a cries_c cries) {r : List (List Int)} {r2 : Int} (hr : book_Verdicts houses notices hears readings cries = some (r, r2)) :
    SH.Spec Tryz.prog 12 #[.agg #[.int .i64 houses, .int .i64 notices, .slice hears_a hears.length hears_c, .slice readings_a readings.length readings_c, .slice cries_a cries.length cries_c]] F [] fun F' L' v => ∃ (ra : Option Addr) (rc : Nat), v = .tuple #[.slice ra r.length rc, .int .i64 r2] ∧ L' = [] ∧ RowR 1 (slE 1 (iE .i64)) F' ra rc r := by
 refine sp func12 ntmps12 fun K _ _ => ?_
 rw [book_Verdicts] at hr
 refine wsr ?_
 refine o_box rfl rfl ?_; intro b1 hb1
 refine ua (ua (nsr ?_))
 refine uv (v_loadA isAgg43 sizeOf43 rfl (Has.own 0 rfl) (nbL rfl) rfl) ?_
 obtain ⟨d, l, n, h2, r3⟩ := b3_ok hr
 refine c0 call36 (book_told_w h_hears h_readings h_cries h2) ?_; rintro _ F4 _ hF5 hn6 ⟨v8, a10, n14, c11, Lb12, rfl, rfl, hp9, hz13⟩
 replace hz13 := hz13.new fun p hp => hn6 p (by simp [hp])
 refine shO_L (lp (ln rfl)) (kO (kf (fS fO) kr) ?_)
 refine um (ox rfl rfl rfl (ox rfl rfl rfl (ox rfl rfl rfl (ua (ua (ua (shO_nil (shW_seq (wsr ?_)))))))))
 refine um (uv (v_neq rfl rfl) (shO_nil ?_))
 refine cQ (fun c16 => ?_) fun c16 => ?_
 ·have r17 := ite_t r3 c16
  refine wsr (um (ua (ua (shO_nil ?_))))
  refine kW kn ?_
  refine shW_ret (andThen_ret ?_)
  refine q_res2 results12 (res_tmp rfl) (res_tmp rfl) (sr) ?_
  obtain ⟨rfl, rfl⟩ := inj2 r17
  exact ⟨_, _, rfl, rfl, RowR.nil _ _ _⟩
 have r18 := ite_f r3 c16
 refine shW_skip (wsr ?_)
 refine uv (v_fieldAddr fa_43_0 rfl) (uv (v_load isAgg3 rfl (Has.own 0 rfl) rfl) ?_)
 obtain ⟨g19, r20⟩ := gd_ok r18
 obtain ⟨l2, h21, r22⟩ := bv_ok r20
 refine o_makeZ (R := hdE) (z0 := (none, 0, 0)) (zs := List.replicate (houses : Int).toNat (none, 0, 0)) rfl slt_50 (by decide) hdE_ok (fun _ => rfl) rfl g19 rfl (fun _ => .c .n) ?_; intro a23 n26 Lb24 hO27
 have hz25 : NlR K.w0.heap.size 53 54 1 (iE .i64) F4 a23 n26 n26 l2 Lb24 := NlR.made hO27 h21
 refine ua (shO_nil ?_)
 obtain ⟨out, h31, r32⟩ := b1_ok r22
 refine shW_join (fun e1 F1 L1 => ∃ (Lb29 : LH), F4 = F1 ∧ L1 = (Lb29 ++ []) ∧ e1.sub [(7, .slice a23 n26 n26)] ∧ NlR K.w0.heap.size 53 54 1 (iE .i64) F1 a23 n26 n26 out Lb29) ?_ ?_
 ·clear r32
  refine wsr (um ?_)
  refine uv ((v_lenS underlying50 rfl).i (NlR.lenI hz25)) ?_
  refine um (shO_nil ?_)
  refine shW_block ?_
  obtain ⟨g35, r36⟩ := gd_ok h31
  refine shW_lp (fun fu1 e1 F1 L1 => ∃ (k : Int), Ctr 0 (l2.length : Int) k fu1 ∧ ∃ (out2 : List (List Int)) (Lb33 : LH), book_Verdicts_l1 notices l fu1 k out2 = some out ∧ F4 = F1 ∧ L1 = ((b1, ce #[.int .i64 houses, .int .i64 notices, .slice hears_a hears.length hears_c, .slice readings_a readings.length readings_c, .slice cries_a cries.length cries_c] 43) :: (Lb12 ++ (Lb33 ++ []))) ∧ e1.sub [(1, .pointer (some ⟨b1, 0, none⟩)), (5, .slice a10 n14 c11), (7, .slice a23 n26 n26), (27, .int .i64 (l2.length : Int)), (28, .int .i64 k)] ∧ NlR K.w0.heap.size 53 54 1 (iE .i64) F1 a23 n26 n26 out2 Lb33) _ (m0 (kc (kg (fS fP) kr)) ⟨_, Ctr.start _ _, l2, Lb24, r36, rfl, rfl, z5, hz25⟩) ?_
  rintro fu1 e1 _ _ ⟨k, hk37, out2, Lb33, r39, rfl, rfl, he40, hz34⟩
  refine shW_env _ he40 (wsr (uv (v_lssK rfl rfl) ?_))
  refine shO_nil (shW_seq ?_)
  refine cQ (fun c42 => ?_) fun c42 => ?_
  ·obtain ⟨fu1, rfl, hk43⟩ := Ctr.succ hk37 c42
   rw [book_Verdicts_l1] at r39
   refine shW_skip ?_
   obtain ⟨out3, h46, r47⟩ := b1_ok r39
   refine shW_join (fun e1 F1 L1 => ∃ (Lb44 : LH), F4 = F1 ∧ L1 = ((b1, ce #[.int .i64 houses, .int .i64 notices, .slice hears_a hears.length hears_c, .slice readings_a readings.length readings_c, .slice cries_a cries.length cries_c] 43) :: (Lb12 ++ (Lb44 ++ []))) ∧ e1.sub [(1, .pointer (some ⟨b1, 0, none⟩)), (5, .slice a10 n14 c11), (7, .slice a23 n26 n26), (27, .int .i64 (l2.length : Int)), (28, .int .i64 k)] ∧ NlR K.w0.heap.size 53 54 1 (iE .i64) F1 a23 n26 n26 out3 Lb44) ?_ ?_
   ·clear r47
    refine shW_block ?_
    refine wsr (um (ua (nsr ?_)))
    refine uv (v_fieldAddr fa_43_1 rfl) (uv (v_load isAgg3 rfl (Has.own 0 rfl) rfl) ?_)
    refine um (shO_nil ?_)
    refine shW_block ?_
    obtain ⟨g50, r51⟩ := gd_ok h46
    refine shW_lp (fun fu2 e1 F1 L1 => ∃ (k2 : Int), Ctr 0 notices k2 fu2 ∧ ∃ (out4 : List (List Int)) (Lb48 : LH), book_Verdicts_l2 l k fu2 k2 out4 = some out3 ∧ F4 = F1 ∧ L1 = ((b1, ce #[.int .i64 houses, .int .i64 notices, .slice hears_a hears.length hears_c, .slice readings_a readings.length readings_c, .slice cries_a cries.length cries_c] 43) :: (Lb12 ++ (Lb48 ++ []))) ∧ e1.sub [(1, .pointer (some ⟨b1, 0, none⟩)), (5, .slice a10 n14 c11), (7, .slice a23 n26 n26), (8, .int .i64 k), (27, .int .i64 (l2.length : Int)), (28, .int .i64 k), (32, .int .i64 notices), (33, .int .i64 k2)] ∧ NlR K.w0.heap.size 53 54 1 (iE .i64) F1 a23 n26 n26 out4 Lb48) _ (m0 kr ⟨_, Ctr.start _ _, out2, Lb33, r51, rfl, rfl, z8, hz34⟩) ?_
    rintro fu2 e1 _ _ ⟨k2, hk52, out4, Lb48, r54, rfl, rfl, he55, hz49⟩
    refine shW_env _ he55 (wsr (uv (v_lssK rfl rfl) ?_))
    refine shO_nil (shW_seq ?_)
    refine cQ (fun c57 => ?_) fun c57 => ?_
    ·obtain ⟨fu2, rfl, hk58⟩ := Ctr.succ hk52 c57
     rw [book_Verdicts_l2] at r54
     refine shW_skip ?_
     obtain ⟨out5, h61, r62⟩ := b1_ok r54
     refine shW_join (fun e1 F1 L1 => ∃ (Lb59 : LH), F4 = F1 ∧ L1 = ((b1, ce #[.int .i64 houses, .int .i64 notices, .slice hears_a hears.length hears_c, .slice readings_a readings.length readings_c, .slice cries_a cries.length cries_c] 43) :: (Lb12 ++ (Lb59 ++ []))) ∧ e1.sub [(1, .pointer (some ⟨b1, 0, none⟩)), (5, .slice a10 n14 c11), (7, .slice a23 n26 n26), (8, .int .i64 k), (27, .int .i64 (l2.length : Int)), (28, .int .i64 k), (32, .int .i64 notices), (33, .int .i64 k2)] ∧ NlR K.w0.heap.size 53 54 1 (iE .i64) F1 a23 n26 n26 out5 Lb59) ?_ ?_
     ·clear r62
      refine shW_block ?_
      refine wsr (um (ua (nsr (ua (shO_nil ?_)))))
      obtain ⟨many, h63, r64⟩ := b1_ok h61
      refine jE (((b1, ce #[.int .i64 houses, .int .i64 notices, .slice hears_a hears.length hears_c, .slice readings_a readings.length readings_c, .slice cries_a cries.length cries_c] 43) :: (Lb12 ++ (Lb48 ++ [])))) [(1, .pointer (some ⟨b1, 0, none⟩)), (5, .slice a10 n14 c11), (7, .slice a23 n26 n26), (8, .int .i64 k), (10, .int .i64 many), (27, .int .i64 (l2.length : Int)), (28, .int .i64 k), (32, .int .i64 notices), (33, .int .i64 k2)] ?_ ?_
      ·clear r64
       refine wsr (um ?_)
       refine uv ((v_lenS underlying99 rfl).i (SlR.lenI hz13)) ?_
       refine um (shO_nil ?_)
       refine shW_block ?_
       refine shW_lp (fun fu3 e1 F1 L1 => LA l fu3 fun tl k3 => ∃ (many2 : Int), book_Verdicts_l3 k k2 tl many2 = some many ∧ F4 = F1 ∧ L1 = ((b1, ce #[.int .i64 houses, .int .i64 notices, .slice hears_a hears.length hears_c, .slice readings_a readings.length readings_c, .slice cries_a cries.length cries_c] 43) :: (Lb12 ++ (Lb48 ++ []))) ∧ e1.sub [(1, .pointer (some ⟨b1, 0, none⟩)), (5, .slice a10 n14 c11), (7, .slice a23 n26 n26), (8, .int .i64 k), (9, .int .i64 k2), (10, .int .i64 many2), (27, .int .i64 (l2.length : Int)), (28, .int .i64 k), (32, .int .i64 notices), (33, .int .i64 k2), (36, .slice a10 n14 c11), (37, .int .i64 (l.length : Int)), (38, .int .i64 k3)]) _ (m0 kr ⟨_, _, rfl, Lst.start _, 0, h63, rfl, rfl, (sc rfl (sc rfl (sc rfl (sc rfl (sc rfl z8)))))⟩) ?_
       rintro fu3 e1 _ _ ⟨tl, k3, hn66, hk65, many2, r67, rfl, rfl, he68⟩
       refine shW_env _ he68 (wsr (uv (v_lssK rfl rfl) ?_))
       refine shO_nil (shW_seq ?_)
       refine cQ (fun c70 => ?_) fun c70 => ?_
       ·obtain ⟨x, tl2, rfl, hx72, g73, hk71⟩ := Lst.succ hk65 c70
        rw [book_Verdicts_l3] at r67
        refine shW_skip (shW_seq ?_)
        refine shW_block (wsr ?_)
        obtain ⟨b74, o75, c76, vs77, ha78, hs79, hle80, ⟨_, _, rfl, ⟨rfl, h83⟩, ⟨a84, c85, rfl, h86⟩⟩, hl81, hc82⟩ := SlR.at (prE_ok (arE_ok (n := 24) (sz := 1) cB_ok) (slE_ok (iE_ok _))) hz13 (L := (b1, ce #[.int .i64 houses, .int .i64 notices, .slice hears_a hears.length hears_c, .slice readings_a readings.length readings_c, .slice cries_a cries.length cries_c] 43) :: (Lb12 ++ (Lb48 ++ []))) (fC fP) g73.1 hx72
        refine uv (v_indexO underlying99 sizeOf106 rfl ha78 rfl (SlR.idx hz13 g73)) (uv (v_loadA isAgg106 sizeOf106 rfl hs79 hle80 (extract_cells hle80 hl81 hc82)) ?_)
        refine o_alloc rfl zeroValue106 ?_; intro b87 hb87
        refine shO_L (L' := (b87, ce (((List.replicate 24 false).flatMap cB ++ (([.slice none 0 0] : List Value))).toArray) 106) :: ((b1, ce #[.int .i64 houses, .int .i64 notices, .slice hears_a hears.length hears_c, .slice readings_a readings.length readings_c, .slice cries_a cries.length cries_c] 43) :: (Lb12 ++ (Lb48 ++ [])))) rfl (o_storeW (i := 0) sizeOf106 rfl rfl rfl (lz (la (lfl cB_ok List.length_replicate) rfl)) (lz (la (lfl cB_ok h83) rfl)) (oc_app (flat_one cB_ok _) (by simp [Value.oneCell'])) (shO_L (L' := (b87, ce ((x.1.flatMap cB ++ (([.slice a84 x.2.length c85] : List Value))).toArray) 106) :: ((b1, ce #[.int .i64 houses, .int .i64 notices, .slice hears_a hears.length hears_c, .slice readings_a readings.length readings_c, .slice cries_a cries.length cries_c] 43) :: (Lb12 ++ (Lb48 ++ [])))) rfl ?_))
        refine nsr (um (um ?_))
        refine uv (v_fieldAddr fa_106_0 rfl) ?_
        obtain ⟨g88, r89⟩ := gd_ok r67
        refine uv (v_indexA underlying104 sizeOf102 rfl rfl g88) ?_
        obtain ⟨g90, r91⟩ := gd_ok r89
        obtain ⟨x2, g92, hx93, r94⟩ := ix_ok r91
        have hq96 : (k * 4 + k2 : Int).toNat = (k : Int).toNat * 4 + (k2 : Int).toNat := by have := g88; have := g90; omega
        have hc95 := el_at2 cB_ok h83 hq96 hx93 (li_arr (li_here (B := ([.slice a84 x.2.length c85] : List Value)) (lfl cB_ok h83))) (li_le (li_here (B := ([.slice a84 x.2.length c85] : List Value)) (lfl cB_ok h83)))
        refine uv (v_indexA underlying102 sizeOf4 rfl rfl g90) (uv (v_load isAgg4 rfl (Has.own 0 rfl) ((hc95).2.2 0 (by decide))) (shO_nil ?_))
        refine shW_cond rfl (fun c97 => ?_) (fun c97 => ?_)
        ·have r98 := bt r94 c97
         refine shW_region (um ?_)
         obtain ⟨g99, r100⟩ := gd_ok r98
         refine uv (v_add rfl rfl g99) ?_
         refine ua (shO_nil (inBlock_n (id := 5) (shW_region ?_)))
         refine uv (v_add rfl rfl (Lst.r64 hk65 c70 (SlR.llt hz13))) ?_
         refine um (shO_nil ?_)
         subst hn66; exact le (kd kr) ⟨_, _, rfl, hk71, many2 + 1, r100, rfl, rfl, (sc rfl (sc rfl (sc rfl (sc rfl (sc rfl z8)))))⟩
        have r101 := bf r94 c97
        refine shW_skip (inBlock_n (id := 5) (shW_region ?_))
        refine uv (v_add rfl rfl (Lst.r64 hk65 c70 (SlR.llt hz13))) ?_
        refine um (shO_nil ?_)
        subst hn66; exact le (kd kr) ⟨_, _, rfl, hk71, many2, r101, rfl, rfl, (sc rfl (sc rfl (sc rfl (sc rfl (sc rfl z8)))))⟩
       obtain rfl := Lst.zero hk65 c70
       rw [book_Verdicts_l3] at r67
       refine shW_exit (andThen_exit (andThen_exit ?_))
       refine inBlock_exit ?_
       obtain rfl := inj1 r67
       exact mi kr ⟨rfl, rfl, (sc rfl z8)⟩
      refine wsr (ua (shO_nil ?_))
      obtain ⟨v, h103, r104⟩ := b1_ok r64
      refine jE (((b1, ce #[.int .i64 houses, .int .i64 notices, .slice hears_a hears.length hears_c, .slice readings_a readings.length readings_c, .slice cries_a cries.length cries_c] 43) :: (Lb12 ++ (Lb48 ++ [])))) [(1, .pointer (some ⟨b1, 0, none⟩)), (5, .slice a10 n14 c11), (7, .slice a23 n26 n26), (8, .int .i64 k), (13, .int .i64 v), (27, .int .i64 (l2.length : Int)), (28, .int .i64 k), (32, .int .i64 notices), (33, .int .i64 k2)] ?_ ?_
      ·clear r104
       refine wsr (um (shO_nil ?_))
       refine shW_block ?_
       refine wsr (um ?_)
       refine uv ((v_lenS underlying99 rfl).i (SlR.lenI hz13)) (uv (v_eql rfl rfl) ?_)
       refine ua (shO_nil ?_)
       refine cQ (fun c105 => ?_) fun c105 => ?_
       ·have r106 := ite_t h103 c105
        refine shW_region (ua (shO_nil (inBlock_n (id := 6) ?_)))
        obtain rfl := inj1 r106
        exact mi kr ⟨rfl, rfl, (sc rfl z8)⟩
       have r107 := ite_f h103 c105
       refine wsr (uv (v_eql rfl rfl) ?_)
       refine ua (shO_nil ?_)
       refine cQ (fun c108 => ?_) fun c108 => ?_
       ·have r109 := ite_t r107 c108
        refine shW_region (ua (shO_nil (inBlock_n (id := 6) ?_)))
        obtain rfl := inj1 r109
        exact mi kr ⟨rfl, rfl, (sc rfl z8)⟩
       have r110 := ite_f r107 c108
       refine shW_skip (inBlock_n (id := 6) ?_)
       obtain rfl := inj1 r110
       exact mi kr ⟨rfl, rfl, (sc rfl z8)⟩
      refine shW_region (um (um (um (um ?_))))
      obtain ⟨x3, g112, hx113, r114⟩ := ix_ok r104
      have hn126 := (NlR.caps hz49).1
      refine shO_open (fC (fS fP)) hz49 hx113 ?_; intro hs115 Lo116 Lc117 a118 n119 c120 Lb121 hh122 hO123 hz124 hI125
      refine kO (kf (fS (fS (fS fO))) kr) ?_
      obtain ⟨b128, o129, c130, vs131, ha132, hs133, hle134, rfl, hl135, hc136⟩ := SlR.at hdE_ok hO123 (L := (b1, ce #[.int .i64 houses, .int .i64 notices, .slice hears_a hears.length hears_c, .slice readings_a readings.length readings_c, .slice cries_a cries.length cries_c] 43) :: (Lo116 ++ (Lb121 ++ (Lc117 ++ (Lb12 ++ []))))) (fC fP) g112.1 hh122
      refine uv (v_indexO underlying50 sizeOf53 rfl ha132 rfl (idxN hn126 g112)) (uv (v_load isAgg53 rfl hs133 (hc136 0 (by decide))) (um ?_))
      refine bA (cs := #[.int .i64 v]) slt_53 [.int .i64 v] ?_; intro b137 hb137
      obtain ⟨l3, h138, g139, r140⟩ := ap_ok r114
      refine o_appZ (xs := x3) (ys := [v]) (zs := l3) rfl slt_53 rfl rfl (Nat.le_refl _) (fun _ => .c (.c (.s .h))) hz124 (SrcR.box (vss := [[.int .i64 v]]) (ys := [v]) 0 rfl (iE_ok _) (.cons rfl .nil) rfl rfl) h138 g139 (by decide) ?_; intro a141 n145 c142 Lb143 hz144
      refine kO (kd kr) ?_
      obtain ⟨b147, o148, c149, vs150, ha151, hs152, hle153, rfl, hl154, hc155⟩ := SlR.at hdE_ok hO123 (L := (b1, ce #[.int .i64 houses, .int .i64 notices, .slice hears_a hears.length hears_c, .slice readings_a readings.length readings_c, .slice cries_a cries.length cries_c] 43) :: (Lo116 ++ (Lb143 ++ (Lc117 ++ (Lb12 ++ []))))) (fC fP) g112.1 hh122
      refine uv (v_indexO underlying50 sizeOf53 rfl ha151 rfl (idxN hn126 g112)) ?_
      refine o_storeZ (zs := hs115.set (k : Int).toNat (a141, n145, c142)) (u := (a141, n145, c142)) sizeOf53 hdE_ok rfl ha151 rfl rfl (fun _ => .c .h) hO123 rfl (idxH hn126 hO123 g112) ?_; intro Lo156 hO157
      obtain ⟨out6, h158, r159⟩ := bv_ok r140
      refine shO_fold (p := fun X => NlR K.w0.heap.size 53 54 1 (iE .i64) F4 a23 n26 n26 out6 X) (InH.back hI125 hO157 hz144 h158) (pT ((fC fP).trans (pA ((fC fP).trans (pA ((fC fP).trans (pA pR)))))) (lp (lp (lp (ln rfl))))) ?_; intro Lb160 hz161
      refine kO (kf (fS fO) kr) ?_
      refine shO_nil (inBlock_n (id := 3) ?_)
      obtain rfl := inj1 r159
      exact mi (kc (kg (fS fP) kr)) ⟨Lb160, rfl, rfl, z8, hz161⟩
     rintro e1 _ _ ⟨Lb59, rfl, rfl, he162, hz60⟩
     refine shW_env _ he162 (shW_region (uv (v_add rfl rfl (Ctr.r64 hk52 c57 g50)) ?_))
     refine um (shO_nil ?_)
     exact le kr ⟨_, hk58, out5, Lb59, r62, rfl, rfl, z8, hz60⟩
    obtain rfl := Ctr.zero hk52 c57
    rw [book_Verdicts_l2] at r54
    refine shW_exit (andThen_exit (andThen_exit ?_))
    refine inBlock_exit (inBlock_n (id := 1) ?_)
    obtain rfl := inj1 r54
    exact mi kr ⟨Lb48, rfl, rfl, z5, hz49⟩
   rintro e1 _ _ ⟨Lb44, rfl, rfl, he163, hz45⟩
   refine shW_env _ he163 (shW_region (uv (v_add rfl rfl (Ctr.r64 hk37 c42 g35)) ?_))
   refine um (shO_nil ?_)
   exact le kr ⟨_, hk43, out3, Lb44, r47, rfl, rfl, z5, hz45⟩
  obtain rfl := Ctr.zero hk37 c42
  rw [book_Verdicts_l1] at r39
  refine shW_exit (andThen_exit (andThen_exit ?_))
  refine inBlock_exit ?_
  obtain rfl := inj1 r39
  exact mi (kd (kx kr)) ⟨Lb33, rfl, rfl, z1, hz34⟩
 rintro e1 _ _ ⟨Lb29, rfl, rfl, he164, hz30⟩
 refine shW_env _ he164 ?_
 refine wsr (um (ua (ua (shO_nil ?_))))
 obtain rfl := (NlR.caps hz30).1
 refine shW_freezeN (Nat.le_refl _) (iE_ok _) fP hz30 ?_; intro F165 hF166 h167
 refine shW_ret (q_res2 results12 (res_tmp rfl) (res_tmp rfl) (sr) ?_)
 obtain ⟨rfl, rfl⟩ := inj2 r32
 exact ⟨_, _, rfl, rfl, h167⟩
theorem book_Complaint_error_w (h_hears : RowR 1 (slE 1 (slE 1 (iE .i64))) F hears_a hears_c hears) (h_readings : RowR 1 (iE .i64) F readings_a readings_c readings) (h_cries : RowR 3 (prE (iE .i64) (prE (iE .i64) (iE .i64))) F cries_a cries_c cries) {r : Int} (hr : book_Complaint_error house notice heard houses notices hears readings cries = some r) :
    SpecV Tryz.prog 109 #[.agg #[.int .i64 house, .int .i64 notice, .bool heard], .agg #[.int .i64 houses, .int .i64 notices, .slice hears_a hears.length hears_c, .slice readings_a readings.length readings_c, .slice cries_a cries.length cries_c]] F (.int .i64 r) := by
 refine sp func109 ntmps109 fun K _ _ => ?_
 rw [book_Complaint_error] at hr
 refine wsr ?_
 refine o_box rfl rfl ?_; intro b1 hb1
 refine o_box rfl rfl ?_; intro b2 hb2
 refine ua (shO_nil (shW_seq ?_))
 obtain ⟨k, h3, r4⟩ := b1_ok hr
 refine jE ([]) [(16, .bool k)] ?_ ?_
 ·clear r4
  refine shW_region (uv (v_loadA isAgg43 sizeOf43 rfl (Has.own 0 rfl) (nbL rfl) rfl) (uv (v_fieldAddr fa_58_0 rfl) (uv (v_load isAgg3 rfl (Has.own 1 rfl) rfl) ?_)))
  obtain ⟨ok, h5, r6⟩ := b1_ok h3
  refine cV call94 (book_Book_house_w h_hears h_readings h_cries h5) (uv (v_notB rfl) (um ?_))
  rcases bool_two (!ok) with c7 | c7
  ·have r8 := bt r6 c7
   refine fB c7 (fB c7 (fB c7 (fB c7 (fB c7 ?_))))
   refine uv (v_pick_t (evB rfl c7) rfl) (shO_nil ?_)
   obtain rfl := inj1 r8
   exact mi kn ⟨rfl, rfl, z1⟩
  have r9 := bf r6 c7
  refine nB c7 (uv (v_loadA isAgg43 sizeOf43 rfl (Has.own 0 rfl) (nbL rfl) rfl) (nB c7 (uv (v_fieldAddr fa_58_1 rfl) (nB c7 (uv (v_load isAgg3 rfl (Has.own 1 rfl) rfl) (nB c7 ?_))))))
  obtain ⟨ok2, h10, r11⟩ := b1_ok r9
  refine cV call58 (book_Book_notice_w h_hears h_readings h_cries h10) (nB c7 (uv (v_notB rfl) (uv (v_pick_f (evB rfl c7) rfl) (shO_nil ?_))))
  obtain rfl := inj1 r11
  exact mi kn ⟨rfl, rfl, z1⟩
 refine shW_cond rfl (fun c13 => ?_) (fun c13 => ?_)
 ·have r14 := bt r4 c13
  refine wsr (ua (shO_nil (shW_ret (andThen_ret ?_))))
  refine qR1 results109 ?_
  obtain rfl := inj1 r14
  exact rfl
 have r15 := bf r4 c13
 refine shW_skip (wsr (ua (shO_nil (shW_ret ?_))))
 refine qR1 results109 ?_
 obtain rfl := inj1 r15
 exact rfl
set_option maxHeartbeats 1000000 in
theorem book_complained_w {l : List (Int × Int × Bool)} (h_hears : RowR 1 (slE 1 (slE 1 (iE .i64))) F hears_a hears_c hears) (h_readings : RowR 1 (iE .i64) F readings_a readings_c readings) (h_cries : RowR 3 (prE (iE .i64) (prE (iE .i64) (iE .i64))) F cries_a cries_c cries) (h_l : RowR 3 (prE (iE .i64) (prE (iE .i64) bE)) F l_a l_c l) {r : Int} (hr : book_complained houses notices hears readings cries l = some r) :
    SpecV Tryz.prog 85 #[.agg #[.int .i64 houses, .int .i64 notices, .slice hears_a hears.length hears_c, .slice readings_a readings.length readings_c, .slice cries_a cries.length cries_c], .slice l_a l.length l_c] F (.int .i64 r) := by
 refine sp func85 ntmps85 fun K _ _ => ?_
 rw [book_complained] at hr
 refine wsr ?_
 refine o_box rfl rfl ?_; intro b1 hb1
 refine ua (shO_nil (shW_seq (wsr ?_)))
 refine uv (v_loadA isAgg43 sizeOf43 rfl (Has.own 0 rfl) (nbL rfl) rfl) ?_
 obtain ⟨n, h2, r3⟩ := b1_ok hr
 refine cV call57 (book_Check_w h_hears h_readings h_cries h2) ?_
 refine ua (nsr (um ?_))
 refine uv (v_neq rfl rfl) (shO_nil ?_)
 refine cQ (fun c4 => ?_) fun c4 => ?_
 ·have r5 := ite_t r3 c4
  refine wsr (um (ua (shO_nil ?_)))
  refine kW kn ?_
  refine shW_ret (andThen_ret ?_)
  refine qR1 results85 ?_
  obtain rfl := inj1 r5
  exact rfl
 have r6 := ite_f r3 c4
 refine shW_skip (shW_seq (wsr (um ?_)))
 refine uv (v_lenS underlying87 rfl) (uv (v_gtrK rfl rfl) (shO_nil ?_))
 refine cQ (fun c7 => ?_) fun c7 => ?_
 ·have r8 := ite_t r6 c7
  refine wsr (ua (shO_nil ?_))
  refine kW kn ?_
  refine shW_ret (andThen_ret ?_)
  refine qR1 results85 ?_
  obtain rfl := inj1 r8
  exact rfl
 have r9 := ite_f r6 c7
 refine shW_skip ?_
 refine shW_join (fun e1 F1 L1 => book_complained_j1 = some r ∧ F = F1 ∧ L1 = [] ∧ e1.sub []) ?_ ?_
 ·refine wsr (um ?_)
  refine uv (v_lenS underlying87 rfl) ?_
  refine um (shO_nil ?_)
  refine shW_block ?_
  refine shW_lp (fun fu2 e1 F1 L1 => LA l fu2 fun tl k => book_complained_l2 houses notices hears readings cries tl = some r ∧ F = F1 ∧ L1 = [(b1, ce #[.int .i64 houses, .int .i64 notices, .slice hears_a hears.length hears_c, .slice readings_a readings.length readings_c, .slice cries_a cries.length cries_c] 43)] ∧ e1.sub [(2, .pointer (some ⟨b1, 0, none⟩)), (17, .slice l_a l.length l_c), (18, .int .i64 (l.length : Int)), (19, .int .i64 k)]) _ (m0 kr ⟨_, _, rfl, Lst.start _, r9, rfl, rfl, z4⟩) ?_
  rintro fu2 e1 _ _ ⟨tl, k, hn11, hk10, r12, rfl, rfl, he13⟩
  refine shW_env _ he13 (wsr (uv (v_lssK rfl rfl) ?_))
  refine shO_nil (shW_seq ?_)
  refine cQ (fun c15 => ?_) fun c15 => ?_
  ·obtain ⟨x, tl2, rfl, hx17, g18, hk16⟩ := Lst.succ hk10 c15
   rw [book_complained_l2] at r12
   refine shW_skip (shW_seq ?_)
   refine shW_block (wsr ?_)
   obtain ⟨b19, o20, c21, vs22, ha23, hs24, hle25, ⟨_, _, rfl, rfl, ⟨_, _, rfl, rfl, rfl⟩⟩, hl26, hc27⟩ := RowR.at (prE_ok (iE_ok _) (prE_ok (iE_ok _) bE_ok)) h_l ([(b1, ce #[.int .i64 houses, .int .i64 notices, .slice hears_a hears.length hears_c, .slice readings_a readings.length readings_c, .slice cries_a cries.length cries_c] 43)]) g18.1 hx17
   refine uv (v_indexO underlying87 sizeOf58 rfl ha23 rfl g18) (uv (v_loadA isAgg58 sizeOf58 rfl hs24 hle25 (extract_cells hle25 hl26 hc27)) ?_)
   refine o_alloc rfl zeroValue58 ?_; intro b28 hb28
   refine o_storeA (i := 0) sizeOf58 rfl rfl rfl (by simp [Value.oneCell']) rfl (nbL rfl) (shO_L rfl (nsr (uv (v_loadA isAgg58 sizeOf58 rfl (Has.own 0 rfl) (nbL rfl) rfl) (uv (v_loadA isAgg43 sizeOf43 rfl (Has.own 1 rfl) (nbL rfl) rfl) ?_))))
   obtain ⟨n2, h29, r30⟩ := b1_ok r12
   refine cV call109 (book_Complaint_error_w h_hears h_readings h_cries h29) ?_
   refine ua (nsr (um ?_))
   refine uv (v_neq rfl rfl) (shO_nil ?_)
   refine cQ (fun c31 => ?_) fun c31 => ?_
   ·have r32 := ite_t r30 c31
    refine wsr (um (ua (shO_nil ?_)))
    refine kW kn ?_
    refine shW_ret (inBlock_ret (andThen_ret (andThen_ret (inBlock_ret (andThen_ret ?_)))))
    refine qR1 results85 ?_
    obtain rfl := inj1 r32
    exact rfl
   have r33 := ite_f r30 c31
   refine shW_skip (inBlock_n (id := 1) (shW_region ?_))
   refine uv (v_add rfl rfl (Lst.r64 hk10 c15 (RowR.lt h_l))) ?_
   refine um (shO_nil ?_)
   subst hn11; exact le (kd kr) ⟨_, _, rfl, hk16, r33, rfl, rfl, z4⟩
  obtain rfl := Lst.zero hk10 c15
  rw [book_complained_l2] at r12
  refine shW_exit (andThen_exit (andThen_exit ?_))
  refine inBlock_exit ?_
  exact mi kn ⟨r12, rfl, rfl, (sn _)⟩
 rintro e1 _ _ ⟨r34, rfl, rfl, he35⟩
 refine shW_env _ he35 ?_
 rw [book_complained_j1] at r34
 refine wsr (ua (shO_nil (shW_ret ?_)))
 refine qR1 results85 ?_
 obtain rfl := inj1 r34
 exact rfl
theorem book_heard_w (h_hears : RowR 1 (slE 1 (slE 1 (iE .i64))) F hears_a hears_c hears) (h_readings : RowR 1 (iE .i64) F readings_a readings_c readings) (h_cries : RowR 3 (prE (iE .i64) (prE (iE .i64) (iE .i64))) F cries_a cries_c cries) (h_complaints : RowR 3 (prE (iE .i64) (prE (iE .i64) bE)) F complaints_a complaints_c complaints) {r : List ((List Bool) × (List Int))} {r2 : Int} (hr : book_heard houses notices hears readings cries complaints = some (r, r2)) :
    SH.Spec Tryz.prog 53 #[.agg #[.int .i64 houses, .int .i64 notices, .slice hears_a hears.length hears_c, .slice readings_a readings.length readings_c, .slice cries_a cries.length cries_c], .slice complaints_a complaints.length complaints_c] F [] fun F' L' v => ∃ (ra : Option Addr) (rn : Nat) (rc : Nat) (rL : LH), v = .tuple #[.slice ra rn rc, .int .i64 r2] ∧ L' = rL ++ [] ∧ SlR 0 106 25 (prE (arE 24 cB) (slE 1 (iE .i64))) F' ra rn rc r rL := by
 refine sp func53 ntmps53 fun K _ _ => ?_
 rw [book_heard] at hr
 refine wsr ?_
 refine o_box rfl rfl ?_; intro b1 hb1
 refine ua (ua (shO_nil (shW_seq (wsr ?_))))
 refine uv (v_loadA isAgg43 sizeOf43 rfl (Has.own 0 rfl) (nbL rfl) rfl) (um ?_)
 obtain ⟨n, h2, r3⟩ := b1_ok hr
 refine cV call85 (book_complained_w h_hears h_readings h_cries h_complaints h2) ?_
 refine ua (nsr (um ?_))
 refine uv (v_neq rfl rfl) (shO_nil ?_)
 refine cQ (fun c4 => ?_) fun c4 => ?_
 ·have r5 := ite_t r3 c4
  refine wsr (um (ua (ua (shO_nil ?_))))
  refine kW kn ?_
  refine shW_ret (andThen_ret ?_)
  refine q_res2 results53 (res_tmp rfl) (res_tmp rfl) (sr) ?_
  obtain ⟨rfl, rfl⟩ := inj2 r5
  exact ⟨_, _, _, [], rfl, rfl, SlR.nil _ _ _ _ _⟩
 have r6 := ite_f r3 c4
 refine shW_skip (wsr ?_)
 refine uv (v_loadA isAgg43 sizeOf43 rfl (Has.own 0 rfl) (nbL rfl) rfl) ?_
 obtain ⟨d, l, n2, h7, r8⟩ := b3_ok r6
 refine c0 call36 (book_told_w h_hears h_readings h_cries h7) ?_; rintro _ F9 _ hF10 hn11 ⟨v13, a15, n19, c16, Lb17, rfl, rfl, hp14, hz18⟩
 replace hz18 := hz18.new fun p hp => hn11 p (by simp [hp])
 refine shO_L (lp (ln rfl)) (kO (kf (fS fO) kr) ?_)
 refine um (ox rfl rfl rfl (ox rfl rfl rfl (ox rfl rfl rfl (ua (ua (ua (nsr (um (um ?_)))))))))
 refine ua (ua (shO_nil ?_))
 refine kW (kd kr) (shW_ret (q_res2 results53 (res_tmp rfl) (res_tmp rfl) (sr) ?_))
 obtain ⟨rfl, rfl⟩ := inj2 r8
 exact ⟨_, _, _, _, rfl, rfl, hz18.any⟩
set_option maxHeartbeats 1000000 in
theorem book_goal_find_w {met_f : FuncId} {met_1 met_2 : Array Value} {met : (List Bool) → Option Bool} {l : List ((List Bool) × (List Int))} (h_met : FnR Tryz.prog F met_f met_1 met_2 (agE (arE 24 cB)) Value.bool met) (h_l : RowR 25 (prE (arE 24 cB) (slE 1 (iE .i64))) F l_a l_c l) {r : List Int} (hr : book_goal_find met l = some r) :
    SH.Spec Tryz.prog 66 #[.agg #[.func (.func met_f) met_1 met_2], .slice l_a l.length l_c] F [] fun F' L' v => ∃ (ra : Option Addr) (rc : Nat), v = .slice ra r.length rc ∧ L' = [] ∧ RowR 1 (iE .i64) F' ra rc r ∧ (ra = none ↔ r = []) := by
 refine sp func66 ntmps66 fun K _ _ => ?_
 rw [book_goal_find] at hr
 refine wsr ?_
 refine o_box rfl rfl ?_; intro b1 hb1
 refine ua (shO_nil ?_)
 refine shW_join (fun e1 F1 L1 => book_goal_find_j1 = some r ∧ F = F1 ∧ L1 = [] ∧ e1.sub []) ?_ ?_
 ·refine wsr (um ?_)
  refine uv (v_lenS underlying99 rfl) ?_
  refine um (shO_nil ?_)
  refine shW_block ?_
  refine shW_lp (fun fu2 e1 F1 L1 => LA l fu2 fun tl k => book_goal_find_l2 met tl = some r ∧ F = F1 ∧ L1 = [(b1, ce #[.func (.func met_f) met_1 met_2] 157)] ∧ e1.sub [(2, .pointer (some ⟨b1, 0, none⟩)), (7, .slice l_a l.length l_c), (8, .int .i64 (l.length : Int)), (9, .int .i64 k)]) _ (m0 kr ⟨_, _, rfl, Lst.start _, hr, rfl, rfl, z4⟩) ?_
  rintro fu2 e1 _ _ ⟨tl, k, hn3, hk2, r4, rfl, rfl, he5⟩
  refine shW_env _ he5 (wsr (uv (v_lssK rfl rfl) ?_))
  refine shO_nil (shW_seq ?_)
  refine cQ (fun c7 => ?_) fun c7 => ?_
  ·obtain ⟨x, tl2, rfl, hx9, g10, hk8⟩ := Lst.succ hk2 c7
   rw [book_goal_find_l2] at r4
   refine shW_skip (shW_seq ?_)
   refine shW_block (wsr ?_)
   obtain ⟨b11, o12, c13, vs14, ha15, hs16, hle17, ⟨_, _, rfl, ⟨rfl, h20⟩, ⟨a21, c22, rfl, h23⟩⟩, hl18, hc19⟩ := RowR.at (prE_ok (arE_ok (n := 24) (sz := 1) cB_ok) (slE_ok (iE_ok _))) h_l ([(b1, ce #[.func (.func met_f) met_1 met_2] 157)]) g10.1 hx9
   refine uv (v_indexO underlying99 sizeOf106 rfl ha15 rfl g10) (uv (v_loadA isAgg106 sizeOf106 rfl hs16 hle17 (extract_cells hle17 hl18 hc19)) ?_)
   refine o_alloc rfl zeroValue106 ?_; intro b24 hb24
   refine shO_L (L' := [(b24, ce (((List.replicate 24 false).flatMap cB ++ (([.slice none 0 0] : List Value))).toArray) 106), (b1, ce #[.func (.func met_f) met_1 met_2] 157)]) rfl (o_storeW (i := 0) sizeOf106 rfl rfl rfl (lz (la (lfl cB_ok List.length_replicate) rfl)) (lz (la (lfl cB_ok h20) rfl)) (oc_app (flat_one cB_ok _) (by simp [Value.oneCell'])) (shO_L (L' := [(b24, ce ((x.1.flatMap cB ++ (([.slice a21 x.2.length c22] : List Value))).toArray) 106), (b1, ce #[.func (.func met_f) met_1 met_2] 157)]) rfl (nsr (uv (v_fieldAddr fa_157_0 rfl) (uv (v_load isAgg155 rfl (Has.own 1 rfl) rfl) (uv (v_fieldAddr fa_106_0 rfl) (uv (v_loadA isAgg104 sizeOf104 rfl (Has.own 0 rfl) (li_le (li_here (lfl cB_ok h20))) (li_ext (lfl cB_ok h20) (li_here (lfl cB_ok h20)))) ?_)))))))
   obtain ⟨ok, h25, r26⟩ := b1_ok r4
   refine o_callV rfl h_met.1 rfl rfl rfl (h_met.2 _ (FExt.refl _) _ _ _ ⟨_, rfl, ⟨rfl, h20⟩⟩ h25) (shO_nil ?_)
   refine shW_cond rfl (fun c27 => ?_) (fun c27 => ?_)
   ·have r28 := bt r26 c27
    refine wsr (uv (v_fieldAddr fa_106_1 rfl) (uv (v_load isAgg35 rfl (Has.own 0 rfl) (li_cell (li_skip (k := 24) (o := 0) (lfl cB_ok h20) (li_end rfl)))) ?_))
    refine ua (shO_nil ?_)
    obtain ⟨g29, r30⟩ := gd_ok r28
    refine kW kn ?_
    refine shW_ret (inBlock_ret (andThen_ret (andThen_ret (inBlock_ret (andThen_ret ?_)))))
    refine qR1 results66 ?_
    obtain rfl := inj1 r30
    exact ⟨_, _, rfl, rfl, h23, RowR.nn h23 g29⟩
   have r31 := bf r26 c27
   refine shW_skip (inBlock_n (id := 1) (shW_region ?_))
   refine uv (v_add rfl rfl (Lst.r64 hk2 c7 (RowR.lt h_l))) ?_
   refine um (shO_nil ?_)
   subst hn3; exact le (kd kr) ⟨_, _, rfl, hk8, r31, rfl, rfl, z4⟩
  obtain rfl := Lst.zero hk2 c7
  rw [book_goal_find_l2] at r4
  refine shW_exit (andThen_exit (andThen_exit ?_))
  refine inBlock_exit ?_
  exact mi kn ⟨r4, rfl, rfl, (sn _)⟩
 rintro e1 _ _ ⟨r32, rfl, rfl, he33⟩
 refine shW_env _ he33 ?_
 rw [book_goal_find_j1] at r32
 refine wsr (ua (shO_nil (shW_ret ?_)))
 refine qR1 results66 ?_
 obtain rfl := inj1 r32
 exact ⟨_, _, rfl, rfl, RowR.nil _ _ _, nilq_nil⟩
theorem book_Complaint_is_w (h_g : g.length = 24) {r : Bool} (hr : book_Complaint_is house notice heard g = some r) :
    SpecV Tryz.prog 86 #[.agg #[.int .i64 house, .int .i64 notice, .bool heard], .agg (arr cB g)] F (.bool r) := by
 refine sp func86 ntmps86 fun K _ _ => ?_
 rw [book_Complaint_is] at hr
 refine wsr ?_
 refine o_box rfl rfl ?_; intro b1 hb1
 refine o_box rfl rfl ?_; intro b2 hb2
 refine ua (dN (wv (v_fieldAddr fa_58_0 rfl) (wv (v_load isAgg3 rfl (Has.own 1 rfl) rfl) (wv (v_fieldAddr fa_58_1 rfl) (wv (v_load isAgg3 rfl (Has.own 1 rfl) rfl) ?_)))))
 obtain ⟨g3, r4⟩ := gd_ok hr
 refine wv (v_indexA underlying104 sizeOf102 rfl rfl g3) ?_
 obtain ⟨g5, r6⟩ := gd_ok r4
 obtain ⟨x, g7, hx8, r9⟩ := ix_ok r6
 have hq11 : (house * 4 + notice : Int).toNat = (house : Int).toNat * 4 + (notice : Int).toNat := by have := g3; have := g5; omega
 have hc10 := el_at2 cB_ok h_g hq11 hx8 (li_arr (li_end (lfl cB_ok h_g))) (li_le (li_end (lfl cB_ok h_g)))
 refine wv (v_indexA underlying102 sizeOf4 rfl rfl g5) (wv (v_load isAgg4 rfl (Has.own 0 rfl) ((hc10).2.2 0 (by decide))) (wv (v_fieldAddr fa_58_2 rfl) (wv (v_load isAgg4 rfl (Has.own 1 rfl) rfl) (wv (v_eqlB underlying4 rfl rfl) ?_))))
 refine wa (shQ_nil ?_)
 refine kW kn (shW_ret (qR1 results86 ?_))
 obtain rfl := inj1 r9
 exact rfl
set_option maxHeartbeats 1000000 in
theorem book_wrong_w (h_complaints : RowR 3 (prE (iE .i64) (prE (iE .i64) bE)) F complaints_a complaints_c complaints) (h_g : g.length = 24) {r : List Int} (hr : book_wrong complaints g = some r) :
    SH.Spec Tryz.prog 54 #[.slice complaints_a complaints.length complaints_c, .agg (arr cB g)] F [] fun F' L' v => ∃ (ra : Option Addr) (rn : Nat) (rc : Nat) (rL : LH), v = .slice ra rn rc ∧ L' = rL ++ [] ∧ SlR 0 3 1 (iE .i64) F' ra rn rc r rL := by
 refine sp func54 ntmps54 fun K _ _ => ?_
 rw [book_wrong] at hr
 refine wsr ?_
 refine o_box rfl rfl ?_; intro b1 hb1
 refine ua (nsr (ua (shO_nil ?_)))
 obtain ⟨out, h8, r9⟩ := b1_ok hr
 refine shW_join (fun e1 F1 L1 => ∃ (a2 : Option Addr) (n6 : Nat) (c3 : Nat) (Lb4 : LH), F = F1 ∧ L1 = (Lb4 ++ []) ∧ e1.sub [(5, .slice a2 n6 c3)] ∧ SlR K.w0.heap.size 3 1 (iE .i64) F1 a2 n6 c3 out Lb4) ?_ ?_
 ·clear r9
  refine wsr (um ?_)
  refine uv (v_lenS underlying87 rfl) ?_
  refine um (shO_nil ?_)
  refine shW_block ?_
  refine shW_lp (fun fu1 e1 F1 L1 => LA complaints fu1 fun tl k => ∃ (out2 : List Int) (a10 : Option Addr) (n14 : Nat) (c11 : Nat) (Lb12 : LH), book_wrong_l1 g tl k out2 = some out ∧ F = F1 ∧ L1 = ((b1, ce (arr cB g) 104) :: (Lb12 ++ [])) ∧ e1.sub [(3, .pointer (some ⟨b1, 0, none⟩)), (5, .slice a10 n14 c11), (8, .slice complaints_a complaints.length complaints_c), (9, .int .i64 (complaints.length : Int)), (10, .int .i64 k)] ∧ SlR K.w0.heap.size 3 1 (iE .i64) F1 a10 n14 c11 out2 Lb12) _ (m0 (kc (ke kr)) ⟨_, _, rfl, Lst.start _, [], none, 0, 0, [], h8, rfl, rfl, z5, SlR.nil _ _ _ _ _⟩) ?_
  rintro fu1 e1 _ _ ⟨tl, k, hn17, hk16, out2, a10, n14, c11, Lb12, r18, rfl, rfl, he19, hz13⟩
  refine shW_env _ he19 (wsr (uv (v_lssK rfl rfl) ?_))
  refine shO_nil (shW_seq ?_)
  refine cQ (fun c21 => ?_) fun c21 => ?_
  ·obtain ⟨x, tl2, rfl, hx23, g24, hk22⟩ := Lst.succ hk16 c21
   rw [book_wrong_l1] at r18
   refine shW_skip (shW_seq ?_)
   refine shW_block ?_
   refine wsr (um ?_)
   obtain ⟨b25, o26, c27, vs28, ha29, hs30, hle31, ⟨_, _, rfl, rfl, ⟨_, _, rfl, rfl, rfl⟩⟩, hl32, hc33⟩ := RowR.at (prE_ok (iE_ok _) (prE_ok (iE_ok _) bE_ok)) h_complaints ((b1, ce (arr cB g) 104) :: (Lb12 ++ [])) g24.1 hx23
   refine uv (v_indexO underlying87 sizeOf58 rfl ha29 rfl g24) (uv (v_loadA isAgg58 sizeOf58 rfl hs30 hle31 (extract_cells hle31 hl32 hc33)) ?_)
   refine o_alloc rfl zeroValue58 ?_; intro b34 hb34
   refine ua (o_storeA (i := 0) sizeOf58 rfl rfl rfl (by simp [Value.oneCell']) rfl (nbL rfl) (shO_L rfl (nsr (uv (v_loadA isAgg58 sizeOf58 rfl (Has.own 0 rfl) (nbL rfl) rfl) (uv (v_loadW isAgg104 sizeOf104 rfl (Has.own 1 rfl) (arr_sz cB_ok h_g)) ?_)))))
   obtain ⟨ok, h35, r36⟩ := b1_ok r18
   refine cV call86 (book_Complaint_is_w h_g h35) (uv (v_notB rfl) (shO_nil ?_))
   refine shW_cond rfl (fun c37 => ?_) (fun c37 => ?_)
   ·have r38 := bt r36 c37
    refine shW_region (um (um ?_))
    refine bA (cs := #[.int .i64 k]) slt_35 [.int .i64 k] ?_; intro b39 hb39
    obtain ⟨out3, h40, g41, r42⟩ := ap_ok r38
    refine o_appZ (xs := out2) (ys := [k]) (zs := out3) rfl slt_35 rfl rfl (Nat.le_refl _) (fun _ => .c (.c (.c .h))) hz13 (SrcR.box (vss := [[.int .i64 k]]) (ys := [k]) 0 rfl (iE_ok _) (.cons rfl .nil) rfl rfl) h40 g41 (by decide) ?_; intro a43 n47 c44 Lb45 hz46
    refine kO (kd kr) ?_
    refine ua (shO_nil (inBlock_n (id := 1) (shW_region ?_)))
    refine uv (v_add rfl rfl (Lst.r64 hk16 c21 (RowR.lt h_complaints))) ?_
    refine um (shO_nil ?_)
    subst hn17; exact le (kd kr) ⟨_, _, rfl, hk22, out3, a43, n47, c44, Lb45, r42, rfl, rfl, z5, hz46⟩
   have r49 := bf r36 c37
   refine shW_skip (inBlock_n (id := 1) (shW_region ?_))
   refine uv (v_add rfl rfl (Lst.r64 hk16 c21 (RowR.lt h_complaints))) ?_
   refine um (shO_nil ?_)
   subst hn17; exact le (kd kr) ⟨_, _, rfl, hk22, out2, a10, n14, c11, Lb12, r49, rfl, rfl, z5, hz13⟩
  obtain rfl := Lst.zero hk16 c21
  rw [book_wrong_l1] at r18
  refine shW_exit (andThen_exit (andThen_exit ?_))
  refine inBlock_exit ?_
  obtain rfl := inj1 r18
  exact mi (kd kr) ⟨a10, n14, c11, Lb12, rfl, rfl, z1, hz13⟩
 rintro e1 _ _ ⟨a2, n6, c3, Lb4, rfl, rfl, he50, hz5⟩
 refine shW_env _ he50 ?_
 refine wsr (um (ua (shO_nil (shW_ret ?_))))
 refine qR1 results54 ?_
 obtain rfl := inj1 r9
 exact ⟨_, _, _, _, rfl, rfl, hz5.any⟩
theorem book_Together_1_w {b_complaints : Nat} {mb_complaints : Nat × Nat} (h_g : g.length = 24) (hb_complaints : F b_complaints = some (.cells #[.slice complaints_a complaints.length complaints_c] 87 mb_complaints)) (h_complaints : RowR 3 (prE (iE .i64) (prE (iE .i64) bE)) F complaints_a complaints_c complaints) {r : Bool} (hr : book_Together_1 g complaints = some r) :
    SpecV Tryz.prog 88 #[.agg (arr cB g), .pointer (some ⟨b_complaints, 0, none⟩)] F (.bool r) := by
 refine sp func88 ntmps88 fun K _ _ => ?_
 rw [book_Together_1] at hr
 refine wsr ?_
 refine o_box rfl rfl ?_; intro b1 hb1
 refine ua (nsr ?_)
 refine uv (v_load isAgg87 rfl (Has.frozen hb_complaints) rfl) (uv (v_loadW isAgg104 sizeOf104 rfl (Has.own 0 rfl) (arr_sz cB_ok h_g)) ?_)
 obtain ⟨l, h2, r3⟩ := b1_ok hr
 refine c0 call54 (book_wrong_w h_complaints h_g h2) ?_; rintro _ F4 _ hF5 hn6 ⟨a8, n12, c9, Lb10, rfl, rfl, hz11⟩
 replace hz11 := hz11.new fun p hp => hn6 p (by simp [hp])
 refine shO_L (lp (ln rfl)) (kO (kf (fS fO) kr) (uv ((v_lenS underlying35 rfl).i (SlR.lenI hz11)) (uv (v_eql rfl rfl) ?_)))
 refine ua (shO_nil ?_)
 refine kW kn (shW_ret (qR1 results88 ?_))
 obtain rfl := inj1 r3
 exact rfl
set_option maxHeartbeats 1000000 in
theorem book_Together_w (h_hears : RowR 1 (slE 1 (slE 1 (iE .i64))) F hears_a hears_c hears) (h_readings : RowR 1 (iE .i64) F readings_a readings_c readings) (h_cries : RowR 3 (prE (iE .i64) (prE (iE .i64) (iE .i64))) F cries_a cries_c cries) (h_complaints : RowR 3 (prE (iE .i64) (prE (iE .i64) bE)) F complaints_a complaints_c complaints) {r : List Int} {r2 : Int} (hr : book_Together houses notices hears readings cries complaints = some (r, r2)) :
    SH.Spec Tryz.prog 56 #[.agg #[.int .i64 houses, .int .i64 notices, .slice hears_a hears.length hears_c, .slice readings_a readings.length readings_c, .slice cries_a cries.length cries_c], .slice complaints_a complaints.length complaints_c] F [] fun F' L' v => ∃ (ra : Option Addr) (rc : Nat), v = .tuple #[.slice ra r.length rc, .int .i64 r2] ∧ L' = [] ∧ RowR 1 (iE .i64) F' ra rc r := by
 refine sp func56 ntmps56 fun K _ _ => ?_
 rw [book_Together] at hr
 refine wsr ?_
 refine o_box rfl rfl ?_; intro b1 hb1
 refine o_box rfl rfl ?_; intro b2 hb2
 refine ua (ua (nsr ?_))
 refine uv (v_loadA isAgg43 sizeOf43 rfl (Has.own 1 rfl) (nbL rfl) rfl) (uv (v_load isAgg87 rfl (Has.own 0 rfl) rfl) ?_)
 obtain ⟨l, n, h3, r4⟩ := b2_ok hr
 refine c0 call53 (book_heard_w h_hears h_readings h_cries h_complaints h3) ?_; rintro _ F5 _ hF6 hn7 ⟨a9, n13, c10, Lb11, rfl, rfl, hz12⟩
 replace h_complaints := h_complaints.mono (prE_ok (iE_ok _) (prE_ok (iE_ok _) bE_ok)) hF6
 replace hz12 := hz12.new fun p hp => hn7 p (by simp [hp])
 refine shO_L (lp (ln rfl)) (kO (kf (fS fO) (kf (fS fO) kr)) ?_)
 refine um (ox rfl rfl rfl (ox rfl rfl rfl (ua (ua (shO_nil (shW_seq (wsr (um ?_))))))))
 refine uv (v_neq rfl rfl) (shO_nil ?_)
 refine cQ (fun c15 => ?_) fun c15 => ?_
 ·have r16 := ite_t r4 c15
  refine wsr (um (ua (ua (shO_nil ?_))))
  refine kW kn ?_
  refine shW_ret (andThen_ret ?_)
  refine q_res2 results56 (res_tmp rfl) (res_tmp rfl) (sr) ?_
  obtain ⟨rfl, rfl⟩ := inj2 r16
  exact ⟨_, _, rfl, rfl, RowR.nil _ _ _⟩
 have r17 := ite_f r4 c15
 refine shW_skip (wsr ?_)
 refine uv (v_makeFunc rfl rfl) ?_
 refine uv (v_build (v := .agg (#[.func (.func 88) #[] #[.pointer (some ⟨b2, 0, none⟩)]])) rfl (by intro w; kernel_rfl)) ?_
 refine um ?_
 refine shO_freeze 0 rfl hb2 ?_; intro F18 hF19 hz20
 refine shO_L rfl ?_
 replace h_complaints := h_complaints.mono (prE_ok (iE_ok _) (prE_ok (iE_ok _) bE_ok)) hF19
 replace hz12 := hz12.mono (prE_ok (arE_ok (n := 24) (sz := 1) cB_ok) (slE_ok (iE_ok _))) hF19
 have hn22 : FnR Tryz.prog F18 88 #[] #[.pointer (some ⟨b2, 0, none⟩)] (agE (arE 24 cB)) Value.bool (fun xx_ : (List Bool) => book_Together_1 xx_ complaints) := ⟨call88, fun F2 h2 vs xx_ r ha hr => by obtain ⟨_, rfl, ⟨rfl, h21⟩⟩ := ha; exact book_Together_1_w h21 (h2 _ _ hz20) (h_complaints.mono (prE_ok (iE_ok _) (prE_ok (iE_ok _) bE_ok)) h2) hr⟩
 obtain rfl := (SlR.caps hz12).1
 refine shO_freezeR (Nat.le_refl _) (prE_ok (arE_ok (n := 24) (sz := 1) cB_ok) (slE_ok (iE_ok _))) (fC fP) hz12 ?_; intro F23 hF24 h25
 replace hn22 := hn22.mono hF24
 obtain ⟨l2, h26, r27⟩ := b1_ok r17
 refine c0 call66 (book_goal_find_w hn22 h25 h26) ?_; rintro _ F28 _ hF29 hn30 ⟨a32, c33, rfl, rfl, h34, hq35⟩
 refine shO_L (ln rfl) ?_
 refine ua (shO_nil (shW_seq (wsr (um ?_))))
 refine uv ((v_eqlNil underlying35 rfl).b (nilq_dec hq35)) (shO_nil ?_)
 refine cQ (fun c36 => ?_) fun c36 => ?_
 ·have r37 := ite_t r27 c36
  refine wsr (ua (ua (shO_nil ?_)))
  refine kW kn ?_
  refine shW_ret (andThen_ret ?_)
  refine q_res2 results56 (res_tmp rfl) (res_tmp rfl) (sr) ?_
  obtain ⟨rfl, rfl⟩ := inj2 r37
  exact ⟨_, _, rfl, rfl, RowR.nil _ _ _⟩
 have r38 := ite_f r27 c36
 refine shW_skip (wsr (um (ua (ua (shO_nil ?_)))))
 refine kW kn (shW_ret (q_res2 results56 (res_tmp rfl) (res_tmp rfl) (sr) ?_))
 obtain ⟨rfl, rfl⟩ := inj2 r38
 exact ⟨_, _, rfl, rfl, h34⟩
theorem book_Witness_w (h_hears : RowR 1 (slE 1 (slE 1 (iE .i64))) F hears_a hears_c hears) (h_readings : RowR 1 (iE .i64) F readings_a readings_c readings) (h_cries : RowR 3 (prE (iE .i64) (prE (iE .i64) (iE .i64))) F cries_a cries_c cries) {r : List Int} {r2 : Int} (hr : book_Witness houses notices hears readings cries house notice heard = some (r, r2)) :
    SH.Spec Tryz.prog 30 #[.agg #[.int .i64 houses, .int .i64 notices, .slice hears_a hears.length hears_c, .slice readings_a readings.length readings_c, .slice cries_a cries.length cries_c], .agg #[.int .i64 house, .int .i64 notice, .bool heard]] F [] fun F' L' v => ∃ (ra : Option Addr) (rc : Nat), v = .tuple #[.slice ra r.length rc, .int .i64 r2] ∧ L' = [] ∧ RowR 1 (iE .i64) F' ra rc r := by
 refine sp func30 ntmps30 fun K _ _ => ?_
 rw [book_Witness] at hr
 refine wsr ?_
 refine o_box rfl rfl ?_; intro b1 hb1
 refine o_box rfl rfl ?_; intro b2 hb2
 refine ua (ua (nsr ?_))
 refine uv (v_loadA isAgg43 sizeOf43 rfl (Has.own 1 rfl) (nbL rfl) rfl) (uv (v_loadA isAgg58 sizeOf58 rfl (Has.own 0 rfl) (nbL rfl) rfl) ?_)
 refine bA (cs := #[.int .i64 house, .int .i64 notice, .bool heard]) slt_87 [.agg #[.int .i64 house, .int .i64 notice, .bool heard]] ?_; intro b3 hb3
 refine shO_freeze 0 rfl hb3 ?_; intro F4 hF5 hz6
 refine shO_L rfl ?_
 replace h_hears := h_hears.mono (slE_ok (slE_ok (iE_ok _))) hF5
 replace h_readings := h_readings.mono (iE_ok _) hF5
 replace h_cries := h_cries.mono (prE_ok (iE_ok _) (prE_ok (iE_ok _) (iE_ok _))) hF5
 have h7 : RowR 3 (prE (iE .i64) (prE (iE .i64) bE)) F4 (some ⟨b3, 0, none⟩) 1 [(house, notice, heard)] := RowR.of_block (prE_ok (iE_ok _) (prE_ok (iE_ok _) bE_ok)) (vss := [[.int .i64 house, .int .i64 notice, .bool heard]]) (xs := [(house, notice, heard)]) hz6 (.cons ⟨_, _, rfl, rfl, ⟨_, _, rfl, rfl, rfl⟩⟩ .nil) rfl (by simp [maxLen])
 obtain ⟨l, n, h8, r9⟩ := b2_ok hr
 refine c0 call56 (book_Together_w h_hears h_readings h_cries h7 h8) ?_; rintro _ F10 _ hF11 hn12 ⟨a14, c15, rfl, rfl, h16⟩
 refine shO_L (ln rfl) ?_
 refine ox rfl rfl rfl (ox rfl rfl rfl (ua (ua (shO_nil ?_))))
 refine kW kn (shW_ret (q_res2 results30 (res_tmp rfl) (res_tmp rfl) (sr) ?_))
 obtain ⟨rfl, rfl⟩ := inj2 r9
 exact ⟨_, _, rfl, rfl, h16⟩
theorem book_Refuted_w (h_hears : RowR 1 (slE 1 (slE 1 (iE .i64))) F hears_a hears_c hears) (h_readings : RowR 1 (iE .i64) F readings_a readings_c readings) (h_cries : RowR 3 (prE (iE .i64) (prE (iE .i64) (iE .i64))) F cries_a cries_c cries) {r : Bool} {r2 : Int} (hr : book_Refuted houses notices hears readings cries house notice heard = some (r, r2)) :
    SpecV Tryz.prog 13 #[.agg #[.int .i64 houses, .int .i64 notices, .slice hears_a hears.length hears_c, .slice readings_a readings.length readings_c, .slice cries_a cries.length cries_c], .agg #[.int .i64 house, .int .i64 notice, .bool heard]] F (.tuple #[.bool r, .int .i64 r2]) := by
 refine sp func13 ntmps13 fun K _ _ => ?_
 rw [book_Refuted] at hr
 refine wsr ?_
 refine o_box rfl rfl ?_; intro b1 hb1
 refine o_box rfl rfl ?_; intro b2 hb2
 refine ua (ua (nsr ?_))
 refine uv (v_loadA isAgg43 sizeOf43 rfl (Has.own 1 rfl) (nbL rfl) rfl) (uv (v_loadA isAgg58 sizeOf58 rfl (Has.own 0 rfl) (nbL rfl) rfl) ?_)
 obtain ⟨l, n, h3, r4⟩ := b2_ok hr
 refine c0 call30 (book_Witness_w h_hears h_readings h_cries h3) ?_; rintro _ F5 _ hF6 hn7 ⟨a9, c10, rfl, rfl, h11⟩
 refine shO_L (ln rfl) ?_
 refine um (ox rfl rfl rfl (ox rfl rfl rfl (ua (ua (shO_nil (shW_seq (wsr (um (shO_nil ?_)))))))))
 refine shW_block (wsr (uv (v_eql rfl rfl) ?_))
 refine ua (shO_nil ?_)
 refine cQ (fun c12 => ?_) fun c12 => ?_
 ·have r13 := ite_t r4 c12
  refine wsr (ua (ua (shO_nil ?_)))
  refine kW kn ?_
  refine shW_ret (inBlock_ret (andThen_ret ?_))
  refine q_res2 results13 (res_tmp rfl) (res_tmp rfl) (sr) ?_
  obtain ⟨rfl, rfl⟩ := inj2 r13
  exact rfl
 have r14 := ite_f r4 c12
 refine wsr (uv (v_eql rfl rfl) ?_)
 refine ua (shO_nil ?_)
 refine cQ (fun c15 => ?_) fun c15 => ?_
 ·have r16 := ite_t r14 c15
  refine wsr (ua (ua (shO_nil ?_)))
  refine kW kn ?_
  refine shW_ret (inBlock_ret (andThen_ret ?_))
  refine q_res2 results13 (res_tmp rfl) (res_tmp rfl) (sr) ?_
  obtain ⟨rfl, rfl⟩ := inj2 r16
  exact rfl
 have r17 := ite_f r14 c15
 refine shW_skip (inBlock_n (id := 0) (wsr (um (ua (ua (shO_nil ?_))))))
 refine kW kn (shW_ret (q_res2 results13 (res_tmp rfl) (res_tmp rfl) (sr) ?_))
 obtain ⟨rfl, rfl⟩ := inj2 r17
 exact rfl
set_option maxHeartbeats 1000000 in
theorem book_desk_ways_w (hb_d : F b_d = some (.cells #[.int .i64 houses, .int .i64 notices, .slice hears_a hears.length hears_c, .slice readings_a readings.length readings_c, .slice cries_a cries.length cries_c] 152 mb_d)) (h_hears : RowR 1 (slE 1 (slE 1 (iE .i64))) F hears_a hears_c hears) (h_readings : RowR 1 (iE .i64) F readings_a readings_c readings) (h_cries : RowR 3 (prE (iE .i64) (prE (iE .i64) (iE .i64))) F cries_a cries_c cries) {r : List (List Int)} (hr : book_desk_ways houses notices hears readings cries = some r) :
    SH.Spec Tryz.prog 82 #[.pointer (some ⟨b_d, 0, none⟩)] F [] fun F' L' v => ∃ (ra : Option Addr) (rn : Nat) (rc : Nat) (rL : LH), v = .slice ra rn rc ∧ L' = rL ++ [] ∧ SlR 0 137 8 (arE 8 (cI .i64)) F' ra rn rc r rL := by
 refine sp func82 ntmps82 fun K _ _ => ?_
 rw [book_desk_ways] at hr
 refine wsr (ua (nsr (um ?_)))
 refine uv (v_nilCheck rfl) (uv (v_fieldAddr fa_152_0 rfl) (uv (v_fieldAddr fa_43_3 rfl) (uv (v_load isAgg35 rfl (Has.frozen hb_d) rfl) (uv (v_lenS underlying35 rfl) ?_))))
 obtain ⟨g1, r2⟩ := gd_ok hr
 obtain ⟨l, h3, r4⟩ := bv_ok r2
 refine o_makeZ (R := (arE 8 (cI .i64))) (z0 := List.replicate 8 0) (zs := l) rfl slt_139 (by decide) (arE_ok (n := 8) (sz := 1) (cI_ok .i64)) (fun _ => ⟨rfl, rfl⟩) rfl g1 h3 (fun _ => .n) ?_; intro a5 n8 Lb6 hz7
 refine o_alloc rfl zeroValue139 ?_; intro b10 hb10
 refine o_store (i := 0) sizeOf139 rfl rfl rfl rfl (nbL rfl) (shO_L rfl (shO_nil ?_))
 obtain ⟨out, h13, r14⟩ := b1_ok r4
 refine shW_join (fun e1 F1 L1 => ∃ (Lb11 : LH), FExt F F1 ∧ L1 = ((b10, ce #[.slice a5 n8 n8] 139) :: (Lb11 ++ [])) ∧ e1.sub [(3, .pointer (some ⟨b10, 0, none⟩))] ∧ SlR K.w0.heap.size 137 8 (arE 8 (cI .i64)) F1 a5 n8 n8 out Lb11) ?_ ?_
 ·clear r14
  refine wsr (uv (v_load isAgg139 rfl (Has.own 0 rfl) rfl) (uv ((v_lenS underlying139 rfl).i (SlR.lenI hz7)) ?_))
  refine um (shO_nil ?_)
  refine shW_block ?_
  obtain ⟨g17, r18⟩ := gd_ok h13
  refine shW_lp (fun fu1 e1 F1 L1 => ∃ (k : Int), Ctr 0 (l.length : Int) k fu1 ∧ ∃ (out2 : List (List Int)) (Lb15 : LH), book_desk_ways_l1 houses notices hears readings cries fu1 k out2 = some out ∧ FExt F F1 ∧ L1 = ((b10, ce #[.slice a5 n8 n8] 139) :: (Lb15 ++ [])) ∧ e1.sub [(0, .pointer (some ⟨b_d, 0, none⟩)), (3, .pointer (some ⟨b10, 0, none⟩)), (15, .int .i64 (l.length : Int)), (16, .int .i64 k)] ∧ SlR K.w0.heap.size 137 8 (arE 8 (cI .i64)) F1 a5 n8 n8 out2 Lb15) _ (m0 kr ⟨_, Ctr.start _ _, l, Lb6, r18, FExt.refl _, rfl, z4, hz7⟩) ?_
  rintro fu1 e1 F23 _ ⟨k, hk19, out2, Lb15, r21, hF24, rfl, he22, hz16⟩
  refine shW_env _ he22 ?_
  replace h_hears := h_hears.mono (slE_ok (slE_ok (iE_ok _))) hF24
  replace h_readings := h_readings.mono (iE_ok _) hF24
  replace h_cries := h_cries.mono (prE_ok (iE_ok _) (prE_ok (iE_ok _) (iE_ok _))) hF24
  replace hb_d := hF24 _ _ hb_d
  refine wsr (uv (v_lssK rfl rfl) ?_)
  refine shO_nil (shW_seq ?_)
  refine cQ (fun c26 => ?_) fun c26 => ?_
  ·obtain ⟨fu1, rfl, hk27⟩ := Ctr.succ hk19 c26
   rw [book_desk_ways_l1] at r21
   refine shW_skip ?_
   obtain ⟨out3, h30, r31⟩ := b1_ok r21
   refine shW_join (fun e1 F1 L1 => ∃ (Lb28 : LH), FExt F23 F1 ∧ L1 = ((b10, ce #[.slice a5 n8 n8] 139) :: (Lb28 ++ [])) ∧ e1.sub [(0, .pointer (some ⟨b_d, 0, none⟩)), (3, .pointer (some ⟨b10, 0, none⟩)), (15, .int .i64 (l.length : Int)), (16, .int .i64 k)] ∧ SlR K.w0.heap.size 137 8 (arE 8 (cI .i64)) F1 a5 n8 n8 out3 Lb28) ?_ ?_
   ·clear r31
    refine shW_block ?_
    refine wsr (um ?_)
    refine o_alloc rfl zeroValue3 ?_; intro b32 hb32
    refine o_store (i := 0) sizeOf3 rfl rfl rfl rfl (nbL rfl) (shO_L rfl ?_)
    refine nsr (um (shO_nil ?_))
    refine shW_block ?_
    obtain ⟨g35, r36⟩ := gd_ok h30
    refine shW_lp (fun fu2 e1 F1 L1 => ∃ (k2 : Int), Ctr 0 8 k2 fu2 ∧ ∃ (out4 : List (List Int)) (Lb33 : LH), book_desk_ways_l2 houses notices hears readings cries k fu2 k2 out4 = some out3 ∧ FExt F23 F1 ∧ L1 = ((b32, ce #[.int .i64 k] 3) :: ((b10, ce #[.slice a5 n8 n8] 139) :: (Lb33 ++ []))) ∧ e1.sub [(0, .pointer (some ⟨b_d, 0, none⟩)), (3, .pointer (some ⟨b10, 0, none⟩)), (4, .pointer (some ⟨b32, 0, none⟩)), (15, .int .i64 (l.length : Int)), (16, .int .i64 k), (19, .int .i64 k2)] ∧ SlR K.w0.heap.size 137 8 (arE 8 (cI .i64)) F1 a5 n8 n8 out4 Lb33) _ (m0 kr ⟨_, Ctr.start _ _, out2, Lb15, r36, FExt.refl _, rfl, z6, hz16⟩) ?_
    rintro fu2 e1 F41 _ ⟨k2, hk37, out4, Lb33, r39, hF42, rfl, he40, hz34⟩
    refine shW_env _ he40 ?_
    replace h_hears := h_hears.mono (slE_ok (slE_ok (iE_ok _))) hF42
    replace h_readings := h_readings.mono (iE_ok _) hF42
    replace h_cries := h_cries.mono (prE_ok (iE_ok _) (prE_ok (iE_ok _) (iE_ok _))) hF42
    replace hb_d := hF42 _ _ hb_d
    refine wsr (uv (v_lssK rfl rfl) ?_)
    refine shO_nil (shW_seq ?_)
    refine cQ (fun c44 => ?_) fun c44 => ?_
    ·obtain ⟨fu2, rfl, hk45⟩ := Ctr.succ hk37 c44
     rw [book_desk_ways_l2] at r39
     refine shW_skip ?_
     obtain ⟨out5, h48, r49⟩ := b1_ok r39
     refine shW_join (fun e1 F1 L1 => ∃ (Lb46 : LH), FExt F41 F1 ∧ L1 = ((b32, ce #[.int .i64 k] 3) :: ((b10, ce #[.slice a5 n8 n8] 139) :: (Lb46 ++ []))) ∧ e1.sub [(0, .pointer (some ⟨b_d, 0, none⟩)), (3, .pointer (some ⟨b10, 0, none⟩)), (4, .pointer (some ⟨b32, 0, none⟩)), (15, .int .i64 (l.length : Int)), (16, .int .i64 k), (19, .int .i64 k2)] ∧ SlR K.w0.heap.size 137 8 (arE 8 (cI .i64)) F1 a5 n8 n8 out5 Lb46) ?_ ?_
     ·clear r49
      refine shW_block ?_
      refine wsr (um ?_)
      refine o_alloc rfl zeroValue3 ?_; intro b50 hb50
      refine o_store (i := 0) sizeOf3 rfl rfl rfl rfl (nbL rfl) (shO_L rfl (shO_nil (shW_block (dW (wm (wv (v_nilCheck rfl) (wv (v_fieldAddr fa_152_0 rfl) ?_)))))))
      refine wv (v_loadA isAgg43 sizeOf43 rfl (Has.frozen hb_d) (nbL rfl) rfl) (wv (v_load isAgg3 rfl (Has.own 1 rfl) rfl) (wv (v_load isAgg3 rfl (Has.own 0 rfl) rfl) ?_))
      obtain ⟨ok, h51, r52⟩ := b1_ok h48
      refine shQ_callV rfl call97 rfl rfl rfl (book_Book_can_w h_hears h_readings h_cries h51) (wv (v_notB rfl) ?_)
      refine wa (shQ_nil ?_)
      refine shW_cond rfl (fun c53 => ?_) (fun c53 => ?_)
      ·have r54 := bt r52 c53
       refine shW_skip (inBlock_n (id := 4) (inBlock_n (id := 3) ?_))
       obtain rfl := inj1 r54
       exact mi (kd kr) ⟨Lb33, FExt.refl _, rfl, z6, hz34⟩
      have r55 := bf r52 c53
      refine wsr (uv (v_load isAgg3 rfl (Has.own 1 rfl) rfl) (uv (v_eql rfl rfl) ?_))
      refine ua (shO_nil ?_)
      refine cQ (fun c56 => ?_) fun c56 => ?_
      ·have r57 := ite_t r55 c56
       refine shW_drawM [(.still, 0), (.still, 1), (.still, 2), (.still, 3), (.still, 4), (.seq, 5)] (by kernel_rfl) (by kernel_rfl) (trivial) (by rfl) (by kernel_rfl) (mL [3] ([(b10, ce #[.slice a5 n8 n8] 139)]) rfl (s0 (s1 (s1 (s2 (s3 sr))))) (fun H F' L' hF' hL' => v_load isAgg139 rfl ((Has.own 0 rfl).ext hF' hL') rfl) (mL [4] ([(b32, ce #[.int .i64 k] 3)]) rfl (s0 (s1 (s2 (s1 (s3 sr))))) (fun H F' L' hF' hL' => v_load isAgg3 rfl ((Has.own 0 rfl).ext hF' hL') rfl) (mL [5] ([(b50, ce #[.int .i64 k2] 3)]) rfl (s0 (s2 (s1 (s1 (s3 sr))))) (fun H F' L' hF' hL' => v_load isAgg3 rfl ((Has.own 0 rfl).ext hF' hL') rfl) ?_)))
       obtain ⟨x, g58, hx59, r60⟩ := ix_ok r57
       obtain ⟨b61, o62, c63, vs64, ha65, hs66, hle67, ⟨rfl, h70⟩, hl68, hc69⟩ := SlR.at (arE_ok (n := 8) (sz := 1) (cI_ok .i64)) hz34 (L := Lb33 ++ []) fP g58.1 hx59
       refine mS [53, 54] rfl (v_indexO underlying139 sizeOf137 rfl ha65 rfl (SlR.idx hz34 g58)) ?_
       obtain ⟨x2, g71, hx72, r73⟩ := ix_ok r60
       refine mS [55, 56] rfl (v_indexA underlying137 sizeOf3 rfl rfl (arr_lt h70 g71)) ?_
       refine ⟨_, [(57, .pointer (some ⟨b61, o62 + (k : Int).toNat * 8 + (k2 : Int).toNat * 1, none⟩))], rfl, rfl, z1, by kernel_rfl, ?_⟩; intro H
       obtain ⟨l2, h75, r76⟩ := bv_ok r73
       refine o_storeZP (zs := l2) (off := (k2 : Int).toNat * 1) (x0 := x) (u := x.set (k2 : Int).toNat 1) sizeOf3 (arE_ok (n := 8) (sz := 1) (cI_ok .i64)) rfl ha65 rfl rfl (arr_off (arr_lt h70 g71)) hx59 (fun vs h => arE_set (cI_ok .i64) h (arr_ltN (arr_lt h70 g71)) rfl) (fun _ => .c (.c (.c .h))) hz34 h75 g58 ?_; intro Lb77 hz78
       refine shO_nil ⟨undef, rfl, FExt.refl _, [], by kernel_rfl, .inl (.inl rfl), nm, ?_⟩
       refine shM_nil ?_
       refine inBlock_n (id := 4) (inBlock_n (id := 3) ?_)
       obtain rfl := inj1 r76
       exact mi (kd kr) ⟨Lb77, FExt.refl _, rfl, z6, hz78⟩
      have r79 := ite_f r55 c56
      refine wsr (uv (v_load isAgg3 rfl (Has.own 0 rfl) rfl) ?_)
      obtain ⟨y, h80, r81⟩ := b1_ok r79
      refine c0 call100 (book_turned_w h80) ?_; rintro _ F82 _ hF83 hn84 ⟨cp86, rfl, rfl, hit87⟩
      replace hz34 := hz34.mono (arE_ok (n := 8) (sz := 1) (cI_ok .i64)) hF83
      refine shO_L (ln rfl) (shO_nil (shW_block ?_))
      refine shW_rangeFunc (encs := (fun x : Int => #[.int .i64 x])) (xs := y) rfl call116 rfl (fun _ => rfl) hit87 (fun pre F1 L1 => ∃ (tl : List Int) (out6 : List (List Int)) (Lb88 : LH), y = pre ++ tl ∧ book_desk_ways_l3 k k2 tl out6 = some out5 ∧ L1 = ((b50, ce #[.int .i64 k2] 3) :: ((b32, ce #[.int .i64 k] 3) :: ((b10, ce #[.slice a5 n8 n8] 139) :: (Lb88 ++ [])))) ∧ SlR K.w0.heap.size 137 8 (arE 8 (cI .i64)) F1 a5 n8 n8 out6 Lb88) (fun _ _ _ => False) ?_ ?_ ?_ ?_ ?_ ?_
      ·rintro pre F1 F2 L1 ⟨tl, out6, Lb88, hs90, r91, rfl, hz89⟩ hx; exact ⟨tl, out6, Lb88, hs90, r91, rfl, hz89.mono (arE_ok (n := 8) (sz := 1) (cI_ok .i64)) hx⟩
      ·intro c F1 F2 L1 h hx; exact h
      ·exact ⟨_, out4, Lb33, rfl, r81, rfl, hz34⟩
      ·rintro l92 wr93 Fr94 Xr95 Ha96 Hb97 hnb98 hH102 pre x3 tl2 hxs101 F99 _ hF100 ⟨tl, out6, Lb88, hs90, r103, rfl, hz89⟩
       obtain rfl := rest_head hs90 hxs101
       rw [book_desk_ways_l3] at r103
       refine shW_env [(0, .pointer (some ⟨b_d, 0, none⟩)), (3, .pointer (some ⟨b10, 0, none⟩)), (4, .pointer (some ⟨b32, 0, none⟩)), (5, .pointer (some ⟨b50, 0, none⟩)), (15, .int .i64 (l.length : Int)), (16, .int .i64 k), (19, .int .i64 k2), (23, .func (.func 116) #[] cp86), (24, .int .i64 x3)] (by exact (sc rfl z8)) ?_
       refine shW_region (ua (shO_nil ?_))
       refine ⟨rfl, ?_⟩
       refine shW_block (shW_drawM [(.still, 0), (.still, 1), (.still, 2), (.still, 3), (.still, 4), (.still, 5), (.still, 6), (.still, 7), (.still, 8), (.still, 9), (.still, 10), (.still, 11), (.still, 12), (.still, 13), (.still, 14), (.still, 15), (.seq, 16)] (by kernel_rfl) (by kernel_rfl) (trivial) (by rfl) (by kernel_rfl) (mL [3] ([(b10, ce #[.slice a5 n8 n8] 139)]) rfl (s0 (s1 (s1 (s2 (s3 sr))))) (fun H F' L' hF' hL' => v_load isAgg139 rfl ((Has.own 0 rfl).ext hF' hL') rfl) (mL [4] ([(b32, ce #[.int .i64 k] 3)]) rfl (s0 (s1 (s2 (s1 (s3 sr))))) (fun H F' L' hF' hL' => v_load isAgg3 rfl ((Has.own 0 rfl).ext hF' hL') rfl) (mL [5] ([(b50, ce #[.int .i64 k2] 3)]) rfl (s0 (s2 (s1 (s1 (s3 sr))))) (fun H F' L' hF' hL' => v_load isAgg3 rfl ((Has.own 0 rfl).ext hF' hL') rfl) ?_))))
       obtain ⟨x4, g104, hx105, r106⟩ := ix_ok r103
       obtain ⟨b107, o108, c109, vs110, ha111, hs112, hle113, ⟨rfl, h116⟩, hl114, hc115⟩ := SlR.at (arE_ok (n := 8) (sz := 1) (cI_ok .i64)) hz89 (L := Lb88 ++ []) fP g104.1 hx105
       refine mS [25, 26] rfl (v_indexO underlying139 sizeOf137 rfl ha111 rfl (SlR.idx hz89 g104)) ?_
       obtain ⟨x5, g117, hx118, r119⟩ := ix_ok r106
       have hc120 := el_at (cI_ok .i64) h116 hx118 hc115 hle113 hl114
       refine mS [27, 28] rfl (v_indexA underlying137 sizeOf3 rfl rfl (arr_lt h116 g117)) (mL [29] (Lb88 ++ []) rfl (s0 (s1 (s1 (s1 (s4 sr))))) (fun H F' L' hF' hL' => v_load isAgg3 rfl (hs112.ext hF' hL') ((hc120).2.2 0 (by decide))) (mL [3] ([(b10, ce #[.slice a5 n8 n8] 139)]) rfl (s0 (s1 (s1 (s2 (s3 sr))))) (fun H F' L' hF' hL' => v_load isAgg139 rfl ((Has.own 0 rfl).ext hF' hL') rfl) (mL [4] ([(b32, ce #[.int .i64 k] 3)]) rfl (s0 (s1 (s2 (s1 (s3 sr))))) (fun H F' L' hF' hL' => v_load isAgg3 rfl ((Has.own 0 rfl).ext hF' hL') rfl) ?_)))
       obtain ⟨g121, r122⟩ := gd_ok r119
       refine mS (v := .int .i64 (k - 1)) [32] rfl (v_sub rfl rfl g121) (mS [6] rfl (v_move rfl) ?_)
       obtain ⟨x6, g123, hx124, r125⟩ := ix_ok r122
       obtain ⟨b126, o127, c128, vs129, ha130, hs131, hle132, ⟨rfl, h135⟩, hl133, hc134⟩ := SlR.at (arE_ok (n := 8) (sz := 1) (cI_ok .i64)) hz89 (L := Lb88 ++ []) fP g123.1 hx124
       refine mS [31, 33] rfl (v_indexO underlying139 sizeOf137 rfl ha130 rfl (SlR.idx hz89 g123)) ?_
       obtain ⟨x7, g136, hx137, r138⟩ := ix_ok r125
       have hc139 := el_at (cI_ok .i64) h135 hx137 hc134 hle132 hl133
       refine mS [34, 35] rfl (v_indexA underlying137 sizeOf3 rfl rfl (arr_lt h135 g136)) (mL [36] (Lb88 ++ []) rfl (s0 (s1 (s1 (s1 (s4 sr))))) (fun H F' L' hF' hL' => v_load isAgg3 rfl (hs131.ext hF' hL') ((hc139).2.2 0 (by decide))) ?_)
       obtain ⟨g140, r141⟩ := gd_ok r138
       refine mS (v := .int .i64 (x5 + x7)) [30, 37] rfl (v_add rfl rfl g140) ?_
       obtain ⟨b142, o143, c144, vs145, ha146, hs147, hle148, ⟨rfl, h151⟩, hl149, hc150⟩ := SlR.at (arE_ok (n := 8) (sz := 1) (cI_ok .i64)) hz89 (L := Lb88 ++ []) fP g104.1 hx105
       refine mS [25, 26] rfl (v_indexO underlying139 sizeOf137 rfl ha146 rfl (SlR.idx hz89 g104)) (mS [27, 39] rfl (v_indexA underlying137 sizeOf3 rfl rfl (arr_lt h151 g117)) ?_)
       refine ⟨_, [(38, .int .i64 (x5 + x7)), (40, .pointer (some ⟨b142, o143 + (k : Int).toNat * 8 + (k2 : Int).toNat * 1, none⟩))], rfl, rfl, z2, by kernel_rfl, ?_⟩; intro H
       obtain ⟨l3, h153, r154⟩ := bv_ok r141
       refine o_storeZP (zs := l3) (off := (k2 : Int).toNat * 1) (x0 := x4) (u := x4.set (k2 : Int).toNat (x5 + x7)) sizeOf3 (arE_ok (n := 8) (sz := 1) (cI_ok .i64)) rfl ha146 rfl rfl (arr_off (arr_lt h151 g117)) hx105 (fun vs h => arE_set (cI_ok .i64) h (arr_ltN (arr_lt h151 g117)) rfl) (fun _ => .c (.c (.c .h))) hz89 h153 g104 ?_; intro Lb155 hz156
       refine shO_nil ⟨undef, rfl, FExt.refl _, [], by kernel_rfl, .inl (.inl rfl), nm, ?_⟩
       refine shM_nil (inBlock_n (id := 6) ?_)
       refine ⟨(b50, ce #[.int .i64 k2] 3) :: ((b32, ce #[.int .i64 k] 3) :: ((b10, ce #[.slice a5 n8 n8] 139) :: (Lb155 ++ []))), ⟨_, .refl _, sr⟩, ?_⟩; exact ⟨_, l3, Lb155, (by rw [hxs101]; simp), r154, rfl, hz156⟩
      ·rintro F157 _ hF158 ⟨tl, out6, Lb88, hs90, r159, rfl, hz89⟩
       obtain rfl := rest_nil hs90; rw [book_desk_ways_l3] at r159
       refine inBlock_n (id := 5) (inBlock_n (id := 4) (inBlock_n (id := 3) ?_))
       obtain rfl := inj1 r159
       exact mi (kd kr) ⟨Lb88, (hF83.trans hF158), rfl, z6, hz89⟩
      intro c F1 L1 hx h; exact h.elim
     rintro e1 F161 _ ⟨Lb46, hF162, rfl, he160, hz47⟩
     refine shW_env _ he160 (shW_region (uv (v_add rfl rfl (Ctr.r64 hk37 c44 g35)) ?_))
     refine um (shO_nil ?_)
     exact le kr ⟨_, hk45, out5, Lb46, r49, (hF42.trans hF162), rfl, z6, hz47⟩
    obtain rfl := Ctr.zero hk37 c44
    rw [book_desk_ways_l2] at r39
    refine shW_exit (andThen_exit (andThen_exit ?_))
    refine inBlock_exit (inBlock_n (id := 1) ?_)
    obtain rfl := inj1 r39
    exact mi (kd kr) ⟨Lb33, hF42, rfl, z4, hz34⟩
   rintro e1 F164 _ ⟨Lb28, hF165, rfl, he163, hz29⟩
   refine shW_env _ he163 (shW_region (uv (v_add rfl rfl (Ctr.r64 hk19 c26 g17)) ?_))
   refine um (shO_nil ?_)
   exact le kr ⟨_, hk27, out3, Lb28, r31, (hF24.trans hF165), rfl, z4, hz29⟩
  obtain rfl := Ctr.zero hk19 c26
  rw [book_desk_ways_l1] at r21
  refine shW_exit (andThen_exit (andThen_exit ?_))
  refine inBlock_exit ?_
  obtain rfl := inj1 r21
  exact mi kr ⟨Lb15, hF24, rfl, z1, hz16⟩
 rintro e1 F167 _ ⟨Lb11, hF168, rfl, he166, hz12⟩
 refine shW_env _ he166 (wsr (uv (v_load isAgg139 rfl (Has.own 0 rfl) rfl) ?_))
 refine ua (shO_nil ?_)
 refine kW (kd kr) (shW_ret (qR1 results82 ?_))
 obtain rfl := inj1 r14
 exact ⟨_, _, _, _, rfl, rfl, hz12.any⟩
set_option maxHeartbeats 1000000 in
theorem slices_Reverse_int_int_w {s__n : Nat} {s__L : LH} {s_ : List Int} {s__nb : Nat} (h_s_ : SlR s__nb 3 1 (iE .i64) F s__a s__n s__c s_ s__L) {r : List Int} (hr : slices_Reverse_int_int s_ = some r) :
    SH.Spec Tryz.prog 83 #[.slice s__a s__n s__c] F (s__L ++ []) fun F' L' v => ∃ (rL : LH), v = .tuple #[] ∧ L' = rL ++ [] ∧ SlR s__nb 3 1 (iE .i64) F' s__a s__n s__c r rL := by
 refine sp func83 ntmps83 fun K _ _ => ?_
 rw [slices_Reverse_int_int] at hr
 refine shW_L (L' := s__L ++ []) (by simp) ?_
 refine wsr (um ?_)
 refine uv ((v_lenS underlying35 rfl).i (SlR.lenI h_s_)) ?_
 obtain ⟨g1, r2⟩ := gd_ok hr
 refine uv (v_sub rfl rfl g1) ?_
 refine ua (ua (shO_nil ?_))
 refine shW_block ?_
 refine shW_lp (fun fu1 e1 F1 L1 => ∃ (s_2 : List Int) (i : Int) (j : Int) (Lb3 : LH), slices_Reverse_int_int_l1 fu1 s_2 i j = some r ∧ F = F1 ∧ L1 = (Lb3 ++ []) ∧ e1.sub [(0, .slice s__a s__n s__c), (2, .int .i64 i), (3, .int .i64 j)] ∧ SlR s__nb 3 1 (iE .i64) F1 s__a s__n s__c s_2 Lb3) FU (m0 kr ⟨s_, 0, (s_.length : Int) - 1, s__L, r2, rfl, rfl, z3, h_s_⟩) ?_
 rintro fu1 e1 _ _ ⟨s_2, i, j, Lb3, r7, rfl, rfl, he8, hz4⟩
 refine shW_env _ he8 ?_
 rcases fu1 with _ | fu1
 ·rw [slices_Reverse_int_int_l1] at r7; cases r7
 rw [slices_Reverse_int_int_l1] at r7
 refine shW_seq (wsr (um (um ?_)))
 refine uv (v_lssK rfl rfl) (shO_nil ?_)
 refine cQ (fun c9 => ?_) fun c9 => ?_
 ·have r10 := ite_t r7 c9
  refine shW_skip (shW_seq ?_)
  refine shW_block (shW_drawM [(.still, 0), (.still, 1), (.still, 2), (.still, 3), (.still, 4), (.still, 5), (.still, 6), (.still, 7), (.still, 8), (.still, 9), (.still, 10), (.still, 11), (.still, 12), (.seq, 13), (.still, 14), (.seq, 15)] (by kernel_rfl) (by kernel_rfl) (trivial) (by rfl) (by kernel_rfl) (mS [0] rfl (v_move rfl) (mS [2] rfl (v_move rfl) (mS [0] rfl (v_move rfl) (mS [3] rfl (v_move rfl) (mS [0] rfl (v_move rfl) (mS [3] rfl (v_move rfl) ?_)))))))
  obtain ⟨x, g11, hx12, r13⟩ := ix_ok r10
  obtain ⟨b14, o15, c16, vs17, ha18, hs19, hle20, rfl, hl21, hc22⟩ := SlR.at (iE_ok _) hz4 (L := Lb3 ++ []) fP g11.1 hx12
  refine mS [18, 19] rfl (v_indexO underlying35 sizeOf3 rfl ha18 rfl (SlR.idx hz4 g11)) (mL [20] (Lb3 ++ []) rfl (s0 sr) (fun H F' L' hF' hL' => v_load isAgg3 rfl (hs19.ext hF' hL') (hc22 0 (by decide))) (mS [0] rfl (v_move rfl) (mS [2] rfl (v_move rfl) ?_)))
  obtain ⟨x2, g23, hx24, r25⟩ := ix_ok r13
  obtain ⟨b26, o27, c28, vs29, ha30, hs31, hle32, rfl, hl33, hc34⟩ := SlR.at (iE_ok _) hz4 (L := Lb3 ++ []) fP g23.1 hx24
  refine mS [22, 23] rfl (v_indexO underlying35 sizeOf3 rfl ha30 rfl (SlR.idx hz4 g23)) (mL [24] (Lb3 ++ []) rfl (s0 sr) (fun H F' L' hF' hL' => v_load isAgg3 rfl (hs31.ext hF' hL') (hc34 0 (by decide))) ?_)
  obtain ⟨b35, o36, c37, vs38, ha39, hs40, hle41, rfl, hl42, hc43⟩ := SlR.at (iE_ok _) hz4 (L := Lb3 ++ []) fP g23.1 hx24
  refine mS [14, 15] rfl (v_indexO underlying35 sizeOf3 rfl ha39 rfl (SlR.idx hz4 g23)) ?_
  refine ⟨_, [(21, .int .i64 x), (26, .pointer (some ⟨b35, o36 + (i : Int).toNat * 1, none⟩))], rfl, rfl, z2, by kernel_rfl, ?_⟩; intro H
  obtain ⟨l, h44, r45⟩ := bv_ok r25
  refine o_storeZ (u := x) sizeOf3 (iE_ok _) rfl ha39 rfl rfl (fun _ => .h) hz4 h44 g23 ?_; intro Lb46 hz47
  refine shO_nil ⟨undef, rfl, FExt.refl _, [3, 2], by kernel_rfl, .inl (.inr (fun d h => by cases h)), (fc sm (fc sm nm)), ?_⟩
  obtain ⟨x3, g48, hx49, r50⟩ := ix_ok r45
  obtain ⟨b51, o52, c53, vs54, ha55, hs56, hle57, rfl, hl58, hc59⟩ := SlR.at (iE_ok _) hz47 (L := Lb46 ++ []) fP g48.1 hx49
  refine mS [16, 17] rfl (v_indexO underlying35 sizeOf3 rfl ha55 rfl (SlR.idx hz47 g48)) ?_
  refine ⟨_, [(25, .int .i64 x2), (27, .pointer (some ⟨b51, o52 + (j : Int).toNat * 1, none⟩))], rfl, rfl, z2, by kernel_rfl, ?_⟩; intro H
  obtain ⟨l2, h60, r61⟩ := bv_ok r50
  refine o_storeZ (u := x2) sizeOf3 (iE_ok _) rfl ha55 rfl rfl (fun _ => .h) hz47 h60 g48 ?_; intro Lb62 hz63
  refine shO_nil ⟨undef, rfl, FExt.refl _, [], by kernel_rfl, .inl (.inl rfl), nm, ?_⟩
  refine shM_nil ?_
  refine inBlock_n (id := 1) (shW_region (um ?_))
  obtain ⟨g64, r65⟩ := gd_ok r61
  refine uv (v_add rfl rfl g64) (um ?_)
  obtain ⟨g66, r67⟩ := gd_ok r65
  refine uv (v_sub rfl rfl g66) ?_
  refine ua (ua (shO_nil ?_))
  exact le kr ⟨l2, i + 1, j - 1, Lb62, r67, rfl, rfl, z3, hz63⟩
 have r68 := ite_f r7 c9
 refine shW_exit (andThen_exit (andThen_exit ?_))
 refine inBlock_exit (q_end0 (.inr rfl) results83 ?_)
 obtain rfl := inj1 r68
 exact ⟨_, rfl, rfl, hz4⟩
set_option maxHeartbeats 1000000 in
theorem book_desk_through_w (hb_d : F b_d = some (.cells #[.int .i64 houses, .int .i64 notices, .slice hears_a hears.length hears_c, .slice readings_a readings.length readings_c, .slice cries_a cries.length cries_c] 152 mb_d)) (h_hears : RowR 1 (slE 1 (slE 1 (iE .i64))) F hears_a hears_c hears) (h_readings : RowR 1 (iE .i64) F readings_a readings_c readings) (h_cries : RowR 3 (prE (iE .i64) (prE (iE .i64) (iE .i64))) F cries_a cries_c cries) {r : List (List Int)} (hr : book_desk_through houses notices hears readings cries = some r) :
    SH.Spec Tryz.prog 47 #[.pointer (some ⟨b_d, 0, none⟩)] F [] fun F' L' v => ∃ (ra : Option Addr) (rn : Nat) (rc : Nat) (rL : LH), v = .slice ra rn rc ∧ L' = rL ++ [] ∧ SlR 0 137 8 (arE 8 (cI .i64)) F' ra rn rc r rL := by
 refine sp func47 ntmps47 fun K _ _ => ?_
 rw [book_desk_through] at hr
 refine wsr (ua (nsr (um ?_)))
 obtain ⟨l, h1, r2⟩ := b1_ok hr
 refine c0 call82 (book_desk_ways_w hb_d h_hears h_readings h_cries h1) ?_; rintro _ F3 _ hF4 hn5 ⟨a7, n11, c8, Lb9, rfl, rfl, hz10⟩
 replace h_readings := h_readings.mono (iE_ok _) hF4
 replace hb_d := hF4 _ _ hb_d
 replace hz10 := hz10.new fun p hp => hn5 p (by simp [hp])
 refine shO_L (lp (ln rfl)) ?_
 refine ua (nsr (um ?_))
 refine uv (v_nilCheck rfl) (uv (v_fieldAddr fa_152_0 rfl) (uv (v_fieldAddr fa_43_3 rfl) (uv (v_load isAgg35 rfl (Has.frozen hb_d) rfl) ?_)))
 obtain ⟨l2, h13, r14⟩ := b1_ok r2
 refine c0 call68 (slices_Clone_int_int_w h_readings h13) ?_; rintro _ F15 _ hF16 hn17 ⟨a19, n23, c20, Lb21, rfl, rfl, hz22⟩
 replace hz10 := hz10.mono (arE_ok (n := 8) (sz := 1) (cI_ok .i64)) hF16
 replace hz22 := hz22.new fun p hp => hn17 p (by simp [hp])
 refine shO_L (lp (ln rfl)) ?_
 refine uv (v_build (v := .agg #[.int .i64 0, .int .i64 0, .slice none 0 0, .slice a19 n23 c20, .slice none 0 0]) rfl (by intro w; kernel_rfl)) ?_
 refine uv (v_build (v := .agg #[.int .i64 0, .int .i64 0, .slice none 0 0, .slice a19 n23 c20, .slice none 0 0]) rfl (by intro w; kernel_rfl)) ?_
 refine o_box rfl rfl ?_; intro b25 hb25
 refine ua (nsr (um ?_))
 refine uv (v_nilCheck rfl) (uv (v_fieldAddr fa_152_0 rfl) (uv (v_fieldAddr fa_43_3 rfl) (uv (v_load isAgg35 rfl (Has.own 0 rfl) rfl) ?_)))
 obtain ⟨s_, h26, r27⟩ := b1_ok r14
 refine o_callG (Lb := Lb21 ++ []) (Lr := (b25, ce #[.int .i64 0, .int .i64 0, .slice none 0 0, .slice a19 n23 c20, .slice none 0 0] 152) :: (Lb9 ++ [])) rfl call83 rfl rfl rfl (pT ((fC fP).trans (pA pR)) (lp (ln rfl))) (slices_Reverse_int_int_w hz22 h26) ?_; rintro _ F28 _ hF29 hd31 hn30 ⟨Lb32, rfl, rfl, hz33⟩
 replace hz10 := hz10.mono (arE_ok (n := 8) (sz := 1) (cI_ok .i64)) hF29
 refine shO_L (lp (ln rfl)) (kO (kf (fS fO) kr) ?_)
 refine nsr (um ?_)
 obtain rfl := (SlR.caps hz33).1
 refine shO_freezeR (Nat.le_refl _) (iE_ok _) (fC fP) hz33 ?_; intro F34 hF35 h36
 replace hz10 := hz10.mono (arE_ok (n := 8) (sz := 1) (cI_ok .i64)) hF35
 refine shO_freeze 0 rfl hb25 ?_; intro F37 hF38 hz39
 refine shO_L rfl ?_
 replace h36 := h36.mono (iE_ok _) hF38
 replace hz10 := hz10.mono (arE_ok (n := 8) (sz := 1) (cI_ok .i64)) hF38
 obtain ⟨l3, h40, r41⟩ := b1_ok r27
 refine c0 call82 (book_desk_ways_w hz39 (RowR.nil _ _ _) h36 (RowR.nil _ _ _) h40) ?_; rintro _ F42 _ hF43 hn44 ⟨a46, n50, c47, Lb48, rfl, rfl, hz49⟩
 replace hz10 := hz10.mono (arE_ok (n := 8) (sz := 1) (cI_ok .i64)) hF43
 replace hz49 := hz49.new fun p hp => hn44 p (by simp [hp])
 refine shO_L (lp (ln rfl)) ?_
 refine ua (shO_nil ?_)
 obtain ⟨there, h54, r55⟩ := b1_ok r41
 refine shW_join (fun e1 F1 L1 => ∃ (Lb52 : LH), F42 = F1 ∧ L1 = (Lb52 ++ []) ∧ e1.sub [(3, .slice a7 n11 c8)] ∧ SlR K.w0.heap.size 137 8 (arE 8 (cI .i64)) F1 a7 n11 c8 there Lb52) ?_ ?_
 ·clear r55
  refine wsr (um ?_)
  refine uv ((v_lenS underlying139 rfl).i (SlR.lenI hz10)) ?_
  refine um (shO_nil ?_)
  refine shW_block ?_
  obtain ⟨g58, r59⟩ := gd_ok h54
  refine shW_lp (fun fu1 e1 F1 L1 => ∃ (k : Int), Ctr 0 (l.length : Int) k fu1 ∧ ∃ (there2 : List (List Int)) (Lb56 : LH), book_desk_through_l1 l3 fu1 k there2 = some there ∧ F42 = F1 ∧ L1 = (Lb56 ++ (Lb48 ++ [])) ∧ e1.sub [(3, .slice a7 n11 c8), (5, .slice a46 n50 c47), (28, .int .i64 (l.length : Int)), (29, .int .i64 k)] ∧ SlR K.w0.heap.size 137 8 (arE 8 (cI .i64)) F1 a7 n11 c8 there2 Lb56) _ (m0 (kg (fS fP) kr) ⟨_, Ctr.start _ _, l, Lb9, r59, rfl, rfl, z4, hz10⟩) ?_
  rintro fu1 e1 _ _ ⟨k, hk60, there2, Lb56, r62, rfl, rfl, he63, hz57⟩
  refine shW_env _ he63 (wsr (uv (v_lssK rfl rfl) ?_))
  refine shO_nil (shW_seq ?_)
  refine cQ (fun c65 => ?_) fun c65 => ?_
  ·obtain ⟨fu1, rfl, hk66⟩ := Ctr.succ hk60 c65
   rw [book_desk_through_l1] at r62
   refine shW_skip ?_
   obtain ⟨there3, h69, r70⟩ := b1_ok r62
   refine shW_join (fun e1 F1 L1 => ∃ (Lb67 : LH), F42 = F1 ∧ L1 = (Lb67 ++ (Lb48 ++ [])) ∧ e1.sub [(3, .slice a7 n11 c8), (5, .slice a46 n50 c47), (28, .int .i64 (l.length : Int)), (29, .int .i64 k)] ∧ SlR K.w0.heap.size 137 8 (arE 8 (cI .i64)) F1 a7 n11 c8 there3 Lb67) ?_ ?_
   ·clear r70
    refine shW_block ?_
    refine wsr (um (ua (nsr (um (shO_nil ?_)))))
    refine shW_block ?_
    obtain ⟨g73, r74⟩ := gd_ok h69
    refine shW_lp (fun fu2 e1 F1 L1 => ∃ (k2 : Int), Ctr 0 8 k2 fu2 ∧ ∃ (there4 : List (List Int)) (Lb71 : LH), book_desk_through_l2 l3 k fu2 k2 there4 = some there3 ∧ F42 = F1 ∧ L1 = (Lb71 ++ (Lb48 ++ [])) ∧ e1.sub [(3, .slice a7 n11 c8), (5, .slice a46 n50 c47), (6, .int .i64 k), (28, .int .i64 (l.length : Int)), (29, .int .i64 k), (32, .int .i64 k2)] ∧ SlR K.w0.heap.size 137 8 (arE 8 (cI .i64)) F1 a7 n11 c8 there4 Lb71) _ (m0 kr ⟨_, Ctr.start _ _, there2, Lb56, r74, rfl, rfl, z6, hz57⟩) ?_
    rintro fu2 e1 _ _ ⟨k2, hk75, there4, Lb71, r77, rfl, rfl, he78, hz72⟩
    refine shW_env _ he78 (wsr (uv (v_lssK rfl rfl) ?_))
    refine shO_nil (shW_seq ?_)
    refine cQ (fun c80 => ?_) fun c80 => ?_
    ·obtain ⟨fu2, rfl, hk81⟩ := Ctr.succ hk75 c80
     rw [book_desk_through_l2] at r77
     refine shW_skip (shW_seq ?_)
     refine shW_block ?_
     refine wsr (um (ua (shO_nil ?_)))
     refine shW_drawM [(.still, 0), (.still, 1), (.still, 2), (.still, 3), (.still, 4), (.still, 5), (.still, 6), (.still, 7), (.still, 8), (.still, 9), (.still, 10), (.still, 11), (.still, 12), (.still, 13), (.still, 14), (.still, 15), (.still, 16), (.still, 17), (.still, 18), (.seq, 19)] (by kernel_rfl) (by kernel_rfl) (trivial) (by rfl) (by kernel_rfl) (mS [3] rfl (v_move rfl) (mS [6] rfl (v_move rfl) (mS [7] rfl (v_move rfl) ?_)))
     obtain ⟨x, g82, hx83, r84⟩ := ix_ok r77
     obtain ⟨b85, o86, c87, vs88, ha89, hs90, hle91, ⟨rfl, h94⟩, hl92, hc93⟩ := SlR.at (arE_ok (n := 8) (sz := 1) (cI_ok .i64)) hz72 (L := Lb71 ++ []) fP g82.1 hx83
     refine mS [35, 36] rfl (v_indexO underlying139 sizeOf137 rfl ha89 rfl (SlR.idx hz72 g82)) ?_
     obtain ⟨x2, g95, hx96, r97⟩ := ix_ok r84
     have hc98 := el_at (cI_ok .i64) h94 hx96 hc93 hle91 hl92
     refine mS [37, 38] rfl (v_indexA underlying137 sizeOf3 rfl rfl (arr_lt h94 g95)) (mL [39] (Lb71 ++ []) rfl (s0 (s4 (s3 sr))) (fun H F' L' hF' hL' => v_load isAgg3 rfl (hs90.ext hF' hL') ((hc98).2.2 0 (by decide))) (mS [5] rfl (v_move rfl) (mS [5] rfl (v_move rfl) (mS [42] rfl ((v_lenS underlying139 rfl).i (SlR.lenI hz49)) ?_))))
     obtain ⟨g99, r100⟩ := gd_ok r97
     refine mS (v := .int .i64 ((l3.length : Int) - 1)) [43] rfl (v_sub rfl rfl g99) (mS [6] rfl (v_move rfl) ?_)
     obtain ⟨g101, r102⟩ := gd_ok r100
     refine mS (v := .int .i64 (((l3.length : Int) - 1) - k)) [44, 45] rfl (v_sub rfl rfl g101) (mS [7] rfl (v_move rfl) ?_)
     obtain ⟨x3, g103, hx104, r105⟩ := ix_ok r102
     obtain ⟨b106, o107, c108, vs109, ha110, hs111, hle112, ⟨rfl, h115⟩, hl113, hc114⟩ := SlR.at (arE_ok (n := 8) (sz := 1) (cI_ok .i64)) hz49 (L := Lb48 ++ []) fP g103.1 hx104
     refine mL [41, 46] ([]) rfl sm (fun H F' L' hF' hL' => v_indexO underlying139 sizeOf137 rfl ha110 rfl (SlR.idx hz49 g103)) ?_
     obtain ⟨x4, g116, hx117, r118⟩ := ix_ok r105
     have hc119 := el_at (cI_ok .i64) h115 hx117 hc114 hle112 hl113
     refine mL [47, 48] ([]) rfl sm (fun H F' L' hF' hL' => v_indexA underlying137 sizeOf3 rfl rfl (arr_lt h115 g116)) (mL [49] (Lb48 ++ []) rfl (s0 (s3 (s4 sr))) (fun H F' L' hF' hL' => v_load isAgg3 rfl (hs111.ext hF' hL') ((hc119).2.2 0 (by decide))) ?_)
     obtain ⟨g120, r121⟩ := gd_ok r118
     refine mS (v := .int .i64 (x2 * x4)) [40, 50] rfl (v_mul rfl rfl g120) ?_
     obtain ⟨b122, o123, c124, vs125, ha126, hs127, hle128, ⟨rfl, h131⟩, hl129, hc130⟩ := SlR.at (arE_ok (n := 8) (sz := 1) (cI_ok .i64)) hz72 (L := Lb71 ++ []) fP g82.1 hx83
     refine mS [35, 36] rfl (v_indexO underlying139 sizeOf137 rfl ha126 rfl (SlR.idx hz72 g82)) (mS [37, 52] rfl (v_indexA underlying137 sizeOf3 rfl rfl (arr_lt h131 g95)) ?_)
     refine ⟨_, [(51, .int .i64 (x2 * x4)), (53, .pointer (some ⟨b122, o123 + (k : Int).toNat * 8 + (k2 : Int).toNat * 1, none⟩))], rfl, rfl, z2, by kernel_rfl, ?_⟩; intro H
     obtain ⟨l4, h133, r134⟩ := bv_ok r121
     refine o_storeZP (zs := l4) (off := (k2 : Int).toNat * 1) (x0 := x) (u := x.set (k2 : Int).toNat (x2 * x4)) sizeOf3 (arE_ok (n := 8) (sz := 1) (cI_ok .i64)) rfl ha126 rfl rfl (arr_off (arr_lt h131 g95)) hx83 (fun vs h => arE_set (cI_ok .i64) h (arr_ltN (arr_lt h131 g95)) rfl) (fun _ => .h) hz72 h133 g82 ?_; intro Lb135 hz136
     refine shO_nil ⟨undef, rfl, FExt.refl _, [], by kernel_rfl, .inl (.inl rfl), nm, ?_⟩
     refine shM_nil ?_
     refine inBlock_n (id := 3) (shW_region ?_)
     refine uv (v_add rfl rfl (Ctr.r64 hk75 c80 g73)) ?_
     refine um (shO_nil ?_)
     exact le kr ⟨_, hk81, l4, Lb135, r134, rfl, rfl, z6, hz136⟩
    obtain rfl := Ctr.zero hk75 c80
    rw [book_desk_through_l2] at r77
    refine shW_exit (andThen_exit (andThen_exit ?_))
    refine inBlock_exit (inBlock_n (id := 1) ?_)
    obtain rfl := inj1 r77
    exact mi kr ⟨Lb71, rfl, rfl, z4, hz72⟩
   rintro e1 _ _ ⟨Lb67, rfl, rfl, he137, hz68⟩
   refine shW_env _ he137 (shW_region (uv (v_add rfl rfl (Ctr.r64 hk60 c65 g58)) ?_))
   refine um (shO_nil ?_)
   exact le kr ⟨_, hk66, there3, Lb67, r70, rfl, rfl, z4, hz68⟩
  obtain rfl := Ctr.zero hk60 c65
  rw [book_desk_through_l1] at r62
  refine shW_exit (andThen_exit (andThen_exit ?_))
  refine inBlock_exit ?_
  obtain rfl := inj1 r62
  exact mi (ka kn) ⟨Lb56, rfl, rfl, z1, hz57⟩
 rintro e1 _ _ ⟨Lb52, rfl, rfl, he138, hz53⟩
 refine shW_env _ he138 ?_
 refine wsr (um (ua (shO_nil (shW_ret ?_))))
 refine qR1 results47 ?_
 obtain rfl := inj1 r55
 exact ⟨_, _, _, _, rfl, rfl, hz53.any⟩
set_option maxHeartbeats 1000000 in
theorem book_Count_w (h_hears : RowR 1 (slE 1 (slE 1 (iE .i64))) F hears_a hears_c hears) (h_readings : RowR 1 (iE .i64) F readings_a readings_c readings) (h_cries : RowR 3 (prE (iE .i64) (prE (iE .i64) (iE .i64))) F cries_a cries_c cries) {r r2 : Int} (hr : book_Count houses notices hears readings cries = some (r, r2)) :
    SpecV Tryz.prog 22 #[.agg #[.int .i64 houses, .int .i64 notices, .slice hears_a hears.length hears_c, .slice readings_a readings.length readings_c, .slice cries_a cries.length cries_c]] F (.tuple #[.int .i64 r, .int .i64 r2]) := by
 refine sp func22 ntmps22 fun K _ _ => ?_
 rw [book_Count] at hr
 refine wsr ?_
 refine o_box rfl rfl ?_; intro b1 hb1
 refine ua (ua (nsr ?_))
 refine uv (v_loadA isAgg43 sizeOf43 rfl (Has.own 0 rfl) (nbL rfl) rfl) ?_
 obtain ⟨d, n, h2, r3⟩ := b2_ok hr
 refine c0 call46 (book_opened_w h_hears h_readings h_cries h2) ?_; rintro _ F4 _ hF5 hn6 ⟨v8, rfl, rfl, hp9⟩
 refine shO_L (ln rfl) ?_
 refine um (ox rfl rfl rfl (ox rfl rfl rfl (ua (ua (shO_nil (shW_seq (wsr (um ?_))))))))
 refine uv (v_neq rfl rfl) (shO_nil ?_)
 refine cQ (fun c10 => ?_) fun c10 => ?_
 ·have r11 := ite_t r3 c10
  refine wsr (um (ua (ua (shO_nil ?_))))
  refine kW kn ?_
  refine shW_ret (andThen_ret ?_)
  refine q_res2 results22 (res_tmp rfl) (res_tmp rfl) (sr) ?_
  obtain ⟨rfl, rfl⟩ := inj2 r11
  exact rfl
 have r12 := ite_f r3 c10
 refine shW_skip (wsr (ua (shO_nil ?_)))
 obtain ⟨n2, h13, r14⟩ := b1_ok r12
 refine jF ([]) [(6, .int .i64 n2)] ?_ fun F72 hF73 => ?_
 ·clear r14
  refine wsr (um ?_)
  obtain ⟨houses2, notices2, hears2, readings2, cries2, h15, r16⟩ := b5_ok h13
  have h31 := hp9; rw [h15] at h31; obtain ⟨b17, c18, m19, hv20, hz21, ⟨_, _, rfl, rfl, ⟨_, _, rfl, rfl, ⟨_, _, rfl, ⟨a22, c23, rfl, h24⟩, ⟨_, _, rfl, ⟨a25, c26, rfl, h27⟩, ⟨a28, c29, rfl, h30⟩⟩⟩⟩⟩⟩ := h31; subst hv20
  have hz21 : F4 b17 = some (.cells #[.int .i64 houses2, .int .i64 notices2, .slice a22 hears2.length c23, .slice a25 readings2.length c26, .slice a28 cries2.length c29] 152 m19) := hz21
  obtain ⟨l, h32, r33⟩ := b1_ok r16
  refine c0 call47 (book_desk_through_w hz21 h24 h27 h30 h32) ?_; rintro _ F34 _ hF35 hn36 ⟨a38, n42, c39, Lb40, rfl, rfl, hz41⟩
  replace hz41 := hz41.new fun p hp => hn36 p (by simp [hp])
  refine shO_L (lp (ln rfl)) (kO (kf (fS fO) kr) ?_)
  obtain ⟨x, g44, hx45, r46⟩ := ix_ok r33
  obtain ⟨b47, o48, c49, vs50, ha51, hs52, hle53, ⟨rfl, h56⟩, hl54, hc55⟩ := SlR.at (arE_ok (n := 8) (sz := 1) (cI_ok .i64)) hz41 (L := (b1, ce #[.int .i64 houses, .int .i64 notices, .slice hears_a hears.length hears_c, .slice readings_a readings.length readings_c, .slice cries_a cries.length cries_c] 43) :: (Lb40 ++ [])) (fC fP) g44.1 hx45
  refine uv (v_indexO underlying139 sizeOf137 rfl ha51 rfl (SlR.idx hz41 g44)) (uv (v_loadA isAgg137 sizeOf137 rfl hs52 hle53 (extract_cells hle53 hl54 hc55)) ?_)
  refine um (shO_nil ?_)
  refine shW_block (kW kn ?_)
  obtain ⟨g57, r58⟩ := gd_ok r46
  refine shW_lp (fun fu1 e1 F1 L1 => ∃ (k : Int), Ctr 0 8 k fu1 ∧ ∃ (n3 : Int), book_Count_l1 x fu1 k n3 = some n2 ∧ F34 = F1 ∧ L1 = [] ∧ e1.sub [(6, .int .i64 n3), (20, .agg (arr (cI .i64) x)), (21, .int .i64 k)]) _ (m0 kr ⟨_, Ctr.start _ _, 0, r58, rfl, rfl, z3⟩) ?_
  rintro fu1 e1 _ _ ⟨k, hk59, n3, r61, rfl, rfl, he62⟩
  refine shW_env _ he62 (wsr (uv (v_lssK rfl rfl) ?_))
  refine shO_nil (shW_seq ?_)
  refine cQ (fun c64 => ?_) fun c64 => ?_
  ·obtain ⟨fu1, rfl, hk65⟩ := Ctr.succ hk59 c64
   rw [book_Count_l1] at r61
   refine shW_skip (shW_seq ?_)
   refine shW_block (wsr ?_)
   obtain ⟨x2, g66, hx67, r68⟩ := ix_ok r61
   refine uv (v_index (ixa_137 h56 g66 hx67) rfl rfl) ?_
   refine ua (shO_nil (shW_region (um (um ?_))))
   obtain ⟨g69, r70⟩ := gd_ok r68
   refine uv (v_add rfl rfl g69) ?_
   refine ua (shO_nil (inBlock_n (id := 1) (shW_region ?_)))
   refine uv (v_add rfl rfl (Ctr.r64 hk59 c64 g57)) ?_
   refine um (shO_nil ?_)
   exact le kr ⟨_, hk65, n3 + x2, r70, rfl, rfl, z3⟩
  obtain rfl := Ctr.zero hk59 c64
  rw [book_Count_l1] at r61
  refine shW_exit (andThen_exit (andThen_exit ?_))
  refine inBlock_exit ?_
  obtain rfl := inj1 r61
  exact mi kr ⟨hF35, rfl, z1⟩
 refine wsr (um (ua (ua (shO_nil (shW_ret ?_)))))
 refine q_res2 results22 (res_tmp rfl) (res_tmp rfl) (sr) ?_
 obtain ⟨rfl, rfl⟩ := inj2 r14
 exact rfl
set_option maxHeartbeats 1000000 in
theorem oyezlaw07_Bell_w {r r2 : Int} {r3 : List (List (List Int))} {r4 : List Int} {r5 : List (Int × Int × Int)} (hr : oyezlaw07_Bell = some (r, r2, r3, r4, r5)) :
    SH.Spec Tryz.prog 23 #[] F [] fun F' L' v => ∃ (r3a : Option Addr) (r3n : Nat) (r3c : Nat) (r3L : LH) (r4a : Option Addr) (r4n : Nat) (r4c : Nat) (r4L : LH) (r5a : Option Addr) (r5n : Nat) (r5c : Nat) (r5L : LH), v = .agg #[.int .i64 r, .int .i64 r2, .slice r3a r3n r3c, .slice r4a r4n r4c, .slice r5a r5n r5c] ∧ L' = r3L ++ (r4L ++ (r5L ++ [])) ∧ SlR 0 23 1 (slE 1 (slE 1 (iE .i64))) F' r3a r3n r3c r3 r3L ∧ SlR 0 3 1 (iE .i64) F' r4a r4n r4c r4 r4L ∧ SlR 0 49 3 (prE (iE .i64) (prE (iE .i64) (iE .i64))) F' r5a r5n r5c r5 r5L := by
 refine sp func23 ntmps23 fun K _ _ => ?_
 rw [oyezlaw07_Bell] at hr
 refine wsr ?_
 refine o_alloc rfl zeroValue43 ?_; intro b1 hb1
 refine nsr ?_
 refine bA (cs := #[.int .i64 0]) slt_35 [.int .i64 0] ?_; intro b2 hb2
 refine bA (cs := #[.int .i64 0, .int .i64 1]) slt_35 [.int .i64 0, .int .i64 1] ?_; intro b3 hb3
 refine bA (cs := #[.int .i64 1]) slt_35 [.int .i64 1] ?_; intro b4 hb4
 refine bA (cs := #[.int .i64 1]) slt_35 [.int .i64 1] ?_; intro b5 hb5
 refine bA (cs := #[.slice (some ⟨b2, 0, none⟩) 1 1, .slice (some ⟨b3, 0, none⟩) 2 2, .slice (some ⟨b4, 0, none⟩) 1 1, .slice (some ⟨b5, 0, none⟩) 1 1, .slice none 0 0, .slice none 0 0, .slice none 0 0, .slice none 0 0]) slt_23 [.slice (some ⟨b2, 0, none⟩) 1 1, .slice (some ⟨b3, 0, none⟩) 2 2, .slice (some ⟨b4, 0, none⟩) 1 1, .slice (some ⟨b5, 0, none⟩) 1 1, .slice none 0 0, .slice none 0 0, .slice none 0 0, .slice none 0 0] ?_; intro b6 hb6
 refine bA (cs := #[.slice (some ⟨b6, 0, none⟩) 8 8]) slt_40 [.slice (some ⟨b6, 0, none⟩) 8 8] ?_; intro b7 hb7
 refine bA (cs := #[.int .i64 1, .int .i64 (-1), .int .i64 4]) slt_35 [.int .i64 1, .int .i64 (-1), .int .i64 4] ?_; intro b8 hb8
 refine uv (v_build (v := .agg #[.int .i64 0, .int .i64 0, .int .i64 0]) rfl (by intro w; kernel_rfl)) ?_
 refine uv (v_build (v := .agg #[.int .i64 2, .int .i64 0, .int .i64 0]) rfl (by intro w; kernel_rfl)) ?_
 refine bA (cs := #[.int .i64 0, .int .i64 0, .int .i64 0, .int .i64 2, .int .i64 0, .int .i64 0]) slt_41 [.agg #[.int .i64 0, .int .i64 0, .int .i64 0], .agg #[.int .i64 2, .int .i64 0, .int .i64 0]] ?_; intro b9 hb9
 refine uv (v_build (v := .agg #[.int .i64 2, .int .i64 1, .slice (some ⟨b7, 0, none⟩) 1 1, .slice (some ⟨b8, 0, none⟩) 3 3, .slice (some ⟨b9, 0, none⟩) 2 2]) rfl (by intro w; kernel_rfl)) ?_
 refine shO_freeze 7 rfl hb2 ?_; intro F10 hF11 hz12
 refine shO_L rfl ?_
 have h13 : RowR 1 (iE .i64) F10 (some ⟨b2, 0, none⟩) 1 [0] := RowR.of_block (iE_ok _) (vss := [[.int .i64 0]]) (xs := [0]) hz12 (.cons rfl .nil) rfl (by simp [maxLen])
 refine shO_freeze 6 rfl hb3 ?_; intro F14 hF15 hz16
 refine shO_L rfl ?_
 replace h13 := h13.mono (iE_ok _) hF15
 have h17 : RowR 1 (iE .i64) F14 (some ⟨b3, 0, none⟩) 2 [0, 1] := RowR.of_block (iE_ok _) (vss := [[.int .i64 0], [.int .i64 1]]) (xs := [0, 1]) hz16 (.cons rfl (.cons rfl .nil)) rfl (by simp [maxLen])
 refine shO_freeze 5 rfl hb4 ?_; intro F18 hF19 hz20
 refine shO_L rfl ?_
 replace h13 := h13.mono (iE_ok _) hF19
 replace h17 := h17.mono (iE_ok _) hF19
 have h21 : RowR 1 (iE .i64) F18 (some ⟨b4, 0, none⟩) 1 [1] := RowR.of_block (iE_ok _) (vss := [[.int .i64 1]]) (xs := [1]) hz20 (.cons rfl .nil) rfl (by simp [maxLen])
 refine shO_freeze 4 rfl hb5 ?_; intro F22 hF23 hz24
 refine shO_L rfl ?_
 replace h13 := h13.mono (iE_ok _) hF23
 replace h17 := h17.mono (iE_ok _) hF23
 replace h21 := h21.mono (iE_ok _) hF23
 have h25 : RowR 1 (iE .i64) F22 (some ⟨b5, 0, none⟩) 1 [1] := RowR.of_block (iE_ok _) (vss := [[.int .i64 1]]) (xs := [1]) hz24 (.cons rfl .nil) rfl (by simp [maxLen])
 refine shO_freeze 3 rfl hb6 ?_; intro F26 hF27 hz28
 refine shO_L rfl ?_
 replace h13 := h13.mono (iE_ok _) hF27
 replace h17 := h17.mono (iE_ok _) hF27
 replace h21 := h21.mono (iE_ok _) hF27
 replace h25 := h25.mono (iE_ok _) hF27
 have h29 : RowR 1 (slE 1 (iE .i64)) F26 (some ⟨b6, 0, none⟩) 8 [[0], [0, 1], [1], [1], [], [], [], []] := RowR.of_block (slE_ok (iE_ok _)) (vss := [[.slice (some ⟨b2, 0, none⟩) [0].length 1], [.slice (some ⟨b3, 0, none⟩) [0, 1].length 2], [.slice (some ⟨b4, 0, none⟩) [1].length 1], [.slice (some ⟨b5, 0, none⟩) [1].length 1], [.slice none 0 0], [.slice none 0 0], [.slice none 0 0], [.slice none 0 0]]) (xs := [[0], [0, 1], [1], [1], [], [], [], []]) hz28 (.cons ⟨_, _, rfl, h13⟩ (.cons ⟨_, _, rfl, h17⟩ (.cons ⟨_, _, rfl, h21⟩ (.cons ⟨_, _, rfl, h25⟩ (.cons ⟨_, _, rfl, RowR.nil _ _ _⟩ (.cons ⟨_, _, rfl, RowR.nil _ _ _⟩ (.cons ⟨_, _, rfl, RowR.nil _ _ _⟩ (.cons ⟨_, _, rfl, RowR.nil _ _ _⟩ .nil)))))))) rfl (by simp [maxLen])
 have hz31 : SlR K.w0.heap.size 23 1 (slE 1 (slE 1 (iE .i64))) F26 (some ⟨b7, 0, none⟩) 1 1 [[[0], [0, 1], [1], [1], [], [], [], []]] [(b7, ce (#[.slice (some ⟨b6, 0, none⟩) [[0], [0, 1], [1], [1], [], [], [], []].length 8]) 23)] := SlR.of_block (vss := [[.slice (some ⟨b6, 0, none⟩) [[0], [0, 1], [1], [1], [], [], [], []].length 8]]) (slE_ok (slE_ok (iE_ok _))) hb7 (.cons ⟨_, _, rfl, h29⟩ .nil) rfl rfl (by simp [maxLen])
 generalize hLLb30 : ([(b7, ce (#[.slice (some ⟨b6, 0, none⟩) [[0], [0, 1], [1], [1], [], [], [], []].length 8]) 23)] : LH) = Lb30 at hz31
 refine shO_perm (L' := Lb30 ++ [(b9, ce #[.int .i64 0, .int .i64 0, .int .i64 0, .int .i64 2, .int .i64 0, .int .i64 0] 49), (b8, ce #[.int .i64 1, .int .i64 (-1), .int .i64 4] 3), (b1, ce #[.int .i64 0, .int .i64 0, .slice none 0 0, .slice none 0 0, .slice none 0 0] 43)]) (by rw [← hLLb30]; exact (fC (fC fO))) ?_
 refine shO_perm (L' := (b9, ce #[.int .i64 0, .int .i64 0, .int .i64 0, .int .i64 2, .int .i64 0, .int .i64 0] 49) :: ((b8, ce #[.int .i64 1, .int .i64 (-1), .int .i64 4] 3) :: ((b1, ce #[.int .i64 0, .int .i64 0, .slice none 0 0, .slice none 0 0, .slice none 0 0] 43) :: (Lb30 ++ [])))) (List.Perm.symm (fC (fC (fC fP)))) ?_
 have hz34 : SlR K.w0.heap.size 3 1 (iE .i64) F26 (some ⟨b8, 0, none⟩) 3 3 [1, -1, 4] [(b8, ce #[.int .i64 1, .int .i64 (-1), .int .i64 4] 3)] := SlR.of_block (vss := [[.int .i64 1], [.int .i64 (-1)], [.int .i64 4]]) (iE_ok _) hb8 (.cons rfl (.cons rfl (.cons rfl .nil))) rfl rfl (by simp [maxLen])
 generalize hLLb33 : ([(b8, ce #[.int .i64 1, .int .i64 (-1), .int .i64 4] 3)] : LH) = Lb33 at hz34
 refine shO_perm (L' := Lb33 ++ ((b9, ce #[.int .i64 0, .int .i64 0, .int .i64 0, .int .i64 2, .int .i64 0, .int .i64 0] 49) :: ((b1, ce #[.int .i64 0, .int .i64 0, .slice none 0 0, .slice none 0 0, .slice none 0 0] 43) :: (Lb30 ++ [])))) (by rw [← hLLb33]; exact (fC fO)) ?_
 refine shO_perm (L' := (b9, ce #[.int .i64 0, .int .i64 0, .int .i64 0, .int .i64 2, .int .i64 0, .int .i64 0] 49) :: ((b1, ce #[.int .i64 0, .int .i64 0, .slice none 0 0, .slice none 0 0, .slice none 0 0] 43) :: (Lb33 ++ (Lb30 ++ [])))) (List.Perm.symm (fC (fC fP))) ?_
 have hz37 : SlR K.w0.heap.size 49 3 (prE (iE .i64) (prE (iE .i64) (iE .i64))) F26 (some ⟨b9, 0, none⟩) 2 2 [(0, 0, 0), (2, 0, 0)] [(b9, ce #[.int .i64 0, .int .i64 0, .int .i64 0, .int .i64 2, .int .i64 0, .int .i64 0] 49)] := SlR.of_block (vss := [[.int .i64 0, .int .i64 0, .int .i64 0], [.int .i64 2, .int .i64 0, .int .i64 0]]) (prE_ok (iE_ok _) (prE_ok (iE_ok _) (iE_ok _))) hb9 (.cons ⟨_, _, rfl, rfl, ⟨_, _, rfl, rfl, rfl⟩⟩ (.cons ⟨_, _, rfl, rfl, ⟨_, _, rfl, rfl, rfl⟩⟩ .nil)) rfl rfl (by simp [maxLen])
 generalize hLLb36 : ([(b9, ce #[.int .i64 0, .int .i64 0, .int .i64 0, .int .i64 2, .int .i64 0, .int .i64 0] 49)] : LH) = Lb36 at hz37
 refine shO_perm (L' := Lb36 ++ ((b1, ce #[.int .i64 0, .int .i64 0, .slice none 0 0, .slice none 0 0, .slice none 0 0] 43) :: (Lb33 ++ (Lb30 ++ [])))) (by rw [← hLLb36]; exact fO) ?_
 refine shO_perm (L' := (b1, ce #[.int .i64 0, .int .i64 0, .slice none 0 0, .slice none 0 0, .slice none 0 0] 43) :: (Lb36 ++ (Lb33 ++ (Lb30 ++ [])))) (List.Perm.symm (fC fP)) (o_storeA (i := 0) sizeOf43 rfl rfl rfl (by simp [Value.oneCell']) rfl (nbL rfl) (shO_L rfl (shO_nil (kW (kc (kg (fS (fS fP)) (kg (fS fP) kr))) (shW_ret (q_res1 results23 (res_cellA (cs := #[.int .i64 2, .int .i64 1, .slice (some ⟨b7, 0, none⟩) 1 1, .slice (some ⟨b8, 0, none⟩) 3 3, .slice (some ⟨b9, 0, none⟩) 2 2]) isAgg43 sizeOf43 rfl (Has.own 0 rfl) (nbL rfl) rfl) (s1 (s4 (s4 (s4 sr)))) ?_))))))
 obtain ⟨rfl, rfl, rfl, rfl, rfl⟩ := inj5 hr
 exact ⟨_, _, _, _, _, _, _, _, _, _, _, _, rfl, rfl, hz31.any, hz34.any, hz37.any⟩
set_option maxHeartbeats 1000000 in
theorem book_Winds_w (h_hears : RowR 1 (slE 1 (slE 1 (iE .i64))) F hears_a hears_c hears) (h_readings : RowR 1 (iE .i64) F readings_a readings_c readings) (h_cries : RowR 3 (prE (iE .i64) (prE (iE .i64) (iE .i64))) F cries_a cries_c cries) {r : List (List Int)} {r2 : Int} (hr : book_Winds houses notices hears readings cries = some (r, r2)) :
    SH.Spec Tryz.prog 25 #[.agg #[.int .i64 houses, .int .i64 notices, .slice hears_a hears.length hears_c, .slice readings_a readings.length readings_c, .slice cries_a cries.length cries_c]] F [] fun F' L' v => ∃ (ra : Option Addr) (rn : Nat) (rc : Nat) (rL : LH), v = .tuple #[.slice ra rn rc, .int .i64 r2] ∧ L' = rL ++ [] ∧ SlR 0 35 1 (slE 1 (iE .i64)) F' ra rn rc r rL := by
 refine sp func25 ntmps25 fun K _ _ => ?_
 rw [book_Winds] at hr
 refine wsr ?_
 refine o_box rfl rfl ?_; intro b1 hb1
 refine ua (ua (nsr ?_))
 refine uv (v_loadA isAgg43 sizeOf43 rfl (Has.own 0 rfl) (nbL rfl) rfl) ?_
 obtain ⟨d, n, h2, r3⟩ := b2_ok hr
 refine c0 call46 (book_opened_w h_hears h_readings h_cries h2) ?_; rintro _ F4 _ hF5 hn6 ⟨v8, rfl, rfl, hp9⟩
 refine shO_L (ln rfl) ?_
 refine um (ox rfl rfl rfl (ox rfl rfl rfl (ua (ua (shO_nil (shW_seq (wsr (um ?_))))))))
 refine uv (v_neq rfl rfl) (shO_nil ?_)
 refine cQ (fun c10 => ?_) fun c10 => ?_
 ·have r11 := ite_t r3 c10
  refine wsr (um (ua (ua (shO_nil ?_))))
  refine kW kn ?_
  refine shW_ret (andThen_ret ?_)
  refine q_res2 results25 (res_tmp rfl) (res_tmp rfl) (sr) ?_
  obtain ⟨rfl, rfl⟩ := inj2 r11
  exact ⟨_, _, _, [], rfl, rfl, SlR.nil _ _ _ _ _⟩
 have r12 := ite_f r3 c10
 refine shW_skip (wsr (ua (shO_nil ?_)))
 refine shW_join (fun e1 F1 L1 => ∃ (out : List (List Int)) (a13 : Option Addr) (n17 : Nat) (c14 : Nat) (Lb15 : LH), book_Winds_j1 out = some (r, r2) ∧ FExt F4 F1 ∧ L1 = (Lb15 ++ []) ∧ e1.sub [(6, .slice a13 n17 c14)] ∧ SlR K.w0.heap.size 35 1 (slE 1 (iE .i64)) F1 a13 n17 c14 out Lb15) ?_ ?_
 ·refine wsr (um ?_)
  obtain ⟨houses2, notices2, hears2, readings2, cries2, h19, r20⟩ := b5_ok r12
  have h35 := hp9; rw [h19] at h35; obtain ⟨b21, c22, m23, hv24, hz25, ⟨_, _, rfl, rfl, ⟨_, _, rfl, rfl, ⟨_, _, rfl, ⟨a26, c27, rfl, h28⟩, ⟨_, _, rfl, ⟨a29, c30, rfl, h31⟩, ⟨a32, c33, rfl, h34⟩⟩⟩⟩⟩⟩ := h35; subst hv24
  have hz25 : F4 b21 = some (.cells #[.int .i64 houses2, .int .i64 notices2, .slice a26 hears2.length c27, .slice a29 readings2.length c30, .slice a32 cries2.length c33] 152 m23) := hz25
  obtain ⟨l, h36, r37⟩ := b1_ok r20
  refine c0 call47 (book_desk_through_w hz25 h28 h31 h34 h36) ?_; rintro _ F38 _ hF39 hn40 ⟨a42, n46, c43, Lb44, rfl, rfl, hz45⟩
  replace hz45 := hz45.new fun p hp => hn40 p (by simp [hp])
  refine shO_L (lp (ln rfl)) (kO (kf (fS fO) kr) (uv ((v_lenS underlying139 rfl).i (SlR.lenI hz45)) ?_))
  refine um (shO_nil ?_)
  refine shW_block (kW (kd kr) ?_)
  refine shW_lp (fun fu2 e1 F1 L1 => LA l fu2 fun tl k => ∃ (out2 : List (List Int)) (a48 : Option Addr) (n52 : Nat) (c49 : Nat) (Lb50 : LH), book_Winds_l2 tl out2 = some (r, r2) ∧ FExt F38 F1 ∧ L1 = (Lb50 ++ (Lb44 ++ [])) ∧ e1.sub [(6, .slice a48 n52 c49), (21, .slice a42 n46 c43), (22, .int .i64 (l.length : Int)), (23, .int .i64 k)] ∧ SlR K.w0.heap.size 35 1 (slE 1 (iE .i64)) F1 a48 n52 c49 out2 Lb50) _ (m0 (ke kr) ⟨_, _, rfl, Lst.start _, [], none, 0, 0, [], r37, FExt.refl _, rfl, z4, SlR.nil _ _ _ _ _⟩) ?_
  rintro fu2 e1 F58 _ ⟨tl, k, hn55, hk54, out2, a48, n52, c49, Lb50, r56, hF59, rfl, he57, hz51⟩
  refine shW_env _ he57 ?_
  replace hz45 := hz45.mono (arE_ok (n := 8) (sz := 1) (cI_ok .i64)) hF59
  refine wsr (uv (v_lssK rfl rfl) ?_)
  refine shO_nil (shW_seq ?_)
  refine cQ (fun c61 => ?_) fun c61 => ?_
  ·obtain ⟨x, tl2, rfl, hx63, g64, hk62⟩ := Lst.succ hk54 c61
   rw [book_Winds_l2] at r56
   refine shW_skip ?_
   refine shW_join (fun e1 F1 L1 => ∃ (out3 : List (List Int)) (a65 : Option Addr) (n69 : Nat) (c66 : Nat) (Lb67 : LH), book_Winds_j3 (book_Winds_l2 tl2) out3 = some (r, r2) ∧ FExt F58 F1 ∧ L1 = (Lb67 ++ (Lb44 ++ [])) ∧ e1.sub [(6, .slice a65 n69 c66), (21, .slice a42 n46 c43), (22, .int .i64 (l.length : Int)), (23, .int .i64 k)] ∧ SlR K.w0.heap.size 35 1 (slE 1 (iE .i64)) F1 a65 n69 c66 out3 Lb67) ?_ ?_
   ·refine shW_block (wsr ?_)
    obtain ⟨b71, o72, c73, vs74, ha75, hs76, hle77, ⟨rfl, h80⟩, hl78, hc79⟩ := SlR.at (arE_ok (n := 8) (sz := 1) (cI_ok .i64)) hz45 (L := Lb50 ++ (Lb44 ++ [])) (fS fP) g64.1 hx63
    refine uv (v_indexO underlying139 sizeOf137 rfl ha75 rfl (SlR.idx hz45 g64)) (uv (v_loadA isAgg137 sizeOf137 rfl hs76 hle77 (extract_cells hle77 hl78 hc79)) ?_)
    refine o_alloc rfl zeroValue137 ?_; intro b81 hb81
    refine shO_L (L' := (b81, ce (arr (cI .i64) (List.replicate 8 0)) 137) :: (Lb50 ++ (Lb44 ++ []))) rfl (o_storeW (i := 0) sizeOf137 rfl rfl rfl (arr_sz (cI_ok .i64) List.length_replicate) (arr_sz (cI_ok .i64) h80) (arr_one (cI_ok .i64)) (shO_L (L' := (b81, ce (arr (cI .i64) x) 137) :: (Lb50 ++ (Lb44 ++ []))) rfl ?_))
    refine nsr (ua (shO_nil ?_))
    obtain ⟨own, h88, r89⟩ := b1_ok r56
    refine shW_join (fun e1 F1 L1 => ∃ (a82 : Option Addr) (n86 : Nat) (c83 : Nat) (Lb84 : LH), F58 = F1 ∧ L1 = (Lb50 ++ (Lb84 ++ (Lb44 ++ []))) ∧ e1.sub [(6, .slice a48 n52 c49), (9, .slice a82 n86 c83), (21, .slice a42 n46 c43), (22, .int .i64 (l.length : Int)), (23, .int .i64 k)] ∧ SlR K.w0.heap.size 3 1 (iE .i64) F1 a82 n86 c83 own Lb84) ?_ ?_
    ·clear r89
     refine wsr (uv (v_loadW isAgg137 sizeOf137 rfl (Has.own 0 rfl) (arr_sz (cI_ok .i64) h80)) ?_)
     refine um (shO_nil ?_)
     refine shW_block (kW (kd kr) ?_)
     obtain ⟨g96, r97⟩ := gd_ok h88
     refine shW_lp (fun fu4 e1 F1 L1 => ∃ (k2 : Int), Ctr 0 8 k2 fu4 ∧ ∃ (own2 : List Int) (a90 : Option Addr) (n94 : Nat) (c91 : Nat) (Lb92 : LH), book_Winds_l4 x fu4 k2 own2 = some own ∧ F58 = F1 ∧ L1 = (Lb50 ++ (Lb92 ++ (Lb44 ++ []))) ∧ e1.sub [(6, .slice a48 n52 c49), (9, .slice a90 n94 c91), (21, .slice a42 n46 c43), (22, .int .i64 (l.length : Int)), (23, .int .i64 k), (27, .agg (arr (cI .i64) x)), (28, .int .i64 k2)] ∧ SlR K.w0.heap.size 3 1 (iE .i64) F1 a90 n94 c91 own2 Lb92) _ (m0 (ka (ke kr)) ⟨_, Ctr.start _ _, [], none, 0, 0, [], r97, rfl, rfl, z7, SlR.nil _ _ _ _ _⟩) ?_
     rintro fu4 e1 _ _ ⟨k2, hk98, own2, a90, n94, c91, Lb92, r100, rfl, rfl, he101, hz93⟩
     refine shW_env _ he101 (wsr (uv (v_lssK rfl rfl) ?_))
     refine shO_nil (shW_seq ?_)
     refine cQ (fun c103 => ?_) fun c103 => ?_
     ·obtain ⟨fu4, rfl, hk104⟩ := Ctr.succ hk98 c103
      rw [book_Winds_l4] at r100
      refine shW_skip (shW_seq ?_)
      refine shW_block ?_
      refine wsr (um ?_)
      obtain ⟨x2, g105, hx106, r107⟩ := ix_ok r100
      refine uv (v_index (ixa_137 h80 g105 hx106) rfl rfl) ?_
      refine ua (ua (nsr (um ?_)))
      refine uv (v_gtrK rfl rfl) (shO_nil ?_)
      refine cQ (fun c108 => ?_) fun c108 => ?_
      ·have r109 := ite_t r107 c108
       refine shW_region (um (um ?_))
       refine bA (cs := #[.int .i64 k2]) slt_35 [.int .i64 k2] ?_; intro b110 hb110
       obtain ⟨own3, h111, g112, r113⟩ := ap_ok r109
       refine o_appZ (xs := own2) (ys := [k2]) (zs := own3) rfl slt_35 rfl rfl (Nat.le_refl _) (fun _ => .c (.s .h)) hz93 (SrcR.box (vss := [[.int .i64 k2]]) (ys := [k2]) 0 rfl (iE_ok _) (.cons rfl .nil) rfl rfl) h111 g112 (by decide) ?_; intro a114 n118 c115 Lb116 hz117
       refine kO (kd kr) ?_
       refine ua (shO_nil (inBlock_n (id := 3) (shW_region ?_)))
       refine uv (v_add rfl rfl (Ctr.r64 hk98 c103 g96)) ?_
       refine um (shO_nil ?_)
       exact le kr ⟨_, hk104, own3, a114, n118, c115, Lb116, r113, rfl, rfl, z7, hz117⟩
      have r120 := ite_f r107 c108
      refine shW_skip (inBlock_n (id := 3) (shW_region ?_))
      refine uv (v_add rfl rfl (Ctr.r64 hk98 c103 g96)) ?_
      refine um (shO_nil ?_)
      exact le kr ⟨_, hk104, own2, a90, n94, c91, Lb92, r120, rfl, rfl, z7, hz93⟩
     obtain rfl := Ctr.zero hk98 c103
     rw [book_Winds_l4] at r100
     refine shW_exit (andThen_exit (andThen_exit ?_))
     refine inBlock_exit ?_
     obtain rfl := inj1 r100
     exact mi kr ⟨a90, n94, c91, Lb92, rfl, rfl, z5, hz93⟩
    rintro e1 _ _ ⟨a82, n86, c83, Lb84, rfl, rfl, he121, hz85⟩
    refine shW_env _ he121 ?_
    refine shW_seq (wsr (um ?_))
    refine uv ((v_lenS underlying35 rfl).i (SlR.lenI hz85)) (uv (v_eql rfl rfl) (shO_nil ?_))
    refine cQ (fun c122 => ?_) fun c122 => ?_
    ·have r123 := ite_t r89 c122
     refine wsr (ua (ua (shO_nil ?_)))
     refine kW kn ?_
     refine shW_ret (andThen_ret (inBlock_ret (andThen_ret (andThen_ret (inBlock_ret (andThen_ret ?_))))))
     refine q_res2 results25 (res_tmp rfl) (res_tmp rfl) (sr) ?_
     obtain ⟨rfl, rfl⟩ := inj2 r123
     exact ⟨_, _, _, [], rfl, rfl, SlR.nil _ _ _ _ _⟩
    have r124 := ite_f r89 c122
    refine shW_skip (shW_region (um (um ?_)))
    refine bA (cs := #[.slice a82 n86 c83]) slt_23 [.slice a82 n86 c83] ?_; intro b125 hb125
    obtain rfl := (SlR.caps hz85).1
    refine shO_freezeR (Nat.le_refl _) (iE_ok _) (fC (fS fP)) hz85 ?_; intro F126 hF127 h128
    replace hz51 := hz51.mono (slE_ok (iE_ok _)) hF127
    obtain ⟨out4, h129, g130, r131⟩ := ap_ok r124
    refine o_appZ (xs := out2) (ys := [own]) (zs := out4) rfl slt_23 rfl rfl (Nat.le_refl _) (fun _ => .c .h) hz51 (SrcR.box (vss := [[.slice a82 own.length c83]]) (ys := [own]) 0 rfl (slE_ok (iE_ok _)) (.cons ⟨_, _, rfl, h128⟩ .nil) rfl rfl) h129 g130 (by decide) ?_; intro a132 n136 c133 Lb134 hz135
    refine kO (kd kr) ?_
    refine ua (shO_nil (inBlock_n (id := 1) ?_))
    exact mi kr ⟨out4, a132, n136, c133, Lb134, r131, hF127, rfl, z4, hz135⟩
   rintro e1 F140 _ ⟨out3, a65, n69, c66, Lb67, r138, hF141, rfl, he139, hz68⟩
   refine shW_env _ he139 ?_
   replace hz45 := hz45.mono (arE_ok (n := 8) (sz := 1) (cI_ok .i64)) hF141
   rw [book_Winds_j3] at r138
   refine shW_region (uv (v_add rfl rfl (Lst.r64 hk54 c61 (SlR.llt hz45))) ?_)
   refine um (shO_nil ?_)
   subst hn55; exact le kr ⟨_, _, rfl, hk62, out3, a65, n69, c66, Lb67, r138, (hF59.trans hF141), rfl, z4, hz68⟩
  obtain rfl := Lst.zero hk54 c61
  rw [book_Winds_l2] at r56
  refine shW_exit (andThen_exit (andThen_exit ?_))
  refine inBlock_exit ?_
  exact mi (ka kn) ⟨out2, a48, n52, c49, Lb50, r56, (hF39.trans hF59), rfl, z1, hz51⟩
 rintro e1 F144 _ ⟨out, a13, n17, c14, Lb15, r142, hF145, rfl, he143, hz16⟩
 refine shW_env _ he143 ?_
 rw [book_Winds_j1] at r142
 refine wsr (um (ua (ua (shO_nil (shW_ret ?_)))))
 refine q_res2 results25 (res_tmp rfl) (res_tmp rfl) (sr) ?_
 obtain ⟨rfl, rfl⟩ := inj2 r142
 exact ⟨_, _, _, _, rfl, rfl, hz16.any⟩
set_option maxHeartbeats 1000000 in
theorem book_First_w (h_hears : RowR 1 (slE 1 (slE 1 (iE .i64))) F hears_a hears_c hears) (h_readings : RowR 1 (iE .i64) F readings_a readings_c readings) (h_cries : RowR 3 (prE (iE .i64) (prE (iE .i64) (iE .i64))) F cries_a cries_c cries) {r : List Int} {r2 : Int} (hr : book_First houses notices hears readings cries = some (r, r2)) :
    SH.Spec Tryz.prog 24 #[.agg #[.int .i64 houses, .int .i64 notices, .slice hears_a hears.length hears_c, .slice readings_a readings.length readings_c, .slice cries_a cries.length cries_c]] F [] fun F' L' v => ∃ (ra : Option Addr) (rn : Nat) (rc : Nat) (rL : LH), v = .tuple #[.slice ra rn rc, .int .i64 r2] ∧ L' = rL ++ [] ∧ SlR 0 3 1 (iE .i64) F' ra rn rc r rL := by
 refine sp func24 ntmps24 fun K _ _ => ?_
 rw [book_First] at hr
 refine wsr ?_
 refine o_box rfl rfl ?_; intro b1 hb1
 refine ua (ua (nsr ?_))
 refine uv (v_loadA isAgg43 sizeOf43 rfl (Has.own 0 rfl) (nbL rfl) rfl) ?_
 obtain ⟨l, n, h2, r3⟩ := b2_ok hr
 refine c0 call25 (book_Winds_w h_hears h_readings h_cries h2) ?_; rintro _ F4 _ hF5 hn6 ⟨a8, n12, c9, Lb10, rfl, rfl, hz11⟩
 replace hz11 := hz11.new fun p hp => hn6 p (by simp [hp])
 refine shO_L (lp (ln rfl)) (kO (kf (fS fO) kr) ?_)
 refine um (ox rfl rfl rfl (ox rfl rfl rfl (ua (ua (shO_nil (shW_seq (wsr (um ?_))))))))
 refine uv (v_neq rfl rfl) (shO_nil ?_)
 refine cQ (fun c14 => ?_) fun c14 => ?_
 ·have r15 := ite_t r3 c14
  refine wsr (um (ua (ua (shO_nil ?_))))
  refine kW kn ?_
  refine shW_ret (andThen_ret ?_)
  refine q_res2 results24 (res_tmp rfl) (res_tmp rfl) (sr) ?_
  obtain ⟨rfl, rfl⟩ := inj2 r15
  exact ⟨_, _, _, [], rfl, rfl, SlR.nil _ _ _ _ _⟩
 have r16 := ite_f r3 c14
 refine shW_skip (wsr (ua (shO_nil ?_)))
 obtain ⟨out, h23, r24⟩ := b1_ok r16
 refine shW_join (fun e1 F1 L1 => ∃ (a17 : Option Addr) (n21 : Nat) (c18 : Nat) (Lb19 : LH), F4 = F1 ∧ L1 = (Lb19 ++ []) ∧ e1.sub [(6, .slice a17 n21 c18)] ∧ SlR K.w0.heap.size 3 1 (iE .i64) F1 a17 n21 c18 out Lb19) ?_ ?_
 ·clear r24
  refine wsr (um ?_)
  refine uv ((v_lenS underlying23 rfl).i (SlR.lenI hz11)) ?_
  refine um (shO_nil ?_)
  refine shW_block (kW (kd kr) ?_)
  refine shW_lp (fun fu1 e1 F1 L1 => LA l fu1 fun tl k => ∃ (out2 : List Int) (a25 : Option Addr) (n29 : Nat) (c26 : Nat) (Lb27 : LH), book_First_l1 tl k out2 = some out ∧ F4 = F1 ∧ L1 = (Lb27 ++ (Lb10 ++ [])) ∧ e1.sub [(6, .slice a25 n29 c26), (19, .slice a8 n12 c9), (20, .int .i64 (l.length : Int)), (21, .int .i64 k)] ∧ SlR K.w0.heap.size 3 1 (iE .i64) F1 a25 n29 c26 out2 Lb27) _ (m0 (ke kr) ⟨_, _, rfl, Lst.start _, [], none, 0, 0, [], h23, rfl, rfl, z4, SlR.nil _ _ _ _ _⟩) ?_
  rintro fu1 e1 _ _ ⟨tl, k, hn32, hk31, out2, a25, n29, c26, Lb27, r33, rfl, rfl, he34, hz28⟩
  refine shW_env _ he34 (wsr (uv (v_lssK rfl rfl) ?_))
  refine shO_nil (shW_seq ?_)
  refine cQ (fun c36 => ?_) fun c36 => ?_
  ·obtain ⟨x, tl2, rfl, hx38, g39, hk37⟩ := Lst.succ hk31 c36
   rw [book_First_l1] at r33
   refine shW_skip ?_
   obtain ⟨out3, h46, r47⟩ := b1_ok r33
   refine shW_join (fun e1 F1 L1 => ∃ (a40 : Option Addr) (n44 : Nat) (c41 : Nat) (Lb42 : LH), F4 = F1 ∧ L1 = (Lb42 ++ (Lb10 ++ [])) ∧ e1.sub [(6, .slice a40 n44 c41), (19, .slice a8 n12 c9), (20, .int .i64 (l.length : Int)), (21, .int .i64 k)] ∧ SlR K.w0.heap.size 3 1 (iE .i64) F1 a40 n44 c41 out3 Lb42) ?_ ?_
   ·clear r47
    refine shW_block ?_
    refine wsr (um ?_)
    obtain ⟨b48, o49, c50, vs51, ha52, hs53, hle54, ⟨a57, c58, rfl, h59⟩, hl55, hc56⟩ := SlR.at (slE_ok (iE_ok _)) hz11 (L := Lb27 ++ (Lb10 ++ [])) (fS fP) g39.1 hx38
    refine uv (v_indexO underlying23 sizeOf35 rfl ha52 rfl (SlR.idx hz11 g39)) (uv (v_load isAgg35 rfl hs53 (hc56 0 (by decide))) ?_)
    refine ua (ua (nsr (um ?_)))
    refine uv (v_lenS underlying35 rfl) ?_
    refine um (shO_nil ?_)
    refine shW_block ?_
    refine shW_lp (fun fu2 e1 F1 L1 => LA x fu2 fun tl3 k2 => book_First_l2 out2 k tl3 = some out3 ∧ F4 = F1 ∧ L1 = (Lb27 ++ (Lb10 ++ [])) ∧ e1.sub [(6, .slice a25 n29 c26), (7, .int .i64 k), (19, .slice a8 n12 c9), (20, .int .i64 (l.length : Int)), (21, .int .i64 k), (26, .slice a57 x.length c58), (27, .int .i64 (x.length : Int)), (28, .int .i64 k2)]) _ (m0 kr ⟨_, _, rfl, Lst.start _, h46, rfl, rfl, z8⟩) ?_
    rintro fu2 e1 _ _ ⟨tl3, k2, hn61, hk60, r62, rfl, rfl, he63⟩
    refine shW_env _ he63 (wsr (uv (v_lssK rfl rfl) ?_))
    refine shO_nil (shW_seq ?_)
    refine cQ (fun c65 => ?_) fun c65 => ?_
    ·obtain ⟨x2, tl4, rfl, hx67, g68, hk66⟩ := Lst.succ hk60 c65
     rw [book_First_l2] at r62
     refine shW_skip (shW_seq ?_)
     refine shW_block (wsr ?_)
     obtain ⟨b69, o70, c71, vs72, ha73, hs74, hle75, rfl, hl76, hc77⟩ := RowR.at (iE_ok _) h59 (Lb27 ++ (Lb10 ++ [])) g68.1 hx67
     refine uv (v_indexO underlying35 sizeOf3 rfl ha73 rfl g68) (uv (v_load isAgg3 rfl hs74 (hc77 0 (by decide))) ?_)
     refine ua (shO_nil ?_)
     obtain ⟨k3, h78, r79⟩ := b1_ok r62
     refine jE ((Lb27 ++ (Lb10 ++ []))) [(6, .slice a25 n29 c26), (7, .int .i64 k), (10, .int .i64 x2), (19, .slice a8 n12 c9), (20, .int .i64 (l.length : Int)), (21, .int .i64 k), (26, .slice a57 x.length c58), (27, .int .i64 (x.length : Int)), (28, .int .i64 k2), (42, .bool k3)] ?_ ?_
     ·clear r79
      refine shW_region (um ?_)
      refine uv (v_eql rfl rfl) (um ?_)
      by_cases c80 : k = 0
      ·have r81 := ite_t h78 c80
       refine fT c80 (fT c80 (fT c80 (fT c80 (fT c80 (fT c80 (fT c80 ?_))))))
       refine uv (v_pick_t (evD_true rfl c80) rfl) (shO_nil ?_)
       obtain rfl := inj1 r81
       exact mi kr ⟨rfl, rfl, (sc rfl (sc rfl z8))⟩
      have r82 := ite_f h78 c80
      refine nF c80 (um (nF c80 (um (nF c80 (um (nF c80 ?_))))))
      obtain ⟨g83, r84⟩ := gd_ok r82
      refine uv (v_sub rfl rfl g83) (nF c80 ?_)
      obtain ⟨x3, g85, hx86, r87⟩ := ix_ok r84
      obtain ⟨b88, o89, c90, vs91, ha92, hs93, hle94, rfl, hl95, hc96⟩ := SlR.at (iE_ok _) hz28 (L := Lb27 ++ (Lb10 ++ [])) fP g85.1 hx86
      refine uv (v_indexO underlying35 sizeOf3 rfl ha92 rfl (SlR.idx hz28 g85)) (nF c80 (uv (v_load isAgg3 rfl hs93 (hc96 0 (by decide))) (nF c80 ?_)))
      obtain ⟨ok, h97, r98⟩ := b1_ok r87
      refine cV call48 (book_near_w h97) (uv (v_pick_f (evD_false rfl c80) rfl) (shO_nil ?_))
      obtain rfl := inj1 r98
      exact mi kr ⟨rfl, rfl, (sc rfl (sc rfl z8))⟩
     refine shW_cond rfl (fun c100 => ?_) (fun c100 => ?_)
     ·have r101 := bt r79 c100
      refine wsr (um (um ?_))
      refine bA (cs := #[.int .i64 x2]) slt_35 [.int .i64 x2] ?_; intro b102 hb102
      obtain ⟨out4, h103, g104, r105⟩ := ap_ok r101
      refine o_appZ (xs := out2) (ys := [x2]) (zs := out4) rfl slt_35 rfl rfl (Nat.le_refl _) (fun _ => .c .h) hz28 (SrcR.box (vss := [[.int .i64 x2]]) (ys := [x2]) 0 rfl (iE_ok _) (.cons rfl .nil) rfl rfl) h103 g104 (by decide) ?_; intro a106 n110 c107 Lb108 hz109
      refine kO (kd kr) ?_
      refine ua (shO_nil (shW_exit ?_))
      refine inBlock_other rfl ?_
      refine andThen_exit (andThen_exit ?_)
      refine inBlock_exit (inBlock_n (id := 1) ?_)
      obtain rfl := inj1 r105
      exact mi kr ⟨a106, n110, c107, Lb108, rfl, rfl, z4, hz109⟩
     have r112 := bf r79 c100
     refine shW_skip (inBlock_n (id := 3) (shW_region ?_))
     refine uv (v_add rfl rfl (Lst.r64 hk60 c65 (RowR.lt h59))) ?_
     refine um (shO_nil ?_)
     subst hn61; exact le kr ⟨_, _, rfl, hk66, r112, rfl, rfl, z8⟩
    obtain rfl := Lst.zero hk60 c65
    rw [book_First_l2] at r62
    refine shW_exit (andThen_exit (andThen_exit ?_))
    refine inBlock_exit (inBlock_n (id := 1) ?_)
    obtain rfl := inj1 r62
    exact mi kr ⟨a25, n29, c26, Lb27, rfl, rfl, z4, hz28⟩
   rintro e1 _ _ ⟨a40, n44, c41, Lb42, rfl, rfl, he113, hz43⟩
   refine shW_env _ he113 (shW_region (uv (v_add rfl rfl (Lst.r64 hk31 c36 (SlR.llt hz11))) ?_))
   refine um (shO_nil ?_)
   subst hn32; exact le kr ⟨_, _, rfl, hk37, out3, a40, n44, c41, Lb42, r47, rfl, rfl, z4, hz43⟩
  obtain rfl := Lst.zero hk31 c36
  rw [book_First_l1] at r33
  refine shW_exit (andThen_exit (andThen_exit ?_))
  refine inBlock_exit ?_
  obtain rfl := inj1 r33
  exact mi (ka kn) ⟨a25, n29, c26, Lb27, rfl, rfl, z1, hz28⟩
 rintro e1 _ _ ⟨a17, n21, c18, Lb19, rfl, rfl, he114, hz20⟩
 refine shW_env _ he114 ?_
 refine wsr (um (ua (ua (shO_nil (shW_ret ?_)))))
 refine q_res2 results24 (res_tmp rfl) (res_tmp rfl) (sr) ?_
 obtain ⟨rfl, rfl⟩ := inj2 r24
 exact ⟨_, _, _, _, rfl, rfl, hz20.any⟩
set_option maxHeartbeats 1000000 in
theorem slices_Equal_int_int_w {s1 s2 : List Int} (h_s1 : RowR 1 (iE .i64) F s1_a s1_c s1) (h_s2 : RowR 1 (iE .i64) F s2_a s2_c s2) {r : Bool} (hr : slices_Equal_int_int s1 s2 = some r) :
    SpecV Tryz.prog 49 #[.slice s1_a s1.length s1_c, .slice s2_a s2.length s2_c] F (.bool r) := by
 refine sp func49 ntmps49 fun K _ _ => ?_
 rw [slices_Equal_int_int] at hr
 refine wsr (ua (shO_nil (shW_seq (wsr (um ?_)))))
 refine uv (v_lenS underlying35 rfl) (um (uv (v_lenS underlying35 rfl) (uv (v_neq rfl rfl) (shO_nil ?_))))
 refine cQ (fun c1 => ?_) fun c1 => ?_
 ·have r2 := ite_t hr c1
  refine wsr (ua (shO_nil (shW_ret (andThen_ret ?_))))
  refine qR1 results49 ?_
  obtain rfl := inj1 r2
  exact rfl
 have r3 := ite_f hr c1
 refine shW_skip ?_
 refine shW_join (fun e1 F1 L1 => slices_Equal_int_int_j1 = some r ∧ F = F1 ∧ L1 = [] ∧ e1.sub []) ?_ ?_
 ·refine wsr (um ?_)
  refine uv (v_lenS underlying35 rfl) ?_
  refine um (shO_nil ?_)
  refine shW_block ?_
  refine shW_lp (fun fu2 e1 F1 L1 => LA s1 fu2 fun tl k => slices_Equal_int_int_l2 s2 tl k = some r ∧ F = F1 ∧ L1 = [] ∧ e1.sub [(0, .slice s1_a s1.length s1_c), (1, .slice s2_a s2.length s2_c), (12, .int .i64 (s1.length : Int)), (13, .int .i64 k)]) _ (m0 kr ⟨_, _, rfl, Lst.start _, r3, rfl, rfl, z4⟩) ?_
  rintro fu2 e1 _ _ ⟨tl, k, hn5, hk4, r6, rfl, rfl, he7⟩
  refine shW_env _ he7 (wsr (uv (v_lssK rfl rfl) ?_))
  refine shO_nil (shW_seq ?_)
  refine cQ (fun c9 => ?_) fun c9 => ?_
  ·obtain ⟨x, tl2, rfl, hx11, g12, hk10⟩ := Lst.succ hk4 c9
   rw [slices_Equal_int_int_l2] at r6
   refine shW_skip (shW_seq ?_)
   refine shW_block ?_
   refine wsr (um (ua ?_))
   refine dN ?_
   refine wm (wm ?_)
   obtain ⟨b13, o14, c15, vs16, ha17, hs18, hle19, rfl, hl20, hc21⟩ := RowR.at (iE_ok _) h_s1 ([]) g12.1 hx11
   refine wv (v_indexO underlying35 sizeOf3 rfl ha17 rfl g12) (wv (v_load isAgg3 rfl hs18 (hc21 0 (by decide))) ?_)
   refine wm (wm ?_)
   obtain ⟨x2, g22, hx23, r24⟩ := ix_ok r6
   obtain ⟨b25, o26, c27, vs28, ha29, hs30, hle31, rfl, hl32, hc33⟩ := RowR.at (iE_ok _) h_s2 ([]) g22.1 hx23
   refine wv (v_indexO underlying35 sizeOf3 rfl ha29 rfl g22) (wv (v_load isAgg3 rfl hs30 (hc33 0 (by decide))) (wv (v_neq rfl rfl) (shQ_nil ?_)))
   refine cQ (fun c34 => ?_) fun c34 => ?_
   ·have r35 := ite_t r24 c34
    refine wsr (ua (shO_nil (shW_ret (inBlock_ret (andThen_ret (andThen_ret (inBlock_ret (andThen_ret ?_))))))))
    refine qR1 results49 ?_
    obtain rfl := inj1 r35
    exact rfl
   have r36 := ite_f r24 c34
   refine shW_skip (inBlock_n (id := 1) (shW_region ?_))
   refine uv (v_add rfl rfl (Lst.r64 hk4 c9 (RowR.lt h_s1))) ?_
   refine um (shO_nil ?_)
   subst hn5; exact le kr ⟨_, _, rfl, hk10, r36, rfl, rfl, z4⟩
  obtain rfl := Lst.zero hk4 c9
  rw [slices_Equal_int_int_l2] at r6
  refine shW_exit (andThen_exit (andThen_exit ?_))
  refine inBlock_exit ?_
  exact mi kr ⟨r6, rfl, rfl, (sn _)⟩
 rintro e1 _ _ ⟨r37, rfl, rfl, he38⟩
 refine shW_env _ he38 ?_
 rw [slices_Equal_int_int_j1] at r37
 refine wsr (ua (shO_nil (shW_ret ?_)))
 refine qR1 results49 ?_
 obtain rfl := inj1 r37
 exact rfl
theorem oyezkit_Like_int_w {a b : List Int} (h_a : RowR 1 (iE .i64) F a_a a_c a) (h_b : RowR 1 (iE .i64) F b_a b_c b) {r : Bool} (hr : oyezkit_Like_int a b = some r) :
    SpecV Tryz.prog 26 #[.slice a_a a.length a_c, .slice b_a b.length b_c] F (.bool r) := by
 refine sp func26 ntmps26 fun K _ _ => ?_
 rw [oyezkit_Like_int] at hr
 refine wsr (ua (nsr (um (um ?_))))
 obtain ⟨ok, h1, r2⟩ := b1_ok hr
 refine cV call49 (slices_Equal_int_int_w h_a h_b h1) ?_
 refine ua (shO_nil (shW_ret ?_))
 refine qR1 results26 ?_
 obtain rfl := inj1 r2
 exact rfl
set_option maxHeartbeats 1000000 in
theorem slices_EqualFunc_book_Verdict_book_Verdict_book_Verdict_book_Verdict_w {s1 s2 : List (List Int)} (h_s1 : RowR 1 (slE 1 (iE .i64)) F s1_a s1_c s1) (h_s2 : RowR 1 (slE 1 (iE .i64)) F s2_a s2_c s2) (h_eq : FnR Tryz.prog F eq_f eq_1 eq_2 (prE (slE 1 (iE .i64)) (slE 1 (iE .i64))) Value.bool eq) {r : Bool} (hr : slices_EqualFunc_book_Verdict_book_Verdict_book_Verdict_book_Verdict s1 s2 eq = some r) :
    SpecV Tryz.prog 50 #[.slice s1_a s1.length s1_c, .slice s2_a s2.length s2_c, .func (.func eq_f) eq_1 eq_2] F (.bool r) := by
 refine sp func50 ntmps50 fun K _ _ => ?_
 rw [slices_EqualFunc_book_Verdict_book_Verdict_book_Verdict_book_Verdict] at hr
 refine wsr (ua (shO_nil (shW_seq (wsr (um ?_)))))
 refine uv (v_lenS underlying50 rfl) (um (uv (v_lenS underlying50 rfl) (uv (v_neq rfl rfl) (shO_nil ?_))))
 refine cQ (fun c1 => ?_) fun c1 => ?_
 ·have r2 := ite_t hr c1
  refine wsr (ua (shO_nil (shW_ret (andThen_ret ?_))))
  refine qR1 results50 ?_
  obtain rfl := inj1 r2
  exact rfl
 have r3 := ite_f hr c1
 refine shW_skip ?_
 refine shW_join (fun e1 F1 L1 => slices_EqualFunc_book_Verdict_book_Verdict_book_Verdict_book_Verdict_j1 = some r ∧ F = F1 ∧ L1 = [] ∧ e1.sub []) ?_ ?_
 ·refine wsr (um ?_)
  refine uv (v_lenS underlying50 rfl) ?_
  refine um (shO_nil ?_)
  refine shW_block ?_
  refine shW_lp (fun fu2 e1 F1 L1 => LA s1 fu2 fun tl k => slices_EqualFunc_book_Verdict_book_Verdict_book_Verdict_book_Verdict_l2 s2 eq tl k = some r ∧ F = F1 ∧ L1 = [] ∧ e1.sub [(1, .slice s2_a s2.length s2_c), (2, .func (.func eq_f) eq_1 eq_2), (15, .slice s1_a s1.length s1_c), (16, .int .i64 (s1.length : Int)), (17, .int .i64 k)]) _ (m0 kr ⟨_, _, rfl, Lst.start _, r3, rfl, rfl, z5⟩) ?_
  rintro fu2 e1 _ _ ⟨tl, k, hn5, hk4, r6, rfl, rfl, he7⟩
  refine shW_env _ he7 (wsr (uv (v_lssK rfl rfl) ?_))
  refine shO_nil (shW_seq ?_)
  refine cQ (fun c9 => ?_) fun c9 => ?_
  ·obtain ⟨x, tl2, rfl, hx11, g12, hk10⟩ := Lst.succ hk4 c9
   rw [slices_EqualFunc_book_Verdict_book_Verdict_book_Verdict_book_Verdict_l2] at r6
   refine shW_skip (shW_seq ?_)
   refine shW_block ?_
   refine wsr (um ?_)
   obtain ⟨b13, o14, c15, vs16, ha17, hs18, hle19, ⟨a22, c23, rfl, h24⟩, hl20, hc21⟩ := RowR.at (slE_ok (iE_ok _)) h_s1 ([]) g12.1 hx11
   refine uv (v_indexO underlying50 sizeOf53 rfl ha17 rfl g12) (uv (v_load isAgg53 rfl hs18 (hc21 0 (by decide))) ?_)
   refine ua (ua (nsr (um (um ?_))))
   obtain ⟨x2, g25, hx26, r27⟩ := ix_ok r6
   obtain ⟨b28, o29, c30, vs31, ha32, hs33, hle34, ⟨a37, c38, rfl, h39⟩, hl35, hc36⟩ := RowR.at (slE_ok (iE_ok _)) h_s2 ([]) g25.1 hx26
   refine uv (v_indexO underlying50 sizeOf53 rfl ha32 rfl g25) (uv (v_load isAgg53 rfl hs33 (hc36 0 (by decide))) ?_)
   refine ua (nsr (um (um (um ?_))))
   obtain ⟨ok, h40, r41⟩ := b1_ok r27
   refine o_callV rfl h_eq.1 rfl rfl rfl (h_eq.2 _ (FExt.refl _) _ _ _ ⟨_, _, rfl, ⟨_, _, rfl, h24⟩, ⟨_, _, rfl, h39⟩⟩ h40) (uv (v_notB rfl) (shO_nil ?_))
   refine shW_cond rfl (fun c42 => ?_) (fun c42 => ?_)
   ·have r43 := bt r41 c42
    refine wsr (ua (shO_nil (shW_ret (inBlock_ret (andThen_ret (andThen_ret (inBlock_ret (andThen_ret ?_))))))))
    refine qR1 results50 ?_
    obtain rfl := inj1 r43
    exact rfl
   have r44 := bf r41 c42
   refine shW_skip (inBlock_n (id := 1) (shW_region ?_))
   refine uv (v_add rfl rfl (Lst.r64 hk4 c9 (RowR.lt h_s1))) ?_
   refine um (shO_nil ?_)
   subst hn5; exact le kr ⟨_, _, rfl, hk10, r44, rfl, rfl, z5⟩
  obtain rfl := Lst.zero hk4 c9
  rw [slices_EqualFunc_book_Verdict_book_Verdict_book_Verdict_book_Verdict_l2] at r6
  refine shW_exit (andThen_exit (andThen_exit ?_))
  refine inBlock_exit ?_
  exact mi kr ⟨r6, rfl, rfl, (sn _)⟩
 rintro e1 _ _ ⟨r45, rfl, rfl, he46⟩
 refine shW_env _ he46 ?_
 rw [slices_EqualFunc_book_Verdict_book_Verdict_book_Verdict_book_Verdict_j1] at r45
 refine wsr (ua (shO_nil (shW_ret ?_)))
 refine qR1 results50 ?_
 obtain rfl := inj1 r45
 exact rfl
set_option maxHeartbeats 1000000 in
theorem slices_Equal_book_Verdict_book_Verdict_w {s1 s2 : List Int} (h_s1 : RowR 1 (iE .i64) F s1_a s1_c s1) (h_s2 : RowR 1 (iE .i64) F s2_a s2_c s2) {r : Bool} (hr : slices_Equal_book_Verdict_book_Verdict s1 s2 = some r) :
    SpecV Tryz.prog 51 #[.slice s1_a s1.length s1_c, .slice s2_a s2.length s2_c] F (.bool r) := by
 refine sp func51 ntmps51 fun K _ _ => ?_
 rw [slices_Equal_book_Verdict_book_Verdict] at hr
 refine wsr (ua (shO_nil (shW_seq (wsr (um ?_)))))
 refine uv (v_lenS underlying53 rfl) (um (uv (v_lenS underlying53 rfl) (uv (v_neq rfl rfl) (shO_nil ?_))))
 refine cQ (fun c1 => ?_) fun c1 => ?_
 ·have r2 := ite_t hr c1
  refine wsr (ua (shO_nil (shW_ret (andThen_ret ?_))))
  refine qR1 results51 ?_
  obtain rfl := inj1 r2
  exact rfl
 have r3 := ite_f hr c1
 refine shW_skip ?_
 refine shW_join (fun e1 F1 L1 => slices_Equal_book_Verdict_book_Verdict_j1 = some r ∧ F = F1 ∧ L1 = [] ∧ e1.sub []) ?_ ?_
 ·refine wsr (um ?_)
  refine uv (v_lenS underlying53 rfl) ?_
  refine um (shO_nil ?_)
  refine shW_block ?_
  refine shW_lp (fun fu2 e1 F1 L1 => LA s1 fu2 fun tl k => slices_Equal_book_Verdict_book_Verdict_l2 s2 tl k = some r ∧ F = F1 ∧ L1 = [] ∧ e1.sub [(0, .slice s1_a s1.length s1_c), (1, .slice s2_a s2.length s2_c), (12, .int .i64 (s1.length : Int)), (13, .int .i64 k)]) _ (m0 kr ⟨_, _, rfl, Lst.start _, r3, rfl, rfl, z4⟩) ?_
  rintro fu2 e1 _ _ ⟨tl, k, hn5, hk4, r6, rfl, rfl, he7⟩
  refine shW_env _ he7 (wsr (uv (v_lssK rfl rfl) ?_))
  refine shO_nil (shW_seq ?_)
  refine cQ (fun c9 => ?_) fun c9 => ?_
  ·obtain ⟨x, tl2, rfl, hx11, g12, hk10⟩ := Lst.succ hk4 c9
   rw [slices_Equal_book_Verdict_book_Verdict_l2] at r6
   refine shW_skip (shW_seq ?_)
   refine shW_block ?_
   refine wsr (um (ua ?_))
   refine dN ?_
   refine wm (wm ?_)
   obtain ⟨b13, o14, c15, vs16, ha17, hs18, hle19, rfl, hl20, hc21⟩ := RowR.at (iE_ok _) h_s1 ([]) g12.1 hx11
   refine wv (v_indexO underlying53 sizeOf54 rfl ha17 rfl g12) (wv (v_load isAgg54 rfl hs18 (hc21 0 (by decide))) ?_)
   refine wm (wm ?_)
   obtain ⟨x2, g22, hx23, r24⟩ := ix_ok r6
   obtain ⟨b25, o26, c27, vs28, ha29, hs30, hle31, rfl, hl32, hc33⟩ := RowR.at (iE_ok _) h_s2 ([]) g22.1 hx23
   refine wv (v_indexO underlying53 sizeOf54 rfl ha29 rfl g22) (wv (v_load isAgg54 rfl hs30 (hc33 0 (by decide))) (wv (v_neq rfl rfl) (shQ_nil ?_)))
   refine cQ (fun c34 => ?_) fun c34 => ?_
   ·have r35 := ite_t r24 c34
    refine wsr (ua (shO_nil (shW_ret (inBlock_ret (andThen_ret (andThen_ret (inBlock_ret (andThen_ret ?_))))))))
    refine qR1 results51 ?_
    obtain rfl := inj1 r35
    exact rfl
   have r36 := ite_f r24 c34
   refine shW_skip (inBlock_n (id := 1) (shW_region ?_))
   refine uv (v_add rfl rfl (Lst.r64 hk4 c9 (RowR.lt h_s1))) ?_
   refine um (shO_nil ?_)
   subst hn5; exact le kr ⟨_, _, rfl, hk10, r36, rfl, rfl, z4⟩
  obtain rfl := Lst.zero hk4 c9
  rw [slices_Equal_book_Verdict_book_Verdict_l2] at r6
  refine shW_exit (andThen_exit (andThen_exit ?_))
  refine inBlock_exit ?_
  exact mi kr ⟨r6, rfl, rfl, (sn _)⟩
 rintro e1 _ _ ⟨r37, rfl, rfl, he38⟩
 refine shW_env _ he38 ?_
 rw [slices_Equal_book_Verdict_book_Verdict_j1] at r37
 refine wsr (ua (shO_nil (shW_ret ?_)))
 refine qR1 results51 ?_
 obtain rfl := inj1 r37
 exact rfl
theorem oyezkit_LikeRows_Verdict_w {a b : List (List Int)} (h_a : RowR 1 (slE 1 (iE .i64)) F a_a a_c a) (h_b : RowR 1 (slE 1 (iE .i64)) F b_a b_c b) {r : Bool} (hr : oyezkit_LikeRows_Verdict a b = some r) :
    SpecV Tryz.prog 27 #[.slice a_a a.length a_c, .slice b_a b.length b_c] F (.bool r) := by
 refine sp func27 ntmps27 fun K _ _ => ?_
 rw [oyezkit_LikeRows_Verdict] at hr
 refine wsr (ua (nsr (um (um ?_))))
 have hn7 : FnR Tryz.prog F 51 #[] #[] (prE (slE 1 (iE .i64)) (slE 1 (iE .i64))) Value.bool (fun xx_ : (List Int) × (List Int) => slices_Equal_book_Verdict_book_Verdict xx_.1 xx_.2) := ⟨call51, fun F2 h2 vs xx_ r ha hr => by obtain ⟨_, _, rfl, ⟨a1, c2, rfl, h3⟩, ⟨a4, c5, rfl, h6⟩⟩ := ha; exact slices_Equal_book_Verdict_book_Verdict_w h3 h6 hr⟩
 obtain ⟨ok, h8, r9⟩ := b1_ok hr
 refine cV call50 (slices_EqualFunc_book_Verdict_book_Verdict_book_Verdict_book_Verdict_w h_a h_b hn7 h8) ?_
 refine ua (shO_nil (shW_ret ?_))
 refine qR1 results27 ?_
 obtain rfl := inj1 r9
 exact rfl
set_option maxHeartbeats 1000000 in
theorem slices_EqualFunc_int_int_int_int_w {s1 s2 : List (List Int)} (h_s1 : RowR 1 (slE 1 (iE .i64)) F s1_a s1_c s1) (h_s2 : RowR 1 (slE 1 (iE .i64)) F s2_a s2_c s2) (h_eq : FnR Tryz.prog F eq_f eq_1 eq_2 (prE (slE 1 (iE .i64)) (slE 1 (iE .i64))) Value.bool eq) {r : Bool} (hr : slices_EqualFunc_int_int_int_int s1 s2 eq = some r) :
    SpecV Tryz.prog 52 #[.slice s1_a s1.length s1_c, .slice s2_a s2.length s2_c, .func (.func eq_f) eq_1 eq_2] F (.bool r) := by
 refine sp func52 ntmps52 fun K _ _ => ?_
 rw [slices_EqualFunc_int_int_int_int] at hr
 refine wsr (ua (shO_nil (shW_seq (wsr (um ?_)))))
 refine uv (v_lenS underlying23 rfl) (um (uv (v_lenS underlying23 rfl) (uv (v_neq rfl rfl) (shO_nil ?_))))
 refine cQ (fun c1 => ?_) fun c1 => ?_
 ·have r2 := ite_t hr c1
  refine wsr (ua (shO_nil (shW_ret (andThen_ret ?_))))
  refine qR1 results52 ?_
  obtain rfl := inj1 r2
  exact rfl
 have r3 := ite_f hr c1
 refine shW_skip ?_
 refine shW_join (fun e1 F1 L1 => slices_EqualFunc_int_int_int_int_j1 = some r ∧ F = F1 ∧ L1 = [] ∧ e1.sub []) ?_ ?_
 ·refine wsr (um ?_)
  refine uv (v_lenS underlying23 rfl) ?_
  refine um (shO_nil ?_)
  refine shW_block ?_
  refine shW_lp (fun fu2 e1 F1 L1 => LA s1 fu2 fun tl k => slices_EqualFunc_int_int_int_int_l2 s2 eq tl k = some r ∧ F = F1 ∧ L1 = [] ∧ e1.sub [(1, .slice s2_a s2.length s2_c), (2, .func (.func eq_f) eq_1 eq_2), (15, .slice s1_a s1.length s1_c), (16, .int .i64 (s1.length : Int)), (17, .int .i64 k)]) _ (m0 kr ⟨_, _, rfl, Lst.start _, r3, rfl, rfl, z5⟩) ?_
  rintro fu2 e1 _ _ ⟨tl, k, hn5, hk4, r6, rfl, rfl, he7⟩
  refine shW_env _ he7 (wsr (uv (v_lssK rfl rfl) ?_))
  refine shO_nil (shW_seq ?_)
  refine cQ (fun c9 => ?_) fun c9 => ?_
  ·obtain ⟨x, tl2, rfl, hx11, g12, hk10⟩ := Lst.succ hk4 c9
   rw [slices_EqualFunc_int_int_int_int_l2] at r6
   refine shW_skip (shW_seq ?_)
   refine shW_block ?_
   refine wsr (um ?_)
   obtain ⟨b13, o14, c15, vs16, ha17, hs18, hle19, ⟨a22, c23, rfl, h24⟩, hl20, hc21⟩ := RowR.at (slE_ok (iE_ok _)) h_s1 ([]) g12.1 hx11
   refine uv (v_indexO underlying23 sizeOf35 rfl ha17 rfl g12) (uv (v_load isAgg35 rfl hs18 (hc21 0 (by decide))) ?_)
   refine ua (ua (nsr (um (um ?_))))
   obtain ⟨x2, g25, hx26, r27⟩ := ix_ok r6
   obtain ⟨b28, o29, c30, vs31, ha32, hs33, hle34, ⟨a37, c38, rfl, h39⟩, hl35, hc36⟩ := RowR.at (slE_ok (iE_ok _)) h_s2 ([]) g25.1 hx26
   refine uv (v_indexO underlying23 sizeOf35 rfl ha32 rfl g25) (uv (v_load isAgg35 rfl hs33 (hc36 0 (by decide))) ?_)
   refine ua (nsr (um (um (um ?_))))
   obtain ⟨ok, h40, r41⟩ := b1_ok r27
   refine o_callV rfl h_eq.1 rfl rfl rfl (h_eq.2 _ (FExt.refl _) _ _ _ ⟨_, _, rfl, ⟨_, _, rfl, h24⟩, ⟨_, _, rfl, h39⟩⟩ h40) (uv (v_notB rfl) (shO_nil ?_))
   refine shW_cond rfl (fun c42 => ?_) (fun c42 => ?_)
   ·have r43 := bt r41 c42
    refine wsr (ua (shO_nil (shW_ret (inBlock_ret (andThen_ret (andThen_ret (inBlock_ret (andThen_ret ?_))))))))
    refine qR1 results52 ?_
    obtain rfl := inj1 r43
    exact rfl
   have r44 := bf r41 c42
   refine shW_skip (inBlock_n (id := 1) (shW_region ?_))
   refine uv (v_add rfl rfl (Lst.r64 hk4 c9 (RowR.lt h_s1))) ?_
   refine um (shO_nil ?_)
   subst hn5; exact le kr ⟨_, _, rfl, hk10, r44, rfl, rfl, z5⟩
  obtain rfl := Lst.zero hk4 c9
  rw [slices_EqualFunc_int_int_int_int_l2] at r6
  refine shW_exit (andThen_exit (andThen_exit ?_))
  refine inBlock_exit ?_
  exact mi kr ⟨r6, rfl, rfl, (sn _)⟩
 rintro e1 _ _ ⟨r45, rfl, rfl, he46⟩
 refine shW_env _ he46 ?_
 rw [slices_EqualFunc_int_int_int_int_j1] at r45
 refine wsr (ua (shO_nil (shW_ret ?_)))
 refine qR1 results52 ?_
 obtain rfl := inj1 r45
 exact rfl
theorem oyezkit_LikeRows_int_w {a b : List (List Int)} (h_a : RowR 1 (slE 1 (iE .i64)) F a_a a_c a) (h_b : RowR 1 (slE 1 (iE .i64)) F b_a b_c b) {r : Bool} (hr : oyezkit_LikeRows_int a b = some r) :
    SpecV Tryz.prog 28 #[.slice a_a a.length a_c, .slice b_a b.length b_c] F (.bool r) := by
 refine sp func28 ntmps28 fun K _ _ => ?_
 rw [oyezkit_LikeRows_int] at hr
 refine wsr (ua (nsr (um (um ?_))))
 have hn7 : FnR Tryz.prog F 49 #[] #[] (prE (slE 1 (iE .i64)) (slE 1 (iE .i64))) Value.bool (fun xx_ : (List Int) × (List Int) => slices_Equal_int_int xx_.1 xx_.2) := ⟨call49, fun F2 h2 vs xx_ r ha hr => by obtain ⟨_, _, rfl, ⟨a1, c2, rfl, h3⟩, ⟨a4, c5, rfl, h6⟩⟩ := ha; exact slices_Equal_int_int_w h3 h6 hr⟩
 obtain ⟨ok, h8, r9⟩ := b1_ok hr
 refine cV call52 (slices_EqualFunc_int_int_int_int_w h_a h_b hn7 h8) ?_
 refine ua (shO_nil (shW_ret ?_))
 refine qR1 results28 ?_
 obtain rfl := inj1 r9
 exact rfl
theorem cmp_Compare_int_w {x y r : Int} (hr : cmp_Compare_int x y = some r) :
    SpecV Tryz.prog 87 #[.int .i64 x, .int .i64 y] F (.int .i64 r) := by
 refine sp func87 ntmps87 fun K _ _ => ?_
 rw [cmp_Compare_int] at hr
 refine wsr (ua (nsr (um ?_)))
 obtain ⟨ok, h1, r2⟩ := b1_ok hr
 refine cV call110 (cmp_isNaN_int_w h1) ?_
 refine ua (nsr (um ?_))
 obtain ⟨ok2, h3, r4⟩ := b1_ok r2
 refine cV call110 (cmp_isNaN_int_w h3) ?_
 refine ua (shO_nil (shW_seq (wsr (um (shO_nil ?_)))))
 refine shW_cond rfl (fun c5 => ?_) (fun c5 => ?_)
 ·have r6 := bt r4 c5
  refine shW_seq (wsr (um (shO_nil ?_)))
  refine shW_cond rfl (fun c7 => ?_) (fun c7 => ?_)
  ·have r8 := bt r6 c7
   refine wsr (ua (shO_nil (shW_ret (andThen_ret (andThen_ret ?_)))))
   refine qR1 results87 ?_
   obtain rfl := inj1 r8
   exact rfl
  have r9 := bf r6 c7
  refine shW_skip (wsr (ua (shO_nil (shW_ret (andThen_ret ?_)))))
  refine qR1 results87 ?_
  obtain rfl := inj1 r9
  exact rfl
 have r10 := bf r4 c5
 refine shW_skip (shW_seq (wsr (um (shO_nil ?_))))
 refine shW_cond rfl (fun c11 => ?_) (fun c11 => ?_)
 ·have r12 := bt r10 c11
  refine wsr (ua (shO_nil (shW_ret (andThen_ret ?_))))
  refine qR1 results87 ?_
  obtain rfl := inj1 r12
  exact rfl
 have r13 := bf r10 c11
 refine shW_skip (shW_seq (wsr (um (um ?_))))
 refine uv (v_lssK rfl rfl) (shO_nil ?_)
 refine cQ (fun c14 => ?_) fun c14 => ?_
 ·have r15 := ite_t r13 c14
  refine wsr (ua (shO_nil (shW_ret (andThen_ret ?_))))
  refine qR1 results87 ?_
  obtain rfl := inj1 r15
  exact rfl
 have r16 := ite_f r13 c14
 refine shW_skip (shW_seq (wsr (um (um ?_))))
 refine uv (v_gtrK rfl rfl) (shO_nil ?_)
 refine cQ (fun c17 => ?_) fun c17 => ?_
 ·have r18 := ite_t r16 c17
  refine wsr (ua (shO_nil (shW_ret (andThen_ret ?_))))
  refine qR1 results87 ?_
  obtain rfl := inj1 r18
  exact rfl
 have r19 := ite_f r16 c17
 refine shW_skip (wsr (ua (shO_nil (shW_ret ?_))))
 refine qR1 results87 ?_
 obtain rfl := inj1 r19
 exact rfl
set_option maxHeartbeats 1000000 in
theorem slices_Compare_int_int_w {s1 s2 : List Int} (h_s1 : RowR 1 (iE .i64) F s1_a s1_c s1) (h_s2 : RowR 1 (iE .i64) F s2_a s2_c s2) {r : Int} (hr : slices_Compare_int_int s1 s2 = some r) :
    SpecV Tryz.prog 55 #[.slice s1_a s1.length s1_c, .slice s2_a s2.length s2_c] F (.int .i64 r) := by
 refine sp func55 ntmps55 fun K _ _ => ?_
 rw [slices_Compare_int_int] at hr
 refine wsr (ua (shO_nil ?_))
 refine shW_join (fun e1 F1 L1 => slices_Compare_int_int_j1 s1 s2 = some r ∧ F = F1 ∧ L1 = [] ∧ e1.sub [(0, .slice s1_a s1.length s1_c), (1, .slice s2_a s2.length s2_c)]) ?_ ?_
 ·refine wsr (um ?_)
  refine uv (v_lenS underlying35 rfl) ?_
  refine um (shO_nil ?_)
  refine shW_block ?_
  refine shW_lp (fun fu2 e1 F1 L1 => LA s1 fu2 fun tl k => slices_Compare_int_int_l2 s1 s2 tl k = some r ∧ F = F1 ∧ L1 = [] ∧ e1.sub [(0, .slice s1_a s1.length s1_c), (1, .slice s2_a s2.length s2_c), (9, .slice s1_a s1.length s1_c), (10, .int .i64 (s1.length : Int)), (11, .int .i64 k)]) _ (m0 kr ⟨_, _, rfl, Lst.start _, hr, rfl, rfl, z5⟩) ?_
  rintro fu2 e1 _ _ ⟨tl, k, hn2, hk1, r3, rfl, rfl, he4⟩
  refine shW_env _ he4 (wsr (uv (v_lssK rfl rfl) ?_))
  refine shO_nil (shW_seq ?_)
  refine cQ (fun c6 => ?_) fun c6 => ?_
  ·obtain ⟨x, tl2, rfl, hx8, g9, hk7⟩ := Lst.succ hk1 c6
   rw [slices_Compare_int_int_l2] at r3
   refine shW_skip (shW_seq ?_)
   refine shW_block ?_
   refine wsr (um ?_)
   obtain ⟨b10, o11, c12, vs13, ha14, hs15, hle16, rfl, hl17, hc18⟩ := RowR.at (iE_ok _) h_s1 ([]) g9.1 hx8
   refine uv (v_indexO underlying35 sizeOf3 rfl ha14 rfl g9) (uv (v_load isAgg3 rfl hs15 (hc18 0 (by decide))) ?_)
   refine ua (ua (shO_nil (shW_seq (wsr (um (um ?_))))))
   refine uv (v_lenS underlying35 rfl) (uv (v_geqK rfl rfl) (shO_nil ?_))
   refine cQ (fun c19 => ?_) fun c19 => ?_
   ·have r20 := ite_t r3 c19
    refine wsr (ua (shO_nil (shW_ret (andThen_ret (inBlock_ret (andThen_ret (andThen_ret (inBlock_ret (andThen_ret ?_)))))))))
    refine qR1 results55 ?_
    obtain rfl := inj1 r20
    exact rfl
   have r21 := ite_f r3 c19
   refine shW_skip (wsr (um (um ?_)))
   obtain ⟨x2, g22, hx23, r24⟩ := ix_ok r21
   obtain ⟨b25, o26, c27, vs28, ha29, hs30, hle31, rfl, hl32, hc33⟩ := RowR.at (iE_ok _) h_s2 ([]) g22.1 hx23
   refine uv (v_indexO underlying35 sizeOf3 rfl ha29 rfl g22) (uv (v_load isAgg3 rfl hs30 (hc33 0 (by decide))) ?_)
   refine ua (nsr (um (um ?_)))
   obtain ⟨n, h34, r35⟩ := b1_ok r24
   refine cV call87 (cmp_Compare_int_w h34) ?_
   refine ua (nsr (um ?_))
   refine uv (v_neq rfl rfl) (shO_nil ?_)
   refine cQ (fun c36 => ?_) fun c36 => ?_
   ·have r37 := ite_t r35 c36
    refine wsr (um (ua (shO_nil (shW_ret (inBlock_ret (andThen_ret (andThen_ret (inBlock_ret (andThen_ret ?_)))))))))
    refine qR1 results55 ?_
    obtain rfl := inj1 r37
    exact rfl
   have r38 := ite_f r35 c36
   refine shW_skip (inBlock_n (id := 1) (shW_region ?_))
   refine uv (v_add rfl rfl (Lst.r64 hk1 c6 (RowR.lt h_s1))) ?_
   refine um (shO_nil ?_)
   subst hn2; exact le kr ⟨_, _, rfl, hk7, r38, rfl, rfl, z5⟩
  obtain rfl := Lst.zero hk1 c6
  rw [slices_Compare_int_int_l2] at r3
  refine shW_exit (andThen_exit (andThen_exit ?_))
  refine inBlock_exit ?_
  exact mi kr ⟨r3, rfl, rfl, z2⟩
 rintro e1 _ _ ⟨r39, rfl, rfl, he40⟩
 refine shW_env _ he40 ?_
 rw [slices_Compare_int_int_j1] at r39
 refine shW_seq (wsr (um ?_))
 refine uv (v_lenS underlying35 rfl) (um (uv (v_lenS underlying35 rfl) (uv (v_lssK rfl rfl) (shO_nil ?_))))
 refine cQ (fun c41 => ?_) fun c41 => ?_
 ·have r42 := ite_t r39 c41
  refine wsr (ua (shO_nil (shW_ret (andThen_ret ?_))))
  refine qR1 results55 ?_
  obtain rfl := inj1 r42
  exact rfl
 have r43 := ite_f r39 c41
 refine shW_skip (wsr (ua (shO_nil (shW_ret ?_))))
 refine qR1 results55 ?_
 obtain rfl := inj1 r43
 exact rfl
end Go.Proofs.YtggpjocmoelpbaaGreat
