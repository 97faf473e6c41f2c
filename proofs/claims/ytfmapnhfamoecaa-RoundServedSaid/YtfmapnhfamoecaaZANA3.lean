/- The walks that this claim needs, printed by a program of mine; part 3. -/
import Derived.Test.YtfmapnhfamoecaaZANA2
namespace Go.Proofs.Ytfmapnhfamoecaa
open Go.SH Go.PL
set_option maxHeartbeats 1000000 in
theorem round_crier_excludes_1_w : ∀ (fu : Nat) {set_ : Int} {from_ : Int} {many : Int} {b_c : Nat} {b_c_ : Nat} {walks_a : Option Addr} {walks_c : Nat} {walks : List (List Int)} {hears_a : Option Addr} {hears_c : Nat} {hears : List (List Int)} {houses : Int} {start : Int} {notices_a : Option Addr} {notices_c : Nat} {notices : List ((List Int) × Int × Int)} {walks2 : List Int} {pairs_a : Option Addr} {pairs_c : Nat} {pairs : List (Int × Int)} {hit : List Int} {mb_c_ : Nat × Nat} {mb_c : Nat × Nat} {b_w : Nat} {ok_f : FuncId} {ok_1 : Array Value} {ok_2 : Array Value} {ok : (Int × Int) → Option Bool} {mb_w : Nat × Nat} {b_found : Nat} {found : Int} {b_more : Nat} {mb_more : Nat × Nat} {F : FS} (_ : F b_c = some (.cells #[.pointer (some ⟨b_c_, 0, none⟩)] 67 mb_c)) (_ : F b_c_ = some (.cells ((([.slice walks_a walks.length walks_c] : List Value) ++ (([.slice hears_a hears.length hears_c] : List Value) ++ (([.int .i64 houses] : List Value) ++ (([.int .i64 start] : List Value) ++ (([.slice notices_a notices.length notices_c] : List Value) ++ (walks2.flatMap (cI .i64) ++ (([.slice pairs_a pairs.length pairs_c] : List Value) ++ (hit.flatMap (cI .i64))))))))).toArray) 102 mb_c_)) (_ : RowR 1 (slE 1 (iE .i64)) F walks_a walks_c walks) (_ : RowR 1 (slE 1 (iE .i64)) F hears_a hears_c hears) (_ : RowR 3 (prE (slE 1 (iE .i64)) (prE (iE .i64) (iE .i64))) F notices_a notices_c notices) (_ : walks2.length = 25) (_ : RowR 2 (prE (iE .i64) (iE .i64)) F pairs_a pairs_c pairs) (_ : hit.length = 15) (_ : F b_w = some (.cells #[.func (.func ok_f) ok_1 ok_2] 76 mb_w)) (_ : FnR Try.prog F ok_f ok_1 ok_2 (prE (iE .i64) (iE .i64)) Value.bool ok) (_ : F b_more = some (.cells (#[.func (.func 81) #[] #[.pointer (some ⟨b_c, 0, none⟩), .pointer (some ⟨b_w, 0, none⟩), .pointer (some ⟨b_found, 0, none⟩), .pointer (some ⟨b_more, 0, none⟩)]]) 122 mb_more)) {r : Bool} {r2 : Int} , round_crier_excludes_1 fu set_ from_ many walks hears houses start notices walks2 pairs hit ok found = some (r, r2) → SH.Spec Try.prog 81 #[.int .i64 set_, .int .i64 from_, .int .i64 many, .pointer (some ⟨b_c, 0, none⟩), .pointer (some ⟨b_w, 0, none⟩), .pointer (some ⟨b_found, 0, none⟩), .pointer (some ⟨b_more, 0, none⟩)] F [(b_found, .cells #[.int .i64 found] 3 (0, 0))] fun _ L' v => v = .bool r ∧ L' = [(b_found, .cells #[.int .i64 r2] 3 (0, 0))] := by
  intro fu
  induction fu with
  | zero => intros; rename_i hr; rw [round_crier_excludes_1] at hr; cases hr
  | succ fu ih => intros; rename_i hr; rw [round_crier_excludes_1] at hr; exact round_crier_excludes_1B_w ih (by assumption) (by assumption) (by assumption) (by assumption) (by assumption) (by assumption) (by assumption) (by assumption) (by assumption) (by assumption) (by assumption) hr
set_option maxHeartbeats 1000000 in
theorem round_crier_excludes_w {b_c : Nat} {walks_a : Option Addr} {walks_c : Nat} {walks : List (List Int)} {hears_a : Option Addr} {hears_c : Nat} {hears : List (List Int)} {houses : Int} {start : Int} {notices_a : Option Addr} {notices_c : Nat} {notices : List ((List Int) × Int × Int)} {walks2 : List Int} {pairs_a : Option Addr} {pairs_c : Nat} {pairs : List (Int × Int)} {hit : List Int} {mb_c : Nat × Nat} {ok_f : FuncId} {ok_1 : Array Value} {ok_2 : Array Value} {ok : (Int × Int) → Option Bool} {F : FS} (hb_c : F b_c = some (.cells ((([.slice walks_a walks.length walks_c] : List Value) ++ (([.slice hears_a hears.length hears_c] : List Value) ++ (([.int .i64 houses] : List Value) ++ (([.int .i64 start] : List Value) ++ (([.slice notices_a notices.length notices_c] : List Value) ++ (walks2.flatMap (cI .i64) ++ (([.slice pairs_a pairs.length pairs_c] : List Value) ++ (hit.flatMap (cI .i64))))))))).toArray) 102 mb_c)) (h_walks : RowR 1 (slE 1 (iE .i64)) F walks_a walks_c walks) (h_hears : RowR 1 (slE 1 (iE .i64)) F hears_a hears_c hears) (h_notices : RowR 3 (prE (slE 1 (iE .i64)) (prE (iE .i64) (iE .i64))) F notices_a notices_c notices) (h_walks2 : walks2.length = 25) (h_pairs : RowR 2 (prE (iE .i64) (iE .i64)) F pairs_a pairs_c pairs) (h_hit : hit.length = 15) (h_ok : FnR Try.prog F ok_f ok_1 ok_2 (prE (iE .i64) (iE .i64)) Value.bool ok) {r : Int} (hr : round_crier_excludes walks hears houses start notices walks2 pairs hit ok = some r) :
    SpecV Try.prog 62 #[.pointer (some ⟨b_c, 0, none⟩), .agg #[.func (.func ok_f) ok_1 ok_2]] F (.int .i64 r) := by
 refine spec_of_shW (args := [.pointer (some ⟨b_c, 0, none⟩), .agg #[.func (.func ok_f) ok_1 ok_2]]) Try.func62 rfl Try.ntmps62 (Nat.le_of_ble_eq_true rfl) ?_
 intro K _ _; rw [round_crier_excludes] at hr
 refine wsr ?_
 refine o_box rfl rfl ?_; intro b1 hb1
 refine o_box rfl rfl ?_; intro b2 hb2
 refine oa rfl rfl (shO_nil ?_)
 refine shW_scope ?_
 refine wsr ?_
 refine o_alloc rfl Try.zeroValue3 ?_; intro b3 hb3
 refine o_store (i := 0) Try.sizeOf3 rfl rfl rfl rfl (Nat.le_of_ble_eq_true rfl) ?_
 refine shO_L (L' := [(b3, .cells #[.int .i64 0] 3 (0, 0)), (b2, .cells #[.func (.func ok_f) ok_1 ok_2] 76 (0, 0)), (b1, .cells #[.pointer (some ⟨b_c, 0, none⟩)] 67 (0, 0))]) rfl ?_
 refine shO_nil (shW_seq ?_)
 refine shW_label ?_
 obtain ⟨found, h4, r5⟩ := b1_ok hr; clear hr
 refine shW_join (fun e1 F1 L1 => FExt F F1 ∧ L1 = [(b3, .cells #[.int .i64 found] 3 (0, 0))] ∧ e1.sub [(5, .pointer (some ⟨b3, 0, none⟩))]) ?_ ?_
 · clear r5
   refine wsr ?_
   refine ov (v_load Try.isAgg67 rfl (Has.own 2 rfl) rfl) rfl ?_
   refine ov (v_nilCheck rfl) rfl ?_
   refine ov (v_fieldAddr fa_102_2 rfl) rfl ?_
   refine ov (v_load Try.isAgg44 rfl (Has.frozen hb_c) (li_cell (li_skip (A := ([.slice walks_a walks.length walks_c] : List Value)) (k := 1) (o := 29) rfl (li_skip (A := ([.slice hears_a hears.length hears_c] : List Value)) (k := 1) (o := 28) rfl (li_skip (A := ([.int .i64 houses] : List Value)) (k := 1) (o := 27) rfl (li_skip (A := ([.int .i64 start] : List Value)) (k := 1) (o := 26) rfl (li_skip (A := ([.slice notices_a notices.length notices_c] : List Value)) (k := 1) (o := 25) rfl (li_skip (A := walks2.flatMap (cI .i64)) (k := 25) (o := 0) (lfl (cI_ok .i64) h_walks2) (li_here (B := hit.flatMap (cI .i64)) rfl))))))))) rfl ?_
   refine ov (v_lenS Try.underlying44 rfl) rfl ?_
   obtain ⟨g6, r7⟩ := gd_ok h4; clear h4
   refine ov (v_add rfl rfl g6) rfl ?_
   refine om rfl rfl (shO_nil ?_)
   refine shW_block ?_
   refine shW_freeze 2 rfl hb1 ?_; intro F8 hF9 hz10
   refine shW_L (L' := [(b3, .cells #[.int .i64 0] 3 (0, 0)), (b2, .cells #[.func (.func ok_f) ok_1 ok_2] 76 (0, 0))]) rfl ?_
   replace h_walks := h_walks.mono (slE_ok (iE_ok _)) hF9
   replace h_hears := h_hears.mono (slE_ok (iE_ok _)) hF9
   replace h_notices := h_notices.mono (prE_ok (slE_ok (iE_ok _)) (prE_ok (iE_ok _) (iE_ok _))) hF9
   replace h_pairs := h_pairs.mono (prE_ok (iE_ok _) (iE_ok _)) hF9
   replace h_ok := h_ok.mono hF9
   replace hb_c := hF9 _ _ hb_c
   refine shW_freeze 1 rfl hb2 ?_; intro F11 hF12 hz13
   refine shW_L (L' := [(b3, .cells #[.int .i64 0] 3 (0, 0))]) rfl ?_
   replace h_walks := h_walks.mono (slE_ok (iE_ok _)) hF12
   replace h_hears := h_hears.mono (slE_ok (iE_ok _)) hF12
   replace h_notices := h_notices.mono (prE_ok (slE_ok (iE_ok _)) (prE_ok (iE_ok _) (iE_ok _))) hF12
   replace h_pairs := h_pairs.mono (prE_ok (iE_ok _) (iE_ok _)) hF12
   replace h_ok := h_ok.mono hF12
   replace hb_c := hF12 _ _ hb_c
   replace hz10 := hF12 _ _ hz10
   obtain ⟨g14, r15⟩ := gd_ok r7; clear r7
   refine shW_lpF (fun fu1 e1 F1 L1 => ∃ (k : Int), Ctr 0 ((pairs.length : Int) + 1) k fu1 ∧ ∃ (found2 : Int), round_crier_excludes_l1 walks hears houses start notices walks2 pairs hit ok fu1 k found2 = some found ∧ FExt F11 F1 ∧ L1 = [(b3, .cells #[.int .i64 found2] 3 (0, 0))] ∧ e1.sub [(2, .pointer (some ⟨b1, 0, none⟩)), (3, .pointer (some ⟨b2, 0, none⟩)), (5, .pointer (some ⟨b3, 0, none⟩)), (13, .int .i64 ((pairs.length : Int) + 1)), (14, .int .i64 k)]) _ (m0 kr ⟨_, Ctr.start _ _, 0, r15, FExt.refl _, rfl, (sc rfl (sc rfl (sc rfl (sc rfl (sc rfl (sn _))))))⟩) ?_
   rintro fu1 e1 F20 _ ⟨k, hk16, found2, r18, hF21, rfl, he19⟩
   refine shW_env _ he19 ?_; clear he19
   replace h_walks := h_walks.mono (slE_ok (iE_ok _)) hF21
   replace h_hears := h_hears.mono (slE_ok (iE_ok _)) hF21
   replace h_notices := h_notices.mono (prE_ok (slE_ok (iE_ok _)) (prE_ok (iE_ok _) (iE_ok _))) hF21
   replace h_pairs := h_pairs.mono (prE_ok (iE_ok _) (iE_ok _)) hF21
   replace h_ok := h_ok.mono hF21
   replace hb_c := hF21 _ _ hb_c
   replace hz10 := hF21 _ _ hz10
   replace hz13 := hF21 _ _ hz13
   refine wsr ?_
   refine ov (v_lssK rfl rfl) rfl ?_
   refine shO_nil (shW_seq ?_)
   refine shW_condP rfl (fun c23 => ?_) (fun c23 => ?_)
   · obtain ⟨fu1, rfl, hk24⟩ := Ctr.succ hk16 c23
     rw [round_crier_excludes_l1] at r18
     refine shW_skip (shW_seq ?_)
     refine shW_block ?_
     refine wsr (om rfl rfl (oa rfl rfl (nsr ?_)))
     refine o_alloc rfl Try.zeroValue122 ?_; intro b25 hb25
     refine nsr ?_
     refine ov (v_makeFunc rfl rfl) rfl ?_
     refine o_store (i := 0) Try.sizeOf122 rfl rfl rfl rfl (Nat.le_of_ble_eq_true rfl) ?_
     refine shO_L (L' := [(b25, .cells (#[.func (.func 81) #[] #[.pointer (some ⟨b1, 0, none⟩), .pointer (some ⟨b2, 0, none⟩), .pointer (some ⟨b3, 0, none⟩), .pointer (some ⟨b25, 0, none⟩)]]) 122 (0, 0)), (b3, .cells #[.int .i64 found2] 3 (0, 0))]) rfl ?_
     refine nsr ?_
     refine ov (v_load Try.isAgg122 rfl (Has.own 0 rfl) rfl) rfl ?_
     refine om rfl rfl ?_
     refine shO_freeze 0 rfl hb25 ?_; intro F26 hF27 hz28
     refine shO_L (L' := [(b3, .cells #[.int .i64 found2] 3 (0, 0))]) rfl ?_
     replace h_walks := h_walks.mono (slE_ok (iE_ok _)) hF27
     replace h_hears := h_hears.mono (slE_ok (iE_ok _)) hF27
     replace h_notices := h_notices.mono (prE_ok (slE_ok (iE_ok _)) (prE_ok (iE_ok _) (iE_ok _))) hF27
     replace h_pairs := h_pairs.mono (prE_ok (iE_ok _) (iE_ok _)) hF27
     replace h_ok := h_ok.mono hF27
     replace hb_c := hF27 _ _ hb_c
     replace hz10 := hF27 _ _ hz10
     replace hz13 := hF27 _ _ hz13
     obtain ⟨ok2, found3, h29, r30⟩ := b2_ok r18; clear r18
     refine o_callG (Lb := [(b3, .cells #[.int .i64 found2] 3 (0, 0))]) (Lr := []) rfl Try.call81 rfl rfl rfl (pR) ((round_crier_excludes_1_w FU) hz10 hb_c h_walks h_hears h_notices h_walks2 h_pairs h_hit hz13 h_ok hz28 h29) ?_; rintro _ F31 _ hF32 hd34 hn33 ⟨rfl, rfl⟩
     refine shO_L (lb (ln rfl)) ?_
     refine shO_nil ?_
     refine shW_cond rfl (fun c35 => ?_) (fun c35 => ?_)
     · have r36 := bt r30 c35; clear r30
       refine shW_exit ?_
       refine inBlock_other rfl ?_
       refine andThen_exit (andThen_exit ?_)
       refine inBlock_exit ?_
       obtain rfl := inj1 r36
       exact mi kr ⟨((((hF9.trans hF12).trans hF21).trans hF27).trans hF32), rfl, (sc rfl (sn _))⟩
     have r37 := bf r30 c35; clear r30
     refine shW_skip (inBlock_n (id := 1) (shW_region ?_))
     refine ov (v_add rfl rfl (Ctr.r64 hk16 c23 g14)) rfl ?_
     refine om rfl rfl (shO_nil ?_)
     refine lf ?_
     exact mf kr ⟨_, hk24, found3, r37, ((hF21.trans hF27).trans hF32), rfl, (sc rfl (sc rfl (sc rfl (sc rfl (sc rfl (sn _))))))⟩
   obtain rfl := Ctr.zero hk16 c23
   rw [round_crier_excludes_l1] at r18
   refine shW_exit (andThen_exit (andThen_exit ?_))
   refine inBlock_exit ?_
   obtain rfl := inj1 r18
   exact mi kr ⟨((hF9.trans hF12).trans hF21), rfl, (sc rfl (sn _))⟩
 rintro e1 F39 _ ⟨hF40, rfl, he38⟩
 refine shW_env _ he38 ?_; clear he38
 refine wsr ?_
 refine ov (v_load Try.isAgg3 rfl (Has.own 0 rfl) rfl) rfl ?_
 refine oa rfl rfl (shO_nil ?_)
 refine kW kn ?_
 refine shW_ret (noGoto_ret ?_)
 refine q_res1 Try.results62 (res_tmp rfl) (sr) ?_
 obtain rfl := inj1 r5
 exact rfl
set_option maxHeartbeats 1000000 in
theorem round_Before_w {walks_a : Option Addr} {walks_c : Nat} {walks : List (List Int)} {hears_a : Option Addr} {hears_c : Nat} {hears : List (List Int)} {houses : Int} {start : Int} {notices_a : Option Addr} {notices_c : Nat} {notices : List ((List Int) × Int × Int)} {minute : Int} {F : FS} (h_walks : RowR 1 (slE 1 (iE .i64)) F walks_a walks_c walks) (h_hears : RowR 1 (slE 1 (iE .i64)) F hears_a hears_c hears) (h_notices : RowR 3 (prE (slE 1 (iE .i64)) (prE (iE .i64) (iE .i64))) F notices_a notices_c notices) {r : List (Int × Int)} {r2 : Int} (hr : round_Before walks hears houses start notices minute = some (r, r2)) :
    SH.Spec Try.prog 37 #[.agg #[.slice walks_a walks.length walks_c, .slice hears_a hears.length hears_c, .int .i64 houses, .int .i64 start, .slice notices_a notices.length notices_c], .int .i64 minute] F [] fun F' L' v => ∃ (ra : Option Addr) (rn : Nat) (rc : Nat) (rL : LH), v = .tuple #[.slice ra rn rc, .int .i64 r2] ∧ L' = rL ++ [] ∧ SlR 0 54 2 (prE (iE .i64) (iE .i64)) F' ra rn rc r rL := by
 refine spec_of_shW (args := [.agg #[.slice walks_a walks.length walks_c, .slice hears_a hears.length hears_c, .int .i64 houses, .int .i64 start, .slice notices_a notices.length notices_c], .int .i64 minute]) Try.func37 rfl Try.ntmps37 (Nat.le_of_ble_eq_true rfl) ?_
 intro K _ _; rw [round_Before] at hr
 refine wsr ?_
 refine o_box rfl rfl ?_; intro b1 hb1
 refine oa rfl rfl (oa rfl rfl (nsr ?_))
 refine ov (v_loadA (cs := #[.slice walks_a walks.length walks_c, .slice hears_a hears.length hears_c, .int .i64 houses, .int .i64 start, .slice notices_a notices.length notices_c]) Try.isAgg26 Try.sizeOf26 rfl (Has.own 0 rfl) (Nat.le_of_ble_eq_true rfl) rfl) rfl ?_
 obtain ⟨d, n, h2, r3⟩ := b2_ok hr; clear hr
 refine o_call0 rfl Try.call26 rfl rfl rfl (round_opened_w h_walks h_hears h_notices h2) ?_; rintro _ F4 _ hF5 hn6 ⟨v8, rfl, rfl, hp9⟩
 refine shO_L (ln rfl) ?_
 refine om rfl rfl (ox rfl rfl rfl (ox rfl rfl rfl (oa rfl rfl (oa rfl rfl (shO_nil (shW_seq ?_))))))
 refine shW_block ?_
 refine wsr (om rfl rfl ?_)
 refine ov (v_neq rfl rfl) rfl ?_
 refine oa rfl rfl (shO_nil ?_)
 refine shW_condP rfl (fun c10 => ?_) (fun c10 => ?_)
 · have r11 := ite_t r3 c10; clear r3
   refine wsr (om rfl rfl (oa rfl rfl (oa rfl rfl (shO_nil ?_))))
   refine kW kn ?_
   refine shW_ret (inBlock_ret (andThen_ret ?_))
   refine q_res2 Try.results37 (res_tmp rfl) (res_tmp rfl) (sr) ?_
   obtain ⟨rfl, rfl⟩ := inj2 r11
   exact ⟨_, _, _, [], rfl, rfl, SlR.nil _ _ _ _ _⟩
 have r12 := ite_f r3 c10; clear r3
 refine wsr (om rfl rfl ?_)
 obtain ⟨ok, h13, r14⟩ := b1_ok r12; clear r12
 refine o_callV rfl Try.call60 rfl rfl rfl (round_in_w h13) ?_
 refine ov (v_notB rfl) rfl ?_
 refine oa rfl rfl (shO_nil ?_)
 refine shW_cond rfl (fun c15 => ?_) (fun c15 => ?_)
 · have r16 := bt r14 c15; clear r14
   refine wsr (oa rfl rfl (oa rfl rfl (shO_nil ?_)))
   refine kW kn ?_
   refine shW_ret (inBlock_ret (andThen_ret ?_))
   refine q_res2 Try.results37 (res_tmp rfl) (res_tmp rfl) (sr) ?_
   obtain ⟨rfl, rfl⟩ := inj2 r16
   exact ⟨_, _, _, [], rfl, rfl, SlR.nil _ _ _ _ _⟩
 have r17 := bf r14 c15; clear r14
 refine shW_skip (inBlock_n (id := 0) (wsr (om rfl rfl (om rfl rfl ?_))))
 obtain ⟨walks2, hears2, houses2, start2, notices2, walks3, pairs, hit, h18, r19⟩ := b8_ok r17; clear r17
 have h39 := hp9; rw [h18] at h39; obtain ⟨b20, c21, m22, hv23, hz24, ⟨_, _, rfl, ⟨a25, c26, rfl, h27⟩, ⟨_, _, rfl, ⟨a28, c29, rfl, h30⟩, ⟨_, _, rfl, rfl, ⟨_, _, rfl, rfl, ⟨_, _, rfl, ⟨a31, c32, rfl, h33⟩, ⟨_, _, rfl, ⟨rfl, h34⟩, ⟨_, _, rfl, ⟨a35, c36, rfl, h37⟩, ⟨rfl, h38⟩⟩⟩⟩⟩⟩⟩⟩⟩ := h39; subst hv23
 have hz24 : F4 b20 = some (.cells ((([.slice a25 walks2.length c26] : List Value) ++ (([.slice a28 hears2.length c29] : List Value) ++ (([.int .i64 houses2] : List Value) ++ (([.int .i64 start2] : List Value) ++ (([.slice a31 notices2.length c32] : List Value) ++ (walks3.flatMap (cI .i64) ++ (([.slice a35 pairs.length c36] : List Value) ++ (hit.flatMap (cI .i64))))))))).toArray) 102 m22) := hz24
 obtain ⟨y, h40, r41⟩ := b1_ok r19; clear r19
 refine o_call0 rfl Try.call58 rfl rfl rfl (round_crier_by_w hz24 h27 h30 h33 h34 h37 h38 h40) ?_; rintro _ F42 _ hF43 hn44 ⟨fi46, fc47, cp48, rfl, rfl, hit49⟩
 replace h27 := h27.mono (slE_ok (iE_ok _)) hF43
 replace h30 := h30.mono (slE_ok (iE_ok _)) hF43
 replace h33 := h33.mono (prE_ok (slE_ok (iE_ok _)) (prE_ok (iE_ok _) (iE_ok _))) hF43
 replace h37 := h37.mono (prE_ok (iE_ok _) (iE_ok _)) hF43
 replace hz24 := hF43 _ _ hz24
 refine shO_L (ln rfl) ?_
 refine o_alloc rfl Try.zeroValue76 ?_; intro b50 hb50
 refine o_storeA (i := 0) Try.sizeOf76 rfl rfl rfl (by simp [Value.oneCell']) rfl (Nat.le_of_ble_eq_true rfl) ?_
 refine shO_L (L' := [(b50, .cells #[.func (.func fi46) fc47 cp48] 76 (0, 0)), (b1, .cells #[.slice walks_a walks.length walks_c, .slice hears_a hears.length hears_c, .int .i64 houses, .int .i64 start, .slice notices_a notices.length notices_c] 26 (0, 0))]) rfl ?_
 refine shO_nil (shW_seq (shW_seq ?_))
 refine shW_drawM [(.still, 0), (.still, 1), (.still, 3), (.seq, 2), (.seq, 4), (.still, 5), (.still, 6), (.still, 7), (.still, 8), (.still, 9), (.still, 10), (.still, 11)] (by kernel_rfl) (by kernel_rfl) (trivial) (by rfl) (by kernel_rfl) ?_
 refine shM_v (v := .pointer (some ⟨b20, 0, none⟩)) (ek := [(6, .pointer (some ⟨b20, 0, none⟩))]) (Ls := []) rfl rfl rfl rfl ((sc rfl (sn _))) (by kernel_rfl) sm (fun H F' L' hF' hL' => v_move rfl) ?_
 refine shM_v (v := .pointer (some ⟨b20, 0, none⟩)) (ek := [(6, .pointer (some ⟨b20, 0, none⟩))]) (Ls := []) rfl rfl rfl rfl ((sc rfl (sn _))) (by kernel_rfl) sm (fun H F' L' hF' hL' => v_move rfl) ?_
 refine shM_v (v := .agg #[.func (.func fi46) fc47 cp48]) (ek := [(8, .pointer (some ⟨b50, 0, none⟩))]) (Ls := [(b50, .cells #[.func (.func fi46) fc47 cp48] 76 (0, 0))]) rfl rfl rfl rfl ((sc rfl (sn _))) (by kernel_rfl) (s0 (s2 (s1 sr))) (fun H F' L' hF' hL' => v_loadA (cs := #[.func (.func fi46) fc47 cp48]) Try.isAgg76 Try.sizeOf76 rfl ((Has.own 0 rfl).ext hF' hL') (Nat.le_of_ble_eq_true rfl) rfl) ?_
 refine ⟨_, [(30, .pointer (some ⟨b20, 0, none⟩))], rfl, rfl, (sc rfl (sn _)), by kernel_rfl, ?_⟩; intro H
 obtain ⟨n2, h51, r52⟩ := b1_ok r41; clear r41
 refine o_callV rfl Try.call30 rfl rfl rfl (round_crier_all_w hz24 h27 h30 h33 h34 h37 h38 h51) ?_
 refine shO_nil ⟨_, rfl, FExt.refl _, [3, 0], by kernel_rfl, .inl (.inr (fun d h => by cases h; rfl)), (List.forall_mem_cons.2 ⟨s0 (s2 (s1 sr)), (List.forall_mem_cons.2 ⟨sm, (fun _ h => absurd h List.not_mem_nil)⟩)⟩), ?_⟩
 refine ⟨_, [(29, .pointer (some ⟨b20, 0, none⟩)), (31, .int .i64 n2), (32, .agg #[.func (.func fi46) fc47 cp48])], rfl, rfl, (sc rfl (sc rfl (sc rfl (sn _)))), by kernel_rfl, ?_⟩; intro H
 obtain ⟨l, n3, ok2, h53, r54⟩ := b3_ok r52; clear r52
 refine o_call0 rfl Try.call27 rfl rfl rfl (round_crier_serve_w hz24 h27 h30 h33 h34 h37 h38 hit49 h53) ?_; rintro _ F55 _ hF56 hn57 ⟨a59, n63, c60, Lb61, rfl, rfl, hz62⟩
 replace h27 := h27.mono (slE_ok (iE_ok _)) hF56
 replace h30 := h30.mono (slE_ok (iE_ok _)) hF56
 replace h33 := h33.mono (prE_ok (slE_ok (iE_ok _)) (prE_ok (iE_ok _) (iE_ok _))) hF56
 replace h37 := h37.mono (prE_ok (iE_ok _) (iE_ok _)) hF56
 replace hit49 := hit49.mono hF56
 replace hz24 := hF56 _ _ hz24
 refine shO_L (lp (ln rfl)) ?_
 refine kO (kf (fS fO) (kf (fS fO) kr)) ?_
 refine shO_nil ⟨_, rfl, hF56, [], by kernel_rfl, .inl (.inl rfl), (fun _ h => absurd h List.not_mem_nil), ?_⟩
 refine shM_v (v := .tuple #[.slice a59 n63 c60, .int .i64 n3, .bool ok2]) (ek := [(33, .tuple #[.slice a59 n63 c60, .int .i64 n3, .bool ok2])]) (Ls := []) rfl rfl rfl rfl ((sc rfl (sn _))) (by kernel_rfl) sm (fun H F' L' hF' hL' => v_move rfl) ?_
 refine shM_v (v := .slice a59 n63 c60) (ek := [(28, .tuple #[.slice a59 n63 c60, .int .i64 n3, .bool ok2])]) (Ls := []) rfl rfl rfl rfl ((sc rfl (sn _))) (by kernel_rfl) sm (fun H F' L' hF' hL' => v_extract rfl rfl) ?_
 refine shM_v (v := .int .i64 n3) (ek := [(28, .tuple #[.slice a59 n63 c60, .int .i64 n3, .bool ok2])]) (Ls := []) rfl rfl rfl rfl ((sc rfl (sn _))) (by kernel_rfl) sm (fun H F' L' hF' hL' => v_extract rfl rfl) ?_
 refine shM_v (v := .bool ok2) (ek := [(28, .tuple #[.slice a59 n63 c60, .int .i64 n3, .bool ok2])]) (Ls := []) rfl rfl rfl rfl ((sc rfl (sn _))) (by kernel_rfl) sm (fun H F' L' hF' hL' => v_extract rfl rfl) ?_
 refine shM_v (v := .slice a59 n63 c60) (ek := [(34, .slice a59 n63 c60)]) (Ls := []) rfl rfl rfl rfl ((sc rfl (sn _))) (by kernel_rfl) sm (fun H F' L' hF' hL' => v_assign rfl) ?_
 refine shM_v (v := .int .i64 n3) (ek := [(35, .int .i64 n3)]) (Ls := []) rfl rfl rfl rfl ((sc rfl (sn _))) (by kernel_rfl) sm (fun H F' L' hF' hL' => v_assign rfl) ?_
 refine shM_v (v := .bool ok2) (ek := [(36, .bool ok2)]) (Ls := []) rfl rfl rfl rfl ((sc rfl (sn _))) (by kernel_rfl) sm (fun H F' L' hF' hL' => v_assign rfl) ?_
 refine shM_nil ?_
 refine wsr (om rfl rfl (shO_nil ?_))
 refine shW_cond rfl (fun c65 => ?_) (fun c65 => ?_)
 · have r66 := bt r54 c65; clear r54
   refine wsr (oa rfl rfl (oa rfl rfl (shO_nil ?_)))
   refine kW kn ?_
   refine shW_ret (andThen_ret ?_)
   refine q_res2 Try.results37 (res_tmp rfl) (res_tmp rfl) (sr) ?_
   obtain ⟨rfl, rfl⟩ := inj2 r66
   exact ⟨_, _, _, [], rfl, rfl, SlR.nil _ _ _ _ _⟩
 have r67 := bf r54 c65; clear r54
 refine shW_skip (wsr (om rfl rfl (om rfl rfl ?_)))
 refine ov (v_loadA (cs := #[.func (.func fi46) fc47 cp48]) Try.isAgg76 Try.sizeOf76 rfl (Has.own 0 rfl) (Nat.le_of_ble_eq_true rfl) rfl) rfl ?_
 obtain ⟨n4, h68, r69⟩ := b1_ok r67; clear r67
 refine o_callV rfl Try.call62 rfl rfl rfl (round_crier_excludes_w hz24 h27 h30 h33 h34 h37 h38 hit49 h68) ?_
 obtain ⟨l2, h70, r71⟩ := b1_ok r69; clear r69
 refine o_call0 rfl Try.call61 rfl rfl rfl (round_crier_chosen_w hz24 h27 h30 h33 h34 h37 h38 h70) ?_; rintro _ F72 _ hF73 hn74 ⟨a76, n80, c77, Lb78, rfl, rfl, hz79⟩
 replace hz79 := hz79.new fun p hp => hn74 p (by simp [hp])
 refine shO_L (lp (ln rfl)) ?_
 refine kO (kf (fS fO) (kf (fS fO) kr)) ?_
 refine oa rfl rfl (oa rfl rfl (shO_nil ?_))
 refine kW (kd (kd (ka kn))) ?_
 refine shW_ret ?_
 refine q_res2 Try.results37 (res_tmp rfl) (res_tmp rfl) (sr) ?_
 obtain ⟨rfl, rfl⟩ := inj2 r71
 exact ⟨_, _, _, _, rfl, rfl, hz79.any⟩
set_option maxHeartbeats 1000000 in
theorem slices_Equal_round_Pair_round_Pair_w {s1_a : Option Addr} {s1_c : Nat} {s1 : List (Int × Int)} {s2_a : Option Addr} {s2_c : Nat} {s2 : List (Int × Int)} {F : FS} (h_s1 : RowR 2 (prE (iE .i64) (iE .i64)) F s1_a s1_c s1) (h_s2 : RowR 2 (prE (iE .i64) (iE .i64)) F s2_a s2_c s2) {r : Bool} (hr : slices_Equal_round_Pair_round_Pair s1 s2 = some r) :
    SpecV Try.prog 63 #[.slice s1_a s1.length s1_c, .slice s2_a s2.length s2_c] F (.bool r) := by
 refine spec_of_shW (args := [.slice s1_a s1.length s1_c, .slice s2_a s2.length s2_c]) Try.func63 rfl Try.ntmps63 (Nat.le_of_ble_eq_true rfl) ?_
 intro K _ _; rw [slices_Equal_round_Pair_round_Pair] at hr
 refine wsr (oa rfl rfl (shO_nil (shW_seq (wsr (om rfl rfl ?_)))))
 refine ov (v_lenS Try.underlying44 rfl) rfl ?_
 refine om rfl rfl ?_
 refine ov (v_lenS Try.underlying44 rfl) rfl ?_
 refine ov (v_neq rfl rfl) rfl ?_
 refine shO_nil ?_
 refine shW_condP rfl (fun c1 => ?_) (fun c1 => ?_)
 · have r2 := ite_t hr c1; clear hr
   refine wsr (oa rfl rfl (shO_nil (shW_ret (andThen_ret ?_))))
   refine q_res1 Try.results63 (res_tmp rfl) (sr) ?_
   obtain rfl := inj1 r2
   exact rfl
 have r3 := ite_f hr c1; clear hr
 refine shW_skip ?_
 refine shW_join (fun e1 F1 L1 => slices_Equal_round_Pair_round_Pair_j1 = some r ∧ F = F1 ∧ L1 = [] ∧ e1.sub []) ?_ ?_
 · refine wsr (om rfl rfl ?_)
   refine ov (v_lenS Try.underlying44 rfl) rfl ?_
   refine om rfl rfl (shO_nil ?_)
   refine shW_block ?_
   refine shW_lp (fun fu2 e1 F1 L1 => ∃ (tl : List (Int × Int)) (k : Int), tl.length = fu2 ∧ Lst s1 k tl ∧ slices_Equal_round_Pair_round_Pair_l2 s2 tl k = some r ∧ F = F1 ∧ L1 = [] ∧ e1.sub [(0, .slice s1_a s1.length s1_c), (1, .slice s2_a s2.length s2_c), (12, .int .i64 (s1.length : Int)), (13, .int .i64 k)]) _ (m0 kr ⟨_, _, rfl, Lst.start _, r3, rfl, rfl, (sc rfl (sc rfl (sc rfl (sc rfl (sn _)))))⟩) ?_
   rintro fu2 e1 _ _ ⟨tl, k, hn5, hk4, r6, rfl, rfl, he7⟩
   refine shW_env _ he7 ?_; clear he7
   refine wsr ?_
   refine ov (v_lssK rfl rfl) rfl ?_
   refine shO_nil (shW_seq ?_)
   refine shW_condP rfl (fun c9 => ?_) (fun c9 => ?_)
   · obtain ⟨x, tl2, rfl, hx11, g12, hk10⟩ := Lst.succ hk4 c9
     rw [slices_Equal_round_Pair_round_Pair_l2] at r6
     refine shW_skip (shW_seq ?_)
     refine shW_block ?_
     refine wsr (om rfl rfl (oa rfl rfl ?_))
     refine nsd (by kernel_rfl) (by kernel_rfl) (by kernel_rfl) ?_
     refine qm rfl rfl (qm rfl rfl ?_)
     obtain ⟨b13, o14, c15, vs16, ha17, hs18, hle19, ⟨_, _, rfl, rfl, rfl⟩, hl20, hc21⟩ := RowR.at (prE_ok (iE_ok _) (iE_ok _)) h_s1 ([]) g12.1 hx11
     refine qv (v_indexO Try.underlying44 Try.sizeOf54 rfl ha17 rfl g12) rfl ?_
     refine qv (v_loadA (cs := #[.int .i64 x.1, .int .i64 x.2]) Try.isAgg54 Try.sizeOf54 rfl hs18 hle19 (extract_cells hle19 hl20 hc21)) rfl ?_
     refine qm rfl rfl (qm rfl rfl ?_)
     obtain ⟨x2, g22, hx23, r24⟩ := ix_ok r6; clear r6
     obtain ⟨b25, o26, c27, vs28, ha29, hs30, hle31, ⟨_, _, rfl, rfl, rfl⟩, hl32, hc33⟩ := RowR.at (prE_ok (iE_ok _) (iE_ok _)) h_s2 ([]) g22.1 hx23
     refine qv (v_indexO Try.underlying44 Try.sizeOf54 rfl ha29 rfl g22) rfl ?_
     refine qv (v_loadA (cs := #[.int .i64 x2.1, .int .i64 x2.2]) Try.isAgg54 Try.sizeOf54 rfl hs30 hle31 (extract_cells hle31 hl32 hc33)) rfl ?_
     refine qv (v_neA (eqgn_54 _ _ _ _) (fun w => ne_of_eq (eq_54 _ _ _ _ w)) rfl rfl) rfl ?_
     refine shQ_nil ?_
     refine shW_condP rfl (fun c34 => ?_) (fun c34 => ?_)
     · have r35 := ite_t r24 c34; clear r24
       refine wsr (oa rfl rfl (shO_nil (shW_ret (inBlock_ret (andThen_ret (andThen_ret (inBlock_ret (andThen_ret ?_))))))))
       refine q_res1 Try.results63 (res_tmp rfl) (sr) ?_
       obtain rfl := inj1 r35
       exact rfl
     have r36 := ite_f r24 c34; clear r24
     refine shW_skip (inBlock_n (id := 1) (shW_region ?_))
     refine ov (v_add rfl rfl (Lst.r64 hk4 c9 (RowR.lt h_s1))) rfl ?_
     refine om rfl rfl (shO_nil ?_)
     subst hn5; exact le kr ⟨_, _, rfl, hk10, r36, rfl, rfl, (sc rfl (sc rfl (sc rfl (sc rfl (sn _)))))⟩
   obtain rfl := Lst.zero hk4 c9
   rw [slices_Equal_round_Pair_round_Pair_l2] at r6
   refine shW_exit (andThen_exit (andThen_exit ?_))
   refine inBlock_exit ?_
   exact mi kr ⟨r6, rfl, rfl, (sn _)⟩
 rintro e1 _ _ ⟨r37, rfl, rfl, he38⟩
 refine shW_env _ he38 ?_; clear he38
 rw [slices_Equal_round_Pair_round_Pair_j1] at r37
 refine wsr (oa rfl rfl (shO_nil (shW_ret ?_)))
 refine q_res1 Try.results63 (res_tmp rfl) (sr) ?_
 obtain rfl := inj1 r37
 exact rfl
set_option maxHeartbeats 1000000 in
theorem oyezkit_Like_Pair_w {a_a : Option Addr} {a_c : Nat} {a : List (Int × Int)} {b_a : Option Addr} {b_c : Nat} {b : List (Int × Int)} {F : FS} (h_a : RowR 2 (prE (iE .i64) (iE .i64)) F a_a a_c a) (h_b : RowR 2 (prE (iE .i64) (iE .i64)) F b_a b_c b) {r : Bool} (hr : oyezkit_Like_Pair a b = some r) :
    SpecV Try.prog 38 #[.slice a_a a.length a_c, .slice b_a b.length b_c] F (.bool r) := by
 refine spec_of_shW (args := [.slice a_a a.length a_c, .slice b_a b.length b_c]) Try.func38 rfl Try.ntmps38 (Nat.le_of_ble_eq_true rfl) ?_
 intro K _ _; rw [oyezkit_Like_Pair] at hr
 refine wsr (oa rfl rfl (nsr (om rfl rfl (om rfl rfl ?_))))
 obtain ⟨ok, h1, r2⟩ := b1_ok hr; clear hr
 refine o_callV rfl Try.call63 rfl rfl rfl (slices_Equal_round_Pair_round_Pair_w h_a h_b h1) ?_
 refine oa rfl rfl (shO_nil (shW_ret ?_))
 refine q_res1 Try.results38 (res_tmp rfl) (sr) ?_
 obtain rfl := inj1 r2
 exact rfl
set_option maxHeartbeats 1000000 in
theorem round_Hurry_1_1_w {n : Int} {minute : Int} {b_x : Nat} {x : Int} {mb_x : Nat × Nat} {b_x_ : Nat} {x2 : Int} {mb_x_ : Nat × Nat} {b_x__ : Nat} {b_x___ : Nat} {walks_a : Option Addr} {walks_c : Nat} {walks : List (List Int)} {hears_a : Option Addr} {hears_c : Nat} {hears : List (List Int)} {houses : Int} {start : Int} {notices_a : Option Addr} {notices_c : Nat} {notices : List ((List Int) × Int × Int)} {walks2 : List Int} {pairs_a : Option Addr} {pairs_c : Nat} {pairs : List (Int × Int)} {hit : List Int} {mb_x___ : Nat × Nat} {mb_x__ : Nat × Nat} {F : FS} (hb_x : F b_x = some (.cells #[.int .i64 x] 3 mb_x)) (hb_x_ : F b_x_ = some (.cells #[.int .i64 x2] 3 mb_x_)) (hb_x__ : F b_x__ = some (.cells #[.pointer (some ⟨b_x___, 0, none⟩)] 67 mb_x__)) (hb_x___ : F b_x___ = some (.cells ((([.slice walks_a walks.length walks_c] : List Value) ++ (([.slice hears_a hears.length hears_c] : List Value) ++ (([.int .i64 houses] : List Value) ++ (([.int .i64 start] : List Value) ++ (([.slice notices_a notices.length notices_c] : List Value) ++ (walks2.flatMap (cI .i64) ++ (([.slice pairs_a pairs.length pairs_c] : List Value) ++ (hit.flatMap (cI .i64))))))))).toArray) 102 mb_x___)) (_h_walks : RowR 1 (slE 1 (iE .i64)) F walks_a walks_c walks) (_h_hears : RowR 1 (slE 1 (iE .i64)) F hears_a hears_c hears) (h_notices : RowR 3 (prE (slE 1 (iE .i64)) (prE (iE .i64) (iE .i64))) F notices_a notices_c notices) (_h_walks2 : walks2.length = 25) (_h_pairs : RowR 2 (prE (iE .i64) (iE .i64)) F pairs_a pairs_c pairs) (_h_hit : hit.length = 15) {r : Bool} (hr : round_Hurry_1_1 n minute x x2 walks hears houses start notices walks2 pairs hit = some r) :
    SpecV Try.prog 66 #[.int .i64 n, .int .i64 minute, .pointer (some ⟨b_x, 0, none⟩), .pointer (some ⟨b_x_, 0, none⟩), .pointer (some ⟨b_x__, 0, none⟩)] F (.bool r) := by
 refine spec_of_shW (args := [.int .i64 n, .int .i64 minute, .pointer (some ⟨b_x, 0, none⟩), .pointer (some ⟨b_x_, 0, none⟩), .pointer (some ⟨b_x__, 0, none⟩)]) Try.func66 rfl Try.ntmps66 (Nat.le_of_ble_eq_true rfl) ?_
 intro K _ _; rw [round_Hurry_1_1] at hr
 refine wsr (oa rfl rfl (nsr (om rfl rfl ?_)))
 refine ov (v_load Try.isAgg3 rfl (Has.frozen hb_x) rfl) rfl ?_
 refine ov (v_eql rfl rfl) rfl ?_
 refine om rfl rfl ?_
 by_cases c1 : n = x
 · have r2 := ite_t hr c1; clear hr
   refine shO_on (b := true) 11 rfl (Env.isT rfl c1) (om rfl rfl (shO_on (b := true) 11 rfl (Env.isT rfl c1) ?_))
   refine ov (v_load Try.isAgg3 rfl (Has.frozen hb_x_) rfl) rfl ?_
   refine shO_on (b := true) 11 rfl (Env.isT rfl c1) ?_
   refine ov (v_leqK rfl rfl) rfl ?_
   refine ov (v_pick_t (evD_true rfl c1) rfl) rfl ?_
   refine om rfl rfl ?_
   by_cases c3 : minute ≤ x2
   · have r4 := ite_t r2 c3; clear r2
     refine shO_off (b' := true) 16 rfl (Env.isT rfl c3) rfl rfl (shO_off (b' := true) 16 rfl (Env.isT rfl c3) rfl rfl (shO_off (b' := true) 16 rfl (Env.isT rfl c3) rfl rfl (shO_off (b' := true) 16 rfl (Env.isT rfl c3) rfl rfl (shO_offU 20 rfl rfl rfl (shO_offU 20 rfl rfl rfl (shO_offU 20 rfl rfl rfl (shO_offU 20 rfl rfl rfl (shO_offU 20 rfl rfl rfl (shO_offU 20 rfl rfl rfl ?_)))))))))
     refine shO_offU 20 rfl rfl rfl (shO_offU 20 rfl rfl rfl (shO_offU 20 rfl rfl rfl (shO_offU 20 rfl rfl rfl (shO_offU 20 rfl rfl rfl (shO_off (b' := true) 16 rfl (Env.isT rfl c3) rfl rfl ?_)))))
     refine ov (v_pick_t (evD_true rfl c3) rfl) rfl ?_
     refine oa rfl rfl (shO_nil (shW_ret ?_))
     refine q_res1 Try.results66 (res_tmp rfl) (sr) ?_
     obtain rfl := inj1 r4
     exact rfl
   have r5 := ite_f r2 c3; clear r2
   refine shO_on (b := false) 16 rfl (Env.isF rfl c3) (om rfl rfl (shO_on (b := false) 16 rfl (Env.isF rfl c3) ?_))
   refine ov (v_load Try.isAgg3 rfl (Has.frozen hb_x) rfl) rfl ?_
   refine shO_on (b := false) 16 rfl (Env.isF rfl c3) ?_
   refine ov (v_neq rfl rfl) rfl ?_
   refine shO_on (b := false) 16 rfl (Env.isF rfl c3) (om rfl rfl ?_)
   by_cases c6 : n ≠ x
   · have r7 := ite_t r5 c6; clear r5
     refine shO_on (b := true) 20 rfl (Env.isT rfl c6) (om rfl rfl (shO_on (b := true) 20 rfl (Env.isT rfl c6) ?_))
     refine ov (v_load Try.isAgg67 rfl (Has.frozen hb_x__) rfl) rfl ?_
     refine shO_on (b := true) 20 rfl (Env.isT rfl c6) ?_
     refine ov (v_nilCheck rfl) rfl ?_
     refine shO_on (b := true) 20 rfl (Env.isT rfl c6) ?_
     refine ov (v_fieldAddr fa_102_0 rfl) rfl ?_
     refine shO_on (b := true) 20 rfl (Env.isT rfl c6) ?_
     refine ov (v_fieldAddr fa_26_4 rfl) rfl ?_
     refine shO_on (b := true) 20 rfl (Env.isT rfl c6) ?_
     refine ov (v_load Try.isAgg24 rfl (Has.frozen hb_x___) (li_cell (li_skip (A := ([.slice walks_a walks.length walks_c] : List Value)) (k := 1) (o := 3) rfl (li_skip (A := ([.slice hears_a hears.length hears_c] : List Value)) (k := 1) (o := 2) rfl (li_skip (A := ([.int .i64 houses] : List Value)) (k := 1) (o := 1) rfl (li_skip (A := ([.int .i64 start] : List Value)) (k := 1) (o := 0) rfl (li_here (B := walks2.flatMap (cI .i64) ++ (([.slice pairs_a pairs.length pairs_c] : List Value) ++ (hit.flatMap (cI .i64)))) rfl))))))) rfl ?_
     refine shO_on (b := true) 20 rfl (Env.isT rfl c6) (om rfl rfl (shO_on (b := true) 20 rfl (Env.isT rfl c6) ?_))
     obtain ⟨x3, g8, hx9, r10⟩ := ix_ok r7; clear r7
     obtain ⟨b11, o12, c13, vs14, ha15, hs16, hle17, ⟨_, _, rfl, ⟨a20, c21, rfl, h22⟩, ⟨_, _, rfl, rfl, rfl⟩⟩, hl18, hc19⟩ := RowR.at (prE_ok (slE_ok (iE_ok _)) (prE_ok (iE_ok _) (iE_ok _))) h_notices ([]) g8.1 hx9
     refine ov (v_indexO Try.underlying24 Try.sizeOf39 rfl ha15 rfl g8) rfl ?_
     refine shO_on (b := true) 20 rfl (Env.isT rfl c6) ?_
     refine ov (v_fieldAddr fa_39_2 rfl) rfl ?_
     refine shO_on (b := true) 20 rfl (Env.isT rfl c6) ?_
     refine ov (v_load Try.isAgg3 rfl hs16 (hc19 2 (by decide))) rfl ?_
     refine shO_on (b := true) 20 rfl (Env.isT rfl c6) ?_
     refine ov (v_leqK rfl rfl) rfl ?_
     refine shO_on (b := false) 16 rfl (Env.isF rfl c3) ?_
     refine ov (v_pick_t (evD_true rfl c6) rfl) rfl ?_
     refine ov (v_pick_f (evD_false rfl c3) rfl) rfl ?_
     refine oa rfl rfl (shO_nil (shW_ret ?_))
     refine q_res1 Try.results66 (res_tmp rfl) (sr) ?_
     obtain rfl := inj1 r10
     exact rfl
   have r23 := ite_f r5 c6; clear r5
   refine shO_off (b' := false) 20 rfl (Env.isF rfl c6) rfl rfl (shO_off (b' := false) 20 rfl (Env.isF rfl c6) rfl rfl (shO_off (b' := false) 20 rfl (Env.isF rfl c6) rfl rfl (shO_off (b' := false) 20 rfl (Env.isF rfl c6) rfl rfl (shO_off (b' := false) 20 rfl (Env.isF rfl c6) rfl rfl (shO_off (b' := false) 20 rfl (Env.isF rfl c6) rfl rfl (shO_off (b' := false) 20 rfl (Env.isF rfl c6) rfl rfl (shO_off (b' := false) 20 rfl (Env.isF rfl c6) rfl rfl (shO_off (b' := false) 20 rfl (Env.isF rfl c6) rfl rfl (shO_off (b' := false) 20 rfl (Env.isF rfl c6) rfl rfl ?_)))))))))
   refine shO_off (b' := false) 20 rfl (Env.isF rfl c6) rfl rfl (shO_on (b := false) 16 rfl (Env.isF rfl c3) ?_)
   refine ov (v_pick_f (evD_false rfl c6) rfl) rfl ?_
   refine ov (v_pick_f (evD_false rfl c3) rfl) rfl ?_
   refine oa rfl rfl (shO_nil (shW_ret ?_))
   refine q_res1 Try.results66 (res_tmp rfl) (sr) ?_
   obtain rfl := inj1 r23
   exact rfl
 have r24 := ite_f hr c1; clear hr
 refine shO_off (b' := false) 11 rfl (Env.isF rfl c1) rfl rfl (shO_off (b' := false) 11 rfl (Env.isF rfl c1) rfl rfl (shO_off (b' := false) 11 rfl (Env.isF rfl c1) rfl rfl ?_))
 refine ov (v_pick_f (evD_false rfl c1) rfl) rfl ?_
 refine om rfl rfl (shO_on (b := false) 16 rfl rfl (om rfl rfl (shO_on (b := false) 16 rfl rfl ?_)))
 refine ov (v_load Try.isAgg3 rfl (Has.frozen hb_x) rfl) rfl ?_
 refine shO_on (b := false) 16 rfl rfl ?_
 refine ov (v_neq rfl rfl) rfl ?_
 refine shO_on (b := false) 16 rfl rfl (om rfl rfl ?_)
 by_cases c25 : n ≠ x
 · have r26 := ite_t r24 c25; clear r24
   refine shO_on (b := true) 20 rfl (Env.isT rfl c25) (om rfl rfl (shO_on (b := true) 20 rfl (Env.isT rfl c25) ?_))
   refine ov (v_load Try.isAgg67 rfl (Has.frozen hb_x__) rfl) rfl ?_
   refine shO_on (b := true) 20 rfl (Env.isT rfl c25) ?_
   refine ov (v_nilCheck rfl) rfl ?_
   refine shO_on (b := true) 20 rfl (Env.isT rfl c25) ?_
   refine ov (v_fieldAddr fa_102_0 rfl) rfl ?_
   refine shO_on (b := true) 20 rfl (Env.isT rfl c25) ?_
   refine ov (v_fieldAddr fa_26_4 rfl) rfl ?_
   refine shO_on (b := true) 20 rfl (Env.isT rfl c25) ?_
   refine ov (v_load Try.isAgg24 rfl (Has.frozen hb_x___) (li_cell (li_skip (A := ([.slice walks_a walks.length walks_c] : List Value)) (k := 1) (o := 3) rfl (li_skip (A := ([.slice hears_a hears.length hears_c] : List Value)) (k := 1) (o := 2) rfl (li_skip (A := ([.int .i64 houses] : List Value)) (k := 1) (o := 1) rfl (li_skip (A := ([.int .i64 start] : List Value)) (k := 1) (o := 0) rfl (li_here (B := walks2.flatMap (cI .i64) ++ (([.slice pairs_a pairs.length pairs_c] : List Value) ++ (hit.flatMap (cI .i64)))) rfl))))))) rfl ?_
   refine shO_on (b := true) 20 rfl (Env.isT rfl c25) (om rfl rfl (shO_on (b := true) 20 rfl (Env.isT rfl c25) ?_))
   obtain ⟨x4, g27, hx28, r29⟩ := ix_ok r26; clear r26
   obtain ⟨b30, o31, c32, vs33, ha34, hs35, hle36, ⟨_, _, rfl, ⟨a39, c40, rfl, h41⟩, ⟨_, _, rfl, rfl, rfl⟩⟩, hl37, hc38⟩ := RowR.at (prE_ok (slE_ok (iE_ok _)) (prE_ok (iE_ok _) (iE_ok _))) h_notices ([]) g27.1 hx28
   refine ov (v_indexO Try.underlying24 Try.sizeOf39 rfl ha34 rfl g27) rfl ?_
   refine shO_on (b := true) 20 rfl (Env.isT rfl c25) ?_
   refine ov (v_fieldAddr fa_39_2 rfl) rfl ?_
   refine shO_on (b := true) 20 rfl (Env.isT rfl c25) ?_
   refine ov (v_load Try.isAgg3 rfl hs35 (hc38 2 (by decide))) rfl ?_
   refine shO_on (b := true) 20 rfl (Env.isT rfl c25) ?_
   refine ov (v_leqK rfl rfl) rfl ?_
   refine shO_on (b := false) 16 rfl rfl ?_
   refine ov (v_pick_t (evD_true rfl c25) rfl) rfl ?_
   refine ov (v_pick_f rfl rfl) rfl ?_
   refine oa rfl rfl (shO_nil (shW_ret ?_))
   refine q_res1 Try.results66 (res_tmp rfl) (sr) ?_
   obtain rfl := inj1 r29
   exact rfl
 have r42 := ite_f r24 c25; clear r24
 refine shO_off (b' := false) 20 rfl (Env.isF rfl c25) rfl rfl (shO_off (b' := false) 20 rfl (Env.isF rfl c25) rfl rfl (shO_off (b' := false) 20 rfl (Env.isF rfl c25) rfl rfl (shO_off (b' := false) 20 rfl (Env.isF rfl c25) rfl rfl (shO_off (b' := false) 20 rfl (Env.isF rfl c25) rfl rfl (shO_off (b' := false) 20 rfl (Env.isF rfl c25) rfl rfl (shO_off (b' := false) 20 rfl (Env.isF rfl c25) rfl rfl (shO_off (b' := false) 20 rfl (Env.isF rfl c25) rfl rfl (shO_off (b' := false) 20 rfl (Env.isF rfl c25) rfl rfl (shO_off (b' := false) 20 rfl (Env.isF rfl c25) rfl rfl ?_)))))))))
 refine shO_off (b' := false) 20 rfl (Env.isF rfl c25) rfl rfl (shO_on (b := false) 16 rfl rfl ?_)
 refine ov (v_pick_f (evD_false rfl c25) rfl) rfl ?_
 refine ov (v_pick_f rfl rfl) rfl ?_
 refine oa rfl rfl (shO_nil (shW_ret ?_))
 refine q_res1 Try.results66 (res_tmp rfl) (sr) ?_
 obtain rfl := inj1 r42
 exact rfl
set_option maxHeartbeats 1000000 in
theorem round_Hurry_1_w {hour : Int} {b_c : Nat} {b_c_ : Nat} {walks_a : Option Addr} {walks_c : Nat} {walks : List (List Int)} {hears_a : Option Addr} {hears_c : Nat} {hears : List (List Int)} {houses : Int} {start : Int} {notices_a : Option Addr} {notices_c : Nat} {notices : List ((List Int) × Int × Int)} {walks2 : List Int} {pairs_a : Option Addr} {pairs_c : Nat} {pairs : List (Int × Int)} {hit : List Int} {mb_c_ : Nat × Nat} {mb_c : Nat × Nat} {b_notice : Nat} {notice : Int} {mb_notice : Nat × Nat} {F : FS} (hb_c : F b_c = some (.cells #[.pointer (some ⟨b_c_, 0, none⟩)] 67 mb_c)) (hb_c_ : F b_c_ = some (.cells ((([.slice walks_a walks.length walks_c] : List Value) ++ (([.slice hears_a hears.length hears_c] : List Value) ++ (([.int .i64 houses] : List Value) ++ (([.int .i64 start] : List Value) ++ (([.slice notices_a notices.length notices_c] : List Value) ++ (walks2.flatMap (cI .i64) ++ (([.slice pairs_a pairs.length pairs_c] : List Value) ++ (hit.flatMap (cI .i64))))))))).toArray) 102 mb_c_)) (h_walks : RowR 1 (slE 1 (iE .i64)) F walks_a walks_c walks) (h_hears : RowR 1 (slE 1 (iE .i64)) F hears_a hears_c hears) (h_notices : RowR 3 (prE (slE 1 (iE .i64)) (prE (iE .i64) (iE .i64))) F notices_a notices_c notices) (h_walks2 : walks2.length = 25) (h_pairs : RowR 2 (prE (iE .i64) (iE .i64)) F pairs_a pairs_c pairs) (h_hit : hit.length = 15) (hb_notice : F b_notice = some (.cells #[.int .i64 notice] 3 mb_notice)) {r : Bool} (hr : round_Hurry_1 hour walks hears houses start notices walks2 pairs hit notice = some r) :
    SpecV Try.prog 65 #[.int .i64 hour, .pointer (some ⟨b_c, 0, none⟩), .pointer (some ⟨b_notice, 0, none⟩)] F (.bool r) := by
 refine spec_of_shW (args := [.int .i64 hour, .pointer (some ⟨b_c, 0, none⟩), .pointer (some ⟨b_notice, 0, none⟩)]) Try.func65 rfl Try.ntmps65 (Nat.le_of_ble_eq_true rfl) ?_
 intro K _ _; rw [round_Hurry_1] at hr
 refine wsr ?_
 refine o_box rfl rfl ?_; intro b1 hb1
 refine oa rfl rfl (shO_nil (shW_seq ?_))
 refine shW_drawM [(.still, 0), (.still, 1), (.still, 3), (.still, 4), (.seq, 2), (.seq, 5), (.still, 6), (.still, 7), (.still, 8), (.still, 9), (.still, 10), (.still, 11), (.still, 12)] (by kernel_rfl) (by kernel_rfl) (trivial) (by rfl) (by kernel_rfl) ?_
 refine shM_v (v := .pointer (some ⟨b_c_, 0, none⟩)) (ek := [(1, .pointer (some ⟨b_c, 0, none⟩))]) (Ls := []) rfl rfl rfl rfl ((sc rfl (sn _))) (by kernel_rfl) sm (fun H F' L' hF' hL' => v_load Try.isAgg67 rfl ((Has.frozen hb_c).ext hF' hL') rfl) ?_
 refine shM_v (v := .pointer (some ⟨b_c_, 0, none⟩)) (ek := [(1, .pointer (some ⟨b_c, 0, none⟩))]) (Ls := []) rfl rfl rfl rfl ((sc rfl (sn _))) (by kernel_rfl) sm (fun H F' L' hF' hL' => v_load Try.isAgg67 rfl ((Has.frozen hb_c).ext hF' hL') rfl) ?_
 refine shM_v (v := .func (.func 66) #[] #[.pointer (some ⟨b_notice, 0, none⟩), .pointer (some ⟨b1, 0, none⟩), .pointer (some ⟨b_c, 0, none⟩)]) (ek := [(1, .pointer (some ⟨b_c, 0, none⟩)), (2, .pointer (some ⟨b_notice, 0, none⟩)), (3, .pointer (some ⟨b1, 0, none⟩))]) (Ls := []) rfl rfl rfl rfl ((sc rfl (sc rfl (sc rfl (sn _))))) (by kernel_rfl) sm (fun H F' L' hF' hL' => v_makeFunc rfl rfl) ?_
 refine shM_v (v := .agg (#[.func (.func 66) #[] #[.pointer (some ⟨b_notice, 0, none⟩), .pointer (some ⟨b1, 0, none⟩), .pointer (some ⟨b_c, 0, none⟩)]])) (ek := [(12, .func (.func 66) #[] #[.pointer (some ⟨b_notice, 0, none⟩), .pointer (some ⟨b1, 0, none⟩), .pointer (some ⟨b_c, 0, none⟩)])]) (Ls := []) rfl rfl rfl rfl ((sc rfl (sn _))) (by kernel_rfl) sm (fun H F' L' hF' hL' => v_build (v := .agg (#[.func (.func 66) #[] #[.pointer (some ⟨b_notice, 0, none⟩), .pointer (some ⟨b1, 0, none⟩), .pointer (some ⟨b_c, 0, none⟩)]])) rfl (by intro w; kernel_rfl)) ?_
 refine ⟨_, [(10, .pointer (some ⟨b_c_, 0, none⟩))], rfl, rfl, (sc rfl (sn _)), by kernel_rfl, ?_⟩; intro H
 obtain ⟨n, h2, r3⟩ := b1_ok hr; clear hr
 refine o_callV rfl Try.call30 rfl rfl rfl (round_crier_all_w hb_c_ h_walks h_hears h_notices h_walks2 h_pairs h_hit h2) ?_
 refine shO_nil ⟨_, rfl, FExt.refl _, [4, 3, 0], by kernel_rfl, .inl (.inr (fun d h => by cases h; rfl)), (List.forall_mem_cons.2 ⟨sm, (List.forall_mem_cons.2 ⟨sm, (List.forall_mem_cons.2 ⟨sm, (fun _ h => absurd h List.not_mem_nil)⟩)⟩)⟩), ?_⟩
 refine ⟨_, [(9, .pointer (some ⟨b_c_, 0, none⟩)), (11, .int .i64 n), (13, .agg (#[.func (.func 66) #[] #[.pointer (some ⟨b_notice, 0, none⟩), .pointer (some ⟨b1, 0, none⟩), .pointer (some ⟨b_c, 0, none⟩)]]))], rfl, rfl, (sc rfl (sc rfl (sc rfl (sn _)))), by kernel_rfl, ?_⟩; intro H
 refine shO_freeze 0 rfl hb1 ?_; intro F4 hF5 hz6
 refine shO_L (L' := []) rfl ?_
 replace h_walks := h_walks.mono (slE_ok (iE_ok _)) hF5
 replace h_hears := h_hears.mono (slE_ok (iE_ok _)) hF5
 replace h_notices := h_notices.mono (prE_ok (slE_ok (iE_ok _)) (prE_ok (iE_ok _) (iE_ok _))) hF5
 replace h_pairs := h_pairs.mono (prE_ok (iE_ok _) (iE_ok _)) hF5
 replace hb_c_ := hF5 _ _ hb_c_
 replace hb_c := hF5 _ _ hb_c
 replace hb_notice := hF5 _ _ hb_notice
 have hn7 : FnR Try.prog F4 66 #[] #[.pointer (some ⟨b_notice, 0, none⟩), .pointer (some ⟨b1, 0, none⟩), .pointer (some ⟨b_c, 0, none⟩)] (prE (iE .i64) (iE .i64)) Value.bool (fun xx_ : Int × Int => round_Hurry_1_1 xx_.1 xx_.2 notice hour walks hears houses start notices walks2 pairs hit) := ⟨Try.call66, fun F2 h2 vs xx_ r ha hr => by obtain ⟨_, _, rfl, rfl, rfl⟩ := ha; exact round_Hurry_1_1_w (h2 _ _ hb_notice) (h2 _ _ hz6) (h2 _ _ hb_c) (h2 _ _ hb_c_) (h_walks.mono (slE_ok (iE_ok _)) h2) (h_hears.mono (slE_ok (iE_ok _)) h2) (h_notices.mono (prE_ok (slE_ok (iE_ok _)) (prE_ok (iE_ok _) (iE_ok _))) h2) h_walks2 (h_pairs.mono (prE_ok (iE_ok _) (iE_ok _)) h2) h_hit hr⟩
 obtain ⟨l, n2, ok, h8, r9⟩ := b3_ok r3; clear r3
 refine o_call0 rfl Try.call27 rfl rfl rfl (round_crier_serve_w hb_c_ h_walks h_hears h_notices h_walks2 h_pairs h_hit hn7 h8) ?_; rintro _ F10 _ hF11 hn12 ⟨a14, n18, c15, Lb16, rfl, rfl, hz17⟩
 refine shO_L (lp (ln rfl)) ?_
 refine shO_nil ⟨_, rfl, (hF5.trans hF11), [], by kernel_rfl, .inl (.inl rfl), (fun _ h => absurd h List.not_mem_nil), ?_⟩
 refine shM_v (v := .tuple #[.slice a14 n18 c15, .int .i64 n2, .bool ok]) (ek := [(14, .tuple #[.slice a14 n18 c15, .int .i64 n2, .bool ok])]) (Ls := []) rfl rfl rfl rfl ((sc rfl (sn _))) (by kernel_rfl) sm (fun H F' L' hF' hL' => v_move rfl) ?_
 refine shM_v (v := .slice a14 n18 c15) (ek := [(8, .tuple #[.slice a14 n18 c15, .int .i64 n2, .bool ok])]) (Ls := []) rfl rfl rfl rfl ((sc rfl (sn _))) (by kernel_rfl) sm (fun H F' L' hF' hL' => v_extract rfl rfl) ?_
 refine shM_v (v := .int .i64 n2) (ek := [(8, .tuple #[.slice a14 n18 c15, .int .i64 n2, .bool ok])]) (Ls := []) rfl rfl rfl rfl ((sc rfl (sn _))) (by kernel_rfl) sm (fun H F' L' hF' hL' => v_extract rfl rfl) ?_
 refine shM_v (v := .bool ok) (ek := [(8, .tuple #[.slice a14 n18 c15, .int .i64 n2, .bool ok])]) (Ls := []) rfl rfl rfl rfl ((sc rfl (sn _))) (by kernel_rfl) sm (fun H F' L' hF' hL' => v_extract rfl rfl) ?_
 refine shM_v (v := .slice a14 n18 c15) (ek := [(15, .slice a14 n18 c15)]) (Ls := []) rfl rfl rfl rfl ((sc rfl (sn _))) (by kernel_rfl) sm (fun H F' L' hF' hL' => v_assign rfl) ?_
 refine shM_v (v := .int .i64 n2) (ek := [(16, .int .i64 n2)]) (Ls := []) rfl rfl rfl rfl ((sc rfl (sn _))) (by kernel_rfl) sm (fun H F' L' hF' hL' => v_assign rfl) ?_
 refine shM_v (v := .bool ok) (ek := [(17, .bool ok)]) (Ls := []) rfl rfl rfl rfl ((sc rfl (sn _))) (by kernel_rfl) sm (fun H F' L' hF' hL' => v_assign rfl) ?_
 refine shM_nil ?_
 refine wsr (om rfl rfl (oa rfl rfl (shO_nil ?_)))
 refine kW kn ?_
 refine shW_ret ?_
 refine q_res1 Try.results65 (res_tmp rfl) (sr) ?_
 obtain rfl := inj1 r9
 exact rfl
set_option maxHeartbeats 1000000 in
theorem round_Hurry_w {walks_a : Option Addr} {walks_c : Nat} {walks : List (List Int)} {hears_a : Option Addr} {hears_c : Nat} {hears : List (List Int)} {houses : Int} {start : Int} {notices_a : Option Addr} {notices_c : Nat} {notices : List ((List Int) × Int × Int)} {notice : Int} {F : FS} (h_walks : RowR 1 (slE 1 (iE .i64)) F walks_a walks_c walks) (h_hears : RowR 1 (slE 1 (iE .i64)) F hears_a hears_c hears) (h_notices : RowR 3 (prE (slE 1 (iE .i64)) (prE (iE .i64) (iE .i64))) F notices_a notices_c notices) {r : Int} {r2 : Int} (hr : round_Hurry walks hears houses start notices notice = some (r, r2)) :
    SpecV Try.prog 39 #[.agg #[.slice walks_a walks.length walks_c, .slice hears_a hears.length hears_c, .int .i64 houses, .int .i64 start, .slice notices_a notices.length notices_c], .int .i64 notice] F (.tuple #[.int .i64 r, .int .i64 r2]) := by
 refine spec_of_shW (args := [.agg #[.slice walks_a walks.length walks_c, .slice hears_a hears.length hears_c, .int .i64 houses, .int .i64 start, .slice notices_a notices.length notices_c], .int .i64 notice]) Try.func39 rfl Try.ntmps39 (Nat.le_of_ble_eq_true rfl) ?_
 intro K _ _; rw [round_Hurry] at hr
 refine wsr ?_
 refine o_box rfl rfl ?_; intro b1 hb1
 refine o_box rfl rfl ?_; intro b2 hb2
 refine oa rfl rfl (oa rfl rfl (nsr ?_))
 refine ov (v_loadA (cs := #[.slice walks_a walks.length walks_c, .slice hears_a hears.length hears_c, .int .i64 houses, .int .i64 start, .slice notices_a notices.length notices_c]) Try.isAgg26 Try.sizeOf26 rfl (Has.own 1 rfl) (Nat.le_of_ble_eq_true rfl) rfl) rfl ?_
 obtain ⟨d, n, h3, r4⟩ := b2_ok hr; clear hr
 refine o_call0 rfl Try.call26 rfl rfl rfl (round_opened_w h_walks h_hears h_notices h3) ?_; rintro _ F5 _ hF6 hn7 ⟨v9, rfl, rfl, hp10⟩
 replace h_walks := h_walks.mono (slE_ok (iE_ok _)) hF6
 replace h_hears := h_hears.mono (slE_ok (iE_ok _)) hF6
 replace h_notices := h_notices.mono (prE_ok (slE_ok (iE_ok _)) (prE_ok (iE_ok _) (iE_ok _))) hF6
 refine shO_L (ln rfl) ?_
 refine om rfl rfl (ox rfl rfl rfl (ox rfl rfl rfl ?_))
 refine o_alloc rfl Try.zeroValue67 ?_; intro b11 hb11
 refine o_store (i := 0) Try.sizeOf67 rfl rfl (PtrR.one hp10) rfl (Nat.le_of_ble_eq_true rfl) ?_
 refine shO_L (L' := [(b11, .cells #[v9] 67 (0, 0)), (b2, .cells #[.int .i64 notice] 3 (0, 0)), (b1, .cells #[.slice walks_a walks.length walks_c, .slice hears_a hears.length hears_c, .int .i64 houses, .int .i64 start, .slice notices_a notices.length notices_c] 26 (0, 0))]) rfl ?_
 refine oa rfl rfl (shO_nil (shW_seq ?_))
 refine shW_block ?_
 refine wsr (om rfl rfl ?_)
 refine ov (v_neq rfl rfl) rfl ?_
 refine oa rfl rfl (shO_nil ?_)
 refine shW_condP rfl (fun c12 => ?_) (fun c12 => ?_)
 · have r13 := ite_t r4 c12; clear r4
   refine wsr (om rfl rfl (oa rfl rfl (oa rfl rfl (shO_nil ?_))))
   refine kW kn ?_
   refine shW_ret (inBlock_ret (andThen_ret ?_))
   refine q_res2 Try.results39 (res_tmp rfl) (res_tmp rfl) (sr) ?_
   obtain ⟨rfl, rfl⟩ := inj2 r13
   exact rfl
 have r14 := ite_f r4 c12; clear r4
 refine wsr ?_
 refine ov (v_loadA (cs := #[.slice walks_a walks.length walks_c, .slice hears_a hears.length hears_c, .int .i64 houses, .int .i64 start, .slice notices_a notices.length notices_c]) Try.isAgg26 Try.sizeOf26 rfl (Has.own 2 rfl) (Nat.le_of_ble_eq_true rfl) rfl) rfl ?_
 refine ov (v_load Try.isAgg3 rfl (Has.own 1 rfl) rfl) rfl ?_
 obtain ⟨ok, h15, r16⟩ := b1_ok r14; clear r14
 refine o_callV rfl Try.call64 rfl rfl rfl (round_Beat_notice_w h_walks h_hears h_notices h15) ?_
 refine ov (v_notB rfl) rfl ?_
 refine oa rfl rfl (shO_nil ?_)
 refine shW_cond rfl (fun c17 => ?_) (fun c17 => ?_)
 · have r18 := bt r16 c17; clear r16
   refine wsr (oa rfl rfl (oa rfl rfl (shO_nil ?_)))
   refine kW kn ?_
   refine shW_ret (inBlock_ret (andThen_ret ?_))
   refine q_res2 Try.results39 (res_tmp rfl) (res_tmp rfl) (sr) ?_
   obtain ⟨rfl, rfl⟩ := inj2 r18
   exact rfl
 have r19 := bf r16 c17; clear r16
 refine shW_skip (inBlock_n (id := 0) (wsr ?_))
 refine ov (v_makeFunc rfl rfl) rfl ?_
 refine oa rfl rfl (shO_nil (shW_seq (wsr (om rfl rfl ?_))))
 refine shO_freeze 0 rfl hb11 ?_; intro F20 hF21 hz22
 refine shO_L (L' := [(b2, .cells #[.int .i64 notice] 3 (0, 0)), (b1, .cells #[.slice walks_a walks.length walks_c, .slice hears_a hears.length hears_c, .int .i64 houses, .int .i64 start, .slice notices_a notices.length notices_c] 26 (0, 0))]) rfl ?_
 replace hp10 := hp10.mono (prE_ok (slE_ok (slE_ok (iE_ok _))) (prE_ok (slE_ok (slE_ok (iE_ok _))) (prE_ok (iE_ok _) (prE_ok (iE_ok _) (prE_ok (slE_ok (prE_ok (slE_ok (iE_ok _)) (prE_ok (iE_ok _) (iE_ok _)))) (prE_ok (arE_ok (n := 25) (sz := 1) (cI_ok .i64)) (prE_ok (slE_ok (prE_ok (iE_ok _) (iE_ok _))) (arE_ok (n := 15) (sz := 1) (cI_ok .i64))))))))) hF21
 obtain ⟨walks2, hears2, houses2, start2, notices2, walks3, pairs, hit, h23, r24⟩ := b8_ok r19; clear r19
 have h44 := hp10; rw [h23] at h44; obtain ⟨b25, c26, m27, hv28, hz29, ⟨_, _, rfl, ⟨a30, c31, rfl, h32⟩, ⟨_, _, rfl, ⟨a33, c34, rfl, h35⟩, ⟨_, _, rfl, rfl, ⟨_, _, rfl, rfl, ⟨_, _, rfl, ⟨a36, c37, rfl, h38⟩, ⟨_, _, rfl, ⟨rfl, h39⟩, ⟨_, _, rfl, ⟨a40, c41, rfl, h42⟩, ⟨rfl, h43⟩⟩⟩⟩⟩⟩⟩⟩⟩ := h44; subst hv28
 have hz29 : F20 b25 = some (.cells ((([.slice a30 walks2.length c31] : List Value) ++ (([.slice a33 hears2.length c34] : List Value) ++ (([.int .i64 houses2] : List Value) ++ (([.int .i64 start2] : List Value) ++ (([.slice a36 notices2.length c37] : List Value) ++ (walks3.flatMap (cI .i64) ++ (([.slice a40 pairs.length c41] : List Value) ++ (hit.flatMap (cI .i64))))))))).toArray) 102 m27) := hz29
 refine shO_freeze 0 rfl hb2 ?_; intro F45 hF46 hz47
 refine shO_L (L' := [(b1, .cells #[.slice walks_a walks.length walks_c, .slice hears_a hears.length hears_c, .int .i64 houses, .int .i64 start, .slice notices_a notices.length notices_c] 26 (0, 0))]) rfl ?_
 replace h32 := h32.mono (slE_ok (iE_ok _)) hF46
 replace h35 := h35.mono (slE_ok (iE_ok _)) hF46
 replace h38 := h38.mono (prE_ok (slE_ok (iE_ok _)) (prE_ok (iE_ok _) (iE_ok _))) hF46
 replace h42 := h42.mono (prE_ok (iE_ok _) (iE_ok _)) hF46
 replace hz22 := hF46 _ _ hz22
 replace hz29 := hF46 _ _ hz29
 obtain ⟨ok2, h48, r49⟩ := b1_ok r24; clear r24
 refine o_callV rfl Try.call65 rfl rfl rfl (round_Hurry_1_w hz22 hz29 h32 h35 h38 h39 h42 h43 hz47 h48) ?_
 refine ov (v_notB rfl) rfl ?_
 refine shO_nil ?_
 refine shW_cond rfl (fun c50 => ?_) (fun c50 => ?_)
 · have r51 := bt r49 c50; clear r49
   refine wsr (oa rfl rfl (oa rfl rfl (shO_nil ?_)))
   refine kW kn ?_
   refine shW_ret (andThen_ret ?_)
   refine q_res2 Try.results39 (res_tmp rfl) (res_tmp rfl) (sr) ?_
   obtain ⟨rfl, rfl⟩ := inj2 r51
   exact rfl
 have r52 := bf r49 c50; clear r49
 refine shW_skip (wsr (oa rfl rfl (oa rfl rfl (shO_nil ?_))))
 obtain ⟨lo, h53, r54⟩ := b1_ok r52; clear r52
 refine shW_join (fun e1 F1 L1 => F45 = F1 ∧ L1 = [] ∧ e1.sub [(9, .int .i64 lo)]) ?_ ?_
 · clear r54
   refine shW_block ?_
   refine kW kn ?_
   refine shW_lp (fun fu1 e1 F1 L1 => ∃ (lo2 : Int) (hi : Int), round_Hurry_l1 notice walks2 hears2 houses2 start2 notices2 walks3 pairs hit fu1 lo2 hi = some lo ∧ F45 = F1 ∧ L1 = [] ∧ e1.sub [(8, .func (.func 65) #[] #[.pointer (some ⟨b11, 0, none⟩), .pointer (some ⟨b2, 0, none⟩)]), (9, .int .i64 lo2), (10, .int .i64 hi)]) FU (m0 kr ⟨0, 200, h53, rfl, rfl, (sc rfl (sc rfl (sc rfl (sn _))))⟩) ?_
   rintro fu1 e1 _ _ ⟨lo2, hi, r57, rfl, rfl, he58⟩
   refine shW_env _ he58 ?_; clear he58
   rcases fu1 with _ | fu1
   · rw [round_Hurry_l1] at r57; cases r57
   rw [round_Hurry_l1] at r57
   refine shW_seq (wsr (om rfl rfl (om rfl rfl ?_)))
   refine ov (v_lssK rfl rfl) rfl ?_
   refine shO_nil ?_
   refine shW_condP rfl (fun c59 => ?_) (fun c59 => ?_)
   · have r60 := ite_t r57 c59; clear r57
     refine shW_skip ?_
     refine shW_block ?_
     refine wsr (om rfl rfl (om rfl rfl ?_))
     obtain ⟨g61, r62⟩ := gd_ok r60; clear r60
     refine ov (v_add rfl rfl g61) rfl ?_
     obtain ⟨g63, r64⟩ := gd_ok r62; clear r62
     refine ov (v_quoT rfl rfl g63) rfl ?_
     refine oa rfl rfl (nsr (om rfl rfl (om rfl rfl ?_)))
     obtain ⟨ok3, h65, r66⟩ := b1_ok r64; clear r64
     refine o_callV rfl Try.call65 rfl rfl rfl (round_Hurry_1_w hz22 hz29 h32 h35 h38 h39 h42 h43 hz47 h65) ?_
     refine shO_nil ?_
     refine shW_cond rfl (fun c67 => ?_) (fun c67 => ?_)
     · have r68 := bt r66 c67; clear r66
       refine shW_region (om rfl rfl (oa rfl rfl (shO_nil (inBlock_n (id := 2) ?_))))
       exact le kr ⟨lo2, Int.tdiv (lo2 + hi) 2, r68, rfl, rfl, (sc rfl (sc rfl (sc rfl (sn _))))⟩
     have r69 := bf r66 c67; clear r66
     refine shW_region (om rfl rfl ?_)
     obtain ⟨g70, r71⟩ := gd_ok r69; clear r69
     refine ov (v_add rfl rfl g70) rfl ?_
     refine oa rfl rfl (shO_nil (inBlock_n (id := 2) ?_))
     exact le kr ⟨(Int.tdiv (lo2 + hi) 2) + 1, hi, r71, rfl, rfl, (sc rfl (sc rfl (sc rfl (sn _))))⟩
   have r72 := ite_f r57 c59; clear r57
   refine shW_exit (andThen_exit (andThen_exit ?_))
   refine inBlock_exit ?_
   obtain rfl := inj1 r72
   exact mi kr ⟨rfl, rfl, (sc rfl (sn _))⟩
 rintro e1 _ _ ⟨rfl, rfl, he73⟩
 refine shW_env _ he73 ?_; clear he73
 refine wsr (om rfl rfl (oa rfl rfl (oa rfl rfl (shO_nil (shW_ret ?_)))))
 refine q_res2 Try.results39 (res_tmp rfl) (res_tmp rfl) (sr) ?_
 obtain ⟨rfl, rfl⟩ := inj2 r54
 exact rfl
set_option maxHeartbeats 1000000 in
theorem slices_IndexFunc_round_Pair_round_Pair_w {s__a : Option Addr} {s__c : Nat} {s_ : List (Int × Int)} {f_f : FuncId} {f_1 : Array Value} {f_2 : Array Value} {f : (Int × Int) → Option Bool} {F : FS} (h_s_ : RowR 2 (prE (iE .i64) (iE .i64)) F s__a s__c s_) (h_f : FnR Try.prog F f_f f_1 f_2 (agE (prE (iE .i64) (iE .i64))) Value.bool f) {r : Int} (hr : slices_IndexFunc_round_Pair_round_Pair s_ f = some r) :
    SpecV Try.prog 71 #[.slice s__a s_.length s__c, .func (.func f_f) f_1 f_2] F (.int .i64 r) := by
 refine spec_of_shW (args := [.slice s__a s_.length s__c, .func (.func f_f) f_1 f_2]) Try.func71 rfl Try.ntmps71 (Nat.le_of_ble_eq_true rfl) ?_
 intro K _ _; rw [slices_IndexFunc_round_Pair_round_Pair] at hr
 refine wsr (oa rfl rfl (shO_nil ?_))
 refine shW_join (fun e1 F1 L1 => slices_IndexFunc_round_Pair_round_Pair_j1 = some r ∧ F = F1 ∧ L1 = [] ∧ e1.sub []) ?_ ?_
 · refine wsr (om rfl rfl ?_)
   refine ov (v_lenS Try.underlying44 rfl) rfl ?_
   refine om rfl rfl (shO_nil ?_)
   refine shW_block ?_
   refine shW_lp (fun fu2 e1 F1 L1 => ∃ (tl : List (Int × Int)) (k : Int), tl.length = fu2 ∧ Lst s_ k tl ∧ slices_IndexFunc_round_Pair_round_Pair_l2 f tl k = some r ∧ F = F1 ∧ L1 = [] ∧ e1.sub [(0, .slice s__a s_.length s__c), (1, .func (.func f_f) f_1 f_2), (7, .int .i64 (s_.length : Int)), (8, .int .i64 k)]) _ (m0 kr ⟨_, _, rfl, Lst.start _, hr, rfl, rfl, (sc rfl (sc rfl (sc rfl (sc rfl (sn _)))))⟩) ?_
   rintro fu2 e1 _ _ ⟨tl, k, hn2, hk1, r3, rfl, rfl, he4⟩
   refine shW_env _ he4 ?_; clear he4
   refine wsr ?_
   refine ov (v_lssK rfl rfl) rfl ?_
   refine shO_nil (shW_seq ?_)
   refine shW_condP rfl (fun c6 => ?_) (fun c6 => ?_)
   · obtain ⟨x, tl2, rfl, hx8, g9, hk7⟩ := Lst.succ hk1 c6
     rw [slices_IndexFunc_round_Pair_round_Pair_l2] at r3
     refine shW_skip (shW_seq ?_)
     refine shW_block ?_
     refine wsr (om rfl rfl (oa rfl rfl (nsr (om rfl rfl (om rfl rfl (om rfl rfl ?_))))))
     obtain ⟨b10, o11, c12, vs13, ha14, hs15, hle16, ⟨_, _, rfl, rfl, rfl⟩, hl17, hc18⟩ := RowR.at (prE_ok (iE_ok _) (iE_ok _)) h_s_ ([]) g9.1 hx8
     refine ov (v_indexO Try.underlying44 Try.sizeOf54 rfl ha14 rfl g9) rfl ?_
     refine ov (v_loadA (cs := #[.int .i64 x.1, .int .i64 x.2]) Try.isAgg54 Try.sizeOf54 rfl hs15 hle16 (extract_cells hle16 hl17 hc18)) rfl ?_
     obtain ⟨ok, h19, r20⟩ := b1_ok r3; clear r3
     refine o_callV rfl h_f.1 rfl rfl rfl (h_f.2 _ (FExt.refl _) _ _ _ ⟨_, rfl, ⟨_, _, rfl, rfl, rfl⟩⟩ h19) ?_
     refine shO_nil ?_
     refine shW_cond rfl (fun c21 => ?_) (fun c21 => ?_)
     · have r22 := bt r20 c21; clear r20
       refine wsr (om rfl rfl (oa rfl rfl (shO_nil (shW_ret (inBlock_ret (andThen_ret (andThen_ret (inBlock_ret (andThen_ret ?_)))))))))
       refine q_res1 Try.results71 (res_tmp rfl) (sr) ?_
       obtain rfl := inj1 r22
       exact rfl
     have r23 := bf r20 c21; clear r20
     refine shW_skip (inBlock_n (id := 1) (shW_region ?_))
     refine ov (v_add rfl rfl (Lst.r64 hk1 c6 (RowR.lt h_s_))) rfl ?_
     refine om rfl rfl (shO_nil ?_)
     subst hn2; exact le kr ⟨_, _, rfl, hk7, r23, rfl, rfl, (sc rfl (sc rfl (sc rfl (sc rfl (sn _)))))⟩
   obtain rfl := Lst.zero hk1 c6
   rw [slices_IndexFunc_round_Pair_round_Pair_l2] at r3
   refine shW_exit (andThen_exit (andThen_exit ?_))
   refine inBlock_exit ?_
   exact mi kr ⟨r3, rfl, rfl, (sn _)⟩
 rintro e1 _ _ ⟨r24, rfl, rfl, he25⟩
 refine shW_env _ he25 ?_; clear he25
 rw [slices_IndexFunc_round_Pair_round_Pair_j1] at r24
 refine wsr (oa rfl rfl (shO_nil (shW_ret ?_)))
 refine q_res1 Try.results71 (res_tmp rfl) (sr) ?_
 obtain rfl := inj1 r24
 exact rfl
set_option maxHeartbeats 1000000 in
theorem round_crier_index_1_w {notice : Int} {house : Int} {b_p : Nat} {notice2 : Int} {house2 : Int} {mb_p : Nat × Nat} {F : FS} (hb_p : F b_p = some (.cells #[.int .i64 notice2, .int .i64 house2] 54 mb_p)) {r : Bool} (hr : round_crier_index_1 notice house notice2 house2 = some r) :
    SpecV Try.prog 72 #[.agg #[.int .i64 notice, .int .i64 house], .pointer (some ⟨b_p, 0, none⟩)] F (.bool r) := by
 refine spec_of_shW (args := [.agg #[.int .i64 notice, .int .i64 house], .pointer (some ⟨b_p, 0, none⟩)]) Try.func72 rfl Try.ntmps72 (Nat.le_of_ble_eq_true rfl) ?_
 intro K _ _; rw [round_crier_index_1] at hr
 refine wsr ?_
 refine o_box rfl rfl ?_; intro b1 hb1
 refine oa rfl rfl (nsr ?_)
 refine ov (v_loadA (cs := #[.int .i64 notice, .int .i64 house]) Try.isAgg54 Try.sizeOf54 rfl (Has.own 0 rfl) (Nat.le_of_ble_eq_true rfl) rfl) rfl ?_
 refine ov (v_loadA (cs := #[.int .i64 notice2, .int .i64 house2]) Try.isAgg54 Try.sizeOf54 rfl (Has.frozen hb_p) (Nat.le_of_ble_eq_true rfl) rfl) rfl ?_
 refine ov (v_eqA (eqg_54 _ _ _ _) (eq_54 _ _ _ _) rfl rfl) rfl ?_
 refine oa rfl rfl (shO_nil ?_)
 refine kW kn ?_
 refine shW_ret ?_
 refine q_res1 Try.results72 (res_tmp rfl) (sr) ?_
 obtain rfl := inj1 hr
 exact rfl
set_option maxHeartbeats 1000000 in
theorem round_crier_index_w {b_c : Nat} {walks_a : Option Addr} {walks_c : Nat} {walks : List (List Int)} {hears_a : Option Addr} {hears_c : Nat} {hears : List (List Int)} {houses : Int} {start : Int} {notices_a : Option Addr} {notices_c : Nat} {notices : List ((List Int) × Int × Int)} {walks2 : List Int} {pairs_a : Option Addr} {pairs_c : Nat} {pairs : List (Int × Int)} {hit : List Int} {mb_c : Nat × Nat} {notice : Int} {house : Int} {F : FS} (hb_c : F b_c = some (.cells ((([.slice walks_a walks.length walks_c] : List Value) ++ (([.slice hears_a hears.length hears_c] : List Value) ++ (([.int .i64 houses] : List Value) ++ (([.int .i64 start] : List Value) ++ (([.slice notices_a notices.length notices_c] : List Value) ++ (walks2.flatMap (cI .i64) ++ (([.slice pairs_a pairs.length pairs_c] : List Value) ++ (hit.flatMap (cI .i64))))))))).toArray) 102 mb_c)) (_h_walks : RowR 1 (slE 1 (iE .i64)) F walks_a walks_c walks) (_h_hears : RowR 1 (slE 1 (iE .i64)) F hears_a hears_c hears) (_h_notices : RowR 3 (prE (slE 1 (iE .i64)) (prE (iE .i64) (iE .i64))) F notices_a notices_c notices) (h_walks2 : walks2.length = 25) (h_pairs : RowR 2 (prE (iE .i64) (iE .i64)) F pairs_a pairs_c pairs) (_h_hit : hit.length = 15) {r : Int} (hr : round_crier_index walks hears houses start notices walks2 pairs hit notice house = some r) :
    SpecV Try.prog 47 #[.pointer (some ⟨b_c, 0, none⟩), .agg #[.int .i64 notice, .int .i64 house]] F (.int .i64 r) := by
 refine spec_of_shW (args := [.pointer (some ⟨b_c, 0, none⟩), .agg #[.int .i64 notice, .int .i64 house]]) Try.func47 rfl Try.ntmps47 (Nat.le_of_ble_eq_true rfl) ?_
 intro K _ _; rw [round_crier_index] at hr
 refine wsr ?_
 refine o_box rfl rfl ?_; intro b1 hb1
 refine oa rfl rfl (nsr (om rfl rfl ?_))
 refine ov (v_nilCheck rfl) rfl ?_
 refine ov (v_fieldAddr fa_102_2 rfl) rfl ?_
 refine ov (v_load Try.isAgg44 rfl (Has.frozen hb_c) (li_cell (li_skip (A := ([.slice walks_a walks.length walks_c] : List Value)) (k := 1) (o := 29) rfl (li_skip (A := ([.slice hears_a hears.length hears_c] : List Value)) (k := 1) (o := 28) rfl (li_skip (A := ([.int .i64 houses] : List Value)) (k := 1) (o := 27) rfl (li_skip (A := ([.int .i64 start] : List Value)) (k := 1) (o := 26) rfl (li_skip (A := ([.slice notices_a notices.length notices_c] : List Value)) (k := 1) (o := 25) rfl (li_skip (A := walks2.flatMap (cI .i64)) (k := 25) (o := 0) (lfl (cI_ok .i64) h_walks2) (li_here (B := hit.flatMap (cI .i64)) rfl))))))))) rfl ?_
 refine ov (v_makeFunc rfl rfl) rfl ?_
 refine shO_freeze 0 rfl hb1 ?_; intro F2 hF3 hz4
 refine shO_L (L' := []) rfl ?_
 replace h_pairs := h_pairs.mono (prE_ok (iE_ok _) (iE_ok _)) hF3
 have hn5 : FnR Try.prog F2 72 #[] #[.pointer (some ⟨b1, 0, none⟩)] (agE (prE (iE .i64) (iE .i64))) Value.bool (fun xx_ : (Int × Int) => round_crier_index_1 xx_.1 xx_.2 notice house) := ⟨Try.call72, fun F2 h2 vs xx_ r ha hr => by obtain ⟨_, rfl, ⟨_, _, rfl, rfl, rfl⟩⟩ := ha; exact round_crier_index_1_w (h2 _ _ hz4) hr⟩
 obtain ⟨n, h6, r7⟩ := b1_ok hr; clear hr
 refine o_callV rfl Try.call71 rfl rfl rfl (slices_IndexFunc_round_Pair_round_Pair_w h_pairs hn5 h6) ?_
 refine oa rfl rfl (shO_nil (shW_ret ?_))
 refine q_res1 Try.results47 (res_tmp rfl) (sr) ?_
 obtain rfl := inj1 r7
 exact rfl
set_option maxHeartbeats 1000000 in
theorem round_crier_first_w {b_c : Nat} {walks_a : Option Addr} {walks_c : Nat} {walks : List (List Int)} {hears_a : Option Addr} {hears_c : Nat} {hears : List (List Int)} {houses : Int} {start : Int} {notices_a : Option Addr} {notices_c : Nat} {notices : List ((List Int) × Int × Int)} {walks2 : List Int} {pairs_a : Option Addr} {pairs_c : Nat} {pairs : List (Int × Int)} {hit : List Int} {mb_c : Nat × Nat} {notice : Int} {house : Int} {F : FS} (hb_c : F b_c = some (.cells ((([.slice walks_a walks.length walks_c] : List Value) ++ (([.slice hears_a hears.length hears_c] : List Value) ++ (([.int .i64 houses] : List Value) ++ (([.int .i64 start] : List Value) ++ (([.slice notices_a notices.length notices_c] : List Value) ++ (walks2.flatMap (cI .i64) ++ (([.slice pairs_a pairs.length pairs_c] : List Value) ++ (hit.flatMap (cI .i64))))))))).toArray) 102 mb_c)) (_h_walks : RowR 1 (slE 1 (iE .i64)) F walks_a walks_c walks) (h_hears : RowR 1 (slE 1 (iE .i64)) F hears_a hears_c hears) (h_notices : RowR 3 (prE (slE 1 (iE .i64)) (prE (iE .i64) (iE .i64))) F notices_a notices_c notices) (h_walks2 : walks2.length = 25) (_h_pairs : RowR 2 (prE (iE .i64) (iE .i64)) F pairs_a pairs_c pairs) (_h_hit : hit.length = 15) {r : Int} (hr : round_crier_first walks hears houses start notices walks2 pairs hit notice house = some r) :
    SpecV Try.prog 67 #[.pointer (some ⟨b_c, 0, none⟩), .agg #[.int .i64 notice, .int .i64 house]] F (.int .i64 r) := by
 refine spec_of_shW (args := [.pointer (some ⟨b_c, 0, none⟩), .agg #[.int .i64 notice, .int .i64 house]]) Try.func67 rfl Try.ntmps67 (Nat.le_of_ble_eq_true rfl) ?_
 intro K _ _; rw [round_crier_first] at hr
 refine wsr ?_
 refine o_box rfl rfl ?_; intro b1 hb1
 refine oa rfl rfl (nsr (oa rfl rfl (shO_nil ?_)))
 obtain ⟨out, h2, r3⟩ := b1_ok hr; clear hr
 refine shW_join (fun e1 F1 L1 => FExt F F1 ∧ L1 = [] ∧ e1.sub [(5, .int .i64 out)]) ?_ ?_
 · clear r3
   refine wsr (om rfl rfl ?_)
   refine ov (v_nilCheck rfl) rfl ?_
   refine ov (v_fieldAddr fa_102_0 rfl) rfl ?_
   refine ov (v_fieldAddr fa_26_1 rfl) rfl ?_
   refine ov (v_load Try.isAgg23 rfl (Has.frozen hb_c) (li_cell (li_skip (A := ([.slice walks_a walks.length walks_c] : List Value)) (k := 1) (o := 0) rfl (li_here (B := ([.int .i64 houses] : List Value) ++ (([.int .i64 start] : List Value) ++ (([.slice notices_a notices.length notices_c] : List Value) ++ (walks2.flatMap (cI .i64) ++ (([.slice pairs_a pairs.length pairs_c] : List Value) ++ (hit.flatMap (cI .i64))))))) rfl)))) rfl ?_
   refine ov (v_lenS Try.underlying23 rfl) rfl ?_
   refine om rfl rfl (shO_nil ?_)
   refine shW_block ?_
   refine shW_lp (fun fu1 e1 F1 L1 => ∃ (tl : List (List Int)) (k : Int), tl.length = fu1 ∧ Lst hears k tl ∧ ∃ (out2 : Int), round_crier_first_l1 start notices walks2 notice house tl k out2 = some out ∧ FExt F F1 ∧ L1 = [(b1, .cells #[.int .i64 notice, .int .i64 house] 54 (0, 0))] ∧ e1.sub [(0, .pointer (some ⟨b_c, 0, none⟩)), (3, .pointer (some ⟨b1, 0, none⟩)), (5, .int .i64 out2), (13, .slice hears_a hears.length hears_c), (14, .int .i64 (hears.length : Int)), (15, .int .i64 k)]) _ (m0 kr ⟨_, _, rfl, Lst.start _, -1, h2, FExt.refl _, rfl, (sc rfl (sc rfl (sc rfl (sc rfl (sc rfl (sc rfl (sn _)))))))⟩) ?_
   rintro fu1 e1 F8 _ ⟨tl, k, hn5, hk4, out2, r6, hF9, rfl, he7⟩
   refine shW_env _ he7 ?_; clear he7
   replace h_hears := h_hears.mono (slE_ok (iE_ok _)) hF9
   replace h_notices := h_notices.mono (prE_ok (slE_ok (iE_ok _)) (prE_ok (iE_ok _) (iE_ok _))) hF9
   replace hb_c := hF9 _ _ hb_c
   refine wsr ?_
   refine ov (v_lssK rfl rfl) rfl ?_
   refine shO_nil (shW_seq ?_)
   refine shW_condP rfl (fun c11 => ?_) (fun c11 => ?_)
   · obtain ⟨x, tl2, rfl, hx13, g14, hk12⟩ := Lst.succ hk4 c11
     rw [round_crier_first_l1] at r6
     refine shW_skip (shW_seq ?_)
     refine shW_block ?_
     refine wsr (om rfl rfl ?_)
     obtain ⟨b15, o16, c17, vs18, ha19, hs20, hle21, ⟨a24, c25, rfl, h26⟩, hl22, hc23⟩ := RowR.at (slE_ok (iE_ok _)) h_hears ([(b1, .cells #[.int .i64 notice, .int .i64 house] 54 (0, 0))]) g14.1 hx13
     refine ov (v_indexO Try.underlying23 Try.sizeOf30 rfl ha19 rfl g14) rfl ?_
     refine ov (v_load Try.isAgg30 rfl hs20 (hc23 0 (by decide))) rfl ?_
     refine oa rfl rfl (oa rfl rfl ?_)
     refine nsd (by kernel_rfl) (by kernel_rfl) (by kernel_rfl) ?_
     refine qm rfl rfl (qm rfl rfl ?_)
     refine qv (v_nilCheck rfl) rfl ?_
     refine qv (v_fieldAddr fa_102_0 rfl) rfl ?_
     refine qv (v_fieldAddr fa_26_3 rfl) rfl ?_
     refine qv (v_load Try.isAgg3 rfl (Has.frozen hb_c) (li_cell (li_skip (A := ([.slice walks_a walks.length walks_c] : List Value)) (k := 1) (o := 2) rfl (li_skip (A := ([.slice hears_a hears.length hears_c] : List Value)) (k := 1) (o := 1) rfl (li_skip (A := ([.int .i64 houses] : List Value)) (k := 1) (o := 0) rfl (li_here (B := ([.slice notices_a notices.length notices_c] : List Value) ++ (walks2.flatMap (cI .i64) ++ (([.slice pairs_a pairs.length pairs_c] : List Value) ++ (hit.flatMap (cI .i64))))) rfl)))))) rfl ?_
     refine qm rfl rfl ?_
     refine qv (v_nilCheck rfl) rfl ?_
     refine qv (v_fieldAddr fa_102_1 rfl) rfl ?_
     obtain ⟨g27, r28⟩ := gd_ok r6; clear r6
     refine qv (v_indexA Try.underlying98 Try.sizeOf96 rfl rfl g27) rfl ?_
     obtain ⟨g29, r30⟩ := gd_ok r28; clear r28
     obtain ⟨x2, g31, hx32, r33⟩ := ix_ok r30; clear r30
     have hq35 : (start * 5 + k : Int).toNat = (start : Int).toNat * 5 + (k : Int).toNat := by have := g27; have := g29; omega
     have hc34 := el_at2 (cI_ok .i64) h_walks2 hq35 hx32 (li_arr (li_skip (A := ([.slice walks_a walks.length walks_c] : List Value)) (k := 1) (o := 4) rfl (li_skip (A := ([.slice hears_a hears.length hears_c] : List Value)) (k := 1) (o := 3) rfl (li_skip (A := ([.int .i64 houses] : List Value)) (k := 1) (o := 2) rfl (li_skip (A := ([.int .i64 start] : List Value)) (k := 1) (o := 1) rfl (li_skip (A := ([.slice notices_a notices.length notices_c] : List Value)) (k := 1) (o := 0) rfl (li_here (B := ([.slice pairs_a pairs.length pairs_c] : List Value) ++ (hit.flatMap (cI .i64))) (lfl (cI_ok .i64) h_walks2)))))))) (li_le (li_skip (A := ([.slice walks_a walks.length walks_c] : List Value)) (k := 1) (o := 4) rfl (li_skip (A := ([.slice hears_a hears.length hears_c] : List Value)) (k := 1) (o := 3) rfl (li_skip (A := ([.int .i64 houses] : List Value)) (k := 1) (o := 2) rfl (li_skip (A := ([.int .i64 start] : List Value)) (k := 1) (o := 1) rfl (li_skip (A := ([.slice notices_a notices.length notices_c] : List Value)) (k := 1) (o := 0) rfl (li_here (B := ([.slice pairs_a pairs.length pairs_c] : List Value) ++ (hit.flatMap (cI .i64))) (lfl (cI_ok .i64) h_walks2))))))))
     refine qv (v_indexA Try.underlying96 Try.sizeOf3 rfl rfl g29) rfl ?_
     refine qv (v_load Try.isAgg3 rfl (Has.frozen hb_c) ((hc34).2.2 0 (by decide))) rfl ?_
     refine qa rfl rfl (shQ_nil ?_)
     obtain ⟨k2, h36, r37⟩ := b1_ok r33; clear r33
     refine shW_join (fun e1 F1 L1 => F8 = F1 ∧ L1 = [(b1, .cells #[.int .i64 notice, .int .i64 house] 54 (0, 0))] ∧ e1.sub [(0, .pointer (some ⟨b_c, 0, none⟩)), (3, .pointer (some ⟨b1, 0, none⟩)), (5, .int .i64 out2), (8, .int .i64 x2), (13, .slice hears_a hears.length hears_c), (14, .int .i64 (hears.length : Int)), (15, .int .i64 k), (39, .bool k2)]) ?_ ?_
     · clear r37
       refine shW_region (om rfl rfl ?_)
       refine ov (v_neq rfl rfl) rfl ?_
       refine om rfl rfl ?_
       by_cases c38 : x2 ≠ (-1)
       · have r39 := ite_t h36 c38; clear h36
         refine shO_on (b := true) 34 rfl (Env.isT rfl c38) (om rfl rfl (shO_on (b := true) 34 rfl (Env.isT rfl c38) ?_))
         refine ov (v_fieldAddr fa_54_1 rfl) rfl ?_
         refine shO_on (b := true) 34 rfl (Env.isT rfl c38) ?_
         refine ov (v_load Try.isAgg3 rfl (Has.own 0 rfl) rfl) rfl ?_
         refine shO_on (b := true) 34 rfl (Env.isT rfl c38) ?_
         obtain ⟨ok, h40, r41⟩ := b1_ok r39; clear r39
         refine o_callV rfl Try.call55 rfl rfl rfl (slices_Contains_int_int_w h26 h40) ?_
         refine ov (v_pick_t (evD_true rfl c38) rfl) rfl ?_
         refine shO_nil ?_
         obtain rfl := inj1 r41
         exact mi kr ⟨rfl, rfl, (sc rfl (sc rfl (sc rfl (sc rfl (sc rfl (sc rfl (sc rfl (sc rfl (sn _)))))))))⟩
       have r42 := ite_f h36 c38; clear h36
       refine shO_off (b' := false) 34 rfl (Env.isF rfl c38) rfl rfl (shO_off (b' := false) 34 rfl (Env.isF rfl c38) rfl rfl (shO_off (b' := false) 34 rfl (Env.isF rfl c38) rfl rfl (shO_off (b' := false) 34 rfl (Env.isF rfl c38) rfl rfl ?_)))
       refine ov (v_pick_f (evD_false rfl c38) rfl) rfl ?_
       refine shO_nil ?_
       obtain rfl := inj1 r42
       exact mi kr ⟨rfl, rfl, (sc rfl (sc rfl (sc rfl (sc rfl (sc rfl (sc rfl (sc rfl (sc rfl (sn _)))))))))⟩
     rintro e1 _ _ ⟨rfl, rfl, he43⟩
     refine shW_env _ he43 ?_; clear he43
     refine shW_cond rfl (fun c44 => ?_) (fun c44 => ?_)
     · have r45 := bt r37 c44; clear r37
       refine shW_drawM [(.still, 0), (.still, 1), (.still, 2), (.still, 3), (.still, 4), (.still, 5), (.still, 6), (.still, 7), (.still, 8), (.still, 9), (.still, 10), (.still, 11), (.still, 12), (.seq, 13), (.seq, 14), (.seq, 15)] (by kernel_rfl) (by kernel_rfl) (trivial) (by rfl) (by kernel_rfl) ?_
       refine shM_v (v := .int .i64 out2) (ek := [(5, .int .i64 out2)]) (Ls := []) rfl rfl rfl rfl ((sc rfl (sn _))) (by kernel_rfl) sm (fun H F' L' hF' hL' => v_move rfl) ?_
       refine shM_v (v := .int .i64 x2) (ek := [(8, .int .i64 x2)]) (Ls := []) rfl rfl rfl rfl ((sc rfl (sn _))) (by kernel_rfl) sm (fun H F' L' hF' hL' => v_move rfl) ?_
       refine shM_v (v := .pointer (some ⟨b_c, 0, none⟩)) (ek := [(0, .pointer (some ⟨b_c, 0, none⟩))]) (Ls := []) rfl rfl rfl rfl ((sc rfl (sn _))) (by kernel_rfl) sm (fun H F' L' hF' hL' => v_move rfl) ?_
       refine shM_v (v := .pointer (some ⟨b_c, 0, none⟩)) (ek := [(42, .pointer (some ⟨b_c, 0, none⟩))]) (Ls := []) rfl rfl rfl rfl ((sc rfl (sn _))) (by kernel_rfl) sm (fun H F' L' hF' hL' => v_nilCheck rfl) ?_
       refine shM_v (v := .pointer (some ⟨b_c, 0, none⟩)) (ek := [(43, .pointer (some ⟨b_c, 0, none⟩))]) (Ls := []) rfl rfl rfl rfl ((sc rfl (sn _))) (by kernel_rfl) sm (fun H F' L' hF' hL' => v_fieldAddr fa_102_0 rfl) ?_
       refine shM_v (v := .pointer (some ⟨b_c, 4, none⟩)) (ek := [(44, .pointer (some ⟨b_c, 0, none⟩))]) (Ls := []) rfl rfl rfl rfl ((sc rfl (sn _))) (by kernel_rfl) sm (fun H F' L' hF' hL' => v_fieldAddr fa_26_4 rfl) ?_
       refine shM_v (v := .slice notices_a notices.length notices_c) (ek := [(45, .pointer (some ⟨b_c, 4, none⟩))]) (Ls := []) rfl rfl rfl rfl ((sc rfl (sn _))) (by kernel_rfl) sm (fun H F' L' hF' hL' => v_load Try.isAgg24 rfl ((Has.frozen hb_c).ext hF' hL') (li_cell (li_skip (A := ([.slice walks_a walks.length walks_c] : List Value)) (k := 1) (o := 3) rfl (li_skip (A := ([.slice hears_a hears.length hears_c] : List Value)) (k := 1) (o := 2) rfl (li_skip (A := ([.int .i64 houses] : List Value)) (k := 1) (o := 1) rfl (li_skip (A := ([.int .i64 start] : List Value)) (k := 1) (o := 0) rfl (li_here (B := walks2.flatMap (cI .i64) ++ (([.slice pairs_a pairs.length pairs_c] : List Value) ++ (hit.flatMap (cI .i64)))) rfl))))))) ?_
       refine shM_v (v := .pointer (some ⟨b1, 0, none⟩)) (ek := [(3, .pointer (some ⟨b1, 0, none⟩))]) (Ls := []) rfl rfl rfl rfl ((sc rfl (sn _))) (by kernel_rfl) sm (fun H F' L' hF' hL' => v_fieldAddr fa_54_0 rfl) ?_
       refine shM_v (v := .int .i64 notice) (ek := [(47, .pointer (some ⟨b1, 0, none⟩))]) (Ls := [(b1, .cells #[.int .i64 notice, .int .i64 house] 54 (0, 0))]) rfl rfl rfl rfl ((sc rfl (sn _))) (by kernel_rfl) (s0 sr) (fun H F' L' hF' hL' => v_load Try.isAgg3 rfl ((Has.own 0 rfl).ext hF' hL') rfl) ?_
       obtain ⟨x3, g46, hx47, r48⟩ := ix_ok r45; clear r45
       obtain ⟨b49, o50, c51, vs52, ha53, hs54, hle55, ⟨_, _, rfl, ⟨a58, c59, rfl, h60⟩, ⟨_, _, rfl, rfl, rfl⟩⟩, hl56, hc57⟩ := RowR.at (prE_ok (slE_ok (iE_ok _)) (prE_ok (iE_ok _) (iE_ok _))) h_notices ([]) g46.1 hx47
       refine shM_v (v := .pointer (some ⟨b49, o50 + (notice : Int).toNat * 3, none⟩)) (ek := [(46, .slice notices_a notices.length notices_c), (48, .int .i64 notice)]) (Ls := []) rfl rfl rfl rfl ((sc rfl (sc rfl (sn _)))) (by kernel_rfl) sm (fun H F' L' hF' hL' => v_indexO Try.underlying24 Try.sizeOf39 rfl ha53 rfl g46) ?_
       refine shM_v (v := .pointer (some ⟨b49, o50 + (notice : Int).toNat * 3 + 1, none⟩)) (ek := [(49, .pointer (some ⟨b49, o50 + (notice : Int).toNat * 3, none⟩))]) (Ls := []) rfl rfl rfl rfl ((sc rfl (sn _))) (by kernel_rfl) sm (fun H F' L' hF' hL' => v_fieldAddr fa_39_1 rfl) ?_
       refine shM_v (v := .int .i64 x3.2.1) (ek := [(50, .pointer (some ⟨b49, o50 + (notice : Int).toNat * 3 + 1, none⟩))]) (Ls := []) rfl rfl rfl rfl ((sc rfl (sn _))) (by kernel_rfl) sm (fun H F' L' hF' hL' => v_load Try.isAgg3 rfl (hs54.ext hF' hL') (hc57 1 (by decide))) ?_
       obtain ⟨g61, r62⟩ := gd_ok r48; clear r48
       refine shM_v (v := .int .i64 (x2 + x3.2.1)) (ek := [(41, .int .i64 x2), (51, .int .i64 x3.2.1)]) (Ls := []) rfl rfl rfl rfl ((sc rfl (sc rfl (sn _)))) (by kernel_rfl) sm (fun H F' L' hF' hL' => v_add rfl rfl g61) ?_
       refine ⟨_, [(40, .int .i64 out2), (52, .int .i64 (x2 + x3.2.1))], rfl, rfl, (sc rfl (sc rfl (sn _))), by kernel_rfl, ?_⟩; intro H
       refine o_buildSlice (cs := #[.int .i64 out2, .int .i64 (x2 + x3.2.1)]) rfl rfl (buildSlice_all slt_30 [.int .i64 out2, .int .i64 (x2 + x3.2.1)] rfl (by decide) (by simp [Value.cells]) (by decide)) ?_; intro b63 hb63
       refine shO_nil ⟨_, rfl, FExt.refl _, [7, 5, 4, 3, 2], by kernel_rfl, .inl (.inr (fun d h => by cases h; rfl)), (List.forall_mem_cons.2 ⟨sm, (List.forall_mem_cons.2 ⟨sm, (List.forall_mem_cons.2 ⟨sm, (List.forall_mem_cons.2 ⟨sm, (List.forall_mem_cons.2 ⟨sm, (fun _ h => absurd h List.not_mem_nil)⟩)⟩)⟩)⟩)⟩), ?_⟩
       refine ⟨_, [(53, .slice (some ⟨b63, 0, none⟩) 2 2)], rfl, rfl, (sc rfl (sn _)), by kernel_rfl, ?_⟩; intro H
       refine shO_freeze 0 rfl hb63 ?_; intro F64 hF65 hz66
       refine shO_L (L' := [(b1, .cells #[.int .i64 notice, .int .i64 house] 54 (0, 0))]) rfl ?_
       replace h_hears := h_hears.mono (slE_ok (iE_ok _)) hF65
       have h67 : RowR 1 (iE .i64) F64 (some ⟨b63, 0, none⟩) 2 [out2, x2 + x3.2.1] := RowR.of_block (iE_ok _) (vss := [[.int .i64 out2], [.int .i64 (x2 + x3.2.1)]]) (xs := [out2, x2 + x3.2.1]) hz66 (.cons rfl (.cons rfl .nil)) rfl (by simp [maxLen])
       obtain ⟨n, h68, r69⟩ := b1_ok r62; clear r62
       refine o_callV rfl Try.call73 rfl rfl rfl (round_soonest_w h67 h68) ?_
       refine shO_nil ⟨_, rfl, hF65, [7, 5, 4, 3, 2], by kernel_rfl, .inl (.inr (fun d h => by cases h; rfl)), (List.forall_mem_cons.2 ⟨sm, (List.forall_mem_cons.2 ⟨sm, (List.forall_mem_cons.2 ⟨sm, (List.forall_mem_cons.2 ⟨sm, (List.forall_mem_cons.2 ⟨sm, (fun _ h => absurd h List.not_mem_nil)⟩)⟩)⟩)⟩)⟩), ?_⟩
       refine ⟨_, [(54, .int .i64 n)], rfl, rfl, (sc rfl (sn _)), by kernel_rfl, ?_⟩; intro H
       refine oa rfl rfl ?_
       refine shO_nil ⟨_, rfl, FExt.refl _, [], by kernel_rfl, .inl (.inl rfl), (fun _ h => absurd h List.not_mem_nil), ?_⟩
       refine shM_nil ?_
       refine inBlock_n (id := 1) (shW_region ?_)
       refine ov (v_add rfl rfl (Lst.r64 hk4 c11 (RowR.lt h_hears))) rfl ?_
       refine om rfl rfl (shO_nil ?_)
       subst hn5; exact le kr ⟨_, _, rfl, hk12, n, r69, (hF9.trans hF65), rfl, (sc rfl (sc rfl (sc rfl (sc rfl (sc rfl (sc rfl (sn _)))))))⟩
     have r70 := bf r37 c44; clear r37
     refine shW_skip (inBlock_n (id := 1) (shW_region ?_))
     refine ov (v_add rfl rfl (Lst.r64 hk4 c11 (RowR.lt h_hears))) rfl ?_
     refine om rfl rfl (shO_nil ?_)
     subst hn5; exact le kr ⟨_, _, rfl, hk12, out2, r70, hF9, rfl, (sc rfl (sc rfl (sc rfl (sc rfl (sc rfl (sc rfl (sn _)))))))⟩
   obtain rfl := Lst.zero hk4 c11
   rw [round_crier_first_l1] at r6
   refine shW_exit (andThen_exit (andThen_exit ?_))
   refine inBlock_exit ?_
   obtain rfl := inj1 r6
   exact mi kn ⟨hF9, rfl, (sc rfl (sn _))⟩
 rintro e1 F72 _ ⟨hF73, rfl, he71⟩
 refine shW_env _ he71 ?_; clear he71
 refine wsr (om rfl rfl (oa rfl rfl (shO_nil (shW_ret ?_))))
 refine q_res1 Try.results67 (res_tmp rfl) (sr) ?_
 obtain rfl := inj1 r3
 exact rfl
set_option maxHeartbeats 1000000 in
theorem round_Soonest_w {walks_a : Option Addr} {walks_c : Nat} {walks : List (List Int)} {hears_a : Option Addr} {hears_c : Nat} {hears : List (List Int)} {houses : Int} {start : Int} {notices_a : Option Addr} {notices_c : Nat} {notices : List ((List Int) × Int × Int)} {notice : Int} {house : Int} {F : FS} (h_walks : RowR 1 (slE 1 (iE .i64)) F walks_a walks_c walks) (h_hears : RowR 1 (slE 1 (iE .i64)) F hears_a hears_c hears) (h_notices : RowR 3 (prE (slE 1 (iE .i64)) (prE (iE .i64) (iE .i64))) F notices_a notices_c notices) {r : Int} {r2 : Int} (hr : round_Soonest walks hears houses start notices notice house = some (r, r2)) :
    SpecV Try.prog 40 #[.agg #[.slice walks_a walks.length walks_c, .slice hears_a hears.length hears_c, .int .i64 houses, .int .i64 start, .slice notices_a notices.length notices_c], .agg #[.int .i64 notice, .int .i64 house]] F (.tuple #[.int .i64 r, .int .i64 r2]) := by
 refine spec_of_shW (args := [.agg #[.slice walks_a walks.length walks_c, .slice hears_a hears.length hears_c, .int .i64 houses, .int .i64 start, .slice notices_a notices.length notices_c], .agg #[.int .i64 notice, .int .i64 house]]) Try.func40 rfl Try.ntmps40 (Nat.le_of_ble_eq_true rfl) ?_
 intro K _ _; rw [round_Soonest] at hr
 refine wsr ?_
 refine o_box rfl rfl ?_; intro b1 hb1
 refine o_box rfl rfl ?_; intro b2 hb2
 refine oa rfl rfl (oa rfl rfl (nsr ?_))
 refine ov (v_loadA (cs := #[.slice walks_a walks.length walks_c, .slice hears_a hears.length hears_c, .int .i64 houses, .int .i64 start, .slice notices_a notices.length notices_c]) Try.isAgg26 Try.sizeOf26 rfl (Has.own 1 rfl) (Nat.le_of_ble_eq_true rfl) rfl) rfl ?_
 obtain ⟨d, n, h3, r4⟩ := b2_ok hr; clear hr
 refine o_call0 rfl Try.call26 rfl rfl rfl (round_opened_w h_walks h_hears h_notices h3) ?_; rintro _ F5 _ hF6 hn7 ⟨v9, rfl, rfl, hp10⟩
 refine shO_L (ln rfl) ?_
 refine om rfl rfl (ox rfl rfl rfl (ox rfl rfl rfl (oa rfl rfl (oa rfl rfl (shO_nil (shW_seq ?_))))))
 refine shW_block ?_
 refine wsr (om rfl rfl ?_)
 refine ov (v_neq rfl rfl) rfl ?_
 refine oa rfl rfl (shO_nil ?_)
 refine shW_condP rfl (fun c11 => ?_) (fun c11 => ?_)
 · have r12 := ite_t r4 c11; clear r4
   refine wsr (om rfl rfl (oa rfl rfl (oa rfl rfl (shO_nil ?_))))
   refine kW kn ?_
   refine shW_ret (inBlock_ret (andThen_ret ?_))
   refine q_res2 Try.results40 (res_tmp rfl) (res_tmp rfl) (sr) ?_
   obtain ⟨rfl, rfl⟩ := inj2 r12
   exact rfl
 have r13 := ite_f r4 c11; clear r4
 refine wsr (om rfl rfl ?_)
 refine ov (v_loadA (cs := #[.int .i64 notice, .int .i64 house]) Try.isAgg54 Try.sizeOf54 rfl (Has.own 0 rfl) (Nat.le_of_ble_eq_true rfl) rfl) rfl ?_
 obtain ⟨walks2, hears2, houses2, start2, notices2, walks3, pairs, hit, h14, r15⟩ := b8_ok r13; clear r13
 have h35 := hp10; rw [h14] at h35; obtain ⟨b16, c17, m18, hv19, hz20, ⟨_, _, rfl, ⟨a21, c22, rfl, h23⟩, ⟨_, _, rfl, ⟨a24, c25, rfl, h26⟩, ⟨_, _, rfl, rfl, ⟨_, _, rfl, rfl, ⟨_, _, rfl, ⟨a27, c28, rfl, h29⟩, ⟨_, _, rfl, ⟨rfl, h30⟩, ⟨_, _, rfl, ⟨a31, c32, rfl, h33⟩, ⟨rfl, h34⟩⟩⟩⟩⟩⟩⟩⟩⟩ := h35; subst hv19
 have hz20 : F5 b16 = some (.cells ((([.slice a21 walks2.length c22] : List Value) ++ (([.slice a24 hears2.length c25] : List Value) ++ (([.int .i64 houses2] : List Value) ++ (([.int .i64 start2] : List Value) ++ (([.slice a27 notices2.length c28] : List Value) ++ (walks3.flatMap (cI .i64) ++ (([.slice a31 pairs.length c32] : List Value) ++ (hit.flatMap (cI .i64))))))))).toArray) 102 m18) := hz20
 obtain ⟨n2, h36, r37⟩ := b1_ok r15; clear r15
 refine o_callV rfl Try.call47 rfl rfl rfl (round_crier_index_w hz20 h23 h26 h29 h30 h33 h34 h36) ?_
 refine ov (v_lssK rfl rfl) rfl ?_
 refine oa rfl rfl (shO_nil ?_)
 refine shW_condP rfl (fun c38 => ?_) (fun c38 => ?_)
 · have r39 := ite_t r37 c38; clear r37
   refine wsr (oa rfl rfl (oa rfl rfl (shO_nil ?_)))
   refine kW kn ?_
   refine shW_ret (inBlock_ret (andThen_ret ?_))
   refine q_res2 Try.results40 (res_tmp rfl) (res_tmp rfl) (sr) ?_
   obtain ⟨rfl, rfl⟩ := inj2 r39
   exact rfl
 have r40 := ite_f r37 c38; clear r37
 refine shW_skip (inBlock_n (id := 0) (wsr (om rfl rfl ?_)))
 refine ov (v_loadA (cs := #[.int .i64 notice, .int .i64 house]) Try.isAgg54 Try.sizeOf54 rfl (Has.own 0 rfl) (Nat.le_of_ble_eq_true rfl) rfl) rfl ?_
 obtain ⟨n3, h41, r42⟩ := b1_ok r40; clear r40
 refine o_callV rfl Try.call67 rfl rfl rfl (round_crier_first_w hz20 h23 h26 h29 h30 h33 h34 h41) ?_
 refine oa rfl rfl (shO_nil (shW_seq (wsr (om rfl rfl ?_))))
 refine ov (v_eql rfl rfl) rfl ?_
 refine shO_nil ?_
 refine shW_condP rfl (fun c43 => ?_) (fun c43 => ?_)
 · have r44 := ite_t r42 c43; clear r42
   refine wsr (oa rfl rfl (oa rfl rfl (shO_nil ?_)))
   refine kW kn ?_
   refine shW_ret (andThen_ret ?_)
   refine q_res2 Try.results40 (res_tmp rfl) (res_tmp rfl) (sr) ?_
   obtain ⟨rfl, rfl⟩ := inj2 r44
   exact rfl
 have r45 := ite_f r42 c43; clear r42
 refine shW_skip (wsr (om rfl rfl (oa rfl rfl (oa rfl rfl (shO_nil ?_)))))
 refine kW kn ?_
 refine shW_ret ?_
 refine q_res2 Try.results40 (res_tmp rfl) (res_tmp rfl) (sr) ?_
 obtain ⟨rfl, rfl⟩ := inj2 r45
 exact rfl
set_option maxHeartbeats 1000000 in
theorem oyezlaw03_awake_w {F : FS} {r : Bool} (hr : oyezlaw03_awake = some r) :
    SpecV Try.prog 12 #[] F (.bool r) := by
 refine spec_of_shW (args := []) Try.func12 rfl Try.ntmps12 (Nat.le_of_ble_eq_true rfl) ?_
 intro K _ _; rw [oyezlaw03_awake] at hr
 refine wsr (oa rfl rfl (nsr ?_))
 obtain ⟨l, l2, n, n2, l3, h1, r2⟩ := b5_ok hr; clear hr
 refine o_call0 rfl Try.call34 rfl rfl rfl (oyezlaw03_Three_w h1) ?_; rintro _ F3 _ hF4 hn5 ⟨a7, n11, c8, Lb9, a13, n17, c14, Lb15, a19, n23, c20, Lb21, rfl, rfl, hz10, hz16, hz22⟩
 replace hz10 := hz10.new fun p hp => hn5 p (by simp [hp])
 replace hz16 := hz16.new fun p hp => hn5 p (by simp [hp])
 replace hz22 := hz22.new fun p hp => hn5 p (by simp [hp])
 refine shO_L (lp (lp (lp (ln rfl)))) ?_
 obtain ⟨l4, n3, n4, h25, r26⟩ := b3_ok r2; clear r2
 refine o_callTO (Lb := []) (Lt := Lb9 ++ (Lb15 ++ (Lb21 ++ []))) (Lr := []) rfl Try.call9 rfl rfl rfl (pT pR (ln (lp (lp (lp (ln rfl)))))) (fun F2 h2 h3 => by rw [(SlR.caps hz10).1]; rw [(SlR.caps hz16).1]; rw [(SlR.caps hz22).1]; exact round_Best_w (hz10.row (slE_ok (iE_ok _)) h2 (fun p hp => h3 p (List.mem_append_left _ hp))) (hz16.row (slE_ok (iE_ok _)) h2 (fun p hp => h3 p (List.mem_append_right _ (List.mem_append_left _ hp)))) (hz22.row (prE_ok (slE_ok (iE_ok _)) (prE_ok (iE_ok _) (iE_ok _))) h2 (fun p hp => h3 p (List.mem_append_right _ (List.mem_append_right _ (List.mem_append_left _ hp))))) h25) (fun _ _ _ _ hq => by obtain ⟨a31, n35, c32, Lb33, rfl, rfl, hz34⟩ := hq; exact ⟨_, _, _, _, rfl, rfl, hz34.flat (fun _ _ h => h)⟩) ?_; rintro _ F27 _ hF28 hd30 hn29 ⟨a31, n35, c32, Lb33, rfl, rfl, hz34⟩
 have hn37 := newp (Lb' := []) (by rfl) hd30 hn29
 replace hz34 := hz34.new fun p hp => hn37 p (by simp [hp])
 refine shO_L (lp (ln (lp (lp (lp (ln rfl)))))) ?_
 refine om rfl rfl (ox rfl rfl rfl (ox rfl rfl rfl (ox rfl rfl rfl (oa rfl rfl (oa rfl rfl (oa rfl rfl (nsr ?_)))))))
 obtain ⟨l5, l6, n5, n6, l7, h38, r39⟩ := b5_ok r26; clear r26
 refine o_call0 rfl Try.call34 rfl rfl rfl (oyezlaw03_Three_w h38) ?_; rintro _ F40 _ hF41 hn42 ⟨a44, n48, c45, Lb46, a50, n54, c51, Lb52, a56, n60, c57, Lb58, rfl, rfl, hz47, hz53, hz59⟩
 replace hz34 := hz34.mono (prE_ok (iE_ok _) (iE_ok _)) hF41
 replace hz47 := hz47.new fun p hp => hn42 p (by simp [hp])
 replace hz53 := hz53.new fun p hp => hn42 p (by simp [hp])
 replace hz59 := hz59.new fun p hp => hn42 p (by simp [hp])
 refine shO_L (lp (lp (lp (ln rfl)))) ?_
 refine om rfl rfl ?_
 obtain ⟨l8, n7, h62, r63⟩ := b2_ok r39; clear r39
 refine o_callTO (Lb := []) (Lt := Lb46 ++ (Lb52 ++ (Lb58 ++ (Lb33 ++ [])))) (Lr := Lb9 ++ (Lb15 ++ (Lb21 ++ []))) rfl Try.call35 rfl rfl rfl (pT pR (ln (lp (lp (lp (lp (ln rfl))))))) (fun F2 h2 h3 => by rw [(SlR.caps hz47).1]; rw [(SlR.caps hz53).1]; rw [(SlR.caps hz59).1]; rw [(SlR.caps hz34).1]; exact round_Missed_w (hz47.row (slE_ok (iE_ok _)) h2 (fun p hp => h3 p (List.mem_append_left _ hp))) (hz53.row (slE_ok (iE_ok _)) h2 (fun p hp => h3 p (List.mem_append_right _ (List.mem_append_left _ hp)))) (hz59.row (prE_ok (slE_ok (iE_ok _)) (prE_ok (iE_ok _) (iE_ok _))) h2 (fun p hp => h3 p (List.mem_append_right _ (List.mem_append_right _ (List.mem_append_left _ hp))))) (hz34.row (prE_ok (iE_ok _) (iE_ok _)) h2 (fun p hp => h3 p (List.mem_append_right _ (List.mem_append_right _ (List.mem_append_right _ (List.mem_append_left _ hp)))))) h62) (fun _ _ _ _ hq => by obtain ⟨a68, n72, c69, Lb70, rfl, rfl, hz71⟩ := hq; exact ⟨_, _, _, _, rfl, rfl, hz71.flat (fun _ _ h => h)⟩) ?_; rintro _ F64 _ hF65 hd67 hn66 ⟨a68, n72, c69, Lb70, rfl, rfl, hz71⟩
 have hn74 := newp (Lb' := []) (by rfl) hd67 hn66
 replace hz71 := hz71.new fun p hp => hn74 p (by simp [hp])
 refine shO_L (lp (ln (lp (lp (lp (lp (ln rfl))))))) ?_
 refine om rfl rfl (ox rfl rfl rfl (ox rfl rfl rfl (oa rfl rfl (oa rfl rfl (nsr ?_)))))
 obtain ⟨l9, l10, n8, n9, l11, h75, r76⟩ := b5_ok r63; clear r63
 refine o_call0 rfl Try.call34 rfl rfl rfl (oyezlaw03_Three_w h75) ?_; rintro _ F77 _ hF78 hn79 ⟨a81, n85, c82, Lb83, a87, n91, c88, Lb89, a93, n97, c94, Lb95, rfl, rfl, hz84, hz90, hz96⟩
 replace hz71 := hz71.mono (prE_ok (iE_ok _) (iE_ok _)) hF78
 replace hz84 := hz84.new fun p hp => hn79 p (by simp [hp])
 replace hz90 := hz90.new fun p hp => hn79 p (by simp [hp])
 replace hz96 := hz96.new fun p hp => hn79 p (by simp [hp])
 refine shO_L (lp (lp (lp (ln rfl)))) ?_
 obtain ⟨n10, n11, h99, r100⟩ := b2_ok r76; clear r76
 refine o_callT (Lt := Lb83 ++ (Lb89 ++ (Lb95 ++ []))) (Lr := Lb70 ++ (Lb46 ++ (Lb52 ++ (Lb58 ++ (Lb33 ++ (Lb9 ++ (Lb15 ++ (Lb21 ++ [])))))))) rfl Try.call36 rfl rfl rfl (pT pR (lp (lp (lp (ln rfl))))) (fun F2 h2 h3 => by rw [(SlR.caps hz84).1]; rw [(SlR.caps hz90).1]; rw [(SlR.caps hz96).1]; exact round_Walk_w (hz84.row (slE_ok (iE_ok _)) h2 (fun p hp => h3 p (List.mem_append_left _ hp))) (hz90.row (slE_ok (iE_ok _)) h2 (fun p hp => h3 p (List.mem_append_right _ (List.mem_append_left _ hp)))) (hz96.row (prE_ok (slE_ok (iE_ok _)) (prE_ok (iE_ok _) (iE_ok _))) h2 (fun p hp => h3 p (List.mem_append_right _ (List.mem_append_right _ (List.mem_append_left _ hp))))) h99) ?_
 refine om rfl rfl (ox rfl rfl rfl (ox rfl rfl rfl (oa rfl rfl (oa rfl rfl (nsr ?_)))))
 obtain ⟨l12, l13, n12, n13, l14, h101, r102⟩ := b5_ok r100; clear r100
 refine o_call0 rfl Try.call34 rfl rfl rfl (oyezlaw03_Three_w h101) ?_; rintro _ F103 _ hF104 hn105 ⟨a107, n111, c108, Lb109, a113, n117, c114, Lb115, a119, n123, c120, Lb121, rfl, rfl, hz110, hz116, hz122⟩
 replace hz71 := hz71.mono (prE_ok (iE_ok _) (iE_ok _)) hF104
 replace hz110 := hz110.new fun p hp => hn105 p (by simp [hp])
 replace hz116 := hz116.new fun p hp => hn105 p (by simp [hp])
 replace hz122 := hz122.new fun p hp => hn105 p (by simp [hp])
 refine shO_L (lp (lp (lp (ln rfl)))) ?_
 obtain ⟨l15, n14, h125, r126⟩ := b2_ok r102; clear r102
 refine o_callTO (Lb := []) (Lt := Lb109 ++ (Lb115 ++ (Lb121 ++ []))) (Lr := Lb83 ++ (Lb89 ++ (Lb95 ++ (Lb70 ++ (Lb46 ++ (Lb52 ++ (Lb58 ++ (Lb33 ++ (Lb9 ++ (Lb15 ++ (Lb21 ++ []))))))))))) rfl Try.call37 rfl rfl rfl (pT pR (ln (lp (lp (lp (ln rfl)))))) (fun F2 h2 h3 => by rw [(SlR.caps hz110).1]; rw [(SlR.caps hz116).1]; rw [(SlR.caps hz122).1]; exact round_Before_w (hz110.row (slE_ok (iE_ok _)) h2 (fun p hp => h3 p (List.mem_append_left _ hp))) (hz116.row (slE_ok (iE_ok _)) h2 (fun p hp => h3 p (List.mem_append_right _ (List.mem_append_left _ hp)))) (hz122.row (prE_ok (slE_ok (iE_ok _)) (prE_ok (iE_ok _) (iE_ok _))) h2 (fun p hp => h3 p (List.mem_append_right _ (List.mem_append_right _ (List.mem_append_left _ hp))))) h125) (fun _ _ _ _ hq => by obtain ⟨a131, n135, c132, Lb133, rfl, rfl, hz134⟩ := hq; exact ⟨_, _, _, _, rfl, rfl, hz134.flat (fun _ _ h => h)⟩) ?_; rintro _ F127 _ hF128 hd130 hn129 ⟨a131, n135, c132, Lb133, rfl, rfl, hz134⟩
 replace hz71 := hz71.mono (prE_ok (iE_ok _) (iE_ok _)) hF128
 have hn137 := newp (Lb' := []) (by rfl) hd130 hn129
 replace hz134 := hz134.new fun p hp => hn137 p (by simp [hp])
 refine shO_L (lp (ln (lp (lp (lp (ln rfl)))))) ?_
 refine om rfl rfl (ox rfl rfl rfl (ox rfl rfl rfl (oa rfl rfl (oa rfl rfl (shO_nil (shW_seq ?_))))))
 obtain ⟨k, h138, r139⟩ := b1_ok r126; clear r126
 refine shW_join (fun e1 F1 L1 => FExt F127 F1 ∧ L1 = [] ∧ e1.sub [(71, .bool k)]) ?_ ?_
 · clear r139
   refine shW_region (om rfl rfl ?_)
   refine ov (v_neq rfl rfl) rfl ?_
   refine om rfl rfl ?_
   by_cases c140 : n4 ≠ 0
   · have r141 := ite_t h138 c140; clear h138
     refine shO_off (b' := true) 38 rfl (Env.isT rfl c140) rfl rfl (shO_off (b' := true) 38 rfl (Env.isT rfl c140) rfl rfl ?_)
     refine ov (v_pick_t (evD_true rfl c140) rfl) rfl ?_
     refine om rfl rfl (shO_off (b' := true) 42 rfl rfl rfl rfl (shO_off (b' := true) 42 rfl rfl rfl rfl ?_))
     refine ov (v_pick_t rfl rfl) rfl ?_
     refine om rfl rfl (shO_off (b' := true) 46 rfl rfl rfl rfl (shO_off (b' := true) 46 rfl rfl rfl rfl ?_))
     refine ov (v_pick_t rfl rfl) rfl ?_
     refine om rfl rfl (shO_off (b' := true) 50 rfl rfl rfl rfl (shO_off (b' := true) 50 rfl rfl rfl rfl ?_))
     refine ov (v_pick_t rfl rfl) rfl ?_
     refine om rfl rfl (shO_off (b' := true) 54 rfl rfl rfl rfl (shO_off (b' := true) 54 rfl rfl rfl rfl (shO_off (b' := true) 54 rfl rfl rfl rfl ?_)))
     refine ov (v_pick_t rfl rfl) rfl ?_
     refine om rfl rfl (shO_off (b' := true) 59 rfl rfl rfl rfl (shO_off (b' := true) 59 rfl rfl rfl rfl ?_))
     refine ov (v_pick_t rfl rfl) rfl ?_
     refine om rfl rfl (shO_off (b' := true) 63 rfl rfl rfl rfl (shO_off (b' := true) 63 rfl rfl rfl rfl (shO_off (b' := true) 63 rfl rfl rfl rfl (shO_off (b' := true) 63 rfl rfl rfl rfl (shO_off (b' := true) 63 rfl rfl rfl rfl (shO_off (b' := true) 63 rfl rfl rfl rfl (shO_off (b' := true) 63 rfl rfl rfl rfl ?_)))))))
     refine ov (v_pick_t rfl rfl) rfl ?_
     refine shO_nil ?_
     obtain rfl := inj1 r141
     exact mi kn ⟨FExt.refl _, rfl, (sc rfl (sn _))⟩
   have r142 := ite_f h138 c140; clear h138
   refine shO_on (b := false) 38 rfl (Env.isF rfl c140) (om rfl rfl (shO_on (b := false) 38 rfl (Env.isF rfl c140) ?_))
   refine ov (v_neq rfl rfl) rfl ?_
   refine ov (v_pick_f (evD_false rfl c140) rfl) rfl ?_
   refine om rfl rfl ?_
   by_cases c143 : n7 ≠ 0
   · have r144 := ite_t r142 c143; clear r142
     refine shO_off (b' := true) 42 rfl (Env.isT rfl c143) rfl rfl (shO_off (b' := true) 42 rfl (Env.isT rfl c143) rfl rfl ?_)
     refine ov (v_pick_t (evD_true rfl c143) rfl) rfl ?_
     refine om rfl rfl (shO_off (b' := true) 46 rfl rfl rfl rfl (shO_off (b' := true) 46 rfl rfl rfl rfl ?_))
     refine ov (v_pick_t rfl rfl) rfl ?_
     refine om rfl rfl (shO_off (b' := true) 50 rfl rfl rfl rfl (shO_off (b' := true) 50 rfl rfl rfl rfl ?_))
     refine ov (v_pick_t rfl rfl) rfl ?_
     refine om rfl rfl (shO_off (b' := true) 54 rfl rfl rfl rfl (shO_off (b' := true) 54 rfl rfl rfl rfl (shO_off (b' := true) 54 rfl rfl rfl rfl ?_)))
     refine ov (v_pick_t rfl rfl) rfl ?_
     refine om rfl rfl (shO_off (b' := true) 59 rfl rfl rfl rfl (shO_off (b' := true) 59 rfl rfl rfl rfl ?_))
     refine ov (v_pick_t rfl rfl) rfl ?_
     refine om rfl rfl (shO_off (b' := true) 63 rfl rfl rfl rfl (shO_off (b' := true) 63 rfl rfl rfl rfl (shO_off (b' := true) 63 rfl rfl rfl rfl (shO_off (b' := true) 63 rfl rfl rfl rfl (shO_off (b' := true) 63 rfl rfl rfl rfl (shO_off (b' := true) 63 rfl rfl rfl rfl (shO_off (b' := true) 63 rfl rfl rfl rfl ?_)))))))
     refine ov (v_pick_t rfl rfl) rfl ?_
     refine shO_nil ?_
     obtain rfl := inj1 r144
     exact mi kn ⟨FExt.refl _, rfl, (sc rfl (sn _))⟩
   have r145 := ite_f r142 c143; clear r142
   refine shO_on (b := false) 42 rfl (Env.isF rfl c143) (om rfl rfl (shO_on (b := false) 42 rfl (Env.isF rfl c143) ?_))
   refine ov (v_neq rfl rfl) rfl ?_
   refine ov (v_pick_f (evD_false rfl c143) rfl) rfl ?_
   refine om rfl rfl ?_
   by_cases c146 : n11 ≠ 0
   · have r147 := ite_t r145 c146; clear r145
     refine shO_off (b' := true) 46 rfl (Env.isT rfl c146) rfl rfl (shO_off (b' := true) 46 rfl (Env.isT rfl c146) rfl rfl ?_)
     refine ov (v_pick_t (evD_true rfl c146) rfl) rfl ?_
     refine om rfl rfl (shO_off (b' := true) 50 rfl rfl rfl rfl (shO_off (b' := true) 50 rfl rfl rfl rfl ?_))
     refine ov (v_pick_t rfl rfl) rfl ?_
     refine om rfl rfl (shO_off (b' := true) 54 rfl rfl rfl rfl (shO_off (b' := true) 54 rfl rfl rfl rfl (shO_off (b' := true) 54 rfl rfl rfl rfl ?_)))
     refine ov (v_pick_t rfl rfl) rfl ?_
     refine om rfl rfl (shO_off (b' := true) 59 rfl rfl rfl rfl (shO_off (b' := true) 59 rfl rfl rfl rfl ?_))
     refine ov (v_pick_t rfl rfl) rfl ?_
     refine om rfl rfl (shO_off (b' := true) 63 rfl rfl rfl rfl (shO_off (b' := true) 63 rfl rfl rfl rfl (shO_off (b' := true) 63 rfl rfl rfl rfl (shO_off (b' := true) 63 rfl rfl rfl rfl (shO_off (b' := true) 63 rfl rfl rfl rfl (shO_off (b' := true) 63 rfl rfl rfl rfl (shO_off (b' := true) 63 rfl rfl rfl rfl ?_)))))))
     refine ov (v_pick_t rfl rfl) rfl ?_
     refine shO_nil ?_
     obtain rfl := inj1 r147
     exact mi kn ⟨FExt.refl _, rfl, (sc rfl (sn _))⟩
   have r148 := ite_f r145 c146; clear r145
   refine shO_on (b := false) 46 rfl (Env.isF rfl c146) (om rfl rfl (shO_on (b := false) 46 rfl (Env.isF rfl c146) ?_))
   refine ov (v_neq rfl rfl) rfl ?_
   refine ov (v_pick_f (evD_false rfl c146) rfl) rfl ?_
   refine om rfl rfl ?_
   by_cases c149 : n14 ≠ 0
   · have r150 := ite_t r148 c149; clear r148
     refine shO_off (b' := true) 50 rfl (Env.isT rfl c149) rfl rfl (shO_off (b' := true) 50 rfl (Env.isT rfl c149) rfl rfl ?_)
     refine ov (v_pick_t (evD_true rfl c149) rfl) rfl ?_
     refine om rfl rfl (shO_off (b' := true) 54 rfl rfl rfl rfl (shO_off (b' := true) 54 rfl rfl rfl rfl (shO_off (b' := true) 54 rfl rfl rfl rfl ?_)))
     refine ov (v_pick_t rfl rfl) rfl ?_
     refine om rfl rfl (shO_off (b' := true) 59 rfl rfl rfl rfl (shO_off (b' := true) 59 rfl rfl rfl rfl ?_))
     refine ov (v_pick_t rfl rfl) rfl ?_
     refine om rfl rfl (shO_off (b' := true) 63 rfl rfl rfl rfl (shO_off (b' := true) 63 rfl rfl rfl rfl (shO_off (b' := true) 63 rfl rfl rfl rfl (shO_off (b' := true) 63 rfl rfl rfl rfl (shO_off (b' := true) 63 rfl rfl rfl rfl (shO_off (b' := true) 63 rfl rfl rfl rfl (shO_off (b' := true) 63 rfl rfl rfl rfl ?_)))))))
     refine ov (v_pick_t rfl rfl) rfl ?_
     refine shO_nil ?_
     obtain rfl := inj1 r150
     exact mi kn ⟨FExt.refl _, rfl, (sc rfl (sn _))⟩
   have r151 := ite_f r148 c149; clear r148
   refine shO_on (b := false) 50 rfl (Env.isF rfl c149) (om rfl rfl (shO_on (b := false) 50 rfl (Env.isF rfl c149) ?_))
   refine ov (v_neq rfl rfl) rfl ?_
   refine ov (v_pick_f (evD_false rfl c149) rfl) rfl ?_
   refine om rfl rfl ?_
   by_cases c152 : n3 ≠ 11
   · have r153 := ite_t r151 c152; clear r151
     refine shO_off (b' := true) 54 rfl (Env.isT rfl c152) rfl rfl (shO_off (b' := true) 54 rfl (Env.isT rfl c152) rfl rfl (shO_off (b' := true) 54 rfl (Env.isT rfl c152) rfl rfl ?_))
     refine ov (v_pick_t (evD_true rfl c152) rfl) rfl ?_
     refine om rfl rfl (shO_off (b' := true) 59 rfl rfl rfl rfl (shO_off (b' := true) 59 rfl rfl rfl rfl ?_))
     refine ov (v_pick_t rfl rfl) rfl ?_
     refine om rfl rfl (shO_off (b' := true) 63 rfl rfl rfl rfl (shO_off (b' := true) 63 rfl rfl rfl rfl (shO_off (b' := true) 63 rfl rfl rfl rfl (shO_off (b' := true) 63 rfl rfl rfl rfl (shO_off (b' := true) 63 rfl rfl rfl rfl (shO_off (b' := true) 63 rfl rfl rfl rfl (shO_off (b' := true) 63 rfl rfl rfl rfl ?_)))))))
     refine ov (v_pick_t rfl rfl) rfl ?_
     refine shO_nil ?_
     obtain rfl := inj1 r153
     exact mi kn ⟨FExt.refl _, rfl, (sc rfl (sn _))⟩
   have r154 := ite_f r151 c152; clear r151
   refine shO_on (b := false) 54 rfl (Env.isF rfl c152) (om rfl rfl (shO_on (b := false) 54 rfl (Env.isF rfl c152) ?_))
   refine ov ((v_lenS Try.underlying44 rfl).i (SlR.lenI hz71)) rfl ?_
   refine shO_on (b := false) 54 rfl (Env.isF rfl c152) ?_
   refine ov (v_gtrK rfl rfl) rfl ?_
   refine ov (v_pick_f (evD_false rfl c152) rfl) rfl ?_
   refine om rfl rfl ?_
   by_cases c155 : 0 < (l8.length : Int)
   · have r156 := ite_t r154 c155; clear r154
     refine shO_off (b' := true) 59 rfl (Env.isT rfl c155) rfl rfl (shO_off (b' := true) 59 rfl (Env.isT rfl c155) rfl rfl ?_)
     refine ov (v_pick_t (evD_true rfl c155) rfl) rfl ?_
     refine om rfl rfl (shO_off (b' := true) 63 rfl rfl rfl rfl (shO_off (b' := true) 63 rfl rfl rfl rfl (shO_off (b' := true) 63 rfl rfl rfl rfl (shO_off (b' := true) 63 rfl rfl rfl rfl (shO_off (b' := true) 63 rfl rfl rfl rfl (shO_off (b' := true) 63 rfl rfl rfl rfl (shO_off (b' := true) 63 rfl rfl rfl rfl ?_)))))))
     refine ov (v_pick_t rfl rfl) rfl ?_
     refine shO_nil ?_
     obtain rfl := inj1 r156
     exact mi kn ⟨FExt.refl _, rfl, (sc rfl (sn _))⟩
   have r157 := ite_f r154 c155; clear r154
   refine shO_on (b := false) 59 rfl (Env.isF rfl c155) (om rfl rfl (shO_on (b := false) 59 rfl (Env.isF rfl c155) ?_))
   refine ov (v_neq rfl rfl) rfl ?_
   refine ov (v_pick_f (evD_false rfl c155) rfl) rfl ?_
   refine om rfl rfl ?_
   by_cases c158 : n10 ≠ 4
   · have r159 := ite_t r157 c158; clear r157
     refine shO_off (b' := true) 63 rfl (Env.isT rfl c158) rfl rfl (shO_off (b' := true) 63 rfl (Env.isT rfl c158) rfl rfl (shO_off (b' := true) 63 rfl (Env.isT rfl c158) rfl rfl (shO_off (b' := true) 63 rfl (Env.isT rfl c158) rfl rfl (shO_off (b' := true) 63 rfl (Env.isT rfl c158) rfl rfl (shO_off (b' := true) 63 rfl (Env.isT rfl c158) rfl rfl (shO_off (b' := true) 63 rfl (Env.isT rfl c158) rfl rfl ?_))))))
     refine ov (v_pick_t (evD_true rfl c158) rfl) rfl ?_
     refine shO_nil ?_
     obtain rfl := inj1 r159
     exact mi kn ⟨FExt.refl _, rfl, (sc rfl (sn _))⟩
   have r160 := ite_f r157 c158; clear r157
   refine shO_on (b := false) 63 rfl (Env.isF rfl c158) (om rfl rfl (shO_on (b := false) 63 rfl (Env.isF rfl c158) ?_))
   refine ov (v_build (v := .agg #[.int .i64 0, .int .i64 0]) rfl (by intro w; kernel_rfl)) rfl ?_
   refine shO_on (b := false) 63 rfl (Env.isF rfl c158) ?_
   refine ov (v_build (v := .agg #[.int .i64 0, .int .i64 2]) rfl (by intro w; kernel_rfl)) rfl ?_
   refine shO_on (b := false) 63 rfl (Env.isF rfl c158) ?_
   refine ov (v_build (v := .agg #[.int .i64 1, .int .i64 1]) rfl (by intro w; kernel_rfl)) rfl ?_
   refine shO_on (b := false) 63 rfl (Env.isF rfl c158) ?_
   refine o_buildSlice (cs := #[.int .i64 0, .int .i64 0, .int .i64 0, .int .i64 2, .int .i64 1, .int .i64 1]) rfl rfl (buildSlice_all slt_44 [.agg #[.int .i64 0, .int .i64 0], .agg #[.int .i64 0, .int .i64 2], .agg #[.int .i64 1, .int .i64 1]] rfl (by decide) (by simp [Value.cells]) (by decide)) ?_; intro b161 hb161
   refine shO_on (b := false) 63 rfl (Env.isF rfl c158) ?_
   refine shO_freeze 0 rfl hb161 ?_; intro F162 hF163 hz164
   refine shO_L (L' := Lb133 ++ (Lb109 ++ (Lb115 ++ (Lb121 ++ (Lb83 ++ (Lb89 ++ (Lb95 ++ (Lb70 ++ (Lb46 ++ (Lb52 ++ (Lb58 ++ (Lb33 ++ (Lb9 ++ (Lb15 ++ (Lb21 ++ []))))))))))))))) rfl ?_
   replace hz134 := hz134.mono (prE_ok (iE_ok _) (iE_ok _)) hF163
   have h165 : RowR 2 (prE (iE .i64) (iE .i64)) F162 (some ⟨b161, 0, none⟩) 3 [(0, 0), (0, 2), (1, 1)] := RowR.of_block (prE_ok (iE_ok _) (iE_ok _)) (vss := [[.int .i64 0, .int .i64 0], [.int .i64 0, .int .i64 2], [.int .i64 1, .int .i64 1]]) (xs := [(0, 0), (0, 2), (1, 1)]) hz164 (.cons ⟨_, _, rfl, rfl, rfl⟩ (.cons ⟨_, _, rfl, rfl, rfl⟩ (.cons ⟨_, _, rfl, rfl, rfl⟩ .nil))) rfl (by simp [maxLen])
   obtain ⟨ok, h166, r167⟩ := b1_ok r160; clear r160
   refine o_callT (Lt := Lb133 ++ []) (Lr := Lb109 ++ (Lb115 ++ (Lb121 ++ (Lb83 ++ (Lb89 ++ (Lb95 ++ (Lb70 ++ (Lb46 ++ (Lb52 ++ (Lb58 ++ (Lb33 ++ (Lb9 ++ (Lb15 ++ (Lb21 ++ [])))))))))))))) rfl Try.call38 rfl rfl rfl (pT pR (lp (ln rfl))) (fun F2 h2 h3 => by rw [(SlR.caps hz134).1]; exact oyezkit_Like_Pair_w (hz134.row (prE_ok (iE_ok _) (iE_ok _)) h2 (fun p hp => h3 p (List.mem_append_left _ hp))) (h165.mono (prE_ok (iE_ok _) (iE_ok _)) h2) h166) ?_
   refine shO_on (b := false) 63 rfl (Env.isF rfl c158) ?_
   refine ov (v_notB rfl) rfl ?_
   refine ov (v_pick_f (evD_false rfl c158) rfl) rfl ?_
   refine shO_nil ?_
   obtain rfl := inj1 r167
   exact mi kn ⟨hF163, rfl, (sc rfl (sn _))⟩
 rintro e1 F169 _ ⟨hF170, rfl, he168⟩
 refine shW_env _ he168 ?_; clear he168
 refine shW_cond rfl (fun c171 => ?_) (fun c171 => ?_)
 · have r172 := bt r139 c171; clear r139
   refine wsr (oa rfl rfl (shO_nil (shW_ret (andThen_ret ?_))))
   refine q_res1 Try.results12 (res_tmp rfl) (sr) ?_
   obtain rfl := inj1 r172
   exact rfl
 have r173 := bf r139 c171; clear r139
 refine shW_skip (wsr ?_)
 obtain ⟨l16, l17, n15, n16, l18, h174, r175⟩ := b5_ok r173; clear r173
 refine o_call0 rfl Try.call34 rfl rfl rfl (oyezlaw03_Three_w h174) ?_; rintro _ F176 _ hF177 hn178 ⟨a180, n184, c181, Lb182, a186, n190, c187, Lb188, a192, n196, c193, Lb194, rfl, rfl, hz183, hz189, hz195⟩
 replace hz183 := hz183.new fun p hp => hn178 p (by simp [hp])
 replace hz189 := hz189.new fun p hp => hn178 p (by simp [hp])
 replace hz195 := hz195.new fun p hp => hn178 p (by simp [hp])
 refine shO_L (lp (lp (lp (ln rfl)))) ?_
 obtain ⟨n17, n18, h198, r199⟩ := b2_ok r175; clear r175
 refine o_callT (Lt := Lb182 ++ (Lb188 ++ (Lb194 ++ []))) (Lr := []) rfl Try.call39 rfl rfl rfl (pT pR (lp (lp (lp (ln rfl))))) (fun F2 h2 h3 => by rw [(SlR.caps hz183).1]; rw [(SlR.caps hz189).1]; rw [(SlR.caps hz195).1]; exact round_Hurry_w (hz183.row (slE_ok (iE_ok _)) h2 (fun p hp => h3 p (List.mem_append_left _ hp))) (hz189.row (slE_ok (iE_ok _)) h2 (fun p hp => h3 p (List.mem_append_right _ (List.mem_append_left _ hp)))) (hz195.row (prE_ok (slE_ok (iE_ok _)) (prE_ok (iE_ok _) (iE_ok _))) h2 (fun p hp => h3 p (List.mem_append_right _ (List.mem_append_right _ (List.mem_append_left _ hp))))) h198) ?_
 refine om rfl rfl (ox rfl rfl rfl (ox rfl rfl rfl (oa rfl rfl (oa rfl rfl (nsr ?_)))))
 obtain ⟨l19, l20, n19, n20, l21, h200, r201⟩ := b5_ok r199; clear r199
 refine o_call0 rfl Try.call34 rfl rfl rfl (oyezlaw03_Three_w h200) ?_; rintro _ F202 _ hF203 hn204 ⟨a206, n210, c207, Lb208, a212, n216, c213, Lb214, a218, n222, c219, Lb220, rfl, rfl, hz209, hz215, hz221⟩
 replace hz209 := hz209.new fun p hp => hn204 p (by simp [hp])
 replace hz215 := hz215.new fun p hp => hn204 p (by simp [hp])
 replace hz221 := hz221.new fun p hp => hn204 p (by simp [hp])
 refine shO_L (lp (lp (lp (ln rfl)))) ?_
 refine ov (v_build (v := .agg #[.int .i64 0, .int .i64 2]) rfl (by intro w; kernel_rfl)) rfl ?_
 obtain ⟨n21, n22, h224, r225⟩ := b2_ok r201; clear r201
 refine o_callT (Lt := Lb208 ++ (Lb214 ++ (Lb220 ++ []))) (Lr := Lb182 ++ (Lb188 ++ (Lb194 ++ []))) rfl Try.call40 rfl rfl rfl (pT pR (lp (lp (lp (ln rfl))))) (fun F2 h2 h3 => by rw [(SlR.caps hz209).1]; rw [(SlR.caps hz215).1]; rw [(SlR.caps hz221).1]; exact round_Soonest_w (hz209.row (slE_ok (iE_ok _)) h2 (fun p hp => h3 p (List.mem_append_left _ hp))) (hz215.row (slE_ok (iE_ok _)) h2 (fun p hp => h3 p (List.mem_append_right _ (List.mem_append_left _ hp)))) (hz221.row (prE_ok (slE_ok (iE_ok _)) (prE_ok (iE_ok _) (iE_ok _))) h2 (fun p hp => h3 p (List.mem_append_right _ (List.mem_append_right _ (List.mem_append_left _ hp))))) h224) ?_
 refine om rfl rfl (ox rfl rfl rfl (ox rfl rfl rfl (oa rfl rfl (oa rfl rfl (nsr ?_)))))
 obtain ⟨l22, l23, n23, n24, l24, h226, r227⟩ := b5_ok r225; clear r225
 refine o_call0 rfl Try.call34 rfl rfl rfl (oyezlaw03_Three_w h226) ?_; rintro _ F228 _ hF229 hn230 ⟨a232, n236, c233, Lb234, a238, n242, c239, Lb240, a244, n248, c245, Lb246, rfl, rfl, hz235, hz241, hz247⟩
 replace hz235 := hz235.new fun p hp => hn230 p (by simp [hp])
 replace hz241 := hz241.new fun p hp => hn230 p (by simp [hp])
 replace hz247 := hz247.new fun p hp => hn230 p (by simp [hp])
 refine shO_L (lp (lp (lp (ln rfl)))) ?_
 obtain ⟨l25, n25, n26, h250, r251⟩ := b3_ok r227; clear r227
 refine o_callTO (Lb := []) (Lt := Lb234 ++ (Lb240 ++ (Lb246 ++ []))) (Lr := Lb208 ++ (Lb214 ++ (Lb220 ++ (Lb182 ++ (Lb188 ++ (Lb194 ++ [])))))) rfl Try.call8 rfl rfl rfl (pT pR (ln (lp (lp (lp (ln rfl)))))) (fun F2 h2 h3 => by rw [(SlR.caps hz235).1]; rw [(SlR.caps hz241).1]; rw [(SlR.caps hz247).1]; exact round_Two_w (hz235.row (slE_ok (iE_ok _)) h2 (fun p hp => h3 p (List.mem_append_left _ hp))) (hz241.row (slE_ok (iE_ok _)) h2 (fun p hp => h3 p (List.mem_append_right _ (List.mem_append_left _ hp)))) (hz247.row (prE_ok (slE_ok (iE_ok _)) (prE_ok (iE_ok _) (iE_ok _))) h2 (fun p hp => h3 p (List.mem_append_right _ (List.mem_append_right _ (List.mem_append_left _ hp))))) h250) (fun _ _ _ _ hq => by obtain ⟨a256, n260, c257, Lb258, rfl, rfl, hz259⟩ := hq; exact ⟨_, _, _, _, rfl, rfl, hz259.flat (fun _ _ h => h)⟩) ?_; rintro _ F252 _ hF253 hd255 hn254 ⟨a256, n260, c257, Lb258, rfl, rfl, hz259⟩
 have hn262 := newp (Lb' := []) (by rfl) hd255 hn254
 replace hz259 := hz259.new fun p hp => hn262 p (by simp [hp])
 refine shO_L (lp (ln (lp (lp (lp (ln rfl)))))) ?_
 refine om rfl rfl (ox rfl rfl rfl (ox rfl rfl rfl (ox rfl rfl rfl (oa rfl rfl (oa rfl rfl (oa rfl rfl (nsr (om rfl rfl ?_))))))))
 refine ov (v_eql rfl rfl) rfl ?_
 refine om rfl rfl ?_
 by_cases c263 : n18 = 0
 · have r264 := ite_t r251 c263; clear r251
   refine shO_on (b := true) 91 rfl (Env.isT rfl c263) (om rfl rfl (shO_on (b := true) 91 rfl (Env.isT rfl c263) ?_))
   refine ov (v_eql rfl rfl) rfl ?_
   refine ov (v_pick_t (evD_true rfl c263) rfl) rfl ?_
   refine om rfl rfl ?_
   by_cases c265 : n22 = 0
   · have r266 := ite_t r264 c265; clear r264
     refine shO_on (b := true) 95 rfl (Env.isT rfl c265) (om rfl rfl (shO_on (b := true) 95 rfl (Env.isT rfl c265) ?_))
     refine ov (v_eql rfl rfl) rfl ?_
     refine ov (v_pick_t (evD_true rfl c265) rfl) rfl ?_
     refine om rfl rfl ?_
     by_cases c267 : n26 = 0
     · have r268 := ite_t r266 c267; clear r266
       refine shO_on (b := true) 99 rfl (Env.isT rfl c267) (om rfl rfl (shO_on (b := true) 99 rfl (Env.isT rfl c267) ?_))
       refine ov (v_eql rfl rfl) rfl ?_
       refine ov (v_pick_t (evD_true rfl c267) rfl) rfl ?_
       refine om rfl rfl ?_
       by_cases c269 : n17 = 6
       · have r270 := ite_t r268 c269; clear r268
         refine shO_on (b := true) 103 rfl (Env.isT rfl c269) (om rfl rfl (shO_on (b := true) 103 rfl (Env.isT rfl c269) ?_))
         refine ov (v_eql rfl rfl) rfl ?_
         refine ov (v_pick_t (evD_true rfl c269) rfl) rfl ?_
         refine om rfl rfl ?_
         by_cases c271 : n21 = 7
         · have r272 := ite_t r270 c271; clear r270
           refine shO_on (b := true) 107 rfl (Env.isT rfl c271) (om rfl rfl (shO_on (b := true) 107 rfl (Env.isT rfl c271) ?_))
           refine ov (v_eql rfl rfl) rfl ?_
           refine ov (v_pick_t (evD_true rfl c271) rfl) rfl ?_
           refine om rfl rfl ?_
           by_cases c273 : n25 = 10
           · have r274 := ite_t r272 c273; clear r272
             refine shO_on (b := true) 111 rfl (Env.isT rfl c273) (om rfl rfl (shO_on (b := true) 111 rfl (Env.isT rfl c273) ?_))
             refine o_buildSlice (cs := #[.int .i64 0, .int .i64 1]) rfl rfl (buildSlice_all slt_30 [.int .i64 0, .int .i64 1] rfl (by decide) (by simp [Value.cells]) (by decide)) ?_; intro b275 hb275
             refine shO_on (b := true) 111 rfl (Env.isT rfl c273) ?_
             refine shO_freeze 0 rfl hb275 ?_; intro F276 hF277 hz278
             refine shO_L (L' := Lb258 ++ (Lb234 ++ (Lb240 ++ (Lb246 ++ (Lb208 ++ (Lb214 ++ (Lb220 ++ (Lb182 ++ (Lb188 ++ (Lb194 ++ [])))))))))) rfl ?_
             replace hz259 := hz259.mono (iE_ok _) hF277
             have h279 : RowR 1 (iE .i64) F276 (some ⟨b275, 0, none⟩) 2 [0, 1] := RowR.of_block (iE_ok _) (vss := [[.int .i64 0], [.int .i64 1]]) (xs := [0, 1]) hz278 (.cons rfl (.cons rfl .nil)) rfl (by simp [maxLen])
             obtain ⟨ok2, h280, r281⟩ := b1_ok r274; clear r274
             refine o_callT (Lt := Lb258 ++ []) (Lr := Lb234 ++ (Lb240 ++ (Lb246 ++ (Lb208 ++ (Lb214 ++ (Lb220 ++ (Lb182 ++ (Lb188 ++ (Lb194 ++ []))))))))) rfl Try.call22 rfl rfl rfl (pT pR (lp (ln rfl))) (fun F2 h2 h3 => by rw [(SlR.caps hz259).1]; exact oyezkit_Like_int_w (hz259.row (iE_ok _) h2 (fun p hp => h3 p (List.mem_append_left _ hp))) (h279.mono (iE_ok _) h2) h280) ?_
             refine ov (v_pick_t (evD_true rfl c273) rfl) rfl ?_
             refine oa rfl rfl (shO_nil ?_)
             refine kW kn ?_
             refine shW_ret ?_
             refine q_res1 Try.results12 (res_tmp rfl) (sr) ?_
             obtain rfl := inj1 r281
             exact rfl
           have r282 := ite_f r272 c273; clear r272
           refine shO_off (b' := false) 111 rfl (Env.isF rfl c273) rfl rfl (shO_off (b' := false) 111 rfl (Env.isF rfl c273) rfl rfl (shO_off (b' := false) 111 rfl (Env.isF rfl c273) rfl rfl ?_))
           refine ov (v_pick_f (evD_false rfl c273) rfl) rfl ?_
           refine oa rfl rfl (shO_nil ?_)
           refine kW kn ?_
           refine shW_ret ?_
           refine q_res1 Try.results12 (res_tmp rfl) (sr) ?_
           obtain rfl := inj1 r282
           exact rfl
         have r283 := ite_f r270 c271; clear r270
         refine shO_off (b' := false) 107 rfl (Env.isF rfl c271) rfl rfl (shO_off (b' := false) 107 rfl (Env.isF rfl c271) rfl rfl ?_)
         refine ov (v_pick_f (evD_false rfl c271) rfl) rfl ?_
         refine om rfl rfl (shO_off (b' := false) 111 rfl rfl rfl rfl (shO_off (b' := false) 111 rfl rfl rfl rfl (shO_off (b' := false) 111 rfl rfl rfl rfl ?_)))
         refine ov (v_pick_f rfl rfl) rfl ?_
         refine oa rfl rfl (shO_nil ?_)
         refine kW kn ?_
         refine shW_ret ?_
         refine q_res1 Try.results12 (res_tmp rfl) (sr) ?_
         obtain rfl := inj1 r283
         exact rfl
       have r284 := ite_f r268 c269; clear r268
       refine shO_off (b' := false) 103 rfl (Env.isF rfl c269) rfl rfl (shO_off (b' := false) 103 rfl (Env.isF rfl c269) rfl rfl ?_)
       refine ov (v_pick_f (evD_false rfl c269) rfl) rfl ?_
       refine om rfl rfl (shO_off (b' := false) 107 rfl rfl rfl rfl (shO_off (b' := false) 107 rfl rfl rfl rfl ?_))
       refine ov (v_pick_f rfl rfl) rfl ?_
       refine om rfl rfl (shO_off (b' := false) 111 rfl rfl rfl rfl (shO_off (b' := false) 111 rfl rfl rfl rfl (shO_off (b' := false) 111 rfl rfl rfl rfl ?_)))
       refine ov (v_pick_f rfl rfl) rfl ?_
       refine oa rfl rfl (shO_nil ?_)
       refine kW kn ?_
       refine shW_ret ?_
       refine q_res1 Try.results12 (res_tmp rfl) (sr) ?_
       obtain rfl := inj1 r284
       exact rfl
     have r285 := ite_f r266 c267; clear r266
     refine shO_off (b' := false) 99 rfl (Env.isF rfl c267) rfl rfl (shO_off (b' := false) 99 rfl (Env.isF rfl c267) rfl rfl ?_)
     refine ov (v_pick_f (evD_false rfl c267) rfl) rfl ?_
     refine om rfl rfl (shO_off (b' := false) 103 rfl rfl rfl rfl (shO_off (b' := false) 103 rfl rfl rfl rfl ?_))
     refine ov (v_pick_f rfl rfl) rfl ?_
     refine om rfl rfl (shO_off (b' := false) 107 rfl rfl rfl rfl (shO_off (b' := false) 107 rfl rfl rfl rfl ?_))
     refine ov (v_pick_f rfl rfl) rfl ?_
     refine om rfl rfl (shO_off (b' := false) 111 rfl rfl rfl rfl (shO_off (b' := false) 111 rfl rfl rfl rfl (shO_off (b' := false) 111 rfl rfl rfl rfl ?_)))
     refine ov (v_pick_f rfl rfl) rfl ?_
     refine oa rfl rfl (shO_nil ?_)
     refine kW kn ?_
     refine shW_ret ?_
     refine q_res1 Try.results12 (res_tmp rfl) (sr) ?_
     obtain rfl := inj1 r285
     exact rfl
   have r286 := ite_f r264 c265; clear r264
   refine shO_off (b' := false) 95 rfl (Env.isF rfl c265) rfl rfl (shO_off (b' := false) 95 rfl (Env.isF rfl c265) rfl rfl ?_)
   refine ov (v_pick_f (evD_false rfl c265) rfl) rfl ?_
   refine om rfl rfl (shO_off (b' := false) 99 rfl rfl rfl rfl (shO_off (b' := false) 99 rfl rfl rfl rfl ?_))
   refine ov (v_pick_f rfl rfl) rfl ?_
   refine om rfl rfl (shO_off (b' := false) 103 rfl rfl rfl rfl (shO_off (b' := false) 103 rfl rfl rfl rfl ?_))
   refine ov (v_pick_f rfl rfl) rfl ?_
   refine om rfl rfl (shO_off (b' := false) 107 rfl rfl rfl rfl (shO_off (b' := false) 107 rfl rfl rfl rfl ?_))
   refine ov (v_pick_f rfl rfl) rfl ?_
   refine om rfl rfl (shO_off (b' := false) 111 rfl rfl rfl rfl (shO_off (b' := false) 111 rfl rfl rfl rfl (shO_off (b' := false) 111 rfl rfl rfl rfl ?_)))
   refine ov (v_pick_f rfl rfl) rfl ?_
   refine oa rfl rfl (shO_nil ?_)
   refine kW kn ?_
   refine shW_ret ?_
   refine q_res1 Try.results12 (res_tmp rfl) (sr) ?_
   obtain rfl := inj1 r286
   exact rfl
 have r287 := ite_f r251 c263; clear r251
 refine shO_off (b' := false) 91 rfl (Env.isF rfl c263) rfl rfl (shO_off (b' := false) 91 rfl (Env.isF rfl c263) rfl rfl ?_)
 refine ov (v_pick_f (evD_false rfl c263) rfl) rfl ?_
 refine om rfl rfl (shO_off (b' := false) 95 rfl rfl rfl rfl (shO_off (b' := false) 95 rfl rfl rfl rfl ?_))
 refine ov (v_pick_f rfl rfl) rfl ?_
 refine om rfl rfl (shO_off (b' := false) 99 rfl rfl rfl rfl (shO_off (b' := false) 99 rfl rfl rfl rfl ?_))
 refine ov (v_pick_f rfl rfl) rfl ?_
 refine om rfl rfl (shO_off (b' := false) 103 rfl rfl rfl rfl (shO_off (b' := false) 103 rfl rfl rfl rfl ?_))
 refine ov (v_pick_f rfl rfl) rfl ?_
 refine om rfl rfl (shO_off (b' := false) 107 rfl rfl rfl rfl (shO_off (b' := false) 107 rfl rfl rfl rfl ?_))
 refine ov (v_pick_f rfl rfl) rfl ?_
 refine om rfl rfl (shO_off (b' := false) 111 rfl rfl rfl rfl (shO_off (b' := false) 111 rfl rfl rfl rfl (shO_off (b' := false) 111 rfl rfl rfl rfl ?_)))
 refine ov (v_pick_f rfl rfl) rfl ?_
 refine oa rfl rfl (shO_nil ?_)
 refine kW kn ?_
 refine shW_ret ?_
 refine q_res1 Try.results12 (res_tmp rfl) (sr) ?_
 obtain rfl := inj1 r287
 exact rfl
set_option maxHeartbeats 1000000 in
theorem round_Excludes_w {walks_a : Option Addr} {walks_c : Nat} {walks : List (List Int)} {hears_a : Option Addr} {hears_c : Nat} {hears : List (List Int)} {houses : Int} {start : Int} {notices_a : Option Addr} {notices_c : Nat} {notices : List ((List Int) × Int × Int)} {F : FS} (h_walks : RowR 1 (slE 1 (iE .i64)) F walks_a walks_c walks) (h_hears : RowR 1 (slE 1 (iE .i64)) F hears_a hears_c hears) (h_notices : RowR 3 (prE (slE 1 (iE .i64)) (prE (iE .i64) (iE .i64))) F notices_a notices_c notices) {r : List (Int × Int)} {r2 : Int} (hr : round_Excludes walks hears houses start notices = some (r, r2)) :
    SH.Spec Try.prog 13 #[.agg #[.slice walks_a walks.length walks_c, .slice hears_a hears.length hears_c, .int .i64 houses, .int .i64 start, .slice notices_a notices.length notices_c]] F [] fun F' L' v => ∃ (ra : Option Addr) (rn : Nat) (rc : Nat) (rL : LH), v = .tuple #[.slice ra rn rc, .int .i64 r2] ∧ L' = rL ++ [] ∧ SlR 0 54 2 (prE (iE .i64) (iE .i64)) F' ra rn rc r rL := by
 refine spec_of_shW (args := [.agg #[.slice walks_a walks.length walks_c, .slice hears_a hears.length hears_c, .int .i64 houses, .int .i64 start, .slice notices_a notices.length notices_c]]) Try.func13 rfl Try.ntmps13 (Nat.le_of_ble_eq_true rfl) ?_
 intro K _ _; rw [round_Excludes] at hr
 refine wsr ?_
 refine o_box rfl rfl ?_; intro b1 hb1
 refine oa rfl rfl (oa rfl rfl (nsr ?_))
 refine ov (v_loadA (cs := #[.slice walks_a walks.length walks_c, .slice hears_a hears.length hears_c, .int .i64 houses, .int .i64 start, .slice notices_a notices.length notices_c]) Try.isAgg26 Try.sizeOf26 rfl (Has.own 0 rfl) (Nat.le_of_ble_eq_true rfl) rfl) rfl ?_
 obtain ⟨l, n, h2, r3⟩ := b2_ok hr; clear hr
 refine o_call0 rfl Try.call37 rfl rfl rfl (round_Before_w h_walks h_hears h_notices h2) ?_; rintro _ F4 _ hF5 hn6 ⟨a8, n12, c9, Lb10, rfl, rfl, hz11⟩
 replace hz11 := hz11.new fun p hp => hn6 p (by simp [hp])
 refine shO_L (lp (ln rfl)) ?_
 refine kO (kf (fS fO) kr) ?_
 refine ox rfl rfl rfl (ox rfl rfl rfl (oa rfl rfl (oa rfl rfl (shO_nil ?_))))
 refine kW (kd kr) ?_
 refine shW_ret ?_
 refine q_res2 Try.results13 (res_tmp rfl) (res_tmp rfl) (sr) ?_
 obtain ⟨rfl, rfl⟩ := inj2 r3
 exact ⟨_, _, _, _, rfl, rfl, hz11.any⟩
set_option maxHeartbeats 1000000 in
theorem round_Ends_w {walks_a : Option Addr} {walks_c : Nat} {walks : List (List Int)} {hears_a : Option Addr} {hears_c : Nat} {hears : List (List Int)} {houses : Int} {start : Int} {notices_a : Option Addr} {notices_c : Nat} {notices : List ((List Int) × Int × Int)} {round_a : Option Addr} {round_c : Nat} {round : List (Int × Int)} {F : FS} (h_walks : RowR 1 (slE 1 (iE .i64)) F walks_a walks_c walks) (h_hears : RowR 1 (slE 1 (iE .i64)) F hears_a hears_c hears) (h_notices : RowR 3 (prE (slE 1 (iE .i64)) (prE (iE .i64) (iE .i64))) F notices_a notices_c notices) (h_round : RowR 2 (prE (iE .i64) (iE .i64)) F round_a round_c round) {r : List Int} {r2 : Int} (hr : round_Ends walks hears houses start notices round = some (r, r2)) :
    SH.Spec Try.prog 46 #[.agg #[.slice walks_a walks.length walks_c, .slice hears_a hears.length hears_c, .int .i64 houses, .int .i64 start, .slice notices_a notices.length notices_c], .slice round_a round.length round_c] F [] fun F' L' v => ∃ (ra : Option Addr) (rn : Nat) (rc : Nat) (rL : LH), v = .tuple #[.slice ra rn rc, .int .i64 r2] ∧ L' = rL ++ [] ∧ SlR 0 3 1 (iE .i64) F' ra rn rc r rL := by
 refine spec_of_shW (args := [.agg #[.slice walks_a walks.length walks_c, .slice hears_a hears.length hears_c, .int .i64 houses, .int .i64 start, .slice notices_a notices.length notices_c], .slice round_a round.length round_c]) Try.func46 rfl Try.ntmps46 (Nat.le_of_ble_eq_true rfl) ?_
 intro K _ _; rw [round_Ends] at hr
 refine wsr ?_
 refine o_box rfl rfl ?_; intro b1 hb1
 refine oa rfl rfl (oa rfl rfl (nsr ?_))
 refine ov (v_loadA (cs := #[.slice walks_a walks.length walks_c, .slice hears_a hears.length hears_c, .int .i64 houses, .int .i64 start, .slice notices_a notices.length notices_c]) Try.isAgg26 Try.sizeOf26 rfl (Has.own 0 rfl) (Nat.le_of_ble_eq_true rfl) rfl) rfl ?_
 refine om rfl rfl ?_
 obtain ⟨d, l, n, h2, r3⟩ := b3_ok hr; clear hr
 refine o_call0 rfl Try.call70 rfl rfl rfl (round_gone_w h_walks h_hears h_notices h_round h2) ?_; rintro _ F4 _ hF5 hn6 ⟨v8, a10, n14, c11, Lb12, rfl, rfl, hp9, hz13⟩
 replace hz13 := hz13.new fun p hp => hn6 p (by simp [hp])
 refine shO_L (lp (ln rfl)) ?_
 refine kO (kf (fS fO) kr) ?_
 refine om rfl rfl (ox rfl rfl rfl (ox rfl rfl rfl (ox rfl rfl rfl (oa rfl rfl (oa rfl rfl (oa rfl rfl (nsr (om rfl rfl (om rfl rfl ?_)))))))))
 refine oa rfl rfl (oa rfl rfl (shO_nil ?_))
 refine kW (kd kr) ?_
 refine shW_ret ?_
 refine q_res2 Try.results46 (res_tmp rfl) (res_tmp rfl) (sr) ?_
 obtain ⟨rfl, rfl⟩ := inj2 r3
 exact ⟨_, _, _, _, rfl, rfl, hz13.any⟩
set_option maxHeartbeats 1000000 in
theorem oyezlaw03_last_w {walks_a : Option Addr} {walks_c : Nat} {walks : List (List Int)} {hears_a : Option Addr} {hears_c : Nat} {hears : List (List Int)} {houses : Int} {start : Int} {notices_a : Option Addr} {notices_c : Nat} {notices : List ((List Int) × Int × Int)} {l_a : Option Addr} {l_c : Nat} {l : List (Int × Int)} {F : FS} (h_walks : RowR 1 (slE 1 (iE .i64)) F walks_a walks_c walks) (h_hears : RowR 1 (slE 1 (iE .i64)) F hears_a hears_c hears) (h_notices : RowR 3 (prE (slE 1 (iE .i64)) (prE (iE .i64) (iE .i64))) F notices_a notices_c notices) (h_l : RowR 2 (prE (iE .i64) (iE .i64)) F l_a l_c l) {r : Int} {r2 : Bool} (hr : oyezlaw03_last walks hears houses start notices l = some (r, r2)) :
    SpecV Try.prog 15 #[.agg #[.slice walks_a walks.length walks_c, .slice hears_a hears.length hears_c, .int .i64 houses, .int .i64 start, .slice notices_a notices.length notices_c], .slice l_a l.length l_c] F (.tuple #[.int .i64 r, .bool r2]) := by
 refine spec_of_shW (args := [.agg #[.slice walks_a walks.length walks_c, .slice hears_a hears.length hears_c, .int .i64 houses, .int .i64 start, .slice notices_a notices.length notices_c], .slice l_a l.length l_c]) Try.func15 rfl Try.ntmps15 (Nat.le_of_ble_eq_true rfl) ?_
 intro K _ _; rw [oyezlaw03_last] at hr
 refine wsr ?_
 refine o_box rfl rfl ?_; intro b1 hb1
 refine oa rfl rfl (oa rfl rfl (nsr ?_))
 refine ov (v_loadA (cs := #[.slice walks_a walks.length walks_c, .slice hears_a hears.length hears_c, .int .i64 houses, .int .i64 start, .slice notices_a notices.length notices_c]) Try.isAgg26 Try.sizeOf26 rfl (Has.own 0 rfl) (Nat.le_of_ble_eq_true rfl) rfl) rfl ?_
 refine om rfl rfl ?_
 obtain ⟨l2, n, h2, r3⟩ := b2_ok hr; clear hr
 refine o_call0 rfl Try.call46 rfl rfl rfl (round_Ends_w h_walks h_hears h_notices h_l h2) ?_; rintro _ F4 _ hF5 hn6 ⟨a8, n12, c9, Lb10, rfl, rfl, hz11⟩
 replace h_walks := h_walks.mono (slE_ok (iE_ok _)) hF5
 replace h_hears := h_hears.mono (slE_ok (iE_ok _)) hF5
 replace h_notices := h_notices.mono (prE_ok (slE_ok (iE_ok _)) (prE_ok (iE_ok _) (iE_ok _))) hF5
 replace h_l := h_l.mono (prE_ok (iE_ok _) (iE_ok _)) hF5
 replace hz11 := hz11.new fun p hp => hn6 p (by simp [hp])
 refine shO_L (lp (ln rfl)) ?_
 refine kO (kf (fS fO) kr) ?_
 refine om rfl rfl (ox rfl rfl rfl (ox rfl rfl rfl (oa rfl rfl (oa rfl rfl (nsr ?_)))))
 refine ov (v_loadA (cs := #[.slice walks_a walks.length walks_c, .slice hears_a hears.length hears_c, .int .i64 houses, .int .i64 start, .slice notices_a notices.length notices_c]) Try.isAgg26 Try.sizeOf26 rfl (Has.own 0 rfl) (Nat.le_of_ble_eq_true rfl) rfl) rfl ?_
 refine om rfl rfl ?_
 obtain ⟨l3, n2, h14, r15⟩ := b2_ok r3; clear r3
 refine o_call0 rfl Try.call35 rfl rfl rfl (round_Missed_w h_walks h_hears h_notices h_l h14) ?_; rintro _ F16 _ hF17 hn18 ⟨a20, n24, c21, Lb22, rfl, rfl, hz23⟩
 replace hz11 := hz11.mono (iE_ok _) hF17
 replace hz23 := hz23.new fun p hp => hn18 p (by simp [hp])
 refine shO_L (lp (ln rfl)) ?_
 refine kO (kf (fS fO) kr) ?_
 refine om rfl rfl (ox rfl rfl rfl (ox rfl rfl rfl (oa rfl rfl (oa rfl rfl (shO_nil (shW_seq ?_))))))
 obtain ⟨k, h26, r27⟩ := b1_ok r15; clear r15
 refine shW_join (fun e1 F1 L1 => F16 = F1 ∧ L1 = (Lb10 ++ []) ∧ e1.sub [(1, .slice l_a l.length l_c), (6, .slice a8 n12 c9), (39, .bool k)]) ?_ ?_
 · clear r27
   refine shW_region (om rfl rfl ?_)
   refine ov (v_neq rfl rfl) rfl ?_
   refine om rfl rfl ?_
   by_cases c28 : n ≠ 0
   · have r29 := ite_t h26 c28; clear h26
     refine shO_off (b' := true) 24 rfl (Env.isT rfl c28) rfl rfl (shO_off (b' := true) 24 rfl (Env.isT rfl c28) rfl rfl ?_)
     refine ov (v_pick_t (evD_true rfl c28) rfl) rfl ?_
     refine om rfl rfl (shO_off (b' := true) 28 rfl rfl rfl rfl (shO_off (b' := true) 28 rfl rfl rfl rfl (shO_off (b' := true) 28 rfl rfl rfl rfl ?_)))
     refine ov (v_pick_t rfl rfl) rfl ?_
     refine om rfl rfl (shO_off (b' := true) 33 rfl rfl rfl rfl (shO_off (b' := true) 33 rfl rfl rfl rfl (shO_off (b' := true) 33 rfl rfl rfl rfl (shO_off (b' := true) 33 rfl rfl rfl rfl (shO_off (b' := true) 33 rfl rfl rfl rfl ?_)))))
     refine ov (v_pick_t rfl rfl) rfl ?_
     refine shO_nil ?_
     obtain rfl := inj1 r29
     exact mi (kd (kx kr)) ⟨rfl, rfl, (sc rfl (sc rfl (sc rfl (sn _))))⟩
   have r30 := ite_f h26 c28; clear h26
   refine shO_on (b := false) 24 rfl (Env.isF rfl c28) (om rfl rfl (shO_on (b := false) 24 rfl (Env.isF rfl c28) ?_))
   refine ov (v_neq rfl rfl) rfl ?_
   refine ov (v_pick_f (evD_false rfl c28) rfl) rfl ?_
   refine om rfl rfl ?_
   by_cases c31 : n2 ≠ 0
   · have r32 := ite_t r30 c31; clear r30
     refine shO_off (b' := true) 28 rfl (Env.isT rfl c31) rfl rfl (shO_off (b' := true) 28 rfl (Env.isT rfl c31) rfl rfl (shO_off (b' := true) 28 rfl (Env.isT rfl c31) rfl rfl ?_))
     refine ov (v_pick_t (evD_true rfl c31) rfl) rfl ?_
     refine om rfl rfl (shO_off (b' := true) 33 rfl rfl rfl rfl (shO_off (b' := true) 33 rfl rfl rfl rfl (shO_off (b' := true) 33 rfl rfl rfl rfl (shO_off (b' := true) 33 rfl rfl rfl rfl (shO_off (b' := true) 33 rfl rfl rfl rfl ?_)))))
     refine ov (v_pick_t rfl rfl) rfl ?_
     refine shO_nil ?_
     obtain rfl := inj1 r32
     exact mi (kd (kx kr)) ⟨rfl, rfl, (sc rfl (sc rfl (sc rfl (sn _))))⟩
   have r33 := ite_f r30 c31; clear r30
   refine shO_on (b := false) 28 rfl (Env.isF rfl c31) (om rfl rfl (shO_on (b := false) 28 rfl (Env.isF rfl c31) ?_))
   refine ov ((v_lenS Try.underlying44 rfl).i (SlR.lenI hz23)) rfl ?_
   refine shO_on (b := false) 28 rfl (Env.isF rfl c31) ?_
   refine ov (v_gtrK rfl rfl) rfl ?_
   refine ov (v_pick_f (evD_false rfl c31) rfl) rfl ?_
   refine om rfl rfl ?_
   by_cases c34 : 0 < (l3.length : Int)
   · have r35 := ite_t r33 c34; clear r33
     refine shO_off (b' := true) 33 rfl (Env.isT rfl c34) rfl rfl (shO_off (b' := true) 33 rfl (Env.isT rfl c34) rfl rfl (shO_off (b' := true) 33 rfl (Env.isT rfl c34) rfl rfl (shO_off (b' := true) 33 rfl (Env.isT rfl c34) rfl rfl (shO_off (b' := true) 33 rfl (Env.isT rfl c34) rfl rfl ?_))))
     refine ov (v_pick_t (evD_true rfl c34) rfl) rfl ?_
     refine shO_nil ?_
     obtain rfl := inj1 r35
     exact mi (kd (kx kr)) ⟨rfl, rfl, (sc rfl (sc rfl (sc rfl (sn _))))⟩
   have r36 := ite_f r33 c34; clear r33
   refine shO_on (b := false) 33 rfl (Env.isF rfl c34) (om rfl rfl (shO_on (b := false) 33 rfl (Env.isF rfl c34) ?_))
   refine ov ((v_lenS Try.underlying30 rfl).i (SlR.lenI hz11)) rfl ?_
   refine shO_on (b := false) 33 rfl (Env.isF rfl c34) (om rfl rfl (shO_on (b := false) 33 rfl (Env.isF rfl c34) ?_))
   refine ov (v_lenS Try.underlying34 rfl) rfl ?_
   refine shO_on (b := false) 33 rfl (Env.isF rfl c34) ?_
   refine ov (v_neq rfl rfl) rfl ?_
   refine ov (v_pick_f (evD_false rfl c34) rfl) rfl ?_
   refine shO_nil ?_
   obtain rfl := inj1 r36
   exact mi (kd (kx kr)) ⟨rfl, rfl, (sc rfl (sc rfl (sc rfl (sn _))))⟩
 rintro e1 _ _ ⟨rfl, rfl, he37⟩
 refine shW_env _ he37 ?_; clear he37
 refine shW_cond rfl (fun c38 => ?_) (fun c38 => ?_)
 · have r39 := bt r27 c38; clear r27
   refine wsr (oa rfl rfl (oa rfl rfl (shO_nil ?_)))
   refine kW kn ?_
   refine shW_ret (andThen_ret ?_)
   refine q_res2 Try.results15 (res_tmp rfl) (res_tmp rfl) (sr) ?_
   obtain ⟨rfl, rfl⟩ := inj2 r39
   exact rfl
 have r40 := bf r27 c38; clear r27
 refine shW_skip (shW_seq (wsr (om rfl rfl ?_)))
 refine ov (v_lenS Try.underlying34 rfl) rfl ?_
 refine ov (v_eql rfl rfl) rfl ?_
 refine shO_nil ?_
 refine shW_condP rfl (fun c41 => ?_) (fun c41 => ?_)
 · have r42 := ite_t r40 c41; clear r40
   refine wsr (oa rfl rfl (oa rfl rfl (shO_nil ?_)))
   refine kW kn ?_
   refine shW_ret (andThen_ret ?_)
   refine q_res2 Try.results15 (res_tmp rfl) (res_tmp rfl) (sr) ?_
   obtain ⟨rfl, rfl⟩ := inj2 r42
   exact rfl
 have r43 := ite_f r40 c41; clear r40
 refine shW_skip (wsr (om rfl rfl (om rfl rfl ?_)))
 refine ov (v_lenS Try.underlying34 rfl) rfl ?_
 obtain ⟨g44, r45⟩ := gd_ok r43; clear r43
 refine ov (v_sub rfl rfl g44) rfl ?_
 obtain ⟨x, g46, hx47, r48⟩ := ix_ok r45; clear r45
 obtain ⟨b49, o50, c51, vs52, ha53, hs54, hle55, rfl, hl56, hc57⟩ := SlR.at (iE_ok _) hz11 (L := Lb10 ++ []) fP g46.1 hx47
 refine ov (v_indexO Try.underlying30 Try.sizeOf3 rfl ha53 rfl (SlR.idx hz11 g46)) rfl ?_
 refine ov (v_load Try.isAgg3 rfl hs54 (hc57 0 (by decide))) rfl ?_
 refine oa rfl rfl (oa rfl rfl (shO_nil ?_))
 refine kW kn ?_
 refine shW_ret ?_
 refine q_res2 Try.results15 (res_tmp rfl) (res_tmp rfl) (sr) ?_
 obtain ⟨rfl, rfl⟩ := inj2 r48
 exact rfl
set_option maxHeartbeats 1000000 in
theorem oyezlaw03_gone_w {b_b : Nat} {metal_a : Option Addr} {metal_c : Nat} {metal : List Int} {at_ : Int} {turn : Int} {walks_a : Option Addr} {walks_c : Nat} {walks : List (List Int)} {hears_a : Option Addr} {hears_c : Nat} {hears : List (List Int)} {houses : Int} {start : Int} {notices_a : Option Addr} {notices_c : Nat} {notices : List ((List Int) × Int × Int)} {cries : Int} {F : FS} (h_metal : RowR 1 (iE .u8) F metal_a metal_c metal) (_h_walks : RowR 1 (slE 1 (iE .i64)) F walks_a walks_c walks) (_h_hears : RowR 1 (slE 1 (iE .i64)) F hears_a hears_c hears) (_h_notices : RowR 3 (prE (slE 1 (iE .i64)) (prE (iE .i64) (iE .i64))) F notices_a notices_c notices) {r : List (Int × Int)} {r2 : Int} {r3 : Int} (hr : oyezlaw03_gone metal at_ turn walks hears houses start notices cries = some (r, r2, r3)) :
    SH.Spec Try.prog 16 #[.pointer (some ⟨b_b, 0, none⟩), .agg #[.slice walks_a walks.length walks_c, .slice hears_a hears.length hears_c, .int .i64 houses, .int .i64 start, .slice notices_a notices.length notices_c], .int .i64 cries] F [(b_b, .cells #[.slice metal_a metal.length metal_c, .int .i64 at_, .int .u32 turn] 66 (0, 0))] fun F' L' v => ∃ (ra : Option Addr) (rn : Nat) (rc : Nat) (rL : LH), v = .slice ra rn rc ∧ L' = (b_b, .cells #[.slice metal_a metal.length metal_c, .int .i64 r2, .int .u32 r3] 66 (0, 0)) :: (rL ++ []) ∧ SlR 0 93 2 (prE (iE .i64) (iE .i64)) F' ra rn rc r rL := by
 refine spec_of_shW (args := [.pointer (some ⟨b_b, 0, none⟩), .agg #[.slice walks_a walks.length walks_c, .slice hears_a hears.length hears_c, .int .i64 houses, .int .i64 start, .slice notices_a notices.length notices_c], .int .i64 cries]) Try.func16 rfl Try.ntmps16 (Nat.le_of_ble_eq_true rfl) ?_
 intro K _ _; rw [oyezlaw03_gone] at hr
 refine wsr ?_
 refine o_box rfl rfl ?_; intro b1 hb1
 refine oa rfl rfl (nsr (oa rfl rfl (shO_nil ?_)))
 obtain ⟨out, b_at, b_turn, h8, r9⟩ := b3_ok hr; clear hr
 refine shW_join (fun e1 F1 L1 => ∃ (a2 : Option Addr) (n6 : Nat) (c3 : Nat) (Lb4 : LH), FExt F F1 ∧ L1 = ((b_b, .cells #[.slice metal_a metal.length metal_c, .int .i64 b_at, .int .u32 b_turn] 66 (0, 0)) :: (Lb4 ++ [])) ∧ e1.sub [(7, .slice a2 n6 c3)] ∧ SlR K.w0.heap.size 93 2 (prE (iE .i64) (iE .i64)) F1 a2 n6 c3 out Lb4) ?_ ?_
 · clear r9
   refine wsr (om rfl rfl (om rfl rfl ?_))
   obtain ⟨n, at_2, turn2, h10, r11⟩ := b3_ok h8; clear h8
   refine o_callG (Lb := [(b_b, .cells #[.slice metal_a metal.length metal_c, .int .i64 at_, .int .u32 turn] 66 (0, 0))]) (Lr := [(b1, .cells #[.slice walks_a walks.length walks_c, .slice hears_a hears.length hears_c, .int .i64 houses, .int .i64 start, .slice notices_a notices.length notices_c] 26 (0, 0))]) rfl Try.call25 rfl rfl rfl (((fC fO).trans (pC pR))) (oyezkit_Bell_Stroke_w h_metal h10) ?_; rintro _ F12 _ hF13 hd15 hn14 ⟨rfl, rfl⟩
   replace h_metal := h_metal.mono (iE_ok _) hF13
   refine shO_L (lb (ln rfl)) ?_
   refine om rfl rfl (shO_nil ?_)
   refine shW_block ?_
   obtain ⟨g22, r23⟩ := gd_ok r11; clear r11
   refine shW_lp (fun fu1 e1 F1 L1 => ∃ (k : Int), Ctr 0 n k fu1 ∧ ∃ (b_at2 : Int) (b_turn2 : Int) (out2 : List (Int × Int)) (a16 : Option Addr) (n20 : Nat) (c17 : Nat) (Lb18 : LH), oyezlaw03_gone_l1 metal hears notices fu1 b_at2 b_turn2 out2 = some (out, b_at, b_turn) ∧ FExt F12 F1 ∧ L1 = ((b_b, .cells #[.slice metal_a metal.length metal_c, .int .i64 b_at2, .int .u32 b_turn2] 66 (0, 0)) :: ((b1, .cells #[.slice walks_a walks.length walks_c, .slice hears_a hears.length hears_c, .int .i64 houses, .int .i64 start, .slice notices_a notices.length notices_c] 26 (0, 0)) :: (Lb18 ++ []))) ∧ e1.sub [(0, .pointer (some ⟨b_b, 0, none⟩)), (4, .pointer (some ⟨b1, 0, none⟩)), (7, .slice a16 n20 c17), (10, .int .i64 n), (11, .int .i64 k)] ∧ SlR K.w0.heap.size 93 2 (prE (iE .i64) (iE .i64)) F1 a16 n20 c17 out2 Lb18) _ (m0 (kc (kc (ke kr))) ⟨_, Ctr.start _ _, at_2, turn2, [], none, 0, 0, [], r23, FExt.refl _, rfl, (sc rfl (sc rfl (sc rfl (sc rfl (sc rfl (sn _)))))), SlR.nil _ _ _ _ _⟩) ?_
   rintro fu1 e1 F28 _ ⟨k, hk24, b_at2, b_turn2, out2, a16, n20, c17, Lb18, r26, hF29, rfl, he27, hz19⟩
   refine shW_env _ he27 ?_; clear he27
   replace h_metal := h_metal.mono (iE_ok _) hF29
   refine wsr ?_
   refine ov (v_lssK rfl rfl) rfl ?_
   refine shO_nil (shW_seq ?_)
   refine shW_condP rfl (fun c31 => ?_) (fun c31 => ?_)
   · obtain ⟨fu1, rfl, hk32⟩ := Ctr.succ hk24 c31
     rw [oyezlaw03_gone_l1] at r26
     refine shW_skip (shW_seq ?_)
     refine shW_block ?_
     refine wsr ?_
     refine ov (v_fieldAddr fa_26_4 rfl) rfl ?_
     refine ov (v_load Try.isAgg24 rfl (Has.own 1 rfl) rfl) rfl ?_
     refine ov (v_lenS Try.underlying24 rfl) rfl ?_
     refine ov (v_gtrK rfl rfl) rfl ?_
     refine shO_nil ?_
     refine shW_condP rfl (fun c33 => ?_) (fun c33 => ?_)
     · have r34 := ite_t r26 c33; clear r26
       refine shW_drawM [(.still, 0), (.still, 1), (.still, 2), (.still, 3), (.still, 4), (.still, 5), (.still, 7), (.still, 8), (.still, 9), (.still, 10), (.still, 11), (.seq, 6), (.seq, 12), (.still, 13), (.seq, 14), (.seq, 15), (.seq, 16)] (by kernel_rfl) (by kernel_rfl) (trivial) (by rfl) (by kernel_rfl) ?_
       refine shM_v (v := .slice a16 n20 c17) (ek := [(7, .slice a16 n20 c17)]) (Ls := []) rfl rfl rfl rfl ((sc rfl (sn _))) (by kernel_rfl) sm (fun H F' L' hF' hL' => v_move rfl) ?_
       refine shM_v (v := .pointer (some ⟨b_b, 0, none⟩)) (ek := [(0, .pointer (some ⟨b_b, 0, none⟩))]) (Ls := []) rfl rfl rfl rfl ((sc rfl (sn _))) (by kernel_rfl) sm (fun H F' L' hF' hL' => v_move rfl) ?_
       refine shM_v (v := .pointer (some ⟨b1, 1, none⟩)) (ek := [(4, .pointer (some ⟨b1, 0, none⟩))]) (Ls := []) rfl rfl rfl rfl ((sc rfl (sn _))) (by kernel_rfl) sm (fun H F' L' hF' hL' => v_fieldAddr fa_26_1 rfl) ?_
       refine shM_v (v := .slice hears_a hears.length hears_c) (ek := [(19, .pointer (some ⟨b1, 1, none⟩))]) (Ls := [(b1, .cells #[.slice walks_a walks.length walks_c, .slice hears_a hears.length hears_c, .int .i64 houses, .int .i64 start, .slice notices_a notices.length notices_c] 26 (0, 0))]) rfl rfl rfl rfl ((sc rfl (sn _))) (by kernel_rfl) (s0 (s1 (s2 (s3 sr)))) (fun H F' L' hF' hL' => v_load Try.isAgg23 rfl ((Has.own 0 rfl).ext hF' hL') rfl) ?_
       refine shM_v (v := .int .i64 (hears.length : Int)) (ek := [(20, .slice hears_a hears.length hears_c)]) (Ls := []) rfl rfl rfl rfl ((sc rfl (sn _))) (by kernel_rfl) sm (fun H F' L' hF' hL' => v_lenS Try.underlying23 rfl) ?_
       obtain ⟨g35, r36⟩ := gd_ok r34; clear r34
       refine shM_v (v := .int .i64 ((hears.length : Int) - 1)) (ek := [(21, .int .i64 (hears.length : Int))]) (Ls := []) rfl rfl rfl rfl ((sc rfl (sn _))) (by kernel_rfl) sm (fun H F' L' hF' hL' => v_sub rfl rfl g35) ?_
       refine shM_v (v := .pointer (some ⟨b_b, 0, none⟩)) (ek := [(0, .pointer (some ⟨b_b, 0, none⟩))]) (Ls := []) rfl rfl rfl rfl ((sc rfl (sn _))) (by kernel_rfl) sm (fun H F' L' hF' hL' => v_move rfl) ?_
       refine shM_v (v := .pointer (some ⟨b1, 4, none⟩)) (ek := [(4, .pointer (some ⟨b1, 0, none⟩))]) (Ls := []) rfl rfl rfl rfl ((sc rfl (sn _))) (by kernel_rfl) sm (fun H F' L' hF' hL' => v_fieldAddr fa_26_4 rfl) ?_
       refine shM_v (v := .slice notices_a notices.length notices_c) (ek := [(25, .pointer (some ⟨b1, 4, none⟩))]) (Ls := [(b1, .cells #[.slice walks_a walks.length walks_c, .slice hears_a hears.length hears_c, .int .i64 houses, .int .i64 start, .slice notices_a notices.length notices_c] 26 (0, 0))]) rfl rfl rfl rfl ((sc rfl (sn _))) (by kernel_rfl) (s0 (s1 (s2 (s3 sr)))) (fun H F' L' hF' hL' => v_load Try.isAgg24 rfl ((Has.own 0 rfl).ext hF' hL') rfl) ?_
       refine shM_v (v := .int .i64 (notices.length : Int)) (ek := [(26, .slice notices_a notices.length notices_c)]) (Ls := []) rfl rfl rfl rfl ((sc rfl (sn _))) (by kernel_rfl) sm (fun H F' L' hF' hL' => v_lenS Try.underlying24 rfl) ?_
       obtain ⟨g37, r38⟩ := gd_ok r36; clear r36
       refine shM_v (v := .int .i64 ((notices.length : Int) - 1)) (ek := [(27, .int .i64 (notices.length : Int))]) (Ls := []) rfl rfl rfl rfl ((sc rfl (sn _))) (by kernel_rfl) sm (fun H F' L' hF' hL' => v_sub rfl rfl g37) ?_
       refine ⟨_, [(18, .pointer (some ⟨b_b, 0, none⟩)), (22, .int .i64 ((hears.length : Int) - 1))], rfl, rfl, (sc rfl (sc rfl (sn _))), by kernel_rfl, ?_⟩; intro H
       obtain ⟨n2, at_3, turn3, h39, r40⟩ := b3_ok r38; clear r38
       refine o_callG (Lb := [(b_b, .cells #[.slice metal_a metal.length metal_c, .int .i64 b_at2, .int .u32 b_turn2] 66 (0, 0))]) (Lr := (b1, .cells #[.slice walks_a walks.length walks_c, .slice hears_a hears.length hears_c, .int .i64 houses, .int .i64 start, .slice notices_a notices.length notices_c] 26 (0, 0)) :: (Lb18 ++ [])) rfl Try.call25 rfl rfl rfl (pR) (oyezkit_Bell_Stroke_w h_metal h39) ?_; rintro _ F41 _ hF42 hd44 hn43 ⟨rfl, rfl⟩
       replace h_metal := h_metal.mono (iE_ok _) hF42
       replace hz19 := hz19.mono (prE_ok (iE_ok _) (iE_ok _)) hF42
       refine shO_L (lb (ln rfl)) ?_
       refine shO_nil ⟨_, rfl, hF42, [11, 10, 9, 8, 7, 0], by kernel_rfl, .inl (.inr (fun d h => by cases h; rfl)), (List.forall_mem_cons.2 ⟨sm, (List.forall_mem_cons.2 ⟨sm, (List.forall_mem_cons.2 ⟨s0 (s1 (s2 (s3 sr))), (List.forall_mem_cons.2 ⟨sm, (List.forall_mem_cons.2 ⟨sm, (List.forall_mem_cons.2 ⟨sm, (fun _ h => absurd h List.not_mem_nil)⟩)⟩)⟩)⟩)⟩)⟩), ?_⟩
       refine ⟨_, [(24, .pointer (some ⟨b_b, 0, none⟩)), (28, .int .i64 ((notices.length : Int) - 1))], rfl, rfl, (sc rfl (sc rfl (sn _))), by kernel_rfl, ?_⟩; intro H
       obtain ⟨n3, at_4, turn4, h45, r46⟩ := b3_ok r40; clear r40
       refine o_callG (Lb := [(b_b, .cells #[.slice metal_a metal.length metal_c, .int .i64 at_3, .int .u32 turn3] 66 (0, 0))]) (Lr := (b1, .cells #[.slice walks_a walks.length walks_c, .slice hears_a hears.length hears_c, .int .i64 houses, .int .i64 start, .slice notices_a notices.length notices_c] 26 (0, 0)) :: (Lb18 ++ [])) rfl Try.call25 rfl rfl rfl (pR) (oyezkit_Bell_Stroke_w h_metal h45) ?_; rintro _ F47 _ hF48 hd50 hn49 ⟨rfl, rfl⟩
       replace hz19 := hz19.mono (prE_ok (iE_ok _) (iE_ok _)) hF48
       refine shO_L (lb (ln rfl)) ?_
       refine shO_nil ⟨_, rfl, hF48, [0], by kernel_rfl, .inl (.inr (fun d h => by cases h; rfl)), (List.forall_mem_cons.2 ⟨sm, (fun _ h => absurd h List.not_mem_nil)⟩), ?_⟩
       refine shM_v (v := .agg #[.int .i64 n2, .int .i64 n3]) (ek := [(23, .int .i64 n2), (29, .int .i64 n3)]) (Ls := []) rfl rfl rfl rfl ((sc rfl (sc rfl (sn _)))) (by kernel_rfl) sm (fun H F' L' hF' hL' => v_build (v := .agg #[.int .i64 n2, .int .i64 n3]) rfl (by intro w; kernel_rfl)) ?_
       refine ⟨_, [(30, .agg #[.int .i64 n2, .int .i64 n3])], rfl, rfl, (sc rfl (sn _)), by kernel_rfl, ?_⟩; intro H
       refine o_buildSlice (cs := #[.int .i64 n2, .int .i64 n3]) rfl rfl (buildSlice_all slt_34 [.agg #[.int .i64 n2, .int .i64 n3]] rfl (by decide) (by simp [Value.cells]) (by decide)) ?_; intro b51 hb51
       refine shO_nil ⟨_, rfl, FExt.refl _, [0], by kernel_rfl, .inl (.inr (fun d h => by cases h; rfl)), (List.forall_mem_cons.2 ⟨sm, (fun _ h => absurd h List.not_mem_nil)⟩), ?_⟩
       refine ⟨_, [(17, .slice a16 n20 c17), (31, .slice (some ⟨b51, 0, none⟩) 1 1)], rfl, rfl, (sc rfl (sc rfl (sn _))), by kernel_rfl, ?_⟩; intro H
       obtain ⟨l, h52, g53, r54⟩ := ap_ok r46; clear r46
       refine o_appZ (xs := out2) (ys := [(n2, n3)]) (zs := l) rfl slt_34 rfl rfl (Nat.le_refl _) (fun _ => .c (.c (.c .h))) hz19 (SrcR.box (vss := [[.int .i64 n2, .int .i64 n3]]) (ys := [(n2, n3)]) 0 rfl (prE_ok (iE_ok _) (iE_ok _)) (.cons ⟨_, _, rfl, rfl, rfl⟩ .nil) rfl rfl) h52 g53 (by decide) ?_; intro a55 n59 c56 Lb57 hz58
       refine kO (kd kr) ?_
       refine shO_nil ⟨_, rfl, FExt.refl _, [], by kernel_rfl, .inl (.inl rfl), (fun _ h => absurd h List.not_mem_nil), ?_⟩
       refine ⟨_, [(32, .slice a55 n59 c56)], rfl, rfl, (sc rfl (sn _)), by kernel_rfl, ?_⟩; intro H
       refine oa rfl rfl ?_
       refine shO_nil ⟨_, rfl, FExt.refl _, [], by kernel_rfl, .inl (.inl rfl), (fun _ h => absurd h List.not_mem_nil), ?_⟩
       refine shM_nil ?_
       refine inBlock_n (id := 1) (shW_region ?_)
       refine ov (v_add rfl rfl (Ctr.r64 hk24 c31 g22)) rfl ?_
       refine om rfl rfl (shO_nil ?_)
       exact le kr ⟨_, hk32, at_4, turn4, l, a55, n59, c56, Lb57, r54, ((hF29.trans hF42).trans hF48), rfl, (sc rfl (sc rfl (sc rfl (sc rfl (sc rfl (sn _)))))), hz58⟩
     have r61 := ite_f r26 c33; clear r26
     refine shW_skip (inBlock_n (id := 1) (shW_region ?_))
     refine ov (v_add rfl rfl (Ctr.r64 hk24 c31 g22)) rfl ?_
     refine om rfl rfl (shO_nil ?_)
     exact le kr ⟨_, hk32, b_at2, b_turn2, out2, a16, n20, c17, Lb18, r61, hF29, rfl, (sc rfl (sc rfl (sc rfl (sc rfl (sc rfl (sn _)))))), hz19⟩
   obtain rfl := Ctr.zero hk24 c31
   rw [oyezlaw03_gone_l1] at r26
   refine shW_exit (andThen_exit (andThen_exit ?_))
   refine inBlock_exit ?_
   obtain ⟨rfl, rfl, rfl⟩ := inj3 r26
   exact mi (kc (kd kr)) ⟨a16, n20, c17, Lb18, (hF13.trans hF29), rfl, (sc rfl (sn _)), hz19⟩
 rintro e1 F63 _ ⟨a2, n6, c3, Lb4, hF64, rfl, he62, hz5⟩
 refine shW_env _ he62 ?_; clear he62
 refine wsr (om rfl rfl (oa rfl rfl (shO_nil (shW_ret ?_))))
 refine q_res1 Try.results16 (res_tmp rfl) (sr) ?_
 obtain ⟨rfl, rfl, rfl⟩ := inj3 r9
 exact ⟨_, _, _, _, rfl, rfl, hz5.any⟩
set_option maxHeartbeats 1000000 in
theorem round_Together_w {walks_a : Option Addr} {walks_c : Nat} {walks : List (List Int)} {hears_a : Option Addr} {hears_c : Nat} {hears : List (List Int)} {houses : Int} {start : Int} {notices_a : Option Addr} {notices_c : Nat} {notices : List ((List Int) × Int × Int)} {pairs_a : Option Addr} {pairs_c : Nat} {pairs : List (Int × Int)} {F : FS} (h_walks : RowR 1 (slE 1 (iE .i64)) F walks_a walks_c walks) (h_hears : RowR 1 (slE 1 (iE .i64)) F hears_a hears_c hears) (h_notices : RowR 3 (prE (slE 1 (iE .i64)) (prE (iE .i64) (iE .i64))) F notices_a notices_c notices) (h_pairs : RowR 2 (prE (iE .i64) (iE .i64)) F pairs_a pairs_c pairs) {r : Bool} {r2 : Int} (hr : round_Together walks hears houses start notices pairs = some (r, r2)) :
    SpecV Try.prog 17 #[.agg #[.slice walks_a walks.length walks_c, .slice hears_a hears.length hears_c, .int .i64 houses, .int .i64 start, .slice notices_a notices.length notices_c], .slice pairs_a pairs.length pairs_c] F (.tuple #[.bool r, .int .i64 r2]) := by
 refine spec_of_shW (args := [.agg #[.slice walks_a walks.length walks_c, .slice hears_a hears.length hears_c, .int .i64 houses, .int .i64 start, .slice notices_a notices.length notices_c], .slice pairs_a pairs.length pairs_c]) Try.func17 rfl Try.ntmps17 (Nat.le_of_ble_eq_true rfl) ?_
 intro K _ _; rw [round_Together] at hr
 refine wsr ?_
 refine o_box rfl rfl ?_; intro b1 hb1
 refine oa rfl rfl (oa rfl rfl (nsr ?_))
 refine ov (v_loadA (cs := #[.slice walks_a walks.length walks_c, .slice hears_a hears.length hears_c, .int .i64 houses, .int .i64 start, .slice notices_a notices.length notices_c]) Try.isAgg26 Try.sizeOf26 rfl (Has.own 0 rfl) (Nat.le_of_ble_eq_true rfl) rfl) rfl ?_
 obtain ⟨d, n, h2, r3⟩ := b2_ok hr; clear hr
 refine o_call0 rfl Try.call26 rfl rfl rfl (round_opened_w h_walks h_hears h_notices h2) ?_; rintro _ F4 _ hF5 hn6 ⟨v8, rfl, rfl, hp9⟩
 replace h_pairs := h_pairs.mono (prE_ok (iE_ok _) (iE_ok _)) hF5
 refine shO_L (ln rfl) ?_
 refine om rfl rfl (ox rfl rfl rfl (ox rfl rfl rfl (oa rfl rfl (oa rfl rfl (shO_nil (shW_seq (wsr (om rfl rfl ?_))))))))
 refine ov (v_neq rfl rfl) rfl ?_
 refine shO_nil ?_
 refine shW_condP rfl (fun c10 => ?_) (fun c10 => ?_)
 · have r11 := ite_t r3 c10; clear r3
   refine wsr (om rfl rfl (oa rfl rfl (oa rfl rfl (shO_nil ?_))))
   refine kW kn ?_
   refine shW_ret (andThen_ret ?_)
   refine q_res2 Try.results17 (res_tmp rfl) (res_tmp rfl) (sr) ?_
   obtain ⟨rfl, rfl⟩ := inj2 r11
   exact rfl
 have r12 := ite_f r3 c10; clear r3
 refine shW_skip (wsr (oa rfl rfl (shO_nil ?_)))
 refine shW_join (fun e1 F1 L1 => ∃ (set_ : Int) (v13 : Value), round_Together_j1 d set_ = some (r, r2) ∧ F4 = F1 ∧ L1 = [] ∧ e1.sub [(6, v13), (8, .int .i64 set_)] ∧ PtrR 102 (prE (slE 1 (slE 1 (iE .i64))) (prE (slE 1 (slE 1 (iE .i64))) (prE (iE .i64) (prE (iE .i64) (prE (slE 3 (prE (slE 1 (iE .i64)) (prE (iE .i64) (iE .i64)))) (prE (arE 25 (cI .i64)) (prE (slE 2 (prE (iE .i64) (iE .i64))) (arE 15 (cI .i64))))))))) F1 v13 d) ?_ ?_
 · refine wsr (om rfl rfl ?_)
   refine ov (v_lenS Try.underlying44 rfl) rfl ?_
   refine om rfl rfl (shO_nil ?_)
   refine shW_block ?_
   refine kW kn ?_
   refine shW_lp (fun fu2 e1 F1 L1 => ∃ (tl : List (Int × Int)) (k : Int), tl.length = fu2 ∧ Lst pairs k tl ∧ ∃ (set_2 : Int) (v15 : Value), round_Together_l2 d tl set_2 = some (r, r2) ∧ F4 = F1 ∧ L1 = [] ∧ e1.sub [(6, v15), (8, .int .i64 set_2), (23, .slice pairs_a pairs.length pairs_c), (24, .int .i64 (pairs.length : Int)), (25, .int .i64 k)] ∧ PtrR 102 (prE (slE 1 (slE 1 (iE .i64))) (prE (slE 1 (slE 1 (iE .i64))) (prE (iE .i64) (prE (iE .i64) (prE (slE 3 (prE (slE 1 (iE .i64)) (prE (iE .i64) (iE .i64)))) (prE (arE 25 (cI .i64)) (prE (slE 2 (prE (iE .i64) (iE .i64))) (arE 15 (cI .i64))))))))) F1 v15 d) _ (m0 kr ⟨_, _, rfl, Lst.start _, 0, v8, r12, rfl, rfl, (sc rfl (sc rfl (sc rfl (sc rfl (sc rfl (sn _)))))), hp9⟩) ?_
   rintro fu2 e1 _ _ ⟨tl, k, hn18, hk17, set_2, v15, r19, rfl, rfl, he20, hp16⟩
   refine shW_env _ he20 ?_; clear he20
   refine wsr ?_
   refine ov (v_lssK rfl rfl) rfl ?_
   refine shO_nil (shW_seq ?_)
   refine shW_condP rfl (fun c22 => ?_) (fun c22 => ?_)
   · obtain ⟨x, tl2, rfl, hx24, g25, hk23⟩ := Lst.succ hk17 c22
     rw [round_Together_l2] at r19
     refine shW_skip (shW_seq ?_)
     refine shW_block ?_
     refine wsr ?_
     obtain ⟨b26, o27, c28, vs29, ha30, hs31, hle32, ⟨_, _, rfl, rfl, rfl⟩, hl33, hc34⟩ := RowR.at (prE_ok (iE_ok _) (iE_ok _)) h_pairs ([]) g25.1 hx24
     refine ov (v_indexO Try.underlying44 Try.sizeOf54 rfl ha30 rfl g25) rfl ?_
     refine ov (v_loadA (cs := #[.int .i64 x.1, .int .i64 x.2]) Try.isAgg54 Try.sizeOf54 rfl hs31 hle32 (extract_cells hle32 hl33 hc34)) rfl ?_
     refine o_alloc rfl Try.zeroValue54 ?_; intro b35 hb35
     refine o_storeA (i := 0) Try.sizeOf54 rfl rfl rfl (by simp [Value.oneCell']) rfl (Nat.le_of_ble_eq_true rfl) ?_
     refine shO_L (L' := [(b35, .cells #[.int .i64 x.1, .int .i64 x.2] 54 (0, 0))]) rfl ?_
     refine nsr (om rfl rfl ?_)
     refine ov (v_loadA (cs := #[.int .i64 x.1, .int .i64 x.2]) Try.isAgg54 Try.sizeOf54 rfl (Has.own 0 rfl) (Nat.le_of_ble_eq_true rfl) rfl) rfl ?_
     obtain ⟨walks2, hears2, houses2, start2, notices2, walks3, pairs2, hit, h36, r37⟩ := b8_ok r19; clear r19
     have h57 := hp16; rw [h36] at h57; obtain ⟨b38, c39, m40, hv41, hz42, ⟨_, _, rfl, ⟨a43, c44, rfl, h45⟩, ⟨_, _, rfl, ⟨a46, c47, rfl, h48⟩, ⟨_, _, rfl, rfl, ⟨_, _, rfl, rfl, ⟨_, _, rfl, ⟨a49, c50, rfl, h51⟩, ⟨_, _, rfl, ⟨rfl, h52⟩, ⟨_, _, rfl, ⟨a53, c54, rfl, h55⟩, ⟨rfl, h56⟩⟩⟩⟩⟩⟩⟩⟩⟩ := h57; subst hv41
     have hz42 : F4 b38 = some (.cells ((([.slice a43 walks2.length c44] : List Value) ++ (([.slice a46 hears2.length c47] : List Value) ++ (([.int .i64 houses2] : List Value) ++ (([.int .i64 start2] : List Value) ++ (([.slice a49 notices2.length c50] : List Value) ++ (walks3.flatMap (cI .i64) ++ (([.slice a53 pairs2.length c54] : List Value) ++ (hit.flatMap (cI .i64))))))))).toArray) 102 m40) := hz42
     obtain ⟨n2, h58, r59⟩ := b1_ok r37; clear r37
     refine o_callV rfl Try.call47 rfl rfl rfl (round_crier_index_w hz42 h45 h48 h51 h52 h55 h56 h58) ?_
     refine oa rfl rfl (shO_nil (shW_seq ?_))
     refine shW_block ?_
     refine wsr (om rfl rfl ?_)
     refine ov (v_lssK rfl rfl) rfl ?_
     refine oa rfl rfl (shO_nil ?_)
     refine shW_condP rfl (fun c60 => ?_) (fun c60 => ?_)
     · have r61 := ite_t r59 c60; clear r59
       refine wsr (oa rfl rfl (oa rfl rfl (shO_nil ?_)))
       refine kW kn ?_
       refine shW_ret (inBlock_ret (andThen_ret (inBlock_ret (andThen_ret (andThen_ret (inBlock_ret (andThen_ret ?_)))))))
       refine q_res2 Try.results17 (res_tmp rfl) (res_tmp rfl) (sr) ?_
       obtain ⟨rfl, rfl⟩ := inj2 r61
       exact rfl
     have r62 := ite_f r59 c60; clear r59
     refine wsr (om rfl rfl (om rfl rfl ?_))
     obtain ⟨g63, r64⟩ := gd_ok r62; clear r62
     refine ov (v_shr rfl rfl g63) rfl ?_
     refine ov (v_and rfl rfl) rfl ?_
     refine ov (v_eql rfl rfl) rfl ?_
     refine oa rfl rfl (shO_nil ?_)
     refine shW_condP rfl (fun c65 => ?_) (fun c65 => ?_)
     · have r66 := ite_t r64 c65; clear r64
       refine wsr (oa rfl rfl (oa rfl rfl (shO_nil ?_)))
       refine kW kn ?_
       refine shW_ret (inBlock_ret (andThen_ret (inBlock_ret (andThen_ret (andThen_ret (inBlock_ret (andThen_ret ?_)))))))
       refine q_res2 Try.results17 (res_tmp rfl) (res_tmp rfl) (sr) ?_
       obtain ⟨rfl, rfl⟩ := inj2 r66
       exact rfl
     have r67 := ite_f r64 c65; clear r64
     refine shW_skip (inBlock_n (id := 2) (shW_region (om rfl rfl (om rfl rfl ?_))))
     obtain ⟨g68, r69⟩ := gd_ok r67; clear r67
     refine ov (v_shl rfl rfl g68) rfl ?_
     refine ov (v_or rfl rfl) rfl ?_
     refine oa rfl rfl (shO_nil (inBlock_n (id := 1) (shW_region ?_)))
     refine ov (v_add rfl rfl (Lst.r64 hk17 c22 (RowR.lt h_pairs))) rfl ?_
     refine om rfl rfl (shO_nil ?_)
     subst hn18; exact le kn ⟨_, _, rfl, hk23, bor set_2 (shl 1 n2), .pointer (some ⟨b38, 0, none⟩), r69, rfl, rfl, (sc rfl (sc rfl (sc rfl (sc rfl (sc rfl (sn _)))))), hp16⟩
   obtain rfl := Lst.zero hk17 c22
   rw [round_Together_l2] at r19
   refine shW_exit (andThen_exit (andThen_exit ?_))
   refine inBlock_exit ?_
   exact mi kr ⟨set_2, v15, r19, rfl, rfl, (sc rfl (sc rfl (sn _))), hp16⟩
 rintro e1 _ _ ⟨set_, v13, r70, rfl, rfl, he71, hp14⟩
 refine shW_env _ he71 ?_; clear he71
 rw [round_Together_j1] at r70
 refine wsr (om rfl rfl (om rfl rfl (om rfl rfl ?_)))
 obtain ⟨walks4, hears3, houses3, start3, notices3, walks5, pairs3, hit2, h72, r73⟩ := b8_ok r70; clear r70
 have h93 := hp14; rw [h72] at h93; obtain ⟨b74, c75, m76, hv77, hz78, ⟨_, _, rfl, ⟨a79, c80, rfl, h81⟩, ⟨_, _, rfl, ⟨a82, c83, rfl, h84⟩, ⟨_, _, rfl, rfl, ⟨_, _, rfl, rfl, ⟨_, _, rfl, ⟨a85, c86, rfl, h87⟩, ⟨_, _, rfl, ⟨rfl, h88⟩, ⟨_, _, rfl, ⟨a89, c90, rfl, h91⟩, ⟨rfl, h92⟩⟩⟩⟩⟩⟩⟩⟩⟩ := h93; subst hv77
 have hz78 : F4 b74 = some (.cells ((([.slice a79 walks4.length c80] : List Value) ++ (([.slice a82 hears3.length c83] : List Value) ++ (([.int .i64 houses3] : List Value) ++ (([.int .i64 start3] : List Value) ++ (([.slice a85 notices3.length c86] : List Value) ++ (walks5.flatMap (cI .i64) ++ (([.slice a89 pairs3.length c90] : List Value) ++ (hit2.flatMap (cI .i64))))))))).toArray) 102 m76) := hz78
 obtain ⟨y, h94, r95⟩ := b1_ok r73; clear r73
 refine o_call0 rfl Try.call29 rfl rfl rfl (round_crier_hours_w hz78 h81 h84 h87 h88 h91 h92 h94) ?_; rintro _ F96 _ hF97 hn98 ⟨fi100, fc101, cp102, rfl, rfl, hit103⟩
 replace h81 := h81.mono (slE_ok (iE_ok _)) hF97
 replace h84 := h84.mono (slE_ok (iE_ok _)) hF97
 replace h87 := h87.mono (prE_ok (slE_ok (iE_ok _)) (prE_ok (iE_ok _) (iE_ok _))) hF97
 replace h91 := h91.mono (prE_ok (iE_ok _) (iE_ok _)) hF97
 replace hz78 := hF97 _ _ hz78
 refine shO_L (ln rfl) ?_
 obtain ⟨l, n3, ok, h104, r105⟩ := b3_ok r95; clear r95
 refine o_call0 rfl Try.call27 rfl rfl rfl (round_crier_serve_w hz78 h81 h84 h87 h88 h91 h92 hit103 h104) ?_; rintro _ F106 _ hF107 hn108 ⟨a110, n114, c111, Lb112, rfl, rfl, hz113⟩
 refine shO_L (lp (ln rfl)) ?_
 refine om rfl rfl (ox rfl rfl rfl (ox rfl rfl rfl (ox rfl rfl rfl (oa rfl rfl (oa rfl rfl (oa rfl rfl (nsr (om rfl rfl (oa rfl rfl ?_)))))))))
 refine oa rfl rfl (shO_nil ?_)
 refine kW kn ?_
 refine shW_ret ?_
 refine q_res2 Try.results17 (res_tmp rfl) (res_tmp rfl) (sr) ?_
 obtain ⟨rfl, rfl⟩ := inj2 r105
 exact rfl
set_option maxHeartbeats 1000000 in
theorem oyezkit_Copy_Pair_w {l_a : Option Addr} {l_c : Nat} {l : List (Int × Int)} {F : FS} (h_l : RowR 2 (prE (iE .i64) (iE .i64)) F l_a l_c l) {r : List (Int × Int)} (hr : oyezkit_Copy_Pair l = some r) :
    SH.Spec Try.prog 18 #[.slice l_a l.length l_c] F [] fun F' L' v => ∃ (ra : Option Addr) (rn : Nat) (rc : Nat) (rL : LH), v = .slice ra rn rc ∧ L' = rL ++ [] ∧ SlR 0 54 2 (prE (iE .i64) (iE .i64)) F' ra rn rc r rL := by
 refine spec_of_shW (args := [.slice l_a l.length l_c]) Try.func18 rfl Try.ntmps18 (Nat.le_of_ble_eq_true rfl) ?_
 intro K _ _; rw [oyezkit_Copy_Pair] at hr
 refine wsr (oa rfl rfl (nsr (om rfl rfl ?_)))
 refine ov (v_lenS Try.underlying44 rfl) rfl ?_
 obtain ⟨g1, r2⟩ := gd_ok hr; clear hr
 obtain ⟨l2, h3, r4⟩ := bv_ok r2; clear r2
 refine o_makeZ (R := (prE (iE .i64) (iE .i64))) (z0 := (0, 0)) (zs := l2) rfl slt_44 (by decide) (prE_ok (iE_ok _) (iE_ok _)) (fun _ => ⟨_, _, rfl, rfl, rfl⟩) rfl g1 h3 (fun _ => .n) ?_; intro a5 n8 Lb6 hz7
 refine oa rfl rfl (nsr (om rfl rfl (om rfl rfl ?_)))
 obtain ⟨out, h10, r11⟩ := bv_ok r4; clear r4
 refine o_copyZ (ys := l) (zs := out) rfl slt_44 (prE_ok (iE_ok _) (iE_ok _)) rfl rfl (fun _ => .h) hz7 (RowR.src h_l) h10 ?_; intro Lb12 hz13
 refine nsr (om rfl rfl (oa rfl rfl (shO_nil (shW_ret ?_))))
 refine q_res1 Try.results18 (res_tmp rfl) (sr) ?_
 obtain rfl := inj1 r11
 exact ⟨_, _, _, _, rfl, rfl, hz13.any⟩
set_option maxHeartbeats 1000000 in
theorem oyezlaw03_RoundServed_w {numbers_a : Option Addr} {numbers_c : Nat} {numbers : List Int} {tries_a : Option Addr} {tries_c : Nat} {tries : List Int} {F : FS} (h_numbers : RowR 1 (iE .u8) F numbers_a numbers_c numbers) (h_tries : RowR 1 (iE .u8) F tries_a tries_c tries) {r : Bool} (hr : oyezlaw03_RoundServed numbers tries = some r) :
    SpecV Try.prog 4 #[.slice numbers_a numbers.length numbers_c, .slice tries_a tries.length tries_c] F (.bool r) := by
 refine spec_of_shW (args := [.slice numbers_a numbers.length numbers_c, .slice tries_a tries.length tries_c]) Try.func4 rfl Try.ntmps4 (Nat.le_of_ble_eq_true rfl) ?_
 intro K _ _; rw [oyezlaw03_RoundServed] at hr
 refine wsr (oa rfl rfl (nsr (om rfl rfl ?_)))
 obtain ⟨metal, at_, turn, h1, r2⟩ := b3_ok hr; clear hr
 refine o_call0 rfl Try.call7 rfl rfl rfl (oyezkit_Hang_w h_numbers h1) ?_; rintro _ F3 _ hF4 hn5 ⟨b7, a8, c9, rfl, rfl, h10⟩
 replace h_tries := h_tries.mono (iE_ok _) hF4
 refine shO_L (lb (ln rfl)) ?_
 obtain ⟨l, l2, n, n2, l3, at_2, turn2, h11, r12⟩ := b7_ok r2; clear r2
 refine o_callG (Lb := [(b7, .cells #[.slice a8 metal.length c9, .int .i64 at_, .int .u32 turn] 66 (0, 0))]) (Lr := []) rfl Try.call6 rfl rfl rfl (pR) (oyezlaw03_Made_w h10 h11) ?_; rintro _ F13 _ hF14 hd16 hn15 ⟨a17, c18, a20, c21, a23, n27, c24, Lb25, rfl, rfl, h19, h22, hz26⟩
 replace h_tries := h_tries.mono (iE_ok _) hF14
 have hn29 := newp (Lb' := [(b7, .cells #[.slice a8 metal.length c9, .int .i64 at_2, .int .u32 turn2] 66 (0, 0))]) (by rfl) hd16 hn15
 replace hz26 := hz26.new fun p hp => hn29 p (by simp [hp])
 refine shO_L (lb (lp (ln rfl))) ?_
 refine o_alloc rfl Try.zeroValue26 ?_; intro b30 hb30
 refine o_storeA (i := 0) Try.sizeOf26 rfl rfl rfl (by simp [Value.oneCell']) rfl (Nat.le_of_ble_eq_true rfl) ?_
 refine shO_L (L' := (b30, .cells #[.slice a17 l.length c18, .slice a20 l2.length c21, .int .i64 n, .int .i64 n2, .slice a23 n27 c24] 26 (0, 0)) :: ((b7, .cells #[.slice a8 metal.length c9, .int .i64 at_2, .int .u32 turn2] 66 (0, 0)) :: (Lb25 ++ []))) rfl ?_
 refine nsr (om rfl rfl ?_)
 obtain ⟨metal2, at_3, turn3, h31, r32⟩ := b3_ok r12; clear r12
 refine o_call0 rfl Try.call7 rfl rfl rfl (oyezkit_Hang_w h_tries h31) ?_; rintro _ F33 _ hF34 hn35 ⟨b37, a38, c39, rfl, rfl, h40⟩
 replace h19 := h19.mono (slE_ok (iE_ok _)) hF34
 replace h22 := h22.mono (slE_ok (iE_ok _)) hF34
 replace hz26 := hz26.mono (prE_ok (slE_ok (iE_ok _)) (prE_ok (iE_ok _) (iE_ok _))) hF34
 refine shO_L (lb (ln rfl)) ?_
 refine oa rfl rfl (nsr ?_)
 refine ov (v_loadA (cs := #[.slice a17 l.length c18, .slice a20 l2.length c21, .int .i64 n, .int .i64 n2, .slice a23 n27 c24]) Try.isAgg26 Try.sizeOf26 rfl (Has.own 1 rfl) (Nat.le_of_ble_eq_true rfl) rfl) rfl ?_
 obtain ⟨l4, n3, n4, h41, r42⟩ := b3_ok r32; clear r32
 refine o_callTO (Lb := []) (Lt := Lb25 ++ []) (Lr := [(b37, .cells #[.slice a38 metal2.length c39, .int .i64 at_3, .int .u32 turn3] 66 (0, 0)), (b30, .cells #[.slice a17 l.length c18, .slice a20 l2.length c21, .int .i64 n, .int .i64 n2, .slice a23 n27 c24] 26 (0, 0)), (b7, .cells #[.slice a8 metal.length c9, .int .i64 at_2, .int .u32 turn2] 66 (0, 0))]) rfl Try.call9 rfl rfl rfl (pT ((fC (fC (fC fP))).trans (pA pR)) (ln (lp (ln rfl)))) (fun F2 h2 h3 => by rw [(SlR.caps hz26).1]; exact round_Best_w (h19.mono (slE_ok (iE_ok _)) h2) (h22.mono (slE_ok (iE_ok _)) h2) (hz26.row (prE_ok (slE_ok (iE_ok _)) (prE_ok (iE_ok _) (iE_ok _))) h2 (fun p hp => h3 p (List.mem_append_left _ hp))) h41) (fun _ _ _ _ hq => by obtain ⟨a47, n51, c48, Lb49, rfl, rfl, hz50⟩ := hq; exact ⟨_, _, _, _, rfl, rfl, hz50.flat (fun _ _ h => h)⟩) ?_; rintro _ F43 _ hF44 hd46 hn45 ⟨a47, n51, c48, Lb49, rfl, rfl, hz50⟩
 replace h19 := h19.mono (slE_ok (iE_ok _)) hF44
 replace h22 := h22.mono (slE_ok (iE_ok _)) hF44
 replace h40 := h40.mono (iE_ok _) hF44
 replace hz26 := hz26.mono (prE_ok (slE_ok (iE_ok _)) (prE_ok (iE_ok _) (iE_ok _))) hF44
 have hn53 := newp (Lb' := []) (by rfl) hd46 hn45
 replace hz50 := hz50.new fun p hp => hn53 p (by simp [hp])
 refine shO_L (lp (ln (lp (ln rfl)))) ?_
 refine kO (kf (fS (fS fO)) (kf (fS (fS fO)) (kf (fS (fS fO)) kr))) ?_
 refine om rfl rfl (ox rfl rfl rfl (ox rfl rfl rfl (ox rfl rfl rfl (oa rfl rfl (oa rfl rfl (oa rfl rfl (nsr ?_)))))))
 refine ov (v_loadA (cs := #[.slice a17 l.length c18, .slice a20 l2.length c21, .int .i64 n, .int .i64 n2, .slice a23 n27 c24]) Try.isAgg26 Try.sizeOf26 rfl (Has.own 1 rfl) (Nat.le_of_ble_eq_true rfl) rfl) rfl ?_
 obtain ⟨l5, n5, h54, r55⟩ := b2_ok r42; clear r42
 refine o_callTO (Lb := []) (Lt := Lb25 ++ []) (Lr := (b37, .cells #[.slice a38 metal2.length c39, .int .i64 at_3, .int .u32 turn3] 66 (0, 0)) :: ((b30, .cells #[.slice a17 l.length c18, .slice a20 l2.length c21, .int .i64 n, .int .i64 n2, .slice a23 n27 c24] 26 (0, 0)) :: ((b7, .cells #[.slice a8 metal.length c9, .int .i64 at_2, .int .u32 turn2] 66 (0, 0)) :: (Lb49 ++ [])))) rfl Try.call13 rfl rfl rfl (pT ((fC (fC (fC (fS fP)))).trans (pA pR)) (ln (lp (ln rfl)))) (fun F2 h2 h3 => by rw [(SlR.caps hz26).1]; exact round_Excludes_w (h19.mono (slE_ok (iE_ok _)) h2) (h22.mono (slE_ok (iE_ok _)) h2) (hz26.row (prE_ok (slE_ok (iE_ok _)) (prE_ok (iE_ok _) (iE_ok _))) h2 (fun p hp => h3 p (List.mem_append_left _ hp))) h54) (fun _ _ _ _ hq => by obtain ⟨a60, n64, c61, Lb62, rfl, rfl, hz63⟩ := hq; exact ⟨_, _, _, _, rfl, rfl, hz63.flat (fun _ _ h => h)⟩) ?_; rintro _ F56 _ hF57 hd59 hn58 ⟨a60, n64, c61, Lb62, rfl, rfl, hz63⟩
 replace h19 := h19.mono (slE_ok (iE_ok _)) hF57
 replace h22 := h22.mono (slE_ok (iE_ok _)) hF57
 replace h40 := h40.mono (iE_ok _) hF57
 replace hz26 := hz26.mono (prE_ok (slE_ok (iE_ok _)) (prE_ok (iE_ok _) (iE_ok _))) hF57
 replace hz50 := hz50.mono (prE_ok (iE_ok _) (iE_ok _)) hF57
 have hn66 := newp (Lb' := []) (by rfl) hd59 hn58
 replace hz63 := hz63.new fun p hp => hn66 p (by simp [hp])
 refine shO_L (lp (ln (lp (ln rfl)))) ?_
 refine kO (kf (fS (fS fO)) (kf (fS (fS fO)) (kf (fS (fS fO)) kr))) ?_
 refine om rfl rfl (ox rfl rfl rfl (ox rfl rfl rfl (oa rfl rfl (oa rfl rfl (shO_nil (shW_seq ?_))))))
 obtain ⟨k, h67, r68⟩ := b1_ok r55; clear r55
 refine shW_join (fun e1 F1 L1 => F56 = F1 ∧ L1 = ((b37, .cells #[.slice a38 metal2.length c39, .int .i64 at_3, .int .u32 turn3] 66 (0, 0)) :: ((b30, .cells #[.slice a17 l.length c18, .slice a20 l2.length c21, .int .i64 n, .int .i64 n2, .slice a23 n27 c24] 26 (0, 0)) :: (Lb25 ++ (Lb49 ++ (Lb62 ++ []))))) ∧ e1.sub [(5, .pointer (some ⟨b30, 0, none⟩)), (6, .pointer (some ⟨b37, 0, none⟩)), (7, .slice a47 n51 c48), (8, .int .i64 n3), (9, .int .i64 n4), (10, .slice a60 n64 c61), (62, .bool k)]) ?_ ?_
 · clear r68
   refine shW_region ?_
   refine ov (v_loadA (cs := #[.slice a17 l.length c18, .slice a20 l2.length c21, .int .i64 n, .int .i64 n2, .slice a23 n27 c24]) Try.isAgg26 Try.sizeOf26 rfl (Has.own 1 rfl) (Nat.le_of_ble_eq_true rfl) rfl) rfl ?_
   obtain ⟨n6, h69, r70⟩ := b1_ok h67; clear h67
   refine o_callT (Lt := Lb25 ++ []) (Lr := (b37, .cells #[.slice a38 metal2.length c39, .int .i64 at_3, .int .u32 turn3] 66 (0, 0)) :: ((b30, .cells #[.slice a17 l.length c18, .slice a20 l2.length c21, .int .i64 n, .int .i64 n2, .slice a23 n27 c24] 26 (0, 0)) :: ((b7, .cells #[.slice a8 metal.length c9, .int .i64 at_2, .int .u32 turn2] 66 (0, 0)) :: (Lb62 ++ (Lb49 ++ []))))) rfl Try.call14 rfl rfl rfl (pT ((fC (fC (fC (fS fP)))).trans (pA pR)) (lp (ln rfl))) (fun F2 h2 h3 => by rw [(SlR.caps hz26).1]; exact round_Check_w (h19.mono (slE_ok (iE_ok _)) h2) (h22.mono (slE_ok (iE_ok _)) h2) (hz26.row (prE_ok (slE_ok (iE_ok _)) (prE_ok (iE_ok _) (iE_ok _))) h2 (fun p hp => h3 p (List.mem_append_left _ hp))) h69) ?_
   refine ov (v_neq rfl rfl) rfl ?_
   refine om rfl rfl ?_
   by_cases c71 : n6 ≠ 0
   · have r72 := ite_t r70 c71; clear r70
     refine shO_off (b' := true) 40 rfl (Env.isT rfl c71) rfl rfl (shO_off (b' := true) 40 rfl (Env.isT rfl c71) rfl rfl (shO_off (b' := true) 40 rfl (Env.isT rfl c71) rfl rfl (shO_offU 43 rfl rfl rfl (shO_offU 43 rfl rfl rfl (shO_off (b' := true) 40 rfl (Env.isT rfl c71) rfl rfl ?_)))))
     refine ov (v_pick_t (evD_true rfl c71) rfl) rfl ?_
     refine om rfl rfl (shO_off (b' := true) 48 rfl rfl rfl rfl (shO_off (b' := true) 48 rfl rfl rfl rfl (shO_off (b' := true) 48 rfl rfl rfl rfl (shO_off (b' := true) 48 rfl rfl rfl rfl (shO_off (b' := true) 48 rfl rfl rfl rfl ?_)))))
     refine ov (v_pick_t rfl rfl) rfl ?_
     refine om rfl rfl (shO_off (b' := true) 55 rfl rfl rfl rfl (shO_off (b' := true) 55 rfl rfl rfl rfl (shO_off (b' := true) 55 rfl rfl rfl rfl (shO_offU 58 rfl rfl rfl (shO_offU 58 rfl rfl rfl (shO_off (b' := true) 55 rfl rfl rfl rfl ?_))))))
     refine ov (v_pick_t rfl rfl) rfl ?_
     refine shO_nil ?_
     obtain rfl := inj1 r72
     exact mi (kc (kc (kd (kg (fS fP) (kg (fS fP) kr))))) ⟨rfl, rfl, (sc rfl (sc rfl (sc rfl (sc rfl (sc rfl (sc rfl (sc rfl (sn _))))))))⟩
   have r73 := ite_f r70 c71; clear r70
   refine shO_on (b := false) 40 rfl (Env.isF rfl c71) (om rfl rfl (shO_on (b := false) 40 rfl (Env.isF rfl c71) ?_))
   refine ov (v_neq rfl rfl) rfl ?_
   refine shO_on (b := false) 40 rfl (Env.isF rfl c71) (om rfl rfl ?_)
   by_cases c74 : n4 ≠ 0
   · have r75 := ite_t r73 c74; clear r73
     refine shO_on (b := true) 43 rfl (Env.isT rfl c74) (om rfl rfl (shO_on (b := true) 43 rfl (Env.isT rfl c74) ?_))
     refine ov (v_neq rfl rfl) rfl ?_
     refine shO_on (b := false) 40 rfl (Env.isF rfl c71) ?_
     refine ov (v_pick_t (evD_true rfl c74) rfl) rfl ?_
     refine ov (v_pick_f (evD_false rfl c71) rfl) rfl ?_
     refine om rfl rfl ?_
     by_cases c76 : n4 ≠ 6
     · have r77 := ite_t r75 c76; clear r75
       refine shO_off (b' := true) 48 rfl (Env.isT rfl c76) rfl rfl (shO_off (b' := true) 48 rfl (Env.isT rfl c76) rfl rfl (shO_off (b' := true) 48 rfl (Env.isT rfl c76) rfl rfl (shO_off (b' := true) 48 rfl (Env.isT rfl c76) rfl rfl (shO_off (b' := true) 48 rfl (Env.isT rfl c76) rfl rfl ?_))))
       refine ov (v_pick_t (evD_true rfl c76) rfl) rfl ?_
       refine om rfl rfl (shO_off (b' := true) 55 rfl rfl rfl rfl (shO_off (b' := true) 55 rfl rfl rfl rfl (shO_off (b' := true) 55 rfl rfl rfl rfl (shO_offU 58 rfl rfl rfl (shO_offU 58 rfl rfl rfl (shO_off (b' := true) 55 rfl rfl rfl rfl ?_))))))
       refine ov (v_pick_t rfl rfl) rfl ?_
       refine shO_nil ?_
       obtain rfl := inj1 r77
       exact mi (kc (kc (kd (kg (fS fP) (kg (fS fP) kr))))) ⟨rfl, rfl, (sc rfl (sc rfl (sc rfl (sc rfl (sc rfl (sc rfl (sc rfl (sn _))))))))⟩
     have r78 := ite_f r75 c76; clear r75
     refine shO_on (b := false) 48 rfl (Env.isF rfl c76) (om rfl rfl (shO_on (b := false) 48 rfl (Env.isF rfl c76) ?_))
     refine ov (v_eql rfl rfl) rfl ?_
     refine shO_on (b := false) 48 rfl (Env.isF rfl c76) (om rfl rfl (shO_on (b := false) 48 rfl (Env.isF rfl c76) ?_))
     refine ov (v_eql rfl rfl) rfl ?_
     refine shO_on (b := false) 48 rfl (Env.isF rfl c76) ?_
     refine ov (v_neqB Try.underlying4 rfl rfl) rfl ?_
     refine ov (v_pick_f (evD_false rfl c76) rfl) rfl ?_
     refine om rfl rfl ?_
     by_cases c79 : (decide (n4 = 0)) ≠ (decide (n5 = 6))
     · have r80 := ite_t r78 c79; clear r78
       refine shO_off (b' := true) 55 rfl (Env.isT rfl c79) rfl rfl (shO_off (b' := true) 55 rfl (Env.isT rfl c79) rfl rfl (shO_off (b' := true) 55 rfl (Env.isT rfl c79) rfl rfl (shO_offU 58 rfl rfl rfl (shO_offU 58 rfl rfl rfl (shO_off (b' := true) 55 rfl (Env.isT rfl c79) rfl rfl ?_)))))
       refine ov (v_pick_t (evD_true rfl c79) rfl) rfl ?_
       refine shO_nil ?_
       obtain rfl := inj1 r80
       exact mi (kc (kc (kd (kg (fS fP) (kg (fS fP) kr))))) ⟨rfl, rfl, (sc rfl (sc rfl (sc rfl (sc rfl (sc rfl (sc rfl (sc rfl (sn _))))))))⟩
     have r81 := ite_f r78 c79; clear r78
     refine shO_on (b := false) 55 rfl (Env.isF rfl c79) (om rfl rfl (shO_on (b := false) 55 rfl (Env.isF rfl c79) ?_))
     refine ov (v_neq rfl rfl) rfl ?_
     refine shO_on (b := false) 55 rfl (Env.isF rfl c79) (om rfl rfl (shO_on (b := true) 58 rfl (Env.isT rfl c74) (om rfl rfl (shO_on (b := true) 58 rfl (Env.isT rfl c74) ?_))))
     refine ov (v_neq rfl rfl) rfl ?_
     refine shO_on (b := false) 55 rfl (Env.isF rfl c79) ?_
     refine ov (v_pick_t (evD_true rfl c74) rfl) rfl ?_
     refine ov (v_pick_f (evD_false rfl c79) rfl) rfl ?_
     refine shO_nil ?_
     obtain rfl := inj1 r81
     exact mi (kc (kc (kd (kg (fS fP) (kg (fS fP) kr))))) ⟨rfl, rfl, (sc rfl (sc rfl (sc rfl (sc rfl (sc rfl (sc rfl (sc rfl (sn _))))))))⟩
   have r82 := ite_f r73 c74; clear r73
   refine shO_off (b' := false) 43 rfl (Env.isF rfl c74) rfl rfl (shO_off (b' := false) 43 rfl (Env.isF rfl c74) rfl rfl (shO_on (b := false) 40 rfl (Env.isF rfl c71) ?_))
   refine ov (v_pick_f (evD_false rfl c74) rfl) rfl ?_
   refine ov (v_pick_f (evD_false rfl c71) rfl) rfl ?_
   refine om rfl rfl (shO_on (b := false) 48 rfl rfl (om rfl rfl (shO_on (b := false) 48 rfl rfl ?_)))
   refine ov (v_eql rfl rfl) rfl ?_
   refine shO_on (b := false) 48 rfl rfl (om rfl rfl (shO_on (b := false) 48 rfl rfl ?_))
   refine ov (v_eql rfl rfl) rfl ?_
   refine shO_on (b := false) 48 rfl rfl ?_
   refine ov (v_neqB Try.underlying4 rfl rfl) rfl ?_
   refine ov (v_pick_f rfl rfl) rfl ?_
   refine om rfl rfl ?_
   by_cases c83 : (decide (n4 = 0)) ≠ (decide (n5 = 6))
   · have r84 := ite_t r82 c83; clear r82
     refine shO_off (b' := true) 55 rfl (Env.isT rfl c83) rfl rfl (shO_off (b' := true) 55 rfl (Env.isT rfl c83) rfl rfl (shO_off (b' := true) 55 rfl (Env.isT rfl c83) rfl rfl (shO_offU 58 rfl rfl rfl (shO_offU 58 rfl rfl rfl (shO_off (b' := true) 55 rfl (Env.isT rfl c83) rfl rfl ?_)))))
     refine ov (v_pick_t (evD_true rfl c83) rfl) rfl ?_
     refine shO_nil ?_
     obtain rfl := inj1 r84
     exact mi (kc (kc (kd (kg (fS fP) (kg (fS fP) kr))))) ⟨rfl, rfl, (sc rfl (sc rfl (sc rfl (sc rfl (sc rfl (sc rfl (sc rfl (sn _))))))))⟩
   have r85 := ite_f r82 c83; clear r82
   refine shO_on (b := false) 55 rfl (Env.isF rfl c83) (om rfl rfl (shO_on (b := false) 55 rfl (Env.isF rfl c83) ?_))
   refine ov (v_neq rfl rfl) rfl ?_
   refine shO_on (b := false) 55 rfl (Env.isF rfl c83) (om rfl rfl (shO_off (b' := false) 58 rfl (Env.isF rfl c74) rfl rfl (shO_off (b' := false) 58 rfl (Env.isF rfl c74) rfl rfl (shO_on (b := false) 55 rfl (Env.isF rfl c83) ?_))))
   refine ov (v_pick_f (evD_false rfl c74) rfl) rfl ?_
   refine ov (v_pick_f (evD_false rfl c83) rfl) rfl ?_
   refine shO_nil ?_
   obtain rfl := inj1 r85
   exact mi (kc (kc (kd (kg (fS fP) (kg (fS fP) kr))))) ⟨rfl, rfl, (sc rfl (sc rfl (sc rfl (sc rfl (sc rfl (sc rfl (sc rfl (sn _))))))))⟩
 rintro e1 _ _ ⟨rfl, rfl, he86⟩
 refine shW_env _ he86 ?_; clear he86
 refine shW_cond rfl (fun c87 => ?_) (fun c87 => ?_)
 · have r88 := bt r68 c87; clear r68
   refine wsr (oa rfl rfl (shO_nil ?_))
   refine kW kn ?_
   refine shW_ret (andThen_ret ?_)
   refine q_res1 Try.results4 (res_tmp rfl) (sr) ?_
   obtain rfl := inj1 r88
   exact rfl
 have r89 := bf r68 c87; clear r68
 refine shW_skip ?_
 refine shW_join (fun e1 F1 L1 => oyezlaw03_RoundServed_j1 l l2 n n2 l3 metal2 at_3 turn3 n3 n4 l5 = some r ∧ F56 = F1 ∧ L1 = ((b37, .cells #[.slice a38 metal2.length c39, .int .i64 at_3, .int .u32 turn3] 66 (0, 0)) :: ((b30, .cells #[.slice a17 l.length c18, .slice a20 l2.length c21, .int .i64 n, .int .i64 n2, .slice a23 n27 c24] 26 (0, 0)) :: (Lb25 ++ (Lb62 ++ [])))) ∧ e1.sub [(5, .pointer (some ⟨b30, 0, none⟩)), (6, .pointer (some ⟨b37, 0, none⟩)), (8, .int .i64 n3), (9, .int .i64 n4), (10, .slice a60 n64 c61)]) ?_ ?_
 · refine wsr (om rfl rfl ?_)
   refine ov (v_eql rfl rfl) rfl ?_
   refine shO_nil ?_
   refine shW_condP rfl (fun c90 => ?_) (fun c90 => ?_)
   · have r91 := ite_t r89 c90; clear r89
     refine wsr ?_
     refine ov (v_loadA (cs := #[.slice a17 l.length c18, .slice a20 l2.length c21, .int .i64 n, .int .i64 n2, .slice a23 n27 c24]) Try.isAgg26 Try.sizeOf26 rfl (Has.own 1 rfl) (Nat.le_of_ble_eq_true rfl) rfl) rfl ?_
     refine om rfl rfl ?_
     obtain ⟨n7, ok, h92, r93⟩ := b2_ok r91; clear r91
     refine o_callT (Lt := Lb25 ++ (Lb49 ++ [])) (Lr := (b37, .cells #[.slice a38 metal2.length c39, .int .i64 at_3, .int .u32 turn3] 66 (0, 0)) :: ((b30, .cells #[.slice a17 l.length c18, .slice a20 l2.length c21, .int .i64 n, .int .i64 n2, .slice a23 n27 c24] 26 (0, 0)) :: (Lb62 ++ []))) rfl Try.call15 rfl rfl rfl (pT ((fC (fC fP)).trans (pA ((fC (fC fP)).trans (pA pR)))) (lp (lp (ln rfl)))) (fun F2 h2 h3 => by rw [(SlR.caps hz26).1]; rw [(SlR.caps hz50).1]; exact oyezlaw03_last_w (h19.mono (slE_ok (iE_ok _)) h2) (h22.mono (slE_ok (iE_ok _)) h2) (hz26.row (prE_ok (slE_ok (iE_ok _)) (prE_ok (iE_ok _) (iE_ok _))) h2 (fun p hp => h3 p (List.mem_append_left _ hp))) (hz50.row (prE_ok (iE_ok _) (iE_ok _)) h2 (fun p hp => h3 p (List.mem_append_right _ (List.mem_append_left _ hp)))) h92) ?_
     refine om rfl rfl (ox rfl rfl rfl (ox rfl rfl rfl (oa rfl rfl (oa rfl rfl (shO_nil ?_)))))
     obtain ⟨k2, h94, r95⟩ := b1_ok r93; clear r93
     refine shW_join (fun e1 F1 L1 => F56 = F1 ∧ L1 = ((b37, .cells #[.slice a38 metal2.length c39, .int .i64 at_3, .int .u32 turn3] 66 (0, 0)) :: ((b30, .cells #[.slice a17 l.length c18, .slice a20 l2.length c21, .int .i64 n, .int .i64 n2, .slice a23 n27 c24] 26 (0, 0)) :: (Lb25 ++ (Lb62 ++ [])))) ∧ e1.sub [(5, .pointer (some ⟨b30, 0, none⟩)), (6, .pointer (some ⟨b37, 0, none⟩)), (8, .int .i64 n3), (9, .int .i64 n4), (10, .slice a60 n64 c61), (82, .bool k2)]) ?_ ?_
     · clear r95
       refine shW_region (om rfl rfl ?_)
       refine ov (v_notB rfl) rfl ?_
       refine om rfl rfl ?_
       rcases bool_two (!ok) with c96 | c96
       · have r97 := bt h94 c96; clear h94
         refine shO_off (b' := true) 73 rfl (EnvB rfl c96) rfl rfl (shO_off (b' := true) 73 rfl (EnvB rfl c96) rfl rfl (shO_off (b' := true) 73 rfl (EnvB rfl c96) rfl rfl ?_))
         refine ov (v_pick_t (evB rfl c96) rfl) rfl ?_
         refine om rfl rfl (shO_off (b' := true) 78 rfl rfl rfl rfl (shO_off (b' := true) 78 rfl rfl rfl rfl (shO_off (b' := true) 78 rfl rfl rfl rfl ?_)))
         refine ov (v_pick_t rfl rfl) rfl ?_
         refine shO_nil ?_
         obtain rfl := inj1 r97
         exact mi (kc (kc (ka (kx kr)))) ⟨rfl, rfl, (sc rfl (sc rfl (sc rfl (sc rfl (sc rfl (sc rfl (sn _)))))))⟩
       have r98 := bf h94 c96; clear h94
       refine shO_on (b := false) 73 rfl (EnvB rfl c96) (om rfl rfl (shO_on (b := false) 73 rfl (EnvB rfl c96) (om rfl rfl (shO_on (b := false) 73 rfl (EnvB rfl c96) ?_))))
       refine ov (v_neq rfl rfl) rfl ?_
       refine ov (v_pick_f (evB rfl c96) rfl) rfl ?_
       refine om rfl rfl ?_
       by_cases c99 : n7 ≠ n3
       · have r100 := ite_t r98 c99; clear r98
         refine shO_off (b' := true) 78 rfl (Env.isT rfl c99) rfl rfl (shO_off (b' := true) 78 rfl (Env.isT rfl c99) rfl rfl (shO_off (b' := true) 78 rfl (Env.isT rfl c99) rfl rfl ?_))
         refine ov (v_pick_t (evD_true rfl c99) rfl) rfl ?_
         refine shO_nil ?_
         obtain rfl := inj1 r100
         exact mi (kc (kc (ka (kx kr)))) ⟨rfl, rfl, (sc rfl (sc rfl (sc rfl (sc rfl (sc rfl (sc rfl (sn _)))))))⟩
       have r101 := ite_f r98 c99; clear r98
       refine shO_on (b := false) 78 rfl (Env.isF rfl c99) (om rfl rfl (shO_on (b := false) 78 rfl (Env.isF rfl c99) ?_))
       refine ov ((v_lenS Try.underlying34 rfl).i (SlR.lenI hz50)) rfl ?_
       refine shO_on (b := false) 78 rfl (Env.isF rfl c99) ?_
       refine ov (v_gtrK rfl rfl) rfl ?_
       refine ov (v_pick_f (evD_false rfl c99) rfl) rfl ?_
       refine shO_nil ?_
       obtain rfl := inj1 r101
       exact mi (kc (kc (ka (kx kr)))) ⟨rfl, rfl, (sc rfl (sc rfl (sc rfl (sc rfl (sc rfl (sc rfl (sn _)))))))⟩
     rintro e1 _ _ ⟨rfl, rfl, he102⟩
     refine shW_env _ he102 ?_; clear he102
     refine shW_cond rfl (fun c103 => ?_) (fun c103 => ?_)
     · have r104 := bt r95 c103; clear r95
       refine wsr (oa rfl rfl (shO_nil ?_))
       refine kW kn ?_
       refine shW_ret (andThen_ret ?_)
       refine q_res1 Try.results4 (res_tmp rfl) (sr) ?_
       obtain rfl := inj1 r104
       exact rfl
     have r105 := bf r95 c103; clear r95
     refine shW_skip ?_
     exact mi kr ⟨r105, rfl, rfl, (sc rfl (sc rfl (sc rfl (sc rfl (sc rfl (sn _))))))⟩
   have r106 := ite_f r89 c90; clear r89
   refine shW_skip ?_
   exact mi (kc (kc (ka (kx kr)))) ⟨r106, rfl, rfl, (sc rfl (sc rfl (sc rfl (sc rfl (sc rfl (sn _))))))⟩
 rintro e1 _ _ ⟨r107, rfl, rfl, he108⟩
 refine shW_env _ he108 ?_; clear he108
 rw [oyezlaw03_RoundServed_j1] at r107
 refine shW_join (fun e1 F1 L1 => oyezlaw03_RoundServed_j2 l l2 n n2 l3 n4 l5 = some r ∧ FExt F56 F1 ∧ L1 = ((b30, .cells #[.slice a17 l.length c18, .slice a20 l2.length c21, .int .i64 n, .int .i64 n2, .slice a23 n27 c24] 26 (0, 0)) :: (Lb25 ++ (Lb62 ++ []))) ∧ e1.sub [(5, .pointer (some ⟨b30, 0, none⟩)), (9, .int .i64 n4), (10, .slice a60 n64 c61)]) ?_ ?_
 · refine wsr (om rfl rfl (shO_nil ?_))
   refine shW_block ?_
   obtain ⟨g109, r110⟩ := gd_ok r107; clear r107
   refine shW_lp (fun fu3 e1 F1 L1 => ∃ (k3 : Int), Ctr 0 8 k3 fu3 ∧ ∃ (q_at : Int) (q_turn : Int), oyezlaw03_RoundServed_l3 l l2 n n2 l3 metal2 n3 n4 l5 fu3 q_at q_turn = some r ∧ FExt F56 F1 ∧ L1 = ((b37, .cells #[.slice a38 metal2.length c39, .int .i64 q_at, .int .u32 q_turn] 66 (0, 0)) :: ((b30, .cells #[.slice a17 l.length c18, .slice a20 l2.length c21, .int .i64 n, .int .i64 n2, .slice a23 n27 c24] 26 (0, 0)) :: (Lb25 ++ (Lb62 ++ [])))) ∧ e1.sub [(5, .pointer (some ⟨b30, 0, none⟩)), (6, .pointer (some ⟨b37, 0, none⟩)), (8, .int .i64 n3), (9, .int .i64 n4), (10, .slice a60 n64 c61), (83, .int .i64 k3)]) _ (m0 kr ⟨_, Ctr.start _ _, at_3, turn3, r110, FExt.refl _, rfl, (sc rfl (sc rfl (sc rfl (sc rfl (sc rfl (sc rfl (sn _)))))))⟩) ?_
   rintro fu3 e1 F115 _ ⟨k3, hk111, q_at, q_turn, r113, hF116, rfl, he114⟩
   refine shW_env _ he114 ?_; clear he114
   replace h19 := h19.mono (slE_ok (iE_ok _)) hF116
   replace h22 := h22.mono (slE_ok (iE_ok _)) hF116
   replace h40 := h40.mono (iE_ok _) hF116
   replace hz26 := hz26.mono (prE_ok (slE_ok (iE_ok _)) (prE_ok (iE_ok _) (iE_ok _))) hF116
   refine wsr ?_
   refine ov (v_lssK rfl rfl) rfl ?_
   refine shO_nil (shW_seq ?_)
   refine shW_condP rfl (fun c118 => ?_) (fun c118 => ?_)
   · obtain ⟨fu3, rfl, hk119⟩ := Ctr.succ hk111 c118
     rw [oyezlaw03_RoundServed_l3] at r113
     refine shW_skip (shW_seq ?_)
     refine shW_block ?_
     refine shW_seq ?_
     refine shW_drawM [(.still, 0), (.still, 1), (.still, 2), (.seq, 3), (.seq, 4), (.still, 5), (.still, 6), (.still, 7), (.still, 8), (.still, 9)] (by kernel_rfl) (by kernel_rfl) (trivial) (by rfl) (by kernel_rfl) ?_
     refine shM_v (v := .agg #[.slice a17 l.length c18, .slice a20 l2.length c21, .int .i64 n, .int .i64 n2, .slice a23 n27 c24]) (ek := [(5, .pointer (some ⟨b30, 0, none⟩))]) (Ls := [(b30, .cells #[.slice a17 l.length c18, .slice a20 l2.length c21, .int .i64 n, .int .i64 n2, .slice a23 n27 c24] 26 (0, 0))]) rfl rfl rfl rfl ((sc rfl (sn _))) (by kernel_rfl) (s0 (s1 (s2 (s3 (s3 sr))))) (fun H F' L' hF' hL' => v_loadA (cs := #[.slice a17 l.length c18, .slice a20 l2.length c21, .int .i64 n, .int .i64 n2, .slice a23 n27 c24]) Try.isAgg26 Try.sizeOf26 rfl ((Has.own 0 rfl).ext hF' hL') (Nat.le_of_ble_eq_true rfl) rfl) ?_
     refine shM_v (v := .pointer (some ⟨b37, 0, none⟩)) (ek := [(6, .pointer (some ⟨b37, 0, none⟩))]) (Ls := []) rfl rfl rfl rfl ((sc rfl (sn _))) (by kernel_rfl) sm (fun H F' L' hF' hL' => v_move rfl) ?_
     refine shM_v (v := .agg #[.slice a17 l.length c18, .slice a20 l2.length c21, .int .i64 n, .int .i64 n2, .slice a23 n27 c24]) (ek := [(5, .pointer (some ⟨b30, 0, none⟩))]) (Ls := [(b30, .cells #[.slice a17 l.length c18, .slice a20 l2.length c21, .int .i64 n, .int .i64 n2, .slice a23 n27 c24] 26 (0, 0))]) rfl rfl rfl rfl ((sc rfl (sn _))) (by kernel_rfl) (s0 (s1 (s2 (s3 (s3 sr))))) (fun H F' L' hF' hL' => v_loadA (cs := #[.slice a17 l.length c18, .slice a20 l2.length c21, .int .i64 n, .int .i64 n2, .slice a23 n27 c24]) Try.isAgg26 Try.sizeOf26 rfl ((Has.own 0 rfl).ext hF' hL') (Nat.le_of_ble_eq_true rfl) rfl) ?_
     refine ⟨_, [(87, .pointer (some ⟨b37, 0, none⟩)), (88, .agg #[.slice a17 l.length c18, .slice a20 l2.length c21, .int .i64 n, .int .i64 n2, .slice a23 n27 c24])], rfl, rfl, (sc rfl (sc rfl (sn _))), by kernel_rfl, ?_⟩; intro H
     obtain ⟨l6, at_4, turn4, h120, r121⟩ := b3_ok r113; clear r113
     refine o_callTO (Lb := [(b37, .cells #[.slice a38 metal2.length c39, .int .i64 q_at, .int .u32 q_turn] 66 (0, 0))]) (Lt := Lb25 ++ []) (Lr := (b30, .cells #[.slice a17 l.length c18, .slice a20 l2.length c21, .int .i64 n, .int .i64 n2, .slice a23 n27 c24] 26 (0, 0)) :: (Lb62 ++ [])) rfl Try.call16 rfl rfl rfl (pT (pC ((fC fP).trans (pA pR))) (lb (ln (lp (ln rfl))))) (fun F2 h2 h3 => by rw [(SlR.caps hz26).1]; exact oyezlaw03_gone_w (h40.mono (iE_ok _) h2) (h19.mono (slE_ok (iE_ok _)) h2) (h22.mono (slE_ok (iE_ok _)) h2) (hz26.row (prE_ok (slE_ok (iE_ok _)) (prE_ok (iE_ok _) (iE_ok _))) h2 (fun p hp => h3 p (List.mem_append_left _ hp))) h120) (fun _ _ _ _ hq => by obtain ⟨a126, n130, c127, Lb128, rfl, rfl, hz129⟩ := hq; exact ⟨_, _, _, _, rfl, rfl, hz129.flat (fun _ _ h => h)⟩) ?_; rintro _ F122 _ hF123 hd125 hn124 ⟨a126, n130, c127, Lb128, rfl, rfl, hz129⟩
     replace h19 := h19.mono (slE_ok (iE_ok _)) hF123
     replace h22 := h22.mono (slE_ok (iE_ok _)) hF123
     replace hz26 := hz26.mono (prE_ok (slE_ok (iE_ok _)) (prE_ok (iE_ok _) (iE_ok _))) hF123
     have hn132 := newp (Lb' := [(b37, .cells #[.slice a38 metal2.length c39, .int .i64 at_4, .int .u32 turn4] 66 (0, 0))]) (by rfl) hd125 hn124
     replace hz129 := hz129.new fun p hp => hn132 p (by simp [hp])
     refine shO_L (lb (lp (ln (lp (ln rfl))))) ?_
     refine kO (kc (kf (fS (fS fO)) kr)) ?_
     refine shO_nil ⟨_, rfl, hF123, [0], by kernel_rfl, .inl (.inr (fun d h => by cases h; rfl)), (List.forall_mem_cons.2 ⟨s0 (s1 (s2 (s3 (s3 (s3 sr))))), (fun _ h => absurd h List.not_mem_nil)⟩), ?_⟩
     refine ⟨_, [(86, .agg #[.slice a17 l.length c18, .slice a20 l2.length c21, .int .i64 n, .int .i64 n2, .slice a23 n27 c24]), (89, .slice a126 n130 c127)], rfl, rfl, (sc rfl (sc rfl (sn _))), by kernel_rfl, ?_⟩; intro H
     obtain ⟨n8, ok2, h133, r134⟩ := b2_ok r121; clear r121
     refine o_callT (Lt := Lb25 ++ (Lb128 ++ [])) (Lr := (b37, .cells #[.slice a38 metal2.length c39, .int .i64 at_4, .int .u32 turn4] 66 (0, 0)) :: ((b30, .cells #[.slice a17 l.length c18, .slice a20 l2.length c21, .int .i64 n, .int .i64 n2, .slice a23 n27 c24] 26 (0, 0)) :: (Lb62 ++ []))) rfl Try.call15 rfl rfl rfl (pT ((fC (fC (fS fP))).trans (pA ((fC (fC fP)).trans (pA pR)))) (lp (lp (ln rfl)))) (fun F2 h2 h3 => by rw [(SlR.caps hz26).1]; rw [(SlR.caps hz129).1]; exact oyezlaw03_last_w (h19.mono (slE_ok (iE_ok _)) h2) (h22.mono (slE_ok (iE_ok _)) h2) (hz26.row (prE_ok (slE_ok (iE_ok _)) (prE_ok (iE_ok _) (iE_ok _))) h2 (fun p hp => h3 p (List.mem_append_left _ hp))) (hz129.row (prE_ok (iE_ok _) (iE_ok _)) h2 (fun p hp => h3 p (List.mem_append_right _ (List.mem_append_left _ hp)))) h133) ?_
     refine shO_nil ⟨_, rfl, FExt.refl _, [], by kernel_rfl, .inl (.inl rfl), (fun _ h => absurd h List.not_mem_nil), ?_⟩
     refine shM_v (v := .tuple #[.int .i64 n8, .bool ok2]) (ek := [(90, .tuple #[.int .i64 n8, .bool ok2])]) (Ls := []) rfl rfl rfl rfl ((sc rfl (sn _))) (by kernel_rfl) sm (fun H F' L' hF' hL' => v_move rfl) ?_
     refine shM_v (v := .int .i64 n8) (ek := [(85, .tuple #[.int .i64 n8, .bool ok2])]) (Ls := []) rfl rfl rfl rfl ((sc rfl (sn _))) (by kernel_rfl) sm (fun H F' L' hF' hL' => v_extract rfl rfl) ?_
     refine shM_v (v := .bool ok2) (ek := [(85, .tuple #[.int .i64 n8, .bool ok2])]) (Ls := []) rfl rfl rfl rfl ((sc rfl (sn _))) (by kernel_rfl) sm (fun H F' L' hF' hL' => v_extract rfl rfl) ?_
     refine shM_v (v := .int .i64 n8) (ek := [(91, .int .i64 n8)]) (Ls := []) rfl rfl rfl rfl ((sc rfl (sn _))) (by kernel_rfl) sm (fun H F' L' hF' hL' => v_assign rfl) ?_
     refine shM_v (v := .bool ok2) (ek := [(92, .bool ok2)]) (Ls := []) rfl rfl rfl rfl ((sc rfl (sn _))) (by kernel_rfl) sm (fun H F' L' hF' hL' => v_assign rfl) ?_
     refine shM_nil ?_
     obtain ⟨k4, h135, r136⟩ := b1_ok r134; clear r134
     refine shW_join (fun e1 F1 L1 => F122 = F1 ∧ L1 = ((b37, .cells #[.slice a38 metal2.length c39, .int .i64 at_4, .int .u32 turn4] 66 (0, 0)) :: ((b30, .cells #[.slice a17 l.length c18, .slice a20 l2.length c21, .int .i64 n, .int .i64 n2, .slice a23 n27 c24] 26 (0, 0)) :: (Lb25 ++ (Lb62 ++ [])))) ∧ e1.sub [(5, .pointer (some ⟨b30, 0, none⟩)), (6, .pointer (some ⟨b37, 0, none⟩)), (8, .int .i64 n3), (9, .int .i64 n4), (10, .slice a60 n64 c61), (83, .int .i64 k3), (102, .bool k4)]) ?_ ?_
     · clear r136
       refine shW_region (om rfl rfl (om rfl rfl ?_))
       rcases bool_two ok2 with c137 | c137
       · have r138 := bt h135 c137; clear h135
         refine shO_on (b := true) 94 rfl (EnvB rfl c137) (om rfl rfl (shO_on (b := true) 94 rfl (EnvB rfl c137) ?_))
         refine ov (v_neq rfl rfl) rfl ?_
         refine shO_on (b := true) 94 rfl (EnvB rfl c137) (om rfl rfl ?_)
         by_cases c139 : n4 ≠ 0
         · have r140 := ite_t r138 c139; clear r138
           refine shO_off (b' := true) 97 rfl (Env.isT rfl c139) rfl rfl (shO_off (b' := true) 97 rfl (Env.isT rfl c139) rfl rfl (shO_off (b' := true) 97 rfl (Env.isT rfl c139) rfl rfl (shO_on (b := true) 94 rfl (EnvB rfl c137) ?_)))
           refine ov (v_pick_t (evD_true rfl c139) rfl) rfl ?_
           refine ov (v_pick_t (evB rfl c137) rfl) rfl ?_
           refine shO_nil ?_
           obtain rfl := inj1 r140
           exact mi (kc (kc (kx kr))) ⟨rfl, rfl, (sc rfl (sc rfl (sc rfl (sc rfl (sc rfl (sc rfl (sc rfl (sn _))))))))⟩
         have r141 := ite_f r138 c139; clear r138
         refine shO_on (b := false) 97 rfl (Env.isF rfl c139) (om rfl rfl (shO_on (b := false) 97 rfl (Env.isF rfl c139) (om rfl rfl (shO_on (b := false) 97 rfl (Env.isF rfl c139) ?_))))
         refine ov (v_lssK rfl rfl) rfl ?_
         refine shO_on (b := true) 94 rfl (EnvB rfl c137) ?_
         refine ov (v_pick_f (evD_false rfl c139) rfl) rfl ?_
         refine ov (v_pick_t (evB rfl c137) rfl) rfl ?_
         refine shO_nil ?_
         obtain rfl := inj1 r141
         exact mi (kc (kc (kx kr))) ⟨rfl, rfl, (sc rfl (sc rfl (sc rfl (sc rfl (sc rfl (sc rfl (sc rfl (sn _))))))))⟩
       have r142 := bf h135 c137; clear h135
       refine shO_off (b' := false) 94 rfl (EnvB rfl c137) rfl rfl (shO_off (b' := false) 94 rfl (EnvB rfl c137) rfl rfl (shO_off (b' := false) 94 rfl (EnvB rfl c137) rfl rfl (shO_offU 97 rfl rfl rfl (shO_offU 97 rfl rfl rfl (shO_offU 97 rfl rfl rfl (shO_off (b' := false) 94 rfl (EnvB rfl c137) rfl rfl ?_))))))
       refine ov (v_pick_f (evB rfl c137) rfl) rfl ?_
       refine shO_nil ?_
       obtain rfl := inj1 r142
       exact mi (kc (kc (kx kr))) ⟨rfl, rfl, (sc rfl (sc rfl (sc rfl (sc rfl (sc rfl (sc rfl (sc rfl (sn _))))))))⟩
     rintro e1 _ _ ⟨rfl, rfl, he143⟩
     refine shW_env _ he143 ?_; clear he143
     refine shW_cond rfl (fun c144 => ?_) (fun c144 => ?_)
     · have r145 := bt r136 c144; clear r136
       refine wsr (oa rfl rfl (shO_nil ?_))
       refine kW kn ?_
       refine shW_ret (inBlock_ret (andThen_ret (andThen_ret (inBlock_ret (andThen_ret ?_)))))
       refine q_res1 Try.results4 (res_tmp rfl) (sr) ?_
       obtain rfl := inj1 r145
       exact rfl
     have r146 := bf r136 c144; clear r136
     refine shW_skip (inBlock_n (id := 1) (shW_region ?_))
     refine ov (v_add rfl rfl (Ctr.r64 hk111 c118 g109)) rfl ?_
     refine om rfl rfl (shO_nil ?_)
     exact le kr ⟨_, hk119, at_4, turn4, r146, (hF116.trans hF123), rfl, (sc rfl (sc rfl (sc rfl (sc rfl (sc rfl (sc rfl (sn _)))))))⟩
   obtain rfl := Ctr.zero hk111 c118
   rw [oyezlaw03_RoundServed_l3] at r113
   refine shW_exit (andThen_exit (andThen_exit ?_))
   refine inBlock_exit ?_
   exact mi (kd kr) ⟨r113, hF116, rfl, (sc rfl (sc rfl (sc rfl (sn _))))⟩
 rintro e1 F149 _ ⟨r147, hF150, rfl, he148⟩
 refine shW_env _ he148 ?_; clear he148
 replace h19 := h19.mono (slE_ok (iE_ok _)) hF150
 replace h22 := h22.mono (slE_ok (iE_ok _)) hF150
 replace hz26 := hz26.mono (prE_ok (slE_ok (iE_ok _)) (prE_ok (iE_ok _) (iE_ok _))) hF150
 replace hz63 := hz63.mono (prE_ok (iE_ok _) (iE_ok _)) hF150
 rw [oyezlaw03_RoundServed_j2] at r147
 refine shW_seq (wsr (om rfl rfl ?_))
 refine ov (v_eql rfl rfl) rfl ?_
 refine shO_nil ?_
 refine shW_condP rfl (fun c151 => ?_) (fun c151 => ?_)
 · have r152 := ite_t r147 c151; clear r147
   refine wsr ?_
   obtain ⟨ok3, h153, r154⟩ := b1_ok r152; clear r152
   refine o_callV rfl Try.call12 rfl rfl rfl (oyezlaw03_awake_w h153) ?_
   refine oa rfl rfl (shO_nil ?_)
   refine kW kn ?_
   refine shW_ret (andThen_ret ?_)
   refine q_res1 Try.results4 (res_tmp rfl) (sr) ?_
   obtain rfl := inj1 r154
   exact rfl
 have r155 := ite_f r147 c151; clear r147
 refine shW_skip (wsr ?_)
 refine ov (v_loadA (cs := #[.slice a17 l.length c18, .slice a20 l2.length c21, .int .i64 n, .int .i64 n2, .slice a23 n27 c24]) Try.isAgg26 Try.sizeOf26 rfl (Has.own 0 rfl) (Nat.le_of_ble_eq_true rfl) rfl) rfl ?_
 refine om rfl rfl ?_
 obtain ⟨ok4, n9, h156, r157⟩ := b2_ok r155; clear r155
 refine o_callT (Lt := Lb25 ++ (Lb62 ++ [])) (Lr := [(b30, .cells #[.slice a17 l.length c18, .slice a20 l2.length c21, .int .i64 n, .int .i64 n2, .slice a23 n27 c24] 26 (0, 0))]) rfl Try.call17 rfl rfl rfl (pT ((fC fP).trans (pA ((fC fP).trans (pA pR)))) (lp (lp (ln rfl)))) (fun F2 h2 h3 => by rw [(SlR.caps hz26).1]; rw [(SlR.caps hz63).1]; exact round_Together_w (h19.mono (slE_ok (iE_ok _)) h2) (h22.mono (slE_ok (iE_ok _)) h2) (hz26.row (prE_ok (slE_ok (iE_ok _)) (prE_ok (iE_ok _) (iE_ok _))) h2 (fun p hp => h3 p (List.mem_append_left _ hp))) (hz63.row (prE_ok (iE_ok _) (iE_ok _)) h2 (fun p hp => h3 p (List.mem_append_right _ (List.mem_append_left _ hp)))) h156) ?_
 refine om rfl rfl (ox rfl rfl rfl (ox rfl rfl rfl (oa rfl rfl (oa rfl rfl (shO_nil (shW_seq ?_))))))
 obtain ⟨k5, h158, r159⟩ := b1_ok r157; clear r157
 refine shW_join (fun e1 F1 L1 => F149 = F1 ∧ L1 = ((b30, .cells #[.slice a17 l.length c18, .slice a20 l2.length c21, .int .i64 n, .int .i64 n2, .slice a23 n27 c24] 26 (0, 0)) :: (Lb25 ++ (Lb62 ++ []))) ∧ e1.sub [(5, .pointer (some ⟨b30, 0, none⟩)), (10, .slice a60 n64 c61), (122, .bool k5)]) ?_ ?_
 · clear r159
   refine shW_region (om rfl rfl ?_)
   refine ov (v_neq rfl rfl) rfl ?_
   refine om rfl rfl ?_
   by_cases c160 : n9 ≠ 0
   · have r161 := ite_t h158 c160; clear h158
     refine shO_off (b' := true) 115 rfl (Env.isT rfl c160) rfl rfl ?_
     refine ov (v_pick_t (evD_true rfl c160) rfl) rfl ?_
     refine om rfl rfl (shO_off (b' := true) 118 rfl rfl rfl rfl (shO_off (b' := true) 118 rfl rfl rfl rfl (shO_off (b' := true) 118 rfl rfl rfl rfl ?_)))
     refine ov (v_pick_t rfl rfl) rfl ?_
     refine shO_nil ?_
     obtain rfl := inj1 r161
     exact mi kr ⟨rfl, rfl, (sc rfl (sc rfl (sc rfl (sn _))))⟩
   have r162 := ite_f h158 c160; clear h158
   refine shO_on (b := false) 115 rfl (Env.isF rfl c160) (om rfl rfl ?_)
   refine ov (v_pick_f (evD_false rfl c160) rfl) rfl ?_
   refine om rfl rfl ?_
   rcases bool_two ok4 with c163 | c163
   · have r164 := bt r162 c163; clear r162
     refine shO_off (b' := true) 118 rfl (EnvB rfl c163) rfl rfl (shO_off (b' := true) 118 rfl (EnvB rfl c163) rfl rfl (shO_off (b' := true) 118 rfl (EnvB rfl c163) rfl rfl ?_))
     refine ov (v_pick_t (evB rfl c163) rfl) rfl ?_
     refine shO_nil ?_
     obtain rfl := inj1 r164
     exact mi kr ⟨rfl, rfl, (sc rfl (sc rfl (sc rfl (sn _))))⟩
   have r165 := bf r162 c163; clear r162
   refine shO_on (b := false) 118 rfl (EnvB rfl c163) (om rfl rfl (shO_on (b := false) 118 rfl (EnvB rfl c163) ?_))
   refine ov ((v_lenS Try.underlying44 rfl).i (SlR.lenI hz63)) rfl ?_
   refine shO_on (b := false) 118 rfl (EnvB rfl c163) ?_
   refine ov (v_eql rfl rfl) rfl ?_
   refine ov (v_pick_f (evB rfl c163) rfl) rfl ?_
   refine shO_nil ?_
   obtain rfl := inj1 r165
   exact mi kr ⟨rfl, rfl, (sc rfl (sc rfl (sc rfl (sn _))))⟩
 rintro e1 _ _ ⟨rfl, rfl, he166⟩
 refine shW_env _ he166 ?_; clear he166
 refine shW_cond rfl (fun c167 => ?_) (fun c167 => ?_)
 · have r168 := bt r159 c167; clear r159
   refine wsr (oa rfl rfl (shO_nil ?_))
   refine kW kn ?_
   refine shW_ret (andThen_ret ?_)
   refine q_res1 Try.results4 (res_tmp rfl) (sr) ?_
   obtain rfl := inj1 r168
   exact rfl
 have r169 := bf r159 c167; clear r159
 refine shW_skip ?_
 refine shW_join (fun e1 F1 L1 => oyezlaw03_RoundServed_j4 = some r ∧ FExt F149 F1 ∧ L1 = [] ∧ e1.sub []) ?_ ?_
 · refine wsr (om rfl rfl ?_)
   refine ov ((v_lenS Try.underlying44 rfl).i (SlR.lenI hz63)) rfl ?_
   refine om rfl rfl (shO_nil ?_)
   refine shW_block ?_
   obtain rfl := (SlR.caps hz63).1
   refine shW_freezeR (Nat.le_refl _) (prE_ok (iE_ok _) (iE_ok _)) (fC (fS fP)) hz63 ?_; intro F170 hF171 h172
   replace h19 := h19.mono (slE_ok (iE_ok _)) hF171
   replace h22 := h22.mono (slE_ok (iE_ok _)) hF171
   replace hz26 := hz26.mono (prE_ok (slE_ok (iE_ok _)) (prE_ok (iE_ok _) (iE_ok _))) hF171
   refine shW_lpF (fun fu5 e1 F1 L1 => ∃ (tl : List (Int × Int)) (k6 : Int), tl.length = fu5 ∧ Lst l5 k6 tl ∧ oyezlaw03_RoundServed_l5 l l2 n n2 l3 l5 tl k6 = some r ∧ FExt F170 F1 ∧ L1 = ((b30, .cells #[.slice a17 l.length c18, .slice a20 l2.length c21, .int .i64 n, .int .i64 n2, .slice a23 n27 c24] 26 (0, 0)) :: (Lb25 ++ [])) ∧ e1.sub [(5, .pointer (some ⟨b30, 0, none⟩)), (10, .slice a60 l5.length c61), (124, .int .i64 (l5.length : Int)), (125, .int .i64 k6)]) _ (m0 kr ⟨_, _, rfl, Lst.start _, r169, FExt.refl _, rfl, (sc rfl (sc rfl (sc rfl (sc rfl (sn _)))))⟩) ?_
   rintro fu5 e1 F177 _ ⟨tl, k6, hn174, hk173, r175, hF178, rfl, he176⟩
   refine shW_env _ he176 ?_; clear he176
   replace h19 := h19.mono (slE_ok (iE_ok _)) hF178
   replace h22 := h22.mono (slE_ok (iE_ok _)) hF178
   replace h172 := h172.mono (prE_ok (iE_ok _) (iE_ok _)) hF178
   replace hz26 := hz26.mono (prE_ok (slE_ok (iE_ok _)) (prE_ok (iE_ok _) (iE_ok _))) hF178
   refine wsr ?_
   refine ov (v_lssK rfl rfl) rfl ?_
   refine shO_nil (shW_seq ?_)
   refine shW_condP rfl (fun c180 => ?_) (fun c180 => ?_)
   · obtain ⟨x, tl2, rfl, hx182, g183, hk181⟩ := Lst.succ hk173 c180
     rw [oyezlaw03_RoundServed_l5] at r175
     refine shW_skip (shW_seq ?_)
     refine shW_block ?_
     refine wsr (om rfl rfl (oa rfl rfl (shO_nil (shW_seq ?_))))
     refine shW_drawM [(.still, 0), (.still, 1), (.still, 2), (.still, 3), (.still, 5), (.still, 6), (.still, 7), (.still, 8), (.seq, 4), (.seq, 9), (.seq, 10), (.still, 11), (.still, 12), (.still, 13), (.still, 14), (.still, 15)] (by kernel_rfl) (by kernel_rfl) (trivial) (by rfl) (by kernel_rfl) ?_
     refine shM_v (v := .agg #[.slice a17 l.length c18, .slice a20 l2.length c21, .int .i64 n, .int .i64 n2, .slice a23 n27 c24]) (ek := [(5, .pointer (some ⟨b30, 0, none⟩))]) (Ls := [(b30, .cells #[.slice a17 l.length c18, .slice a20 l2.length c21, .int .i64 n, .int .i64 n2, .slice a23 n27 c24] 26 (0, 0))]) rfl rfl rfl rfl ((sc rfl (sn _))) (by kernel_rfl) (s0 (s2 (s3 sr))) (fun H F' L' hF' hL' => v_loadA (cs := #[.slice a17 l.length c18, .slice a20 l2.length c21, .int .i64 n, .int .i64 n2, .slice a23 n27 c24]) Try.isAgg26 Try.sizeOf26 rfl ((Has.own 0 rfl).ext hF' hL') (Nat.le_of_ble_eq_true rfl) rfl) ?_
     refine shM_v (v := .slice a60 l5.length c61) (ek := [(10, .slice a60 l5.length c61)]) (Ls := []) rfl rfl rfl rfl ((sc rfl (sn _))) (by kernel_rfl) sm (fun H F' L' hF' hL' => v_move rfl) ?_
     refine shM_v (v := .int .i64 k6) (ek := [(18, .int .i64 k6)]) (Ls := []) rfl rfl rfl rfl ((sc rfl (sn _))) (by kernel_rfl) sm (fun H F' L' hF' hL' => v_move rfl) ?_
     obtain ⟨g184, r185⟩ := gd_ok r175; clear r175
     obtain ⟨l5_2, h186, r187⟩ := bv_ok r185; clear r185
     obtain ⟨a188, c189, h190, hvh190⟩ := RowR.slice (prE_ok (iE_ok _) (iE_ok _)) h172 g184 h186
     refine shM_v (v := .slice a188 l5_2.length c189) (ek := [(130, .slice a60 l5.length c61), (131, .int .i64 k6)]) (Ls := []) rfl rfl rfl rfl ((sc rfl (sc rfl (sn _)))) (by kernel_rfl) sm (fun H F' L' hF' hL' => (v_slice (l := 0) (h := k6) Try.underlying44 Try.sizeOf54 rfl (.inl ⟨rfl, rfl⟩) (.inr ⟨_, rfl, rfl⟩) hvh190.1).eq hvh190.2) ?_
     refine shM_v (v := .slice a60 l5.length c61) (ek := [(10, .slice a60 l5.length c61)]) (Ls := []) rfl rfl rfl rfl ((sc rfl (sn _))) (by kernel_rfl) sm (fun H F' L' hF' hL' => v_move rfl) ?_
     refine shM_v (v := .int .i64 k6) (ek := [(18, .int .i64 k6)]) (Ls := []) rfl rfl rfl rfl ((sc rfl (sn _))) (by kernel_rfl) sm (fun H F' L' hF' hL' => v_move rfl) ?_
     refine shM_v (v := .int .i64 (k6 + 1)) (ek := [(135, .int .i64 k6)]) (Ls := []) rfl rfl rfl rfl ((sc rfl (sn _))) (by kernel_rfl) sm (fun H F' L' hF' hL' => v_add rfl rfl (Lst.r64 hk173 c180 (RowR.lt h172))) ?_
     obtain ⟨g192, r193⟩ := gd_ok r187; clear r187
     obtain ⟨l5_3, h194, r195⟩ := bv_ok r193; clear r193
     obtain ⟨a196, c197, h198, hvh198⟩ := RowR.slice (prE_ok (iE_ok _) (iE_ok _)) h172 g192 h194
     refine shM_v (v := .slice a196 l5_3.length c197) (ek := [(134, .slice a60 l5.length c61), (136, .int .i64 (k6 + 1))]) (Ls := []) rfl rfl rfl rfl ((sc rfl (sc rfl (sn _)))) (by kernel_rfl) sm (fun H F' L' hF' hL' => (v_slice (l := k6 + 1) (h := (l5.length : Int)) Try.underlying44 Try.sizeOf54 rfl (.inr ⟨_, rfl, rfl⟩) (.inl ⟨rfl, rfl⟩) hvh198.1).eq hvh198.2) ?_
     refine ⟨_, [(132, .slice a188 l5_2.length c189)], rfl, rfl, (sc rfl (sn _)), by kernel_rfl, ?_⟩; intro H
     obtain ⟨l7, h200, r201⟩ := b1_ok r195; clear r195
     refine o_call0 rfl Try.call18 rfl rfl rfl (oyezkit_Copy_Pair_w h190 h200) ?_; rintro _ F202 _ hF203 hn204 ⟨a206, n210, c207, Lb208, rfl, rfl, hz209⟩
     replace h19 := h19.mono (slE_ok (iE_ok _)) hF203
     replace h22 := h22.mono (slE_ok (iE_ok _)) hF203
     replace h172 := h172.mono (prE_ok (iE_ok _) (iE_ok _)) hF203
     replace h198 := h198.mono (prE_ok (iE_ok _) (iE_ok _)) hF203
     replace hz26 := hz26.mono (prE_ok (slE_ok (iE_ok _)) (prE_ok (iE_ok _) (iE_ok _))) hF203
     replace hz209 := hz209.new fun p hp => hn204 p (by simp [hp])
     refine shO_L (lp (ln rfl)) ?_
     refine kO (kf (fS fO) kr) ?_
     refine shO_nil ⟨_, rfl, hF203, [8, 7, 6, 5, 0], by kernel_rfl, .inl (.inr (fun d h => by cases h; rfl)), (List.forall_mem_cons.2 ⟨sm, (List.forall_mem_cons.2 ⟨sm, (List.forall_mem_cons.2 ⟨sm, (List.forall_mem_cons.2 ⟨sm, (List.forall_mem_cons.2 ⟨s0 (s2 (s3 (s3 sr))), (fun _ h => absurd h List.not_mem_nil)⟩)⟩)⟩)⟩)⟩), ?_⟩
     refine ⟨_, [(133, .slice a206 n210 c207), (137, .slice a196 l5_3.length c197)], rfl, rfl, (sc rfl (sc rfl (sn _))), by kernel_rfl, ?_⟩; intro H
     obtain ⟨l8, h212, g213, r214⟩ := ap_ok r201; clear r201
     refine o_appZ (xs := l7) (ys := l5_3) (zs := l8) rfl slt_44 rfl rfl (Nat.le_refl _) (fun _ => .c .h) hz209 (RowR.src h198) h212 g213 (by decide) ?_; intro a215 n219 c216 Lb217 hz218
     refine shO_nil ⟨_, rfl, FExt.refl _, [0], by kernel_rfl, .inl (.inr (fun d h => by cases h; rfl)), (List.forall_mem_cons.2 ⟨s0 (s2 (s3 (s3 sr))), (fun _ h => absurd h List.not_mem_nil)⟩), ?_⟩
     refine ⟨_, [(129, .agg #[.slice a17 l.length c18, .slice a20 l2.length c21, .int .i64 n, .int .i64 n2, .slice a23 n27 c24]), (138, .slice a215 n219 c216)], rfl, rfl, (sc rfl (sc rfl (sn _))), by kernel_rfl, ?_⟩; intro H
     obtain ⟨ok5, n10, h221, r222⟩ := b2_ok r214; clear r214
     refine o_callT (Lt := Lb25 ++ (Lb217 ++ [])) (Lr := [(b30, .cells #[.slice a17 l.length c18, .slice a20 l2.length c21, .int .i64 n, .int .i64 n2, .slice a23 n27 c24] 26 (0, 0))]) rfl Try.call17 rfl rfl rfl (pT ((fC (fS fP)).trans (pA ((fC fP).trans (pA pR)))) (lp (lp (ln rfl)))) (fun F2 h2 h3 => by rw [(SlR.caps hz26).1]; rw [(SlR.caps hz218).1]; exact round_Together_w (h19.mono (slE_ok (iE_ok _)) h2) (h22.mono (slE_ok (iE_ok _)) h2) (hz26.row (prE_ok (slE_ok (iE_ok _)) (prE_ok (iE_ok _) (iE_ok _))) h2 (fun p hp => h3 p (List.mem_append_left _ hp))) (hz218.row (prE_ok (iE_ok _) (iE_ok _)) h2 (fun p hp => h3 p (List.mem_append_right _ (List.mem_append_left _ hp)))) h221) ?_
     refine shO_nil ⟨_, rfl, FExt.refl _, [], by kernel_rfl, .inl (.inl rfl), (fun _ h => absurd h List.not_mem_nil), ?_⟩
     refine shM_v (v := .tuple #[.bool ok5, .int .i64 n10]) (ek := [(139, .tuple #[.bool ok5, .int .i64 n10])]) (Ls := []) rfl rfl rfl rfl ((sc rfl (sn _))) (by kernel_rfl) sm (fun H F' L' hF' hL' => v_move rfl) ?_
     refine shM_v (v := .bool ok5) (ek := [(128, .tuple #[.bool ok5, .int .i64 n10])]) (Ls := []) rfl rfl rfl rfl ((sc rfl (sn _))) (by kernel_rfl) sm (fun H F' L' hF' hL' => v_extract rfl rfl) ?_
     refine shM_v (v := .int .i64 n10) (ek := [(128, .tuple #[.bool ok5, .int .i64 n10])]) (Ls := []) rfl rfl rfl rfl ((sc rfl (sn _))) (by kernel_rfl) sm (fun H F' L' hF' hL' => v_extract rfl rfl) ?_
     refine shM_v (v := .bool ok5) (ek := [(140, .bool ok5)]) (Ls := []) rfl rfl rfl rfl ((sc rfl (sn _))) (by kernel_rfl) sm (fun H F' L' hF' hL' => v_assign rfl) ?_
     refine shM_v (v := .int .i64 n10) (ek := [(141, .int .i64 n10)]) (Ls := []) rfl rfl rfl rfl ((sc rfl (sn _))) (by kernel_rfl) sm (fun H F' L' hF' hL' => v_assign rfl) ?_
     refine shM_nil ?_
     obtain ⟨k7, h223, r224⟩ := b1_ok r222; clear r222
     refine shW_join (fun e1 F1 L1 => F202 = F1 ∧ L1 = ((b30, .cells #[.slice a17 l.length c18, .slice a20 l2.length c21, .int .i64 n, .int .i64 n2, .slice a23 n27 c24] 26 (0, 0)) :: (Lb25 ++ [])) ∧ e1.sub [(5, .pointer (some ⟨b30, 0, none⟩)), (10, .slice a60 l5.length c61), (124, .int .i64 (l5.length : Int)), (125, .int .i64 k6), (147, .bool k7)]) ?_ ?_
     · clear r224
       refine shW_region (om rfl rfl ?_)
       refine ov (v_neq rfl rfl) rfl ?_
       refine om rfl rfl ?_
       by_cases c225 : n10 ≠ 0
       · have r226 := ite_t h223 c225; clear h223
         refine shO_off (b' := true) 144 rfl (Env.isT rfl c225) rfl rfl (shO_off (b' := true) 144 rfl (Env.isT rfl c225) rfl rfl ?_)
         refine ov (v_pick_t (evD_true rfl c225) rfl) rfl ?_
         refine shO_nil ?_
         obtain rfl := inj1 r226
         exact mi (kc (kx kr)) ⟨rfl, rfl, (sc rfl (sc rfl (sc rfl (sc rfl (sc rfl (sn _))))))⟩
       have r227 := ite_f h223 c225; clear h223
       refine shO_on (b := false) 144 rfl (Env.isF rfl c225) (om rfl rfl (shO_on (b := false) 144 rfl (Env.isF rfl c225) ?_))
       refine ov (v_notB rfl) rfl ?_
       refine ov (v_pick_f (evD_false rfl c225) rfl) rfl ?_
       refine shO_nil ?_
       obtain rfl := inj1 r227
       exact mi (kc (kx kr)) ⟨rfl, rfl, (sc rfl (sc rfl (sc rfl (sc rfl (sc rfl (sn _))))))⟩
     rintro e1 _ _ ⟨rfl, rfl, he228⟩
     refine shW_env _ he228 ?_; clear he228
     refine shW_cond rfl (fun c229 => ?_) (fun c229 => ?_)
     · have r230 := bt r224 c229; clear r224
       refine wsr (oa rfl rfl (shO_nil ?_))
       refine kW kn ?_
       refine shW_ret (inBlock_ret (andThen_ret (andThen_ret (inBlock_ret (andThen_ret ?_)))))
       refine q_res1 Try.results4 (res_tmp rfl) (sr) ?_
       obtain rfl := inj1 r230
       exact rfl
     have r231 := bf r224 c229; clear r224
     refine shW_skip (inBlock_n (id := 3) (shW_region ?_))
     refine ov (v_add rfl rfl (Lst.r64 hk173 c180 (RowR.lt h172))) rfl ?_
     refine om rfl rfl (shO_nil ?_)
     subst hn174; refine lf ?_
     exact mf kr ⟨_, _, rfl, hk181, r231, (hF178.trans hF203), rfl, (sc rfl (sc rfl (sc rfl (sc rfl (sn _)))))⟩
   obtain rfl := Lst.zero hk173 c180
   rw [oyezlaw03_RoundServed_l5] at r175
   refine shW_exit (andThen_exit (andThen_exit ?_))
   refine inBlock_exit ?_
   exact mi kn ⟨r175, (hF171.trans hF178), rfl, (sn _)⟩
 rintro e1 F234 _ ⟨r232, hF235, rfl, he233⟩
 refine shW_env _ he233 ?_; clear he233
 rw [oyezlaw03_RoundServed_j4] at r232
 refine wsr ?_
 obtain ⟨ok6, h236, r237⟩ := b1_ok r232; clear r232
 refine o_callV rfl Try.call12 rfl rfl rfl (oyezlaw03_awake_w h236) ?_
 refine oa rfl rfl (shO_nil (shW_ret ?_))
 refine q_res1 Try.results4 (res_tmp rfl) (sr) ?_
 obtain rfl := inj1 r237
 exact rfl
end Go.Proofs.Ytfmapnhfamoecaa
