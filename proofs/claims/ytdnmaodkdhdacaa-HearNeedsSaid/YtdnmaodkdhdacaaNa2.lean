/- The walks that this claim needs, printed by a program of mine; part 2. -/
import Derived.Test.YtdnmaodkdhdacaaNa1
namespace Go.Proofs.Ytdnmaodkdhdacaa
open Go.SH Go.PL
set_option maxHeartbeats 1000000 in
theorem hear_quarter_chosen_w {ears_a : Option Addr} {ears_c : Nat} {ears : List (List Bool)} {count_f : FuncId} {count_1 : Array Value} {count_2 : Array Value} {count : Int → Option Int} {most : Int} {F : FS} (h_ears : RowR 30 (arE 30 cB) F ears_a ears_c ears) (h_count : FnR Try.prog F count_f count_1 count_2 (iE .i64) (Value.int .i64) count) {r : List Int} {r2 : Int} (hr : hear_quarter_chosen ears count most = some (r, r2)) :
    SH.Spec Try.prog 90 #[.agg #[.slice ears_a ears.length ears_c, .func (.func count_f) count_1 count_2], .int .i64 most] F [] fun F' L' v => ∃ (ra : Option Addr) (rn : Nat) (rc : Nat) (rL : LH), v = .tuple #[.slice ra rn rc, .int .i64 r2] ∧ L' = rL ++ [] ∧ SlR 0 3 1 (iE .i64) F' ra rn rc r rL := by
  refine spec_of_shW (args := [.agg #[.slice ears_a ears.length ears_c, .func (.func count_f) count_1 count_2], .int .i64 most]) Try.func90 rfl Try.ntmps90 (Nat.le_of_ble_eq_true rfl) ?_
  intro K _ _; rw [hear_quarter_chosen] at hr
  refine shW_seq ?_
  refine shW_region ?_
  refine o_box rfl rfl ?_; intro b1 hb1
  refine ov (v_assign rfl) rfl ?_
  refine ov (v_assign rfl) rfl ?_
  refine shO_nil ?_
  refine shW_seq ?_
  refine shW_region ?_
  refine o_makeMap rfl ?_; intro b2 hb2
  refine o_alloc rfl Try.zeroValue163 ?_; intro b3 hb3
  refine o_store (i := 0) Try.sizeOf163 rfl rfl rfl rfl (Nat.le_of_ble_eq_true rfl) ?_
  refine shO_L (L' := [(b3, .cells #[.map (some b2)] 163 (0, 0)), (b2, .map #[] 0), (b1, .cells #[.slice ears_a ears.length ears_c, .func (.func count_f) count_1 count_2] 121 (0, 0))]) rfl ?_
  refine shO_nil ?_
  refine shW_seq ?_
  refine shW_region ?_
  refine o_alloc rfl Try.zeroValue164 ?_; intro b4 hb4
  refine shO_nil ?_
  refine shW_seq ?_
  refine shW_region ?_
  refine ov (v_makeFunc rfl rfl) rfl ?_
  refine o_store (i := 0) Try.sizeOf164 rfl rfl rfl rfl (Nat.le_of_ble_eq_true rfl) ?_
  refine shO_L (L' := [(b4, .cells (#[.func (.func 128) #[] #[.pointer (some ⟨b1, 0, none⟩), .pointer (some ⟨b3, 0, none⟩), .pointer (some ⟨b4, 0, none⟩)]]) 164 (0, 0)), (b3, .cells #[.map (some b2)] 163 (0, 0)), (b2, .map #[] 0), (b1, .cells #[.slice ears_a ears.length ears_c, .func (.func count_f) count_1 count_2] 121 (0, 0))]) rfl ?_
  refine shO_nil ?_
  refine shW_seq ?_
  refine shW_region ?_
  refine ov (v_move rfl) rfl ?_
  refine ov (v_fieldAddr fa_121_0 rfl) rfl ?_
  refine ov (v_load Try.isAgg119 rfl (Has.own 3 rfl) rfl) rfl ?_
  refine ov (v_lenS Try.underlying119 rfl) rfl ?_
  refine o_buildSlice (cs := #[.int .i64 (ears.length : Int)]) rfl rfl (buildSlice_all slt_26 [.int .i64 (ears.length : Int)] rfl (by decide) (by simp [Value.cells]) (by decide)) ?_; intro b5 hb5
  refine shO_freeze 0 rfl hb5 ?_; intro F6 hF7 hz8
  refine shO_L (L' := [(b4, .cells (#[.func (.func 128) #[] #[.pointer (some ⟨b1, 0, none⟩), .pointer (some ⟨b3, 0, none⟩), .pointer (some ⟨b4, 0, none⟩)]]) 164 (0, 0)), (b3, .cells #[.map (some b2)] 163 (0, 0)), (b2, .map #[] 0), (b1, .cells #[.slice ears_a ears.length ears_c, .func (.func count_f) count_1 count_2] 121 (0, 0))]) rfl ?_
  replace h_ears := h_ears.mono (arE_ok (n := 30) (sz := 1) cB_ok) hF7
  replace h_count := h_count.mono hF7
  have h9 : RowR 1 (iE .i64) F6 (some ⟨b5, 0, none⟩) 1 [(ears.length : Int)] := RowR.of_block (iE_ok _) (vss := [[.int .i64 (ears.length : Int)]]) (xs := [(ears.length : Int)]) hz8 (.cons rfl .nil) rfl (by simp [maxLen])
  obtain ⟨n, h10, r11⟩ := b1_ok hr; clear hr
  refine o_callV rfl Try.call130 rfl rfl rfl (hear_least_w h9 h10) ?_
  refine ov (v_assign rfl) rfl ?_
  refine shO_nil ?_
  refine shW_seq ?_
  refine shW_region ?_
  refine ov (v_load Try.isAgg164 rfl (Has.own 0 rfl) rfl) rfl ?_
  refine ov (v_move rfl) rfl ?_
  refine ov (v_build (v := .agg #[.int .i64 0, .int .i64 n, .int .i64 0]) rfl (by intro w; kernel_rfl)) rfl ?_
  refine shO_freeze 3 rfl hb1 ?_; intro F12 hF13 hz14
  refine shO_L (L' := [(b4, .cells (#[.func (.func 128) #[] #[.pointer (some ⟨b1, 0, none⟩), .pointer (some ⟨b3, 0, none⟩), .pointer (some ⟨b4, 0, none⟩)]]) 164 (0, 0)), (b3, .cells #[.map (some b2)] 163 (0, 0)), (b2, .map #[] 0)]) rfl ?_
  replace h_ears := h_ears.mono (arE_ok (n := 30) (sz := 1) cB_ok) hF13
  replace h9 := h9.mono (iE_ok _) hF13
  replace h_count := h_count.mono hF13
  replace hz8 := hF13 _ _ hz8
  refine shO_freeze 1 rfl hb3 ?_; intro F15 hF16 hz17
  refine shO_L (L' := [(b4, .cells (#[.func (.func 128) #[] #[.pointer (some ⟨b1, 0, none⟩), .pointer (some ⟨b3, 0, none⟩), .pointer (some ⟨b4, 0, none⟩)]]) 164 (0, 0)), (b2, .map #[] 0)]) rfl ?_
  replace h_ears := h_ears.mono (arE_ok (n := 30) (sz := 1) cB_ok) hF16
  replace h9 := h9.mono (iE_ok _) hF16
  replace h_count := h_count.mono hF16
  replace hz8 := hF16 _ _ hz8
  replace hz14 := hF16 _ _ hz14
  refine shO_freeze 0 rfl hb4 ?_; intro F18 hF19 hz20
  refine shO_L (L' := [(b2, .map #[] 0)]) rfl ?_
  replace h_ears := h_ears.mono (arE_ok (n := 30) (sz := 1) cB_ok) hF19
  replace h9 := h9.mono (iE_ok _) hF19
  replace h_count := h_count.mono hF19
  replace hz8 := hF19 _ _ hz8
  replace hz14 := hF19 _ _ hz14
  replace hz17 := hF19 _ _ hz17
  obtain ⟨n2, met, h21, r22⟩ := b2_ok r11; clear r11
  refine o_callG (Lb := [(b2, .map #[] 0)]) (Lr := []) rfl Try.call128 rfl rfl rfl (List.Perm.refl _) ((hear_quarter_chosen_1_w FU) hz14 h_ears h_count hz17 MapR.nil hz20 h21) ?_; rintro _ F23 _ hF24 hd26 hn25 ⟨es27, cl28, rfl, rfl, hR29⟩
  replace h_ears := h_ears.mono (arE_ok (n := 30) (sz := 1) cB_ok) hF24
  replace h9 := h9.mono (iE_ok _) hF24
  replace h_count := h_count.mono hF24
  replace hz8 := hF24 _ _ hz8
  replace hz14 := hF24 _ _ hz14
  replace hz17 := hF24 _ _ hz17
  replace hz20 := hF24 _ _ hz20
  refine shO_L (L' := [(b2, .map es27 cl28)]) (by simp only [List.nil_append, List.cons_append, List.append_assoc, List.append_nil] <;> rfl) ?_
  refine ov (v_assign rfl) rfl ?_
  refine shO_nil ?_
  refine shW_seq ?_
  refine shW_region ?_
  refine ov (v_build (v := .agg #[.int .i64 0, .int .i64 0, .int .i64 0]) rfl (by intro w; kernel_rfl)) rfl ?_
  refine o_alloc rfl Try.zeroValue166 ?_; intro b30 hb30
  refine o_storeA (i := 0) Try.sizeOf166 rfl rfl rfl (by simp [Value.oneCell']) rfl (Nat.le_of_ble_eq_true rfl) ?_
  refine shO_L (L' := [(b30, .cells #[.int .i64 0, .int .i64 0, .int .i64 0] 166 (0, 0)), (b2, .map es27 cl28)]) rfl ?_
  refine shO_nil ?_
  obtain ⟨m, x_left, h34, r35⟩ := b2_ok r22; clear r22
  refine shW_join (fun e1 F1 L1 => ∃ (es31 : Array MapEntry) (cl32 : Nat), FExt F23 F1 ∧ L1 = [(b2, .map es31 cl32), (b30, .cells #[.int .i64 0, .int .i64 x_left, .int .i64 0] 166 (0, 0))] ∧ e1.sub [(2, .pointer (some ⟨b1, 0, none⟩)), (7, .pointer (some ⟨b4, 0, none⟩)), (8, .int .i64 n2), (9, .pointer (some ⟨b30, 0, none⟩))] ∧ MapR (vA (cP (cI .i64) (cP (cI .i64) (cI .i64)))) (Value.int .i64) es31 m) ?_ ?_
  · clear r35
    refine shW_block ?_
    refine shW_lp (fun fu1 e1 F1 L1 => ∃ (m2 : List ((Int × Int × Int) × Int)) (x_left2 : Int) (es36 : Array MapEntry) (cl37 : Nat), hear_quarter_chosen_l1 ears count n2 fu1 m2 x_left2 = some (m, x_left) ∧ FExt F23 F1 ∧ L1 = [(b30, .cells #[.int .i64 0, .int .i64 x_left2, .int .i64 0] 166 (0, 0)), (b2, .map es36 cl37)] ∧ e1.sub [(2, .pointer (some ⟨b1, 0, none⟩)), (7, .pointer (some ⟨b4, 0, none⟩)), (8, .int .i64 n2), (9, .pointer (some ⟨b30, 0, none⟩))] ∧ MapR (vA (cP (cI .i64) (cP (cI .i64) (cI .i64)))) (Value.int .i64) es36 m2) FU (meet_0 (L2 := [(b30, .cells #[.int .i64 0, .int .i64 0, .int .i64 0] 166 (0, 0)), (b2, .map es27 cl28)]) (L3 := [(b30, .cells #[.int .i64 0, .int .i64 0, .int .i64 0] 166 (0, 0)), (b2, .map es27 cl28)]) (List.Perm.refl _) (List.Sublist.refl _) ⟨met, 0, es27, cl28, h34, FExt.refl _, rfl, (sc rfl (sc rfl (sc rfl (sc rfl (sn _))))), hR29⟩) ?_
    rintro fu1 e1 F43 _ ⟨m2, x_left2, es36, cl37, r41, hF44, rfl, he42, hR38⟩
    refine shW_env _ he42 ?_; clear he42
    replace h_ears := h_ears.mono (arE_ok (n := 30) (sz := 1) cB_ok) hF44
    replace h9 := h9.mono (iE_ok _) hF44
    replace h_count := h_count.mono hF44
    replace hz8 := hF44 _ _ hz8
    replace hz14 := hF44 _ _ hz14
    replace hz17 := hF44 _ _ hz17
    replace hz20 := hF44 _ _ hz20
    rcases fu1 with _ | fu1
    · rw [hear_quarter_chosen_l1] at r41; cases r41
    rw [hear_quarter_chosen_l1] at r41
    refine shW_seq ?_
    refine shW_seq ?_
    refine shW_region ?_
    refine ov (v_load Try.isAgg164 rfl (Has.frozen hz20) rfl) rfl ?_
    refine ov (v_fieldAddr fa_166_1 rfl) rfl ?_
    refine ov (v_load Try.isAgg3 rfl (Has.own 0 rfl) rfl) rfl ?_
    refine ov (v_build (v := .agg #[.int .i64 0, .int .i64 x_left2, .int .i64 0]) rfl (by intro w; kernel_rfl)) rfl ?_
    obtain ⟨n3, met2, h45, r46⟩ := b2_ok r41; clear r41
    refine o_callG (Lb := [(b2, .map es36 cl37)]) (Lr := [(b30, .cells #[.int .i64 0, .int .i64 x_left2, .int .i64 0] 166 (0, 0))]) rfl Try.call128 rfl rfl rfl (((frontC (frO)).trans (List.Perm.cons _ (List.Perm.refl _)))) ((hear_quarter_chosen_1_w FU) hz14 h_ears h_count hz17 hR38 hz20 h45) ?_; rintro _ F47 _ hF48 hd50 hn49 ⟨es51, cl52, rfl, rfl, hR53⟩
    replace h_ears := h_ears.mono (arE_ok (n := 30) (sz := 1) cB_ok) hF48
    replace h9 := h9.mono (iE_ok _) hF48
    replace h_count := h_count.mono hF48
    replace hz8 := hF48 _ _ hz8
    replace hz14 := hF48 _ _ hz14
    replace hz17 := hF48 _ _ hz17
    replace hz20 := hF48 _ _ hz20
    refine shO_L (L' := [(b2, .map es51 cl52), (b30, .cells #[.int .i64 0, .int .i64 x_left2, .int .i64 0] 166 (0, 0))]) (by simp only [List.nil_append, List.cons_append, List.append_assoc, List.append_nil] <;> rfl) ?_
    refine ov (v_move rfl) rfl ?_
    refine ov (v_lssK rfl rfl) rfl ?_
    refine shO_nil ?_
    refine shW_condP rfl (fun c54 => ?_) (fun c54 => ?_)
    · have r55 := ite_t r46 c54; clear r46
      refine shW_skip ?_
      refine shW_block ?_
      refine shW_region ?_
      refine ov (v_fieldAddr fa_166_1 rfl) rfl ?_
      refine ov (v_load Try.isAgg3 rfl (Has.own 1 rfl) rfl) rfl ?_
      obtain ⟨g56, r57⟩ := gd_ok r55; clear r55
      refine ov (v_add rfl rfl g56) rfl ?_
      refine ov (v_fieldAddr fa_166_1 rfl) rfl ?_
      refine o_store (i := 1) Try.sizeOf3 rfl rfl rfl rfl (Nat.le_of_ble_eq_true rfl) ?_
      refine shO_L (L' := [(b2, .map es51 cl52), (b30, .cells #[.int .i64 0, .int .i64 (x_left2 + 1), .int .i64 0] 166 (0, 0))]) rfl ?_
      refine shO_nil ?_
      refine inBlock_n (id := 1) ?_
      exact lp_end (Nat.lt_succ_self _) (meet_0 (L2 := [(b30, .cells #[.int .i64 0, .int .i64 (x_left2 + 1), .int .i64 0] 166 (0, 0)), (b2, .map es51 cl52)]) (L3 := [(b30, .cells #[.int .i64 0, .int .i64 (x_left2 + 1), .int .i64 0] 166 (0, 0)), (b2, .map es51 cl52)]) (((frontC (frO)).trans (List.Perm.cons _ (List.Perm.refl _)))) (List.Sublist.refl _) ⟨met2, x_left2 + 1, es51, cl52, r57, (hF44.trans hF48), rfl, (sc rfl (sc rfl (sc rfl (sc rfl (sn _))))), hR53⟩)
    · have r58 := ite_f r46 c54; clear r46
      refine shW_exit ?_
      refine andThen_exit ?_
      refine andThen_exit ?_
      refine inBlock_exit ?_
      obtain ⟨rfl, rfl⟩ := inj2 r58
      refine meet_i (L2 := [(b2, .map es51 cl52), (b30, .cells #[.int .i64 0, .int .i64 x_left2, .int .i64 0] 166 (0, 0))]) (L3 := [(b2, .map es51 cl52), (b30, .cells #[.int .i64 0, .int .i64 x_left2, .int .i64 0] 166 (0, 0))]) (List.Perm.refl _) (List.Sublist.refl _) ?_
      exact ⟨es51, cl52, (hF44.trans hF48), rfl, (sc rfl (sc rfl (sc rfl (sc rfl (sn _))))), hR53⟩
  · rintro e1 F60 _ ⟨es31, cl32, hF61, rfl, he59, hR33⟩
    refine shW_env _ he59 ?_; clear he59
    replace h_ears := h_ears.mono (arE_ok (n := 30) (sz := 1) cB_ok) hF61
    replace h9 := h9.mono (iE_ok _) hF61
    replace h_count := h_count.mono hF61
    replace hz8 := hF61 _ _ hz8
    replace hz14 := hF61 _ _ hz14
    replace hz17 := hF61 _ _ hz17
    replace hz20 := hF61 _ _ hz20
    refine shW_seq ?_
    refine shW_region ?_
    refine ov (v_assign rfl) rfl ?_
    refine shO_nil ?_
    obtain ⟨out, h68, r69⟩ := b1_ok r35; clear r35
    refine shW_join (fun e1 F1 L1 => ∃ (a62 : Option Addr) (n66 : Nat) (c63 : Nat) (Lb64 : LH), FExt F60 F1 ∧ L1 = (Lb64 ++ []) ∧ e1.sub [(8, .int .i64 n2), (10, .slice a62 n66 c63)] ∧ SlR K.w0.heap.size 3 1 (iE .i64) F1 a62 n66 c63 out Lb64) ?_ ?_
    · clear r69
      refine shW_block ?_
      refine shW_lp (fun fu2 e1 F1 L1 => ∃ (m3 : List ((Int × Int × Int) × Int)) (x_from : Int) (x_left3 : Int) (x_set : Int) (out2 : List Int) (es70 : Array MapEntry) (cl71 : Nat) (a73 : Option Addr) (n77 : Nat) (c74 : Nat) (Lb75 : LH), hear_quarter_chosen_l2 ears count n2 fu2 m3 x_from x_left3 x_set out2 = some out ∧ FExt F60 F1 ∧ L1 = ((b2, .map es70 cl71) :: ((b30, .cells #[.int .i64 x_from, .int .i64 x_left3, .int .i64 x_set] 166 (0, 0)) :: (Lb75 ++ []))) ∧ e1.sub [(2, .pointer (some ⟨b1, 0, none⟩)), (7, .pointer (some ⟨b4, 0, none⟩)), (8, .int .i64 n2), (9, .pointer (some ⟨b30, 0, none⟩)), (10, .slice a73 n77 c74)] ∧ MapR (vA (cP (cI .i64) (cP (cI .i64) (cI .i64)))) (Value.int .i64) es70 m3 ∧ SlR K.w0.heap.size 3 1 (iE .i64) F1 a73 n77 c74 out2 Lb75) FU (meet_0 (L2 := (b2, .map es31 cl32) :: ((b30, .cells #[.int .i64 0, .int .i64 x_left, .int .i64 0] 166 (0, 0)) :: (([] : LH) ++ []))) (L3 := [(b2, .map es31 cl32), (b30, .cells #[.int .i64 0, .int .i64 x_left, .int .i64 0] 166 (0, 0))]) (List.Perm.refl _) (List.Sublist.refl _) ⟨m, 0, x_left, 0, [], es31, cl32, none, 0, 0, [], h68, FExt.refl _, rfl, (sc rfl (sc rfl (sc rfl (sc rfl (sc rfl (sn _)))))), hR33, SlR.nil _ _ _ _ _⟩) ?_
      rintro fu2 e1 F83 _ ⟨m3, x_from, x_left3, x_set, out2, es70, cl71, a73, n77, c74, Lb75, r81, hF84, rfl, he82, hR72, hz76⟩
      refine shW_env _ he82 ?_; clear he82
      replace h_ears := h_ears.mono (arE_ok (n := 30) (sz := 1) cB_ok) hF84
      replace h9 := h9.mono (iE_ok _) hF84
      replace h_count := h_count.mono hF84
      replace hz8 := hF84 _ _ hz8
      replace hz14 := hF84 _ _ hz14
      replace hz17 := hF84 _ _ hz17
      replace hz20 := hF84 _ _ hz20
      rcases fu2 with _ | fu2
      · rw [hear_quarter_chosen_l2] at r81; cases r81
      rw [hear_quarter_chosen_l2] at r81
      refine shW_seq ?_
      refine shW_seq ?_
      refine shW_region ?_
      refine ov (v_fieldAddr fa_166_1 rfl) rfl ?_
      refine ov (v_load Try.isAgg3 rfl (Has.own 1 rfl) rfl) rfl ?_
      refine ov (v_gtrK rfl rfl) rfl ?_
      refine shO_nil ?_
      refine shW_condP rfl (fun c85 => ?_) (fun c85 => ?_)
      · have r86 := ite_t r81 c85; clear r81
        refine shW_skip ?_
        refine shW_block ?_
        obtain ⟨m4, x_from2, h90, r91⟩ := b2_ok r86; clear r86
        refine shW_join (fun e1 F1 L1 => ∃ (es87 : Array MapEntry) (cl88 : Nat), FExt F83 F1 ∧ L1 = ((b2, .map es87 cl88) :: ((b30, .cells #[.int .i64 x_from2, .int .i64 x_left3, .int .i64 x_set] 166 (0, 0)) :: (Lb75 ++ []))) ∧ e1.sub [(2, .pointer (some ⟨b1, 0, none⟩)), (7, .pointer (some ⟨b4, 0, none⟩)), (8, .int .i64 n2), (9, .pointer (some ⟨b30, 0, none⟩)), (10, .slice a73 n77 c74)] ∧ MapR (vA (cP (cI .i64) (cP (cI .i64) (cI .i64)))) (Value.int .i64) es87 m4) ?_ ?_
        · clear r91
          refine shW_block ?_
          refine shW_lp (fun fu3 e1 F1 L1 => ∃ (m5 : List ((Int × Int × Int) × Int)) (x_from3 : Int) (es92 : Array MapEntry) (cl93 : Nat), hear_quarter_chosen_l3 ears count n2 x_left3 x_set fu3 m5 x_from3 = some (m4, x_from2) ∧ FExt F83 F1 ∧ L1 = ((b2, .map es92 cl93) :: ((b30, .cells #[.int .i64 x_from3, .int .i64 x_left3, .int .i64 x_set] 166 (0, 0)) :: (Lb75 ++ []))) ∧ e1.sub [(2, .pointer (some ⟨b1, 0, none⟩)), (7, .pointer (some ⟨b4, 0, none⟩)), (8, .int .i64 n2), (9, .pointer (some ⟨b30, 0, none⟩)), (10, .slice a73 n77 c74)] ∧ MapR (vA (cP (cI .i64) (cP (cI .i64) (cI .i64)))) (Value.int .i64) es92 m5) FU (meet_0 (L2 := (b2, .map es70 cl71) :: ((b30, .cells #[.int .i64 x_from, .int .i64 x_left3, .int .i64 x_set] 166 (0, 0)) :: (Lb75 ++ []))) (L3 := (b2, .map es70 cl71) :: ((b30, .cells #[.int .i64 x_from, .int .i64 x_left3, .int .i64 x_set] 166 (0, 0)) :: (Lb75 ++ []))) (List.Perm.refl _) (List.Sublist.refl _) ⟨m3, x_from, es70, cl71, h90, FExt.refl _, rfl, (sc rfl (sc rfl (sc rfl (sc rfl (sc rfl (sn _)))))), hR72⟩) ?_
          rintro fu3 e1 F99 _ ⟨m5, x_from3, es92, cl93, r97, hF100, rfl, he98, hR94⟩
          refine shW_env _ he98 ?_; clear he98
          replace h_ears := h_ears.mono (arE_ok (n := 30) (sz := 1) cB_ok) hF100
          replace h9 := h9.mono (iE_ok _) hF100
          replace h_count := h_count.mono hF100
          replace hz76 := hz76.mono (iE_ok _) hF100
          replace hz8 := hF100 _ _ hz8
          replace hz14 := hF100 _ _ hz14
          replace hz17 := hF100 _ _ hz17
          replace hz20 := hF100 _ _ hz20
          rcases fu3 with _ | fu3
          · rw [hear_quarter_chosen_l3] at r97; cases r97
          rw [hear_quarter_chosen_l3] at r97
          refine shW_seq ?_
          refine shW_seq ?_
          refine shW_drawM [(.still, 0), (.still, 1), (.still, 2), (.still, 3), (.still, 4), (.still, 5), (.still, 6), (.still, 7), (.still, 8), (.still, 9), (.still, 10), (.still, 11), (.still, 16), (.seq, 12), (.still, 13), (.still, 14), (.seq, 15), (.still, 17)] (by kernel_rfl) (by kernel_rfl) (trivial) (by rfl) ?_
          refine shM_v (v := .func (.func 128) #[] #[.pointer (some ⟨b1, 0, none⟩), .pointer (some ⟨b3, 0, none⟩), .pointer (some ⟨b4, 0, none⟩)]) (ek := [(7, .pointer (some ⟨b4, 0, none⟩))]) (Ls := []) rfl rfl rfl rfl ((sc rfl (sn _))) (by kernel_rfl) (fun p hp => ((List.Sublist.cons _ ((List.Sublist.cons _ (((List.Sublist.refl _).trans (List.sublist_append_right _ _))))))).subset hp) (fun H F' L' hF' hL' => v_load Try.isAgg164 rfl ((Has.frozen hz20).ext hF' hL') rfl) ?_
          refine shM_v (v := .pointer (some ⟨b30, 0, none⟩)) (ek := [(9, .pointer (some ⟨b30, 0, none⟩))]) (Ls := []) rfl rfl rfl rfl ((sc rfl (sn _))) (by kernel_rfl) (fun p hp => ((List.Sublist.cons _ ((List.Sublist.cons _ (((List.Sublist.refl _).trans (List.sublist_append_right _ _))))))).subset hp) (fun H F' L' hF' hL' => v_fieldAddr fa_166_0 rfl) ?_
          refine shM_v (v := .int .i64 x_from3) (ek := [(39, .pointer (some ⟨b30, 0, none⟩))]) (Ls := [(b30, .cells #[.int .i64 x_from3, .int .i64 x_left3, .int .i64 x_set] 166 (0, 0))]) rfl rfl rfl rfl ((sc rfl (sn _))) (by kernel_rfl) (fun p hp => ((List.Sublist.cons _ ((List.Sublist.cons_cons _ (((List.Sublist.refl _).trans (List.sublist_append_right _ _))))))).subset hp) (fun H F' L' hF' hL' => v_load Try.isAgg3 rfl ((Has.own 0 rfl).ext hF' hL') rfl) ?_
          obtain ⟨g101, r102⟩ := gd_ok r97; clear r97
          refine shM_v (v := .int .i64 (x_from3 + 1)) (ek := [(40, .int .i64 x_from3)]) (Ls := []) rfl rfl rfl rfl ((sc rfl (sn _))) (by kernel_rfl) (fun p hp => ((List.Sublist.cons _ ((List.Sublist.cons _ (((List.Sublist.refl _).trans (List.sublist_append_right _ _))))))).subset hp) (fun H F' L' hF' hL' => v_add rfl rfl g101) ?_
          refine shM_v (v := .pointer (some ⟨b30, 1, none⟩)) (ek := [(9, .pointer (some ⟨b30, 0, none⟩))]) (Ls := []) rfl rfl rfl rfl ((sc rfl (sn _))) (by kernel_rfl) (fun p hp => ((List.Sublist.cons _ ((List.Sublist.cons _ (((List.Sublist.refl _).trans (List.sublist_append_right _ _))))))).subset hp) (fun H F' L' hF' hL' => v_fieldAddr fa_166_1 rfl) ?_
          refine shM_v (v := .int .i64 x_left3) (ek := [(42, .pointer (some ⟨b30, 1, none⟩))]) (Ls := [(b30, .cells #[.int .i64 x_from3, .int .i64 x_left3, .int .i64 x_set] 166 (0, 0))]) rfl rfl rfl rfl ((sc rfl (sn _))) (by kernel_rfl) (fun p hp => ((List.Sublist.cons _ ((List.Sublist.cons_cons _ (((List.Sublist.refl _).trans (List.sublist_append_right _ _))))))).subset hp) (fun H F' L' hF' hL' => v_load Try.isAgg3 rfl ((Has.own 0 rfl).ext hF' hL') rfl) ?_
          obtain ⟨g103, r104⟩ := gd_ok r102; clear r102
          refine shM_v (v := .int .i64 (x_left3 - 1)) (ek := [(43, .int .i64 x_left3)]) (Ls := []) rfl rfl rfl rfl ((sc rfl (sn _))) (by kernel_rfl) (fun p hp => ((List.Sublist.cons _ ((List.Sublist.cons _ (((List.Sublist.refl _).trans (List.sublist_append_right _ _))))))).subset hp) (fun H F' L' hF' hL' => v_sub rfl rfl g103) ?_
          refine shM_v (v := .pointer (some ⟨b30, 2, none⟩)) (ek := [(9, .pointer (some ⟨b30, 0, none⟩))]) (Ls := []) rfl rfl rfl rfl ((sc rfl (sn _))) (by kernel_rfl) (fun p hp => ((List.Sublist.cons _ ((List.Sublist.cons _ (((List.Sublist.refl _).trans (List.sublist_append_right _ _))))))).subset hp) (fun H F' L' hF' hL' => v_fieldAddr fa_166_2 rfl) ?_
          refine shM_v (v := .int .i64 x_set) (ek := [(45, .pointer (some ⟨b30, 2, none⟩))]) (Ls := [(b30, .cells #[.int .i64 x_from3, .int .i64 x_left3, .int .i64 x_set] 166 (0, 0))]) rfl rfl rfl rfl ((sc rfl (sn _))) (by kernel_rfl) (fun p hp => ((List.Sublist.cons _ ((List.Sublist.cons_cons _ (((List.Sublist.refl _).trans (List.sublist_append_right _ _))))))).subset hp) (fun H F' L' hF' hL' => v_load Try.isAgg3 rfl ((Has.own 0 rfl).ext hF' hL') rfl) ?_
          refine shM_v (v := .agg #[.slice ears_a ears.length ears_c, .func (.func count_f) count_1 count_2]) (ek := [(2, .pointer (some ⟨b1, 0, none⟩))]) (Ls := []) rfl rfl rfl rfl ((sc rfl (sn _))) (by kernel_rfl) (fun p hp => ((List.Sublist.cons _ ((List.Sublist.cons _ (((List.Sublist.refl _).trans (List.sublist_append_right _ _))))))).subset hp) (fun H F' L' hF' hL' => v_loadA (cs := #[.slice ears_a ears.length ears_c, .func (.func count_f) count_1 count_2]) Try.isAgg121 Try.sizeOf121 rfl ((Has.frozen hz14).ext hF' hL') (Nat.le_of_ble_eq_true rfl) rfl) ?_
          refine shM_v (v := .pointer (some ⟨b30, 0, none⟩)) (ek := [(9, .pointer (some ⟨b30, 0, none⟩))]) (Ls := []) rfl rfl rfl rfl ((sc rfl (sn _))) (by kernel_rfl) (fun p hp => ((List.Sublist.cons _ ((List.Sublist.cons _ (((List.Sublist.refl _).trans (List.sublist_append_right _ _))))))).subset hp) (fun H F' L' hF' hL' => v_fieldAddr fa_166_0 rfl) ?_
          refine shM_v (v := .int .i64 x_from3) (ek := [(48, .pointer (some ⟨b30, 0, none⟩))]) (Ls := [(b30, .cells #[.int .i64 x_from3, .int .i64 x_left3, .int .i64 x_set] 166 (0, 0))]) rfl rfl rfl rfl ((sc rfl (sn _))) (by kernel_rfl) (fun p hp => ((List.Sublist.cons _ ((List.Sublist.cons_cons _ (((List.Sublist.refl _).trans (List.sublist_append_right _ _))))))).subset hp) (fun H F' L' hF' hL' => v_load Try.isAgg3 rfl ((Has.own 0 rfl).ext hF' hL') rfl) ?_
          refine shM_v (v := .int .i64 n2) (ek := [(8, .int .i64 n2)]) (Ls := []) rfl rfl rfl rfl ((sc rfl (sn _))) (by kernel_rfl) (fun p hp => ((List.Sublist.cons _ ((List.Sublist.cons _ (((List.Sublist.refl _).trans (List.sublist_append_right _ _))))))).subset hp) (fun H F' L' hF' hL' => v_move rfl) ?_
          refine ⟨_, [(47, .agg #[.slice ears_a ears.length ears_c, .func (.func count_f) count_1 count_2]), (49, .int .i64 x_from3)], rfl, rfl, (sc rfl (sc rfl (sn _))), by kernel_rfl, ?_⟩; intro H
          obtain ⟨n4, h105, r106⟩ := b1_ok r104; clear r104
          refine o_callV rfl Try.call129 rfl rfl rfl (hear_quarter_by_w h_ears h_count h105) ?_
          refine shO_nil ⟨_, rfl, FExt.refl _, [16, 8, 7, 6, 5, 4, 3, 2, 1, 0], by kernel_rfl, .inr (fun d h => by cases h; rfl), (List.forall_mem_cons.2 ⟨fun p hp => ((List.Sublist.cons _ ((List.Sublist.cons _ (((List.Sublist.refl _).trans (List.sublist_append_right _ _))))))).subset hp, (List.forall_mem_cons.2 ⟨fun p hp => ((List.Sublist.cons _ ((List.Sublist.cons_cons _ (((List.Sublist.refl _).trans (List.sublist_append_right _ _))))))).subset hp, (List.forall_mem_cons.2 ⟨fun p hp => ((List.Sublist.cons _ ((List.Sublist.cons _ (((List.Sublist.refl _).trans (List.sublist_append_right _ _))))))).subset hp, (List.forall_mem_cons.2 ⟨fun p hp => ((List.Sublist.cons _ ((List.Sublist.cons _ (((List.Sublist.refl _).trans (List.sublist_append_right _ _))))))).subset hp, (List.forall_mem_cons.2 ⟨fun p hp => ((List.Sublist.cons _ ((List.Sublist.cons_cons _ (((List.Sublist.refl _).trans (List.sublist_append_right _ _))))))).subset hp, (List.forall_mem_cons.2 ⟨fun p hp => ((List.Sublist.cons _ ((List.Sublist.cons _ (((List.Sublist.refl _).trans (List.sublist_append_right _ _))))))).subset hp, (List.forall_mem_cons.2 ⟨fun p hp => ((List.Sublist.cons _ ((List.Sublist.cons _ (((List.Sublist.refl _).trans (List.sublist_append_right _ _))))))).subset hp, (List.forall_mem_cons.2 ⟨fun p hp => ((List.Sublist.cons _ ((List.Sublist.cons_cons _ (((List.Sublist.refl _).trans (List.sublist_append_right _ _))))))).subset hp, (List.forall_mem_cons.2 ⟨fun p hp => ((List.Sublist.cons _ ((List.Sublist.cons _ (((List.Sublist.refl _).trans (List.sublist_append_right _ _))))))).subset hp, (List.forall_mem_cons.2 ⟨fun p hp => ((List.Sublist.cons _ ((List.Sublist.cons _ (((List.Sublist.refl _).trans (List.sublist_append_right _ _))))))).subset hp, (fun _ h => absurd h List.not_mem_nil)⟩)⟩)⟩)⟩)⟩)⟩)⟩)⟩)⟩)⟩), ?_⟩
          refine shM_v (v := .int .i64 (bor x_set n4)) (ek := [(46, .int .i64 x_set), (50, .int .i64 n4)]) (Ls := []) rfl rfl rfl rfl ((sc rfl (sc rfl (sn _)))) (by kernel_rfl) (fun p hp => ((List.Sublist.cons _ ((List.Sublist.cons _ (((List.Sublist.refl _).trans (List.sublist_append_right _ _))))))).subset hp) (fun H F' L' hF' hL' => v_or rfl rfl) ?_
          refine shM_v (v := .agg #[.int .i64 (x_from3 + 1), .int .i64 (x_left3 - 1), .int .i64 (bor x_set n4)]) (ek := [(41, .int .i64 (x_from3 + 1)), (44, .int .i64 (x_left3 - 1)), (51, .int .i64 (bor x_set n4))]) (Ls := []) rfl rfl rfl rfl ((sc rfl (sc rfl (sc rfl (sn _))))) (by kernel_rfl) (fun p hp => ((List.Sublist.cons _ ((List.Sublist.cons _ (((List.Sublist.refl _).trans (List.sublist_append_right _ _))))))).subset hp) (fun H F' L' hF' hL' => v_build (v := .agg #[.int .i64 (x_from3 + 1), .int .i64 (x_left3 - 1), .int .i64 (bor x_set n4)]) rfl (by intro w; kernel_rfl)) ?_
          refine ⟨_, [(38, .func (.func 128) #[] #[.pointer (some ⟨b1, 0, none⟩), .pointer (some ⟨b3, 0, none⟩), .pointer (some ⟨b4, 0, none⟩)]), (52, .agg #[.int .i64 (x_from3 + 1), .int .i64 (x_left3 - 1), .int .i64 (bor x_set n4)])], rfl, rfl, (sc rfl (sc rfl (sn _))), by kernel_rfl, ?_⟩; intro H
          obtain ⟨n5, met3, h107, r108⟩ := b2_ok r106; clear r106
          refine o_callG (Lb := [(b2, .map es92 cl93)]) (Lr := (b30, .cells #[.int .i64 x_from3, .int .i64 x_left3, .int .i64 x_set] 166 (0, 0)) :: (Lb75 ++ [])) rfl Try.call128 rfl rfl rfl (List.Perm.refl _) ((hear_quarter_chosen_1_w FU) hz14 h_ears h_count hz17 hR94 hz20 h107) ?_; rintro _ F109 _ hF110 hd112 hn111 ⟨es113, cl114, rfl, rfl, hR115⟩
          replace h_ears := h_ears.mono (arE_ok (n := 30) (sz := 1) cB_ok) hF110
          replace h9 := h9.mono (iE_ok _) hF110
          replace h_count := h_count.mono hF110
          replace hz76 := hz76.mono (iE_ok _) hF110
          replace hz8 := hF110 _ _ hz8
          replace hz14 := hF110 _ _ hz14
          replace hz17 := hF110 _ _ hz17
          replace hz20 := hF110 _ _ hz20
          refine shO_L (L' := (b2, .map es113 cl114) :: ((b30, .cells #[.int .i64 x_from3, .int .i64 x_left3, .int .i64 x_set] 166 (0, 0)) :: (Lb75 ++ []))) (by simp only [List.nil_append, List.cons_append, List.append_assoc, List.append_nil] <;> rfl) ?_
          refine shO_nil ⟨_, rfl, hF110, [16], by kernel_rfl, .inr (fun d h => by cases h; rfl), (List.forall_mem_cons.2 ⟨fun p hp => ((List.Sublist.cons _ ((List.Sublist.cons _ (((List.Sublist.refl _).trans (List.sublist_append_right _ _))))))).subset hp, (fun _ h => absurd h List.not_mem_nil)⟩), ?_⟩
          refine shM_v (v := .bool (decide (n5 < n2))) (ek := [(53, .int .i64 n5), (54, .int .i64 n2)]) (Ls := []) rfl rfl rfl rfl ((sc rfl (sc rfl (sn _)))) (by kernel_rfl) (fun p hp => ((List.Sublist.cons _ ((List.Sublist.cons _ (((List.Sublist.refl _).trans (List.sublist_append_right _ _))))))).subset hp) (fun H F' L' hF' hL' => v_lssK rfl rfl) ?_
          refine shM_nil ?_
          refine shW_condP rfl (fun c116 => ?_) (fun c116 => ?_)
          · have r117 := ite_t r108 c116; clear r108
            refine shW_skip ?_
            refine shW_block ?_
            refine shW_region ?_
            refine ov (v_fieldAddr fa_166_0 rfl) rfl ?_
            refine ov (v_load Try.isAgg3 rfl (Has.own 1 rfl) rfl) rfl ?_
            obtain ⟨g118, r119⟩ := gd_ok r117; clear r117
            refine ov (v_add rfl rfl g118) rfl ?_
            refine ov (v_fieldAddr fa_166_0 rfl) rfl ?_
            refine o_store (i := 1) Try.sizeOf3 rfl rfl rfl rfl (Nat.le_of_ble_eq_true rfl) ?_
            refine shO_L (L' := (b2, .map es113 cl114) :: ((b30, .cells #[.int .i64 (x_from3 + 1), .int .i64 x_left3, .int .i64 x_set] 166 (0, 0)) :: (Lb75 ++ []))) rfl ?_
            refine shO_nil ?_
            refine inBlock_n (id := 5) ?_
            exact lp_end (Nat.lt_succ_self _) (meet_0 (L2 := (b2, .map es113 cl114) :: ((b30, .cells #[.int .i64 (x_from3 + 1), .int .i64 x_left3, .int .i64 x_set] 166 (0, 0)) :: (Lb75 ++ []))) (L3 := (b2, .map es113 cl114) :: ((b30, .cells #[.int .i64 (x_from3 + 1), .int .i64 x_left3, .int .i64 x_set] 166 (0, 0)) :: (Lb75 ++ []))) (List.Perm.refl _) (List.Sublist.refl _) ⟨met3, x_from3 + 1, es113, cl114, r119, (hF100.trans hF110), rfl, (sc rfl (sc rfl (sc rfl (sc rfl (sc rfl (sn _)))))), hR115⟩)
          · have r120 := ite_f r108 c116; clear r108
            refine shW_exit ?_
            refine andThen_exit ?_
            refine andThen_exit ?_
            refine inBlock_exit ?_
            obtain ⟨rfl, rfl⟩ := inj2 r120
            refine meet_i (L2 := (b2, .map es113 cl114) :: ((b30, .cells #[.int .i64 x_from3, .int .i64 x_left3, .int .i64 x_set] 166 (0, 0)) :: (Lb75 ++ []))) (L3 := (b2, .map es113 cl114) :: ((b30, .cells #[.int .i64 x_from3, .int .i64 x_left3, .int .i64 x_set] 166 (0, 0)) :: (Lb75 ++ []))) (List.Perm.refl _) (List.Sublist.refl _) ?_
            exact ⟨es113, cl114, (hF100.trans hF110), rfl, (sc rfl (sc rfl (sc rfl (sc rfl (sc rfl (sn _)))))), hR115⟩
        · rintro e1 F122 _ ⟨es87, cl88, hF123, rfl, he121, hR89⟩
          refine shW_env _ he121 ?_; clear he121
          replace h_ears := h_ears.mono (arE_ok (n := 30) (sz := 1) cB_ok) hF123
          replace h9 := h9.mono (iE_ok _) hF123
          replace h_count := h_count.mono hF123
          replace hz76 := hz76.mono (iE_ok _) hF123
          replace hz8 := hF123 _ _ hz8
          replace hz14 := hF123 _ _ hz14
          replace hz17 := hF123 _ _ hz17
          replace hz20 := hF123 _ _ hz20
          refine shW_seq ?_
          refine shW_region ?_
          refine ov (v_move rfl) rfl ?_
          refine ov (v_fieldAddr fa_166_0 rfl) rfl ?_
          refine ov (v_load Try.isAgg3 rfl (Has.own 1 rfl) rfl) rfl ?_
          refine o_buildSlice (cs := #[.int .i64 x_from2]) rfl rfl (buildSlice_all slt_26 [.int .i64 x_from2] rfl (by decide) (by simp [Value.cells]) (by decide)) ?_; intro b124 hb124
          obtain ⟨out3, h125, g126, r127⟩ := ap_ok r91; clear r91
          refine o_appZ (xs := out2) (ys := [x_from2]) (zs := out3) rfl slt_26 rfl rfl (Nat.le_refl _) (fun _ => .c (.c (.c .h))) hz76 (SrcR.box (vss := [[.int .i64 x_from2]]) (ys := [x_from2]) 0 rfl (iE_ok _) (.cons rfl .nil) rfl rfl) h125 g126 (by decide) ?_; intro a128 n132 c129 Lb130 hz131
          refine shO_perm (L' := (b2, .map es87 cl88) :: ((b30, .cells #[.int .i64 x_from2, .int .i64 x_left3, .int .i64 x_set] 166 (0, 0)) :: (Lb130 ++ ((b124, .cells #[.int .i64 x_from2] 3 (0, 0)) :: [])))) (((frontC (frO)).trans (List.Perm.cons _ (((frontC (frO)).trans (List.Perm.cons _ (((frontC (List.Perm.refl _)).trans (List.Perm.append_left _ (List.Perm.refl _)))))))))) ?_
          refine shO_drop (L' := (b2, .map es87 cl88) :: ((b30, .cells #[.int .i64 x_from2, .int .i64 x_left3, .int .i64 x_set] 166 (0, 0)) :: (Lb130 ++ []))) ((List.Sublist.cons_cons _ ((List.Sublist.cons_cons _ ((List.Sublist.append (List.Sublist.refl _) ((List.Sublist.cons _ (List.Sublist.refl _))))))))) ?_
          refine ov (v_assign rfl) rfl ?_
          refine shO_nil ?_
          refine shW_drawM [(.still, 0), (.still, 1), (.still, 2), (.still, 3), (.still, 4), (.still, 5), (.still, 6), (.still, 7), (.still, 8), (.still, 9), (.still, 10), (.seq, 11), (.still, 12), (.still, 13), (.seq, 14)] (by kernel_rfl) (by kernel_rfl) (trivial) (by rfl) ?_
          refine shM_v (v := .pointer (some ⟨b30, 0, none⟩)) (ek := [(9, .pointer (some ⟨b30, 0, none⟩))]) (Ls := []) rfl rfl rfl rfl ((sc rfl (sn _))) (by kernel_rfl) (fun p hp => ((List.Sublist.cons _ ((List.Sublist.cons _ (((List.Sublist.refl _).trans (List.sublist_append_right _ _))))))).subset hp) (fun H F' L' hF' hL' => v_fieldAddr fa_166_0 rfl) ?_
          refine shM_v (v := .int .i64 x_from2) (ek := [(65, .pointer (some ⟨b30, 0, none⟩))]) (Ls := [(b30, .cells #[.int .i64 x_from2, .int .i64 x_left3, .int .i64 x_set] 166 (0, 0))]) rfl rfl rfl rfl ((sc rfl (sn _))) (by kernel_rfl) (fun p hp => ((List.Sublist.cons _ ((List.Sublist.cons_cons _ (((List.Sublist.refl _).trans (List.sublist_append_right _ _))))))).subset hp) (fun H F' L' hF' hL' => v_load Try.isAgg3 rfl ((Has.own 0 rfl).ext hF' hL') rfl) ?_
          obtain ⟨g134, r135⟩ := gd_ok r127; clear r127
          refine shM_v (v := .int .i64 (x_from2 + 1)) (ek := [(66, .int .i64 x_from2)]) (Ls := []) rfl rfl rfl rfl ((sc rfl (sn _))) (by kernel_rfl) (fun p hp => ((List.Sublist.cons _ ((List.Sublist.cons _ (((List.Sublist.refl _).trans (List.sublist_append_right _ _))))))).subset hp) (fun H F' L' hF' hL' => v_add rfl rfl g134) ?_
          refine shM_v (v := .pointer (some ⟨b30, 1, none⟩)) (ek := [(9, .pointer (some ⟨b30, 0, none⟩))]) (Ls := []) rfl rfl rfl rfl ((sc rfl (sn _))) (by kernel_rfl) (fun p hp => ((List.Sublist.cons _ ((List.Sublist.cons _ (((List.Sublist.refl _).trans (List.sublist_append_right _ _))))))).subset hp) (fun H F' L' hF' hL' => v_fieldAddr fa_166_1 rfl) ?_
          refine shM_v (v := .int .i64 x_left3) (ek := [(68, .pointer (some ⟨b30, 1, none⟩))]) (Ls := [(b30, .cells #[.int .i64 x_from2, .int .i64 x_left3, .int .i64 x_set] 166 (0, 0))]) rfl rfl rfl rfl ((sc rfl (sn _))) (by kernel_rfl) (fun p hp => ((List.Sublist.cons _ ((List.Sublist.cons_cons _ (((List.Sublist.refl _).trans (List.sublist_append_right _ _))))))).subset hp) (fun H F' L' hF' hL' => v_load Try.isAgg3 rfl ((Has.own 0 rfl).ext hF' hL') rfl) ?_
          obtain ⟨g136, r137⟩ := gd_ok r135; clear r135
          refine shM_v (v := .int .i64 (x_left3 - 1)) (ek := [(69, .int .i64 x_left3)]) (Ls := []) rfl rfl rfl rfl ((sc rfl (sn _))) (by kernel_rfl) (fun p hp => ((List.Sublist.cons _ ((List.Sublist.cons _ (((List.Sublist.refl _).trans (List.sublist_append_right _ _))))))).subset hp) (fun H F' L' hF' hL' => v_sub rfl rfl g136) ?_
          refine shM_v (v := .pointer (some ⟨b30, 2, none⟩)) (ek := [(9, .pointer (some ⟨b30, 0, none⟩))]) (Ls := []) rfl rfl rfl rfl ((sc rfl (sn _))) (by kernel_rfl) (fun p hp => ((List.Sublist.cons _ ((List.Sublist.cons _ (((List.Sublist.refl _).trans (List.sublist_append_right _ _))))))).subset hp) (fun H F' L' hF' hL' => v_fieldAddr fa_166_2 rfl) ?_
          refine shM_v (v := .int .i64 x_set) (ek := [(71, .pointer (some ⟨b30, 2, none⟩))]) (Ls := [(b30, .cells #[.int .i64 x_from2, .int .i64 x_left3, .int .i64 x_set] 166 (0, 0))]) rfl rfl rfl rfl ((sc rfl (sn _))) (by kernel_rfl) (fun p hp => ((List.Sublist.cons _ ((List.Sublist.cons_cons _ (((List.Sublist.refl _).trans (List.sublist_append_right _ _))))))).subset hp) (fun H F' L' hF' hL' => v_load Try.isAgg3 rfl ((Has.own 0 rfl).ext hF' hL') rfl) ?_
          refine shM_v (v := .agg #[.slice ears_a ears.length ears_c, .func (.func count_f) count_1 count_2]) (ek := [(2, .pointer (some ⟨b1, 0, none⟩))]) (Ls := []) rfl rfl rfl rfl ((sc rfl (sn _))) (by kernel_rfl) (fun p hp => ((List.Sublist.cons _ ((List.Sublist.cons _ (((List.Sublist.refl _).trans (List.sublist_append_right _ _))))))).subset hp) (fun H F' L' hF' hL' => v_loadA (cs := #[.slice ears_a ears.length ears_c, .func (.func count_f) count_1 count_2]) Try.isAgg121 Try.sizeOf121 rfl ((Has.frozen hz14).ext hF' hL') (Nat.le_of_ble_eq_true rfl) rfl) ?_
          refine shM_v (v := .pointer (some ⟨b30, 0, none⟩)) (ek := [(9, .pointer (some ⟨b30, 0, none⟩))]) (Ls := []) rfl rfl rfl rfl ((sc rfl (sn _))) (by kernel_rfl) (fun p hp => ((List.Sublist.cons _ ((List.Sublist.cons _ (((List.Sublist.refl _).trans (List.sublist_append_right _ _))))))).subset hp) (fun H F' L' hF' hL' => v_fieldAddr fa_166_0 rfl) ?_
          refine shM_v (v := .int .i64 x_from2) (ek := [(74, .pointer (some ⟨b30, 0, none⟩))]) (Ls := [(b30, .cells #[.int .i64 x_from2, .int .i64 x_left3, .int .i64 x_set] 166 (0, 0))]) rfl rfl rfl rfl ((sc rfl (sn _))) (by kernel_rfl) (fun p hp => ((List.Sublist.cons _ ((List.Sublist.cons_cons _ (((List.Sublist.refl _).trans (List.sublist_append_right _ _))))))).subset hp) (fun H F' L' hF' hL' => v_load Try.isAgg3 rfl ((Has.own 0 rfl).ext hF' hL') rfl) ?_
          refine ⟨_, [(73, .agg #[.slice ears_a ears.length ears_c, .func (.func count_f) count_1 count_2]), (75, .int .i64 x_from2)], rfl, rfl, (sc rfl (sc rfl (sn _))), by kernel_rfl, ?_⟩; intro H
          obtain ⟨n6, h138, r139⟩ := b1_ok r137; clear r137
          refine o_callV rfl Try.call129 rfl rfl rfl (hear_quarter_by_w h_ears h_count h138) ?_
          refine shO_nil ⟨_, rfl, FExt.refl _, [7, 6, 5, 4, 3, 2, 1, 0], by kernel_rfl, .inr (fun d h => by cases h; rfl), (List.forall_mem_cons.2 ⟨fun p hp => ((List.Sublist.cons _ ((List.Sublist.cons_cons _ (((List.Sublist.refl _).trans (List.sublist_append_right _ _))))))).subset hp, (List.forall_mem_cons.2 ⟨fun p hp => ((List.Sublist.cons _ ((List.Sublist.cons _ (((List.Sublist.refl _).trans (List.sublist_append_right _ _))))))).subset hp, (List.forall_mem_cons.2 ⟨fun p hp => ((List.Sublist.cons _ ((List.Sublist.cons _ (((List.Sublist.refl _).trans (List.sublist_append_right _ _))))))).subset hp, (List.forall_mem_cons.2 ⟨fun p hp => ((List.Sublist.cons _ ((List.Sublist.cons_cons _ (((List.Sublist.refl _).trans (List.sublist_append_right _ _))))))).subset hp, (List.forall_mem_cons.2 ⟨fun p hp => ((List.Sublist.cons _ ((List.Sublist.cons _ (((List.Sublist.refl _).trans (List.sublist_append_right _ _))))))).subset hp, (List.forall_mem_cons.2 ⟨fun p hp => ((List.Sublist.cons _ ((List.Sublist.cons _ (((List.Sublist.refl _).trans (List.sublist_append_right _ _))))))).subset hp, (List.forall_mem_cons.2 ⟨fun p hp => ((List.Sublist.cons _ ((List.Sublist.cons_cons _ (((List.Sublist.refl _).trans (List.sublist_append_right _ _))))))).subset hp, (List.forall_mem_cons.2 ⟨fun p hp => ((List.Sublist.cons _ ((List.Sublist.cons _ (((List.Sublist.refl _).trans (List.sublist_append_right _ _))))))).subset hp, (fun _ h => absurd h List.not_mem_nil)⟩)⟩)⟩)⟩)⟩)⟩)⟩)⟩), ?_⟩
          refine shM_v (v := .int .i64 (bor x_set n6)) (ek := [(72, .int .i64 x_set), (76, .int .i64 n6)]) (Ls := []) rfl rfl rfl rfl ((sc rfl (sc rfl (sn _)))) (by kernel_rfl) (fun p hp => ((List.Sublist.cons _ ((List.Sublist.cons _ (((List.Sublist.refl _).trans (List.sublist_append_right _ _))))))).subset hp) (fun H F' L' hF' hL' => v_or rfl rfl) ?_
          refine shM_v (v := .agg #[.int .i64 (x_from2 + 1), .int .i64 (x_left3 - 1), .int .i64 (bor x_set n6)]) (ek := [(67, .int .i64 (x_from2 + 1)), (70, .int .i64 (x_left3 - 1)), (77, .int .i64 (bor x_set n6))]) (Ls := []) rfl rfl rfl rfl ((sc rfl (sc rfl (sc rfl (sn _))))) (by kernel_rfl) (fun p hp => ((List.Sublist.cons _ ((List.Sublist.cons _ (((List.Sublist.refl _).trans (List.sublist_append_right _ _))))))).subset hp) (fun H F' L' hF' hL' => v_build (v := .agg #[.int .i64 (x_from2 + 1), .int .i64 (x_left3 - 1), .int .i64 (bor x_set n6)]) rfl (by intro w; kernel_rfl)) ?_
          refine ⟨_, [(9, .pointer (some ⟨b30, 0, none⟩)), (78, .agg #[.int .i64 (x_from2 + 1), .int .i64 (x_left3 - 1), .int .i64 (bor x_set n6)])], rfl, rfl, (sc rfl (sc rfl (sn _))), by kernel_rfl, ?_⟩; intro H
          refine o_storeA (i := 1) Try.sizeOf166 rfl rfl rfl (by simp [Value.oneCell']) rfl (Nat.le_of_ble_eq_true rfl) ?_
          refine shO_L (L' := (b2, .map es87 cl88) :: ((b30, .cells #[.int .i64 (x_from2 + 1), .int .i64 (x_left3 - 1), .int .i64 (bor x_set n6)] 166 (0, 0)) :: (Lb130 ++ []))) rfl ?_
          refine shO_nil ⟨undef, rfl, FExt.refl _, [], by kernel_rfl, .inl rfl, (fun _ h => absurd h List.not_mem_nil), ?_⟩
          refine shM_nil ?_
          refine inBlock_n (id := 3) ?_
          exact lp_end (Nat.lt_succ_self _) (meet_0 (L2 := (b2, .map es87 cl88) :: ((b30, .cells #[.int .i64 (x_from2 + 1), .int .i64 (x_left3 - 1), .int .i64 (bor x_set n6)] 166 (0, 0)) :: (Lb130 ++ []))) (L3 := (b2, .map es87 cl88) :: ((b30, .cells #[.int .i64 (x_from2 + 1), .int .i64 (x_left3 - 1), .int .i64 (bor x_set n6)] 166 (0, 0)) :: (Lb130 ++ []))) (List.Perm.refl _) (List.Sublist.refl _) ⟨m4, x_from2 + 1, x_left3 - 1, bor x_set n6, out3, es87, cl88, a128, n132, c129, Lb130, r139, (hF84.trans hF123), rfl, (sc rfl (sc rfl (sc rfl (sc rfl (sc rfl (sn _)))))), hR89, hz131⟩)
      · have r140 := ite_f r81 c85; clear r81
        refine shW_exit ?_
        refine andThen_exit ?_
        refine andThen_exit ?_
        refine inBlock_exit ?_
        obtain rfl := inj1 r140
        refine meet_i (L2 := Lb75 ++ []) (L3 := Lb75 ++ ((b2, .map es70 cl71) :: ((b30, .cells #[.int .i64 x_from, .int .i64 x_left3, .int .i64 x_set] 166 (0, 0)) :: []))) (((frontC (frontC (List.Perm.refl _))).trans (List.Perm.append_left _ (List.Perm.refl _)))) ((List.Sublist.append (List.Sublist.refl _) ((List.Sublist.cons _ ((List.Sublist.cons _ (List.Sublist.refl _))))))) ?_
        exact ⟨a73, n77, c74, Lb75, hF84, rfl, (sc rfl (sc rfl (sn _))), hz76⟩
    · rintro e1 F142 _ ⟨a62, n66, c63, Lb64, hF143, rfl, he141, hz65⟩
      refine shW_env _ he141 ?_; clear he141
      replace h_ears := h_ears.mono (arE_ok (n := 30) (sz := 1) cB_ok) hF143
      replace h9 := h9.mono (iE_ok _) hF143
      replace h_count := h_count.mono hF143
      replace hz8 := hF143 _ _ hz8
      replace hz14 := hF143 _ _ hz14
      replace hz17 := hF143 _ _ hz17
      replace hz20 := hF143 _ _ hz20
      refine shW_seq ?_
      refine shW_region ?_
      refine ov (v_move rfl) rfl ?_
      refine ov (v_move rfl) rfl ?_
      refine ov (v_assign rfl) rfl ?_
      refine ov (v_assign rfl) rfl ?_
      refine shO_nil ?_
      refine shW_ret ?_
      refine q_res2 Try.results90 (res_tmp rfl) (res_tmp rfl) (List.Sublist.refl _) ?_
      obtain ⟨rfl, rfl⟩ := inj2 r69
      exact ⟨_, _, _, _, rfl, rfl, hz65.any⟩


set_option maxHeartbeats 1000000 in
theorem hear_Louder_w {wide : Int} {plots_a : Option Addr} {plots_c : Nat} {plots : List Int} {wind : Int} {houses_a : Option Addr} {houses_c : Nat} {houses : List Int} {stands : Int} {F : FS} (h_plots : RowR 1 (iE .i64) F plots_a plots_c plots) (h_houses : RowR 1 (iE .i64) F houses_a houses_c houses) {r : Int} {r2 : Int} (hr : hear_Louder wide plots wind houses stands = some (r, r2)) :
    SpecV Try.prog 29 #[.agg #[.int .i64 wide, .slice plots_a plots.length plots_c], .int .i64 wind, .slice houses_a houses.length houses_c, .int .i64 stands] F (.tuple #[.int .i64 r, .int .i64 r2]) := by
  refine spec_of_shW (args := [.agg #[.int .i64 wide, .slice plots_a plots.length plots_c], .int .i64 wind, .slice houses_a houses.length houses_c, .int .i64 stands]) Try.func29 rfl Try.ntmps29 (Nat.le_of_ble_eq_true rfl) ?_
  intro K _ _; rw [hear_Louder] at hr
  refine shW_seq ?_
  refine shW_region ?_
  refine o_box rfl rfl ?_; intro b1 hb1
  refine ov (v_assign rfl) rfl ?_
  refine ov (v_assign rfl) rfl ?_
  refine shO_nil ?_
  refine shW_scope ?_
  refine shW_seq ?_
  refine shW_seq ?_
  refine shW_region ?_
  refine ov (v_loadA (cs := #[.int .i64 wide, .slice plots_a plots.length plots_c]) Try.isAgg24 Try.sizeOf24 rfl (Has.own 0 rfl) (Nat.le_of_ble_eq_true rfl) rfl) rfl ?_
  refine ov (v_move rfl) rfl ?_
  refine ov (v_build (v := .agg #[.int .i64 wind, .int .i64 40]) rfl (by intro w; kernel_rfl)) rfl ?_
  refine ov (v_move rfl) rfl ?_
  obtain ⟨l, y, n, h2, r3⟩ := b3_ok hr; clear hr
  refine o_call0 rfl Try.call88 rfl rfl rfl (hear_asked_w h_plots h_houses h2) ?_; rintro _ F4 _ hF5 hn6 ⟨a8, n12, c9, Lb10, v14, rfl, rfl, hz11, hp15⟩
  replace h_plots := h_plots.mono (iE_ok _) hF5
  replace h_houses := h_houses.mono (iE_ok _) hF5
  replace hz11 := hz11.new fun p hp => hn6 p (by simp [hp])
  refine shO_L (L' := Lb10 ++ ((b1, .cells #[.int .i64 wide, .slice plots_a plots.length plots_c] 24 (0, 0)) :: [])) (by simp only [List.nil_append, List.cons_append, List.append_assoc, List.append_nil] <;> rfl) ?_
  refine shO_perm (L' := (b1, .cells #[.int .i64 wide, .slice plots_a plots.length plots_c] 24 (0, 0)) :: (Lb10 ++ [])) (((frontS (frO)).trans (List.Perm.cons _ (List.Perm.refl _)))) ?_
  refine ov (v_move rfl) rfl ?_
  refine ov (v_extract rfl rfl) rfl ?_
  refine ov (v_extract rfl rfl) rfl ?_
  refine o_alloc rfl Try.zeroValue121 ?_; intro b16 hb16
  refine o_storeA (i := 0) Try.sizeOf121 rfl rfl rfl (List.forall_mem_cons.2 ⟨rfl, (List.forall_mem_cons.2 ⟨hp15.1, (fun _ h => absurd h List.not_mem_nil)⟩)⟩) rfl (Nat.le_of_ble_eq_true rfl) ?_
  refine shO_L (L' := (b16, .cells #[.slice a8 n12 c9, v14] 121 (0, 0)) :: ((b1, .cells #[.int .i64 wide, .slice plots_a plots.length plots_c] 24 (0, 0)) :: (Lb10 ++ []))) rfl ?_
  refine ov (v_assign rfl) rfl ?_
  refine shO_nil ?_
  refine shW_seq ?_
  refine shW_region ?_
  refine ov (v_move rfl) rfl ?_
  refine ov (v_neq rfl rfl) rfl ?_
  refine shO_nil ?_
  refine shW_condP rfl (fun c17 => ?_) (fun c17 => ?_)
  · have r18 := ite_t r3 c17; clear r3
    refine shW_seq ?_
    refine shW_region ?_
    refine ov (v_move rfl) rfl ?_
    refine ov (v_assign rfl) rfl ?_
    refine ov (v_assign rfl) rfl ?_
    refine shO_nil ?_
    refine shW_drop (L' := []) ((List.Sublist.cons _ ((List.Sublist.cons _ (((List.Sublist.refl _).trans (List.sublist_append_right _ _))))))) ?_
    refine shW_ret ?_
    refine andThen_ret ?_
    refine noGoto_ret ?_
    refine q_res2 Try.results29 (res_tmp rfl) (res_tmp rfl) (List.Sublist.refl _) ?_
    obtain ⟨rfl, rfl⟩ := inj2 r18
    exact rfl
  · have r19 := ite_f r3 c17; clear r3
    refine shW_skip ?_
    refine shW_seq ?_
    refine shW_seq ?_
    refine shW_region ?_
    refine ov (v_move rfl) rfl ?_
    obtain ⟨ok, h20, r21⟩ := b1_ok r19; clear r19
    refine o_callV rfl Try.call89 rfl rfl rfl (hear_in_w h20) ?_
    refine ov (v_notB rfl) rfl ?_
    refine shO_nil ?_
    refine shW_cond rfl (fun c22 => ?_) (fun c22 => ?_)
    · have r23 := bt r21 c22; clear r21
      refine shW_seq ?_
      refine shW_region ?_
      refine ov (v_assign rfl) rfl ?_
      refine ov (v_assign rfl) rfl ?_
      refine shO_nil ?_
      refine shW_drop (L' := []) ((List.Sublist.cons _ ((List.Sublist.cons _ (((List.Sublist.refl _).trans (List.sublist_append_right _ _))))))) ?_
      refine shW_ret ?_
      refine andThen_ret ?_
      refine noGoto_ret ?_
      refine q_res2 Try.results29 (res_tmp rfl) (res_tmp rfl) (List.Sublist.refl _) ?_
      obtain ⟨rfl, rfl⟩ := inj2 r23
      exact rfl
    · have r24 := bf r21 c22; clear r21
      refine shW_skip ?_
      refine shW_seq ?_
      refine shW_region ?_
      refine ov (v_assign rfl) rfl ?_
      refine shO_nil ?_
      refine shW_seq ?_
      refine shW_label ?_
      obtain ⟨out, h25, r26⟩ := b1_ok r24; clear r24
      refine shW_join (fun e1 F1 L1 => FExt F4 F1 ∧ L1 = [] ∧ e1.sub [(12, .int .i64 out)]) ?_ ?_
      · clear r26
        refine shW_seq ?_
        refine shW_region ?_
        refine ov (v_move rfl) rfl ?_
        refine shO_nil ?_
        refine shW_block ?_
        refine shW_perm (L' := (b1, .cells #[.int .i64 wide, .slice plots_a plots.length plots_c] 24 (0, 0)) :: ((b16, .cells #[.slice a8 n12 c9, v14] 121 (0, 0)) :: (Lb10 ++ []))) (((frontC (frO)).trans (List.Perm.cons _ (List.Perm.refl _)))) ?_
        refine shW_drop (L' := [(b1, .cells #[.int .i64 wide, .slice plots_a plots.length plots_c] 24 (0, 0))]) ((List.Sublist.cons_cons _ ((List.Sublist.cons _ (((List.Sublist.refl _).trans (List.sublist_append_right _ _))))))) ?_
        obtain ⟨g27, r28⟩ := gd_ok h25; clear h25
        refine shW_lp (fun fu1 e1 F1 L1 => ∃ (k : Int), Ctr 0 40 k fu1 ∧ hear_Louder_l1 wide plots wind houses stands fu1 k = some out ∧ FExt F4 F1 ∧ L1 = [(b1, .cells #[.int .i64 wide, .slice plots_a plots.length plots_c] 24 (0, 0))] ∧ e1.sub [(1, .int .i64 wind), (2, .slice houses_a houses.length houses_c), (3, .int .i64 stands), (4, .pointer (some ⟨b1, 0, none⟩)), (12, .int .i64 0), (32, .int .i64 k)]) _ (meet_0 (L2 := [(b1, .cells #[.int .i64 wide, .slice plots_a plots.length plots_c] 24 (0, 0))]) (L3 := [(b1, .cells #[.int .i64 wide, .slice plots_a plots.length plots_c] 24 (0, 0))]) (List.Perm.refl _) (List.Sublist.refl _) ⟨_, Ctr.start _ _, r28, FExt.refl _, rfl, (sc rfl (sc rfl (sc rfl (sc rfl (sc rfl (sc rfl (sn _)))))))⟩) ?_
        rintro fu1 e1 F33 _ ⟨k, hk29, r31, hF34, rfl, he32⟩
        refine shW_env _ he32 ?_; clear he32
        replace h_plots := h_plots.mono (iE_ok _) hF34
        replace h_houses := h_houses.mono (iE_ok _) hF34
        refine shW_seq ?_
        refine shW_region ?_
        refine ov (v_lssK rfl rfl) rfl ?_
        refine shO_nil ?_
        refine shW_seq ?_
        refine shW_condP rfl (fun c36 => ?_) (fun c36 => ?_)
        · obtain ⟨fu1, rfl, hk37⟩ := Ctr.succ hk29 c36
          rw [hear_Louder_l1] at r31
          refine shW_skip ?_
          refine shW_seq ?_
          refine shW_block ?_
          refine shW_seq ?_
          refine shW_region ?_
          refine ov (v_move rfl) rfl ?_
          refine ov (v_assign rfl) rfl ?_
          refine shO_nil ?_
          refine shW_seq ?_
          refine shW_region ?_
          refine ov (v_loadA (cs := #[.int .i64 wide, .slice plots_a plots.length plots_c]) Try.isAgg24 Try.sizeOf24 rfl (Has.own 0 rfl) (Nat.le_of_ble_eq_true rfl) rfl) rfl ?_
          refine ov (v_move rfl) rfl ?_
          refine ov (v_move rfl) rfl ?_
          refine ov (v_add rfl rfl (Ctr.r64 hk29 c36 g27)) rfl ?_
          refine ov (v_build (v := .agg #[.int .i64 wind, .int .i64 (k + 1)]) rfl (by intro w; kernel_rfl)) rfl ?_
          refine ov (v_move rfl) rfl ?_
          obtain ⟨l2, y2, n2, h38, r39⟩ := b3_ok r31; clear r31
          refine o_call0 rfl Try.call88 rfl rfl rfl (hear_asked_w h_plots h_houses h38) ?_; rintro _ F40 _ hF41 hn42 ⟨a44, n48, c45, Lb46, v50, rfl, rfl, hz47, hp51⟩
          replace h_plots := h_plots.mono (iE_ok _) hF41
          replace h_houses := h_houses.mono (iE_ok _) hF41
          replace hz47 := hz47.new fun p hp => hn42 p (by simp [hp])
          refine shO_L (L' := Lb46 ++ ((b1, .cells #[.int .i64 wide, .slice plots_a plots.length plots_c] 24 (0, 0)) :: [])) (by simp only [List.nil_append, List.cons_append, List.append_assoc, List.append_nil] <;> rfl) ?_
          refine shO_perm (L' := (b1, .cells #[.int .i64 wide, .slice plots_a plots.length plots_c] 24 (0, 0)) :: (Lb46 ++ [])) (((frontS (frO)).trans (List.Perm.cons _ (List.Perm.refl _)))) ?_
          refine ov (v_move rfl) rfl ?_
          refine ov (v_extract rfl rfl) rfl ?_
          refine ov (v_extract rfl rfl) rfl ?_
          refine o_alloc rfl Try.zeroValue121 ?_; intro b52 hb52
          refine o_storeA (i := 0) Try.sizeOf121 rfl rfl rfl (List.forall_mem_cons.2 ⟨rfl, (List.forall_mem_cons.2 ⟨hp51.1, (fun _ h => absurd h List.not_mem_nil)⟩)⟩) rfl (Nat.le_of_ble_eq_true rfl) ?_
          refine shO_L (L' := (b52, .cells #[.slice a44 n48 c45, v50] 121 (0, 0)) :: ((b1, .cells #[.int .i64 wide, .slice plots_a plots.length plots_c] 24 (0, 0)) :: (Lb46 ++ []))) rfl ?_
          refine ov (v_assign rfl) rfl ?_
          refine shO_nil ?_
          refine shW_seq ?_
          refine shW_region ?_
          refine ov (v_loadA (cs := #[.slice a44 n48 c45, v50]) Try.isAgg121 Try.sizeOf121 rfl (Has.own 0 rfl) (Nat.le_of_ble_eq_true rfl) rfl) rfl ?_
          refine ov (v_move rfl) rfl ?_
          obtain rfl := (SlR.caps hz47).1
          refine shO_freezeR (Nat.le_refl _) (arE_ok (n := 30) (sz := 1) cB_ok) (frontC (frontC (List.Perm.refl _))) hz47 ?_; intro F53 hF54 h55
          replace h_plots := h_plots.mono (iE_ok _) hF54
          replace h_houses := h_houses.mono (iE_ok _) hF54
          obtain ⟨g56, r57⟩ := gd_ok r39; clear r39
          obtain rfl := hp51.2 g56
          have hn58 : FnR Try.prog F53 127 #[] #[] (iE .i64) (Value.int .i64) (fun x : Int => hear_ones x) := ⟨Try.call127, fun F2 h2 vs x r ha hr => by obtain rfl := ha; exact hear_ones_w hr⟩
          obtain ⟨l3, n3, h59, r60⟩ := b2_ok r57; clear r57
          refine o_call0 rfl Try.call90 rfl rfl rfl (hear_quarter_chosen_w h55 hn58 h59) ?_; rintro _ F61 _ hF62 hn63 ⟨a65, n69, c66, Lb67, rfl, rfl, hz68⟩
          replace h_plots := h_plots.mono (iE_ok _) hF62
          replace h_houses := h_houses.mono (iE_ok _) hF62
          replace h55 := h55.mono (arE_ok (n := 30) (sz := 1) cB_ok) hF62
          replace hn58 := hn58.mono hF62
          replace hz68 := hz68.new fun p hp => hn63 p (by simp [hp])
          refine shO_L (L' := Lb67 ++ ((b52, .cells (#[.slice a44 l2.length c45, .func (.func 127) #[] #[]]) 121 (0, 0)) :: ((b1, .cells #[.int .i64 wide, .slice plots_a plots.length plots_c] 24 (0, 0)) :: []))) (by simp only [List.nil_append, List.cons_append, List.append_assoc, List.append_nil] <;> rfl) ?_
          refine shO_perm (L' := (b52, .cells (#[.slice a44 l2.length c45, .func (.func 127) #[] #[]]) 121 (0, 0)) :: ((b1, .cells #[.int .i64 wide, .slice plots_a plots.length plots_c] 24 (0, 0)) :: (Lb67 ++ []))) (((frontS (frO)).trans (List.Perm.cons _ (((frontS (frO)).trans (List.Perm.cons _ (List.Perm.refl _))))))) ?_
          refine ov (v_move rfl) rfl ?_
          refine ov (v_extract rfl rfl) rfl ?_
          refine ov (v_extract rfl rfl) rfl ?_
          refine ov (v_assign rfl) rfl ?_
          refine ov (v_assign rfl) rfl ?_
          refine shO_nil ?_
          refine shW_seq ?_
          refine shW_region ?_
          refine ov (v_move rfl) rfl ?_
          refine ov (v_move rfl) rfl ?_
          refine ov (v_lenS Try.underlying26 rfl) rfl ?_
          refine ov (v_eql rfl rfl) rfl ?_
          refine shO_nil ?_
          refine shW_condP rfl (fun c71 => ?_) (fun c71 => ?_)
          · have r72 := ite_t r60 c71; clear r60
            refine shW_seq ?_
            refine shW_region ?_
            refine ov (v_move rfl) rfl ?_
            refine ov (v_add rfl rfl (Ctr.r64 hk29 c36 g27)) rfl ?_
            refine ov (v_assign rfl) rfl ?_
            refine shO_nil ?_
            refine shW_exit ?_
            refine inBlock_other rfl ?_
            refine andThen_exit ?_
            refine andThen_exit ?_
            refine inBlock_exit ?_
            obtain rfl := inj1 r72
            refine meet_i (L2 := []) (L3 := (b52, .cells (#[.slice a44 l2.length c45, .func (.func 127) #[] #[]]) 121 (0, 0)) :: ((b1, .cells #[.int .i64 wide, .slice plots_a plots.length plots_c] 24 (0, 0)) :: (Lb67 ++ []))) (List.Perm.refl _) ((List.Sublist.cons _ ((List.Sublist.cons _ (((List.Sublist.refl _).trans (List.sublist_append_right _ _))))))) ?_
            exact ⟨(((hF34.trans hF41).trans hF54).trans hF62), rfl, (sc rfl (sn _))⟩
          · have r73 := ite_f r60 c71; clear r60
            refine shW_skip ?_
            refine inBlock_n (id := 1) ?_
            refine shW_region ?_
            refine ov (v_add rfl rfl (Ctr.r64 hk29 c36 g27)) rfl ?_
            refine ov (v_move rfl) rfl ?_
            refine shO_nil ?_
            exact lp_end (Nat.lt_succ_self _) (meet_0 (L2 := [(b1, .cells #[.int .i64 wide, .slice plots_a plots.length plots_c] 24 (0, 0))]) (L3 := (b1, .cells #[.int .i64 wide, .slice plots_a plots.length plots_c] 24 (0, 0)) :: ((b52, .cells (#[.slice a44 l2.length c45, .func (.func 127) #[] #[]]) 121 (0, 0)) :: (Lb67 ++ []))) (((frontC (frO)).trans (List.Perm.cons _ (List.Perm.refl _)))) ((List.Sublist.cons_cons _ ((List.Sublist.cons _ (((List.Sublist.refl _).trans (List.sublist_append_right _ _))))))) ⟨_, hk37, r73, (((hF34.trans hF41).trans hF54).trans hF62), rfl, (sc rfl (sc rfl (sc rfl (sc rfl (sc rfl (sc rfl (sn _)))))))⟩)
        · obtain rfl := Ctr.zero hk29 c36
          rw [hear_Louder_l1] at r31
          refine shW_exit ?_
          refine andThen_exit ?_
          refine andThen_exit ?_
          refine inBlock_exit ?_
          obtain rfl := inj1 r31
          refine meet_i (L2 := []) (L3 := [(b1, .cells #[.int .i64 wide, .slice plots_a plots.length plots_c] 24 (0, 0))]) (List.Perm.refl _) ((List.Sublist.cons _ (List.Sublist.refl _))) ?_
          exact ⟨hF34, rfl, (sc rfl (sn _))⟩
      · rintro e1 F75 _ ⟨hF76, rfl, he74⟩
        refine shW_env _ he74 ?_; clear he74
        replace h_plots := h_plots.mono (iE_ok _) hF76
        replace h_houses := h_houses.mono (iE_ok _) hF76
        refine shW_seq ?_
        refine shW_seq ?_
        refine shW_region ?_
        refine ov (v_move rfl) rfl ?_
        refine ov (v_eql rfl rfl) rfl ?_
        refine shO_nil ?_
        refine shW_condP rfl (fun c77 => ?_) (fun c77 => ?_)
        · have r78 := ite_t r26 c77; clear r26
          refine shW_seq ?_
          refine shW_region ?_
          refine ov (v_assign rfl) rfl ?_
          refine ov (v_assign rfl) rfl ?_
          refine shO_nil ?_
          refine shW_ret ?_
          refine andThen_ret ?_
          refine noGoto_ret ?_
          refine q_res2 Try.results29 (res_tmp rfl) (res_tmp rfl) (List.Sublist.refl _) ?_
          obtain ⟨rfl, rfl⟩ := inj2 r78
          exact rfl
        · have r79 := ite_f r26 c77; clear r26
          refine shW_skip ?_
          refine shW_seq ?_
          refine shW_region ?_
          refine ov (v_move rfl) rfl ?_
          refine ov (v_assign rfl) rfl ?_
          refine ov (v_assign rfl) rfl ?_
          refine shO_nil ?_
          refine shW_ret ?_
          refine noGoto_ret ?_
          refine q_res2 Try.results29 (res_tmp rfl) (res_tmp rfl) (List.Sublist.refl _) ?_
          obtain ⟨rfl, rfl⟩ := inj2 r79
          exact rfl


set_option maxHeartbeats 1000000 in
theorem slices_Reverse_int_int_w {s__a : Option Addr} {s__n : Nat} {s__c : Nat} {s__L : LH} {s_ : List Int} {s__nb : Nat} {F : FS} (h_s_ : SlR s__nb 3 1 (iE .i64) F s__a s__n s__c s_ s__L) {r : List Int} (hr : slices_Reverse_int_int s_ = some r) :
    SH.Spec Try.prog 102 #[.slice s__a s__n s__c] F (s__L ++ []) fun F' L' v => ∃ (rL : LH), v = .tuple #[] ∧ L' = rL ++ [] ∧ SlR s__nb 3 1 (iE .i64) F' s__a s__n s__c r rL := by
  refine spec_of_shW (args := [.slice s__a s__n s__c]) Try.func102 rfl Try.ntmps102 (Nat.le_of_ble_eq_true rfl) ?_
  intro K _ _; rw [slices_Reverse_int_int] at hr
  refine shW_L (L' := s__L ++ []) (by simp) ?_
  refine shW_seq ?_
  refine shW_region ?_
  refine ov (v_move rfl) rfl ?_
  refine ov ((v_lenS Try.underlying26 rfl).i (SlR.lenI h_s_)) rfl ?_
  obtain ⟨g1, r2⟩ := gd_ok hr; clear hr
  refine ov (v_sub rfl rfl g1) rfl ?_
  refine ov (v_assign rfl) rfl ?_
  refine ov (v_assign rfl) rfl ?_
  refine shO_nil ?_
  refine shW_block ?_
  refine shW_lp (fun fu1 e1 F1 L1 => ∃ (s_2 : List Int) (i : Int) (j : Int) (Lb3 : LH), slices_Reverse_int_int_l1 fu1 s_2 i j = some r ∧ F = F1 ∧ L1 = (Lb3 ++ []) ∧ e1.sub [(0, .slice s__a s__n s__c), (2, .int .i64 i), (3, .int .i64 j)] ∧ SlR s__nb 3 1 (iE .i64) F1 s__a s__n s__c s_2 Lb3) FU (meet_0 (L2 := s__L ++ []) (L3 := s__L ++ []) (List.Perm.refl _) (List.Sublist.refl _) ⟨s_, 0, (s_.length : Int) - 1, s__L, r2, rfl, rfl, (sc rfl (sc rfl (sc rfl (sn _)))), h_s_⟩) ?_
  rintro fu1 e1 _ _ ⟨s_2, i, j, Lb3, r7, rfl, rfl, he8, hz4⟩
  refine shW_env _ he8 ?_; clear he8
  rcases fu1 with _ | fu1
  · rw [slices_Reverse_int_int_l1] at r7; cases r7
  rw [slices_Reverse_int_int_l1] at r7
  refine shW_seq ?_
  refine shW_seq ?_
  refine shW_region ?_
  refine ov (v_move rfl) rfl ?_
  refine ov (v_move rfl) rfl ?_
  refine ov (v_lssK rfl rfl) rfl ?_
  refine shO_nil ?_
  refine shW_condP rfl (fun c9 => ?_) (fun c9 => ?_)
  · have r10 := ite_t r7 c9; clear r7
    refine shW_skip ?_
    refine shW_seq ?_
    refine shW_block ?_
    refine shW_drawM [(.still, 0), (.still, 1), (.still, 2), (.still, 3), (.still, 4), (.still, 5), (.still, 6), (.still, 7), (.still, 8), (.still, 9), (.still, 10), (.still, 11), (.still, 12), (.seq, 13), (.still, 14), (.seq, 15)] (by kernel_rfl) (by kernel_rfl) (trivial) (by rfl) ?_
    refine shM_v (v := .slice s__a s__n s__c) (ek := [(0, .slice s__a s__n s__c)]) (Ls := []) rfl rfl rfl rfl ((sc rfl (sn _))) (by kernel_rfl) (fun p hp => (((List.Sublist.refl _).trans (List.sublist_append_right _ _))).subset hp) (fun H F' L' hF' hL' => v_move rfl) ?_
    refine shM_v (v := .int .i64 i) (ek := [(2, .int .i64 i)]) (Ls := []) rfl rfl rfl rfl ((sc rfl (sn _))) (by kernel_rfl) (fun p hp => (((List.Sublist.refl _).trans (List.sublist_append_right _ _))).subset hp) (fun H F' L' hF' hL' => v_move rfl) ?_
    refine shM_v (v := .slice s__a s__n s__c) (ek := [(0, .slice s__a s__n s__c)]) (Ls := []) rfl rfl rfl rfl ((sc rfl (sn _))) (by kernel_rfl) (fun p hp => (((List.Sublist.refl _).trans (List.sublist_append_right _ _))).subset hp) (fun H F' L' hF' hL' => v_move rfl) ?_
    refine shM_v (v := .int .i64 j) (ek := [(3, .int .i64 j)]) (Ls := []) rfl rfl rfl rfl ((sc rfl (sn _))) (by kernel_rfl) (fun p hp => (((List.Sublist.refl _).trans (List.sublist_append_right _ _))).subset hp) (fun H F' L' hF' hL' => v_move rfl) ?_
    refine shM_v (v := .slice s__a s__n s__c) (ek := [(0, .slice s__a s__n s__c)]) (Ls := []) rfl rfl rfl rfl ((sc rfl (sn _))) (by kernel_rfl) (fun p hp => (((List.Sublist.refl _).trans (List.sublist_append_right _ _))).subset hp) (fun H F' L' hF' hL' => v_move rfl) ?_
    refine shM_v (v := .int .i64 j) (ek := [(3, .int .i64 j)]) (Ls := []) rfl rfl rfl rfl ((sc rfl (sn _))) (by kernel_rfl) (fun p hp => (((List.Sublist.refl _).trans (List.sublist_append_right _ _))).subset hp) (fun H F' L' hF' hL' => v_move rfl) ?_
    obtain ⟨x, g11, hx12, r13⟩ := ix_ok r10; clear r10
    obtain ⟨b14, o15, c16, vs17, ha18, hs19, hle20, rfl, hl21, hc22⟩ := SlR.at (iE_ok _) hz4 (L := Lb3 ++ []) (List.Perm.refl _) g11.1 hx12
    refine shM_v (v := .pointer (some ⟨b14, o15 + (j : Int).toNat * 1, none⟩)) (ek := [(18, .slice s__a s__n s__c), (19, .int .i64 j)]) (Ls := []) rfl rfl rfl rfl ((sc rfl (sc rfl (sn _)))) (by kernel_rfl) (fun p hp => (((List.Sublist.refl _).trans (List.sublist_append_right _ _))).subset hp) (fun H F' L' hF' hL' => v_indexO Try.underlying26 Try.sizeOf3 rfl ha18 rfl (SlR.idx hz4 g11)) ?_
    refine shM_v (v := .int .i64 x) (ek := [(20, .pointer (some ⟨b14, o15 + (j : Int).toNat * 1, none⟩))]) (Ls := Lb3 ++ []) rfl rfl rfl rfl ((sc rfl (sn _))) (by kernel_rfl) (fun p hp => (List.Sublist.refl _).subset hp) (fun H F' L' hF' hL' => v_load Try.isAgg3 rfl (hs19.ext hF' hL') (hc22 0 (by decide))) ?_
    refine shM_v (v := .slice s__a s__n s__c) (ek := [(0, .slice s__a s__n s__c)]) (Ls := []) rfl rfl rfl rfl ((sc rfl (sn _))) (by kernel_rfl) (fun p hp => (((List.Sublist.refl _).trans (List.sublist_append_right _ _))).subset hp) (fun H F' L' hF' hL' => v_move rfl) ?_
    refine shM_v (v := .int .i64 i) (ek := [(2, .int .i64 i)]) (Ls := []) rfl rfl rfl rfl ((sc rfl (sn _))) (by kernel_rfl) (fun p hp => (((List.Sublist.refl _).trans (List.sublist_append_right _ _))).subset hp) (fun H F' L' hF' hL' => v_move rfl) ?_
    obtain ⟨x2, g23, hx24, r25⟩ := ix_ok r13; clear r13
    obtain ⟨b26, o27, c28, vs29, ha30, hs31, hle32, rfl, hl33, hc34⟩ := SlR.at (iE_ok _) hz4 (L := Lb3 ++ []) (List.Perm.refl _) g23.1 hx24
    refine shM_v (v := .pointer (some ⟨b26, o27 + (i : Int).toNat * 1, none⟩)) (ek := [(22, .slice s__a s__n s__c), (23, .int .i64 i)]) (Ls := []) rfl rfl rfl rfl ((sc rfl (sc rfl (sn _)))) (by kernel_rfl) (fun p hp => (((List.Sublist.refl _).trans (List.sublist_append_right _ _))).subset hp) (fun H F' L' hF' hL' => v_indexO Try.underlying26 Try.sizeOf3 rfl ha30 rfl (SlR.idx hz4 g23)) ?_
    refine shM_v (v := .int .i64 x2) (ek := [(24, .pointer (some ⟨b26, o27 + (i : Int).toNat * 1, none⟩))]) (Ls := Lb3 ++ []) rfl rfl rfl rfl ((sc rfl (sn _))) (by kernel_rfl) (fun p hp => (List.Sublist.refl _).subset hp) (fun H F' L' hF' hL' => v_load Try.isAgg3 rfl (hs31.ext hF' hL') (hc34 0 (by decide))) ?_
    obtain ⟨b35, o36, c37, vs38, ha39, hs40, hle41, rfl, hl42, hc43⟩ := SlR.at (iE_ok _) hz4 (L := Lb3 ++ []) (List.Perm.refl _) g23.1 hx24
    refine shM_v (v := .pointer (some ⟨b35, o36 + (i : Int).toNat * 1, none⟩)) (ek := [(14, .slice s__a s__n s__c), (15, .int .i64 i)]) (Ls := []) rfl rfl rfl rfl ((sc rfl (sc rfl (sn _)))) (by kernel_rfl) (fun p hp => (((List.Sublist.refl _).trans (List.sublist_append_right _ _))).subset hp) (fun H F' L' hF' hL' => v_indexO Try.underlying26 Try.sizeOf3 rfl ha39 rfl (SlR.idx hz4 g23)) ?_
    refine ⟨_, [(21, .int .i64 x), (26, .pointer (some ⟨b35, o36 + (i : Int).toNat * 1, none⟩))], rfl, rfl, (sc rfl (sc rfl (sn _))), by kernel_rfl, ?_⟩; intro H
    obtain ⟨l, h44, r45⟩ := bv_ok r25; clear r25
    refine o_storeZ (u := x) Try.sizeOf3 (iE_ok _) rfl ha39 rfl rfl (fun _ => .h) hz4 h44 g23 ?_; intro Lb46 hz47
    refine shO_nil ⟨undef, rfl, FExt.refl _, [3, 2], by kernel_rfl, .inr (fun d h => by cases h), (List.forall_mem_cons.2 ⟨fun p hp => (((List.Sublist.refl _).trans (List.sublist_append_right _ _))).subset hp, (List.forall_mem_cons.2 ⟨fun p hp => (((List.Sublist.refl _).trans (List.sublist_append_right _ _))).subset hp, (fun _ h => absurd h List.not_mem_nil)⟩)⟩), ?_⟩
    obtain ⟨x3, g48, hx49, r50⟩ := ix_ok r45; clear r45
    obtain ⟨b51, o52, c53, vs54, ha55, hs56, hle57, rfl, hl58, hc59⟩ := SlR.at (iE_ok _) hz47 (L := Lb46 ++ []) (List.Perm.refl _) g48.1 hx49
    refine shM_v (v := .pointer (some ⟨b51, o52 + (j : Int).toNat * 1, none⟩)) (ek := [(16, .slice s__a s__n s__c), (17, .int .i64 j)]) (Ls := []) rfl rfl rfl rfl ((sc rfl (sc rfl (sn _)))) (by kernel_rfl) (fun p hp => (((List.Sublist.refl _).trans (List.sublist_append_right _ _))).subset hp) (fun H F' L' hF' hL' => v_indexO Try.underlying26 Try.sizeOf3 rfl ha55 rfl (SlR.idx hz47 g48)) ?_
    refine ⟨_, [(25, .int .i64 x2), (27, .pointer (some ⟨b51, o52 + (j : Int).toNat * 1, none⟩))], rfl, rfl, (sc rfl (sc rfl (sn _))), by kernel_rfl, ?_⟩; intro H
    obtain ⟨l2, h60, r61⟩ := bv_ok r50; clear r50
    refine o_storeZ (u := x2) Try.sizeOf3 (iE_ok _) rfl ha55 rfl rfl (fun _ => .h) hz47 h60 g48 ?_; intro Lb62 hz63
    refine shO_nil ⟨undef, rfl, FExt.refl _, [], by kernel_rfl, .inl rfl, (fun _ h => absurd h List.not_mem_nil), ?_⟩
    refine shM_nil ?_
    refine inBlock_n (id := 1) ?_
    refine shW_region ?_
    refine ov (v_move rfl) rfl ?_
    obtain ⟨g64, r65⟩ := gd_ok r61; clear r61
    refine ov (v_add rfl rfl g64) rfl ?_
    refine ov (v_move rfl) rfl ?_
    obtain ⟨g66, r67⟩ := gd_ok r65; clear r65
    refine ov (v_sub rfl rfl g66) rfl ?_
    refine ov (v_assign rfl) rfl ?_
    refine ov (v_assign rfl) rfl ?_
    refine shO_nil ?_
    exact lp_end (Nat.lt_succ_self _) (meet_0 (L2 := Lb62 ++ []) (L3 := Lb62 ++ []) (List.Perm.refl _) (List.Sublist.refl _) ⟨l2, i + 1, j - 1, Lb62, r67, rfl, rfl, (sc rfl (sc rfl (sc rfl (sn _)))), hz63⟩)
  · have r68 := ite_f r7 c9; clear r7
    refine shW_exit ?_
    refine andThen_exit ?_
    refine andThen_exit ?_
    refine inBlock_exit ?_
    refine q_end0 (.inr rfl) Try.results102 ?_
    obtain rfl := inj1 r68
    exact ⟨_, rfl, rfl, hz4⟩


set_option maxHeartbeats 1000000 in
theorem hear_Way_w {wide : Int} {plots_a : Option Addr} {plots_c : Nat} {plots : List Int} {wind : Int} {stand : Int} {plot : Int} {F : FS} (h_plots : RowR 1 (iE .i64) F plots_a plots_c plots) {r : List Int} {r2 : Int} (hr : hear_Way wide plots wind stand plot = some (r, r2)) :
    SH.Spec Try.prog 47 #[.agg #[.int .i64 wide, .slice plots_a plots.length plots_c], .int .i64 wind, .int .i64 stand, .int .i64 plot] F [] fun F' L' v => ∃ (ra : Option Addr) (rn : Nat) (rc : Nat) (rL : LH), v = .tuple #[.slice ra rn rc, .int .i64 r2] ∧ L' = rL ++ [] ∧ SlR 0 3 1 (iE .i64) F' ra rn rc r rL := by
  refine spec_of_shW (args := [.agg #[.int .i64 wide, .slice plots_a plots.length plots_c], .int .i64 wind, .int .i64 stand, .int .i64 plot]) Try.func47 rfl Try.ntmps47 (Nat.le_of_ble_eq_true rfl) ?_
  intro K _ _; rw [hear_Way] at hr
  refine shW_seq ?_
  refine shW_region ?_
  refine o_box rfl rfl ?_; intro b1 hb1
  refine ov (v_assign rfl) rfl ?_
  refine ov (v_assign rfl) rfl ?_
  refine shO_nil ?_
  refine shW_seq ?_
  refine shW_seq ?_
  refine shW_region ?_
  refine ov (v_loadA (cs := #[.int .i64 wide, .slice plots_a plots.length plots_c]) Try.isAgg24 Try.sizeOf24 rfl (Has.own 0 rfl) (Nat.le_of_ble_eq_true rfl) rfl) rfl ?_
  refine ov (v_move rfl) rfl ?_
  refine ov (v_move rfl) rfl ?_
  refine ov (v_move rfl) rfl ?_
  obtain ⟨n, n2, h2, r3⟩ := b2_ok hr; clear hr
  refine o_callV rfl Try.call19 rfl rfl rfl (hear_Need_w h_plots h2) ?_
  refine ov (v_move rfl) rfl ?_
  refine ov (v_extract rfl rfl) rfl ?_
  refine ov (v_extract rfl rfl) rfl ?_
  refine ov (v_assign rfl) rfl ?_
  refine ov (v_assign rfl) rfl ?_
  refine shO_nil ?_
  refine shW_seq ?_
  refine shW_region ?_
  refine ov (v_move rfl) rfl ?_
  refine ov (v_neq rfl rfl) rfl ?_
  refine shO_nil ?_
  refine shW_condP rfl (fun c4 => ?_) (fun c4 => ?_)
  · have r5 := ite_t r3 c4; clear r3
    refine shW_seq ?_
    refine shW_region ?_
    refine ov (v_move rfl) rfl ?_
    refine ov (v_assign rfl) rfl ?_
    refine ov (v_assign rfl) rfl ?_
    refine shO_nil ?_
    refine shW_drop (L' := []) ((List.Sublist.cons _ (List.Sublist.refl _))) ?_
    refine shW_ret ?_
    refine andThen_ret ?_
    refine q_res2 Try.results47 (res_tmp rfl) (res_tmp rfl) (List.Sublist.refl _) ?_
    obtain ⟨rfl, rfl⟩ := inj2 r5
    exact ⟨_, _, _, [], rfl, rfl, SlR.nil _ _ _ _ _⟩
  · have r6 := ite_f r3 c4; clear r3
    refine shW_skip ?_
    refine shW_seq ?_
    refine shW_region ?_
    refine ov (v_loadA (cs := #[.int .i64 wide, .slice plots_a plots.length plots_c]) Try.isAgg24 Try.sizeOf24 rfl (Has.own 0 rfl) (Nat.le_of_ble_eq_true rfl) rfl) rfl ?_
    refine ov (v_move rfl) rfl ?_
    obtain ⟨d, n3, h7, r8⟩ := b2_ok r6; clear r6
    refine o_call0 rfl Try.call101 rfl rfl rfl (hear_opened_w h_plots h7) ?_; rintro _ F9 _ hF10 hn11 ⟨v13, rfl, rfl, hp14⟩
    replace h_plots := h_plots.mono (iE_ok _) hF10
    refine shO_L (L' := [(b1, .cells #[.int .i64 wide, .slice plots_a plots.length plots_c] 24 (0, 0))]) rfl ?_
    refine ov (v_move rfl) rfl ?_
    refine ov (v_extract rfl rfl) rfl ?_
    refine ov (v_extract rfl rfl) rfl ?_
    refine ov (v_assign rfl) rfl ?_
    refine ov (v_assign rfl) rfl ?_
    refine shO_nil ?_
    refine shW_seq ?_
    refine shW_region ?_
    refine ov (v_move rfl) rfl ?_
    refine ov (v_move rfl) rfl ?_
    obtain ⟨wide2, plots2, down, right_, blows, h15, r16⟩ := b5_ok r8; clear r8
    have h25 := hp14; rw [h15] at h25; obtain ⟨b17, c18, m19, hv20, hz21, ⟨_, _, rfl, rfl, ⟨_, _, rfl, ⟨a22, c23, rfl, h24⟩, ⟨_, _, rfl, rfl, ⟨_, _, rfl, rfl, rfl⟩⟩⟩⟩⟩ := h25; subst hv20
    have hz21 : F9 b17 = some (.cells #[.int .i64 wide2, .slice a22 plots2.length c23, .int .i64 down, .int .i64 right_, .bool blows] 159 m19) := hz21
    obtain ⟨l, h26, r27⟩ := b1_ok r16; clear r16
    refine o_call0 rfl Try.call80 rfl rfl rfl (hear_desk_from_w hz21 h24 h26) ?_; rintro _ F28 _ hF29 hn30 ⟨a32, n36, c33, Lb34, rfl, rfl, hz35⟩
    replace h_plots := h_plots.mono (iE_ok _) hF29
    replace hp14 := hp14.mono (prE_ok (iE_ok _) (prE_ok (slE_ok (iE_ok _)) (prE_ok (iE_ok _) (prE_ok (iE_ok _) bE_ok)))) hF29
    replace h24 := h24.mono (iE_ok _) hF29
    replace hz21 := hF29 _ _ hz21
    replace hz35 := hz35.new fun p hp => hn30 p (by simp [hp])
    refine shO_L (L' := Lb34 ++ ((b1, .cells #[.int .i64 wide, .slice plots_a plots.length plots_c] 24 (0, 0)) :: [])) (by simp only [List.nil_append, List.cons_append, List.append_assoc, List.append_nil] <;> rfl) ?_
    refine shO_perm (L' := (b1, .cells #[.int .i64 wide, .slice plots_a plots.length plots_c] 24 (0, 0)) :: (Lb34 ++ [])) (((frontS (frO)).trans (List.Perm.cons _ (List.Perm.refl _)))) ?_
    refine o_alloc rfl Try.zeroValue26 ?_; intro b38 hb38
    refine o_store (i := 0) Try.sizeOf26 rfl rfl rfl rfl (Nat.le_of_ble_eq_true rfl) ?_
    refine shO_L (L' := (b38, .cells #[.slice a32 n36 c33] 26 (0, 0)) :: ((b1, .cells #[.int .i64 wide, .slice plots_a plots.length plots_c] 24 (0, 0)) :: (Lb34 ++ []))) rfl ?_
    refine shO_nil ?_
    refine shW_seq ?_
    refine shW_region ?_
    refine ov (v_move rfl) rfl ?_
    refine o_buildSlice (cs := #[.int .i64 plot]) rfl rfl (buildSlice_all slt_26 [.int .i64 plot] rfl (by decide) (by simp [Value.cells]) (by decide)) ?_; intro b39 hb39
    have hz41 : SlR K.w0.heap.size 3 1 (iE .i64) F28 (some ⟨b39, 0, none⟩) 1 1 [plot] [(b39, .cells #[.int .i64 plot] 3 (0, 0))] := SlR.of_block (vss := [[.int .i64 plot]]) (iE_ok _) hb39 (.cons rfl .nil) rfl rfl (by simp [maxLen])
    generalize hLLb40 : ([(b39, .cells #[.int .i64 plot] 3 (0, 0))] : LH) = Lb40 at hz41
    refine shO_perm (L' := Lb40 ++ ((b38, .cells #[.slice a32 n36 c33] 26 (0, 0)) :: ((b1, .cells #[.int .i64 wide, .slice plots_a plots.length plots_c] 24 (0, 0)) :: (Lb34 ++ [])))) (by rw [← hLLb40]; exact (frO)) ?_
    refine shO_perm (L' := (b38, .cells #[.slice a32 n36 c33] 26 (0, 0)) :: ((b1, .cells #[.int .i64 wide, .slice plots_a plots.length plots_c] 24 (0, 0)) :: (Lb40 ++ (Lb34 ++ [])))) (List.Perm.symm (frontC (frontC (List.Perm.refl _)))) ?_
    refine ov (v_assign rfl) rfl ?_
    refine shO_nil ?_
    obtain ⟨out, h49, r50⟩ := b1_ok r27; clear r27
    refine shW_join (fun e1 F1 L1 => ∃ (a43 : Option Addr) (n47 : Nat) (c44 : Nat) (Lb45 : LH), FExt F28 F1 ∧ L1 = (Lb45 ++ []) ∧ e1.sub [(15, .slice a43 n47 c44)] ∧ SlR K.w0.heap.size 3 1 (iE .i64) F1 a43 n47 c44 out Lb45) ?_ ?_
    · clear r50
      refine shW_seq ?_
      refine shW_region ?_
      refine ov (v_move rfl) rfl ?_
      refine o_alloc rfl Try.zeroValue3 ?_; intro b51 hb51
      refine o_store (i := 0) Try.sizeOf3 rfl rfl rfl rfl (Nat.le_of_ble_eq_true rfl) ?_
      refine shO_L (L' := (b51, .cells #[.int .i64 plot] 3 (0, 0)) :: ((b38, .cells #[.slice a32 n36 c33] 26 (0, 0)) :: ((b1, .cells #[.int .i64 wide, .slice plots_a plots.length plots_c] 24 (0, 0)) :: (Lb40 ++ (Lb34 ++ []))))) rfl ?_
      refine shO_nil ?_
      refine shW_block ?_
      refine shW_lp (fun fu1 e1 F1 L1 => ∃ (out2 : List Int) (p : Int) (a52 : Option Addr) (n56 : Nat) (c53 : Nat) (Lb54 : LH) (b58 : Nat), hear_Way_l1 plots stand wide2 plots2 down right_ blows l fu1 out2 p = some out ∧ FExt F28 F1 ∧ L1 = ((b58, .cells #[.int .i64 p] 3 (0, 0)) :: ((b38, .cells #[.slice a32 n36 c33] 26 (0, 0)) :: ((b1, .cells #[.int .i64 wide, .slice plots_a plots.length plots_c] 24 (0, 0)) :: (Lb34 ++ (Lb54 ++ []))))) ∧ e1.sub [(2, .int .i64 stand), (4, .pointer (some ⟨b1, 0, none⟩)), (12, .pointer (some ⟨b17, 0, none⟩)), (14, .pointer (some ⟨b38, 0, none⟩)), (15, .slice a52 n56 c53), (16, .pointer (some ⟨b58, 0, none⟩))] ∧ SlR K.w0.heap.size 3 1 (iE .i64) F1 a52 n56 c53 out2 Lb54 ∧ K.w0.heap.size ≤ b58) FU (meet_0 (L2 := (b51, .cells #[.int .i64 plot] 3 (0, 0)) :: ((b38, .cells #[.slice a32 n36 c33] 26 (0, 0)) :: ((b1, .cells #[.int .i64 wide, .slice plots_a plots.length plots_c] 24 (0, 0)) :: (Lb34 ++ (Lb40 ++ []))))) (L3 := (b51, .cells #[.int .i64 plot] 3 (0, 0)) :: ((b38, .cells #[.slice a32 n36 c33] 26 (0, 0)) :: ((b1, .cells #[.int .i64 wide, .slice plots_a plots.length plots_c] 24 (0, 0)) :: (Lb34 ++ (Lb40 ++ []))))) (List.Perm.cons _ (List.Perm.cons _ (List.Perm.cons _ (((frontS (List.Perm.refl _)).trans (List.Perm.append_left _ (List.Perm.refl _))))))) (List.Sublist.refl _) ⟨[plot], plot, (some ⟨b39, 0, none⟩), 1, 1, Lb40, b51, h49, FExt.refl _, rfl, (sc rfl (sc rfl (sc rfl (sc rfl (sc rfl (sc rfl (sn _))))))), hz41, hb51⟩) ?_
      rintro fu1 e1 F64 _ ⟨out2, p, a52, n56, c53, Lb54, b58, r62, hF65, rfl, he63, hz55, hb59⟩
      refine shW_env _ he63 ?_; clear he63
      replace h_plots := h_plots.mono (iE_ok _) hF65
      replace hp14 := hp14.mono (prE_ok (iE_ok _) (prE_ok (slE_ok (iE_ok _)) (prE_ok (iE_ok _) (prE_ok (iE_ok _) bE_ok)))) hF65
      replace h24 := h24.mono (iE_ok _) hF65
      replace hz35 := hz35.mono (iE_ok _) hF65
      replace hz21 := hF65 _ _ hz21
      rcases fu1 with _ | fu1
      · rw [hear_Way_l1] at r62; cases r62
      rw [hear_Way_l1] at r62
      refine shW_seq ?_
      refine shW_seq ?_
      refine shW_region ?_
      refine ov (v_load Try.isAgg3 rfl (Has.own 0 rfl) rfl) rfl ?_
      refine ov (v_move rfl) rfl ?_
      refine ov (v_neq rfl rfl) rfl ?_
      refine shO_nil ?_
      refine shW_condP rfl (fun c66 => ?_) (fun c66 => ?_)
      · have r67 := ite_t r62 c66; clear r62
        refine shW_skip ?_
        obtain ⟨out3, p2, h74, r75⟩ := b2_ok r67; clear r67
        refine shW_join (fun e1 F1 L1 => ∃ (a68 : Option Addr) (n72 : Nat) (c69 : Nat) (Lb70 : LH), FExt F64 F1 ∧ L1 = ((b58, .cells #[.int .i64 p2] 3 (0, 0)) :: ((b38, .cells #[.slice a32 n36 c33] 26 (0, 0)) :: ((b1, .cells #[.int .i64 wide, .slice plots_a plots.length plots_c] 24 (0, 0)) :: (Lb34 ++ (Lb70 ++ []))))) ∧ e1.sub [(2, .int .i64 stand), (4, .pointer (some ⟨b1, 0, none⟩)), (12, .pointer (some ⟨b17, 0, none⟩)), (14, .pointer (some ⟨b38, 0, none⟩)), (15, .slice a68 n72 c69), (16, .pointer (some ⟨b58, 0, none⟩))] ∧ SlR K.w0.heap.size 3 1 (iE .i64) F1 a68 n72 c69 out3 Lb70) ?_ ?_
        · clear r75
          refine shW_block ?_
          refine shW_seq ?_
          refine shW_region ?_
          refine o_alloc rfl Try.zeroValue3 ?_; intro b76 hb76
          refine o_store (i := 0) Try.sizeOf3 rfl rfl rfl rfl (Nat.le_of_ble_eq_true rfl) ?_
          refine shO_L (L' := (b76, .cells #[.int .i64 (-1)] 3 (0, 0)) :: ((b58, .cells #[.int .i64 p] 3 (0, 0)) :: ((b38, .cells #[.slice a32 n36 c33] 26 (0, 0)) :: ((b1, .cells #[.int .i64 wide, .slice plots_a plots.length plots_c] 24 (0, 0)) :: (Lb34 ++ (Lb54 ++ [])))))) rfl ?_
          refine shO_nil ?_
          obtain ⟨before, h77, r78⟩ := b1_ok h74; clear h74
          refine shW_join (fun e1 F1 L1 => FExt F64 F1 ∧ L1 = ((b76, .cells #[.int .i64 before] 3 (0, 0)) :: ((b58, .cells #[.int .i64 p] 3 (0, 0)) :: ((b38, .cells #[.slice a32 n36 c33] 26 (0, 0)) :: ((b1, .cells #[.int .i64 wide, .slice plots_a plots.length plots_c] 24 (0, 0)) :: (Lb34 ++ (Lb54 ++ [])))))) ∧ e1.sub [(2, .int .i64 stand), (4, .pointer (some ⟨b1, 0, none⟩)), (12, .pointer (some ⟨b17, 0, none⟩)), (14, .pointer (some ⟨b38, 0, none⟩)), (15, .slice a52 n56 c53), (16, .pointer (some ⟨b58, 0, none⟩)), (17, .pointer (some ⟨b76, 0, none⟩))]) ?_ ?_
          · clear r78
            refine shW_seq ?_
            refine shW_region ?_
            refine ov (v_fieldAddr fa_24_1 rfl) rfl ?_
            refine ov (v_load Try.isAgg22 rfl (Has.own 3 rfl) rfl) rfl ?_
            refine ov (v_lenS Try.underlying22 rfl) rfl ?_
            refine ov (v_move rfl) rfl ?_
            refine shO_nil ?_
            refine shW_block ?_
            refine shW_lp (fun fu2 e1 F1 L1 => ∃ (tl : List Int) (k : Int), tl.length = fu2 ∧ Lst plots k tl ∧ ∃ (before2 : Int), hear_Way_l2 wide2 plots2 down right_ blows l p tl k before2 = some before ∧ FExt F64 F1 ∧ L1 = ((b76, .cells #[.int .i64 before2] 3 (0, 0)) :: ((b58, .cells #[.int .i64 p] 3 (0, 0)) :: ((b38, .cells #[.slice a32 n36 c33] 26 (0, 0)) :: ((b1, .cells #[.int .i64 wide, .slice plots_a plots.length plots_c] 24 (0, 0)) :: (Lb34 ++ (Lb54 ++ [])))))) ∧ e1.sub [(2, .int .i64 stand), (4, .pointer (some ⟨b1, 0, none⟩)), (12, .pointer (some ⟨b17, 0, none⟩)), (14, .pointer (some ⟨b38, 0, none⟩)), (15, .slice a52 n56 c53), (16, .pointer (some ⟨b58, 0, none⟩)), (17, .pointer (some ⟨b76, 0, none⟩)), (49, .int .i64 (plots.length : Int)), (50, .int .i64 k)]) _ (meet_0 (L2 := (b76, .cells #[.int .i64 (-1)] 3 (0, 0)) :: ((b58, .cells #[.int .i64 p] 3 (0, 0)) :: ((b38, .cells #[.slice a32 n36 c33] 26 (0, 0)) :: ((b1, .cells #[.int .i64 wide, .slice plots_a plots.length plots_c] 24 (0, 0)) :: (Lb34 ++ (Lb54 ++ [])))))) (L3 := (b76, .cells #[.int .i64 (-1)] 3 (0, 0)) :: ((b58, .cells #[.int .i64 p] 3 (0, 0)) :: ((b38, .cells #[.slice a32 n36 c33] 26 (0, 0)) :: ((b1, .cells #[.int .i64 wide, .slice plots_a plots.length plots_c] 24 (0, 0)) :: (Lb34 ++ (Lb54 ++ [])))))) (List.Perm.refl _) (List.Sublist.refl _) ⟨_, _, rfl, Lst.start _, -1, h77, FExt.refl _, rfl, (sc rfl (sc rfl (sc rfl (sc rfl (sc rfl (sc rfl (sc rfl (sc rfl (sc rfl (sn _))))))))))⟩) ?_
            rintro fu2 e1 F83 _ ⟨tl, k, hn80, hk79, before2, r81, hF84, rfl, he82⟩
            refine shW_env _ he82 ?_; clear he82
            replace h_plots := h_plots.mono (iE_ok _) hF84
            replace hp14 := hp14.mono (prE_ok (iE_ok _) (prE_ok (slE_ok (iE_ok _)) (prE_ok (iE_ok _) (prE_ok (iE_ok _) bE_ok)))) hF84
            replace h24 := h24.mono (iE_ok _) hF84
            replace hz35 := hz35.mono (iE_ok _) hF84
            replace hz55 := hz55.mono (iE_ok _) hF84
            replace hz21 := hF84 _ _ hz21
            refine shW_seq ?_
            refine shW_region ?_
            refine ov (v_lssK rfl rfl) rfl ?_
            refine shO_nil ?_
            refine shW_seq ?_
            refine shW_condP rfl (fun c86 => ?_) (fun c86 => ?_)
            · obtain ⟨x, tl2, rfl, hx88, g89, hk87⟩ := Lst.succ hk79 c86
              rw [hear_Way_l2] at r81
              refine shW_skip ?_
              obtain ⟨before3, h90, r91⟩ := b1_ok r81; clear r81
              refine shW_join (fun e1 F1 L1 => FExt F83 F1 ∧ L1 = ((b76, .cells #[.int .i64 before3] 3 (0, 0)) :: ((b58, .cells #[.int .i64 p] 3 (0, 0)) :: ((b38, .cells #[.slice a32 n36 c33] 26 (0, 0)) :: ((b1, .cells #[.int .i64 wide, .slice plots_a plots.length plots_c] 24 (0, 0)) :: (Lb34 ++ (Lb54 ++ [])))))) ∧ e1.sub [(2, .int .i64 stand), (4, .pointer (some ⟨b1, 0, none⟩)), (12, .pointer (some ⟨b17, 0, none⟩)), (14, .pointer (some ⟨b38, 0, none⟩)), (15, .slice a52 n56 c53), (16, .pointer (some ⟨b58, 0, none⟩)), (17, .pointer (some ⟨b76, 0, none⟩)), (49, .int .i64 (plots.length : Int)), (50, .int .i64 k)]) ?_ ?_
              · clear r91
                refine shW_block ?_
                refine shW_seq ?_
                refine shW_region ?_
                refine ov (v_move rfl) rfl ?_
                refine o_alloc rfl Try.zeroValue3 ?_; intro b92 hb92
                refine o_store (i := 0) Try.sizeOf3 rfl rfl rfl rfl (Nat.le_of_ble_eq_true rfl) ?_
                refine shO_L (L' := (b92, .cells #[.int .i64 k] 3 (0, 0)) :: ((b76, .cells #[.int .i64 before2] 3 (0, 0)) :: ((b58, .cells #[.int .i64 p] 3 (0, 0)) :: ((b38, .cells #[.slice a32 n36 c33] 26 (0, 0)) :: ((b1, .cells #[.int .i64 wide, .slice plots_a plots.length plots_c] 24 (0, 0)) :: (Lb34 ++ (Lb54 ++ []))))))) rfl ?_
                refine shO_nil ?_
                refine shW_seq ?_
                refine shW_region ?_
                refine ov (v_move rfl) rfl ?_
                refine ov (v_load Try.isAgg3 rfl (Has.own 0 rfl) rfl) rfl ?_
                obtain ⟨y, h93, r94⟩ := b1_ok h90; clear h90
                refine o_call0 rfl Try.call84 rfl rfl rfl (hear_desk_next_w hz21 h24 h93) ?_; rintro _ F95 _ hF96 hn97 ⟨cp99, rfl, rfl, hit100⟩
                replace h_plots := h_plots.mono (iE_ok _) hF96
                replace hp14 := hp14.mono (prE_ok (iE_ok _) (prE_ok (slE_ok (iE_ok _)) (prE_ok (iE_ok _) (prE_ok (iE_ok _) bE_ok)))) hF96
                replace h24 := h24.mono (iE_ok _) hF96
                replace hz35 := hz35.mono (iE_ok _) hF96
                replace hz55 := hz55.mono (iE_ok _) hF96
                replace hz21 := hF96 _ _ hz21
                refine shO_L (L' := (b92, .cells #[.int .i64 k] 3 (0, 0)) :: ((b76, .cells #[.int .i64 before2] 3 (0, 0)) :: ((b58, .cells #[.int .i64 p] 3 (0, 0)) :: ((b38, .cells #[.slice a32 n36 c33] 26 (0, 0)) :: ((b1, .cells #[.int .i64 wide, .slice plots_a plots.length plots_c] 24 (0, 0)) :: (Lb34 ++ (Lb54 ++ []))))))) rfl ?_
                refine shO_nil ?_
                refine shW_block ?_
                refine shW_rangeFunc (encs := (fun x : Int × Int => #[.int .i64 x.1, .int .i64 x.2])) (xs := y) rfl Try.call123 rfl (fun _ => rfl) hit100 (fun pre F1 L1 => ∃ (tl3 : List (Int × Int)) (before4 : Int), y = pre ++ tl3 ∧ hear_Way_l3 l p k tl3 before4 = some before3 ∧ L1 = ((b92, .cells #[.int .i64 k] 3 (0, 0)) :: ((b76, .cells #[.int .i64 before4] 3 (0, 0)) :: ((b58, .cells #[.int .i64 p] 3 (0, 0)) :: ((b38, .cells #[.slice a32 n36 c33] 26 (0, 0)) :: ((b1, .cells #[.int .i64 wide, .slice plots_a plots.length plots_c] 24 (0, 0)) :: (Lb34 ++ (Lb54 ++ [])))))))) (fun _ _ _ => False) ?_ ?_ ?_ ?_ ?_ ?_
                · rintro pre F1 F2 L1 ⟨tl3, before4, hs101, r102, rfl⟩ hx; exact ⟨tl3, before4, hs101, r102, rfl⟩
                · intro c F1 F2 L1 h hx; exact h
                · exact ⟨_, before2, rfl, r94, rfl⟩
                · rintro l103 wr104 Fr105 Xr106 Ha107 Hb108 hnb109 pre x2 tl4 hxs112 F110 _ hF111 ⟨tl3, before4, hs101, r113, rfl⟩
                  obtain rfl := rest_head hs101 hxs112
                  rw [hear_Way_l3] at r113
                  replace h_plots := h_plots.mono (iE_ok _) hF111
                  replace hp14 := hp14.mono (prE_ok (iE_ok _) (prE_ok (slE_ok (iE_ok _)) (prE_ok (iE_ok _) (prE_ok (iE_ok _) bE_ok)))) hF111
                  replace h24 := h24.mono (iE_ok _) hF111
                  replace hit100 := hit100.mono hF111
                  replace hz35 := hz35.mono (iE_ok _) hF111
                  replace hz55 := hz55.mono (iE_ok _) hF111
                  replace hz21 := hF111 _ _ hz21
                  refine shW_env [(2, .int .i64 stand), (4, .pointer (some ⟨b1, 0, none⟩)), (12, .pointer (some ⟨b17, 0, none⟩)), (14, .pointer (some ⟨b38, 0, none⟩)), (15, .slice a52 n56 c53), (16, .pointer (some ⟨b58, 0, none⟩)), (17, .pointer (some ⟨b76, 0, none⟩)), (18, .pointer (some ⟨b92, 0, none⟩)), (49, .int .i64 (plots.length : Int)), (50, .int .i64 k), (56, .int .i64 x2.1), (57, .int .i64 x2.2)] (by exact (sc rfl (sc rfl (sc rfl (sc rfl (sc rfl (sc rfl (sc rfl (sc rfl (sc rfl (sc rfl (sc rfl (sc rfl (sn _)))))))))))))) ?_
                  refine shW_seq ?_
                  refine shW_region ?_
                  refine ov (v_assign rfl) rfl ?_
                  refine shO_nil ?_
                  refine shW_region ?_
                  refine ov (v_assign rfl) rfl ?_
                  refine shO_nil ?_
                  refine ⟨rfl, ?_⟩
                  refine shW_block ?_
                  obtain ⟨k2, h114, r115⟩ := b1_ok r113; clear r113
                  refine shW_join (fun e1 F1 L1 => F110 = F1 ∧ L1 = ((b92, .cells #[.int .i64 k] 3 (0, 0)) :: ((b76, .cells #[.int .i64 before4] 3 (0, 0)) :: ((b58, .cells #[.int .i64 p] 3 (0, 0)) :: ((b38, .cells #[.slice a32 n36 c33] 26 (0, 0)) :: ((b1, .cells #[.int .i64 wide, .slice plots_a plots.length plots_c] 24 (0, 0)) :: (Lb34 ++ (Lb54 ++ []))))))) ∧ e1.sub [(2, .int .i64 stand), (4, .pointer (some ⟨b1, 0, none⟩)), (12, .pointer (some ⟨b17, 0, none⟩)), (14, .pointer (some ⟨b38, 0, none⟩)), (15, .slice a52 n56 c53), (16, .pointer (some ⟨b58, 0, none⟩)), (17, .pointer (some ⟨b76, 0, none⟩)), (18, .pointer (some ⟨b92, 0, none⟩)), (49, .int .i64 (plots.length : Int)), (50, .int .i64 k), (56, .int .i64 x2.1), (57, .int .i64 x2.2), (80, .bool k2)]) ?_ ?_
                  · clear r115
                    refine shW_draw (by kernel_rfl) (by kernel_rfl) (by kernel_rfl) ?_
                    refine qv (v_move rfl) rfl ?_
                    refine qv (v_load Try.isAgg3 rfl (Has.own 2 rfl) rfl) rfl ?_
                    refine qv (v_eql rfl rfl) rfl ?_
                    refine qv (v_move rfl) rfl ?_
                    by_cases c116 : x2.1 = p
                    · have r117 := ite_t h114 c116; clear h114
                      refine shQ_on (b := true) 61 rfl (Env.isT rfl c116) ?_
                      refine qv (v_load Try.isAgg26 rfl (Has.own 3 rfl) rfl) rfl ?_
                      refine shQ_on (b := true) 61 rfl (Env.isT rfl c116) ?_
                      refine qv (v_load Try.isAgg3 rfl (Has.own 0 rfl) rfl) rfl ?_
                      refine shQ_on (b := true) 61 rfl (Env.isT rfl c116) ?_
                      obtain ⟨x3, g118, hx119, r120⟩ := ix_ok r117; clear r117
                      obtain ⟨b121, o122, c123, vs124, ha125, hs126, hle127, rfl, hl128, hc129⟩ := SlR.at (iE_ok _) hz35 (L := (b92, .cells #[.int .i64 k] 3 (0, 0)) :: ((b76, .cells #[.int .i64 before4] 3 (0, 0)) :: ((b58, .cells #[.int .i64 p] 3 (0, 0)) :: ((b38, .cells #[.slice a32 n36 c33] 26 (0, 0)) :: ((b1, .cells #[.int .i64 wide, .slice plots_a plots.length plots_c] 24 (0, 0)) :: (Lb34 ++ (Lb54 ++ []))))))) (frontC (frontC (frontC (frontC (frontC (List.Perm.refl _)))))) g118.1 hx119
                      refine qv (v_indexO Try.underlying26 Try.sizeOf3 rfl ha125 rfl (SlR.idx hz35 g118)) rfl ?_
                      refine shQ_on (b := true) 61 rfl (Env.isT rfl c116) ?_
                      refine qv (v_load Try.isAgg3 rfl hs126 (hc129 0 (by decide))) rfl ?_
                      refine shQ_on (b := true) 61 rfl (Env.isT rfl c116) ?_
                      refine qv (v_neq rfl rfl) rfl ?_
                      refine qv (v_pick_t (evD_true rfl c116) rfl) rfl ?_
                      refine qv (v_move rfl) rfl ?_
                      by_cases c130 : x3 ≠ (-1)
                      · have r131 := ite_t r120 c130; clear r120
                        refine shQ_on (b := true) 68 rfl (Env.isT rfl c130) ?_
                        refine qv (v_load Try.isAgg26 rfl (Has.own 3 rfl) rfl) rfl ?_
                        refine shQ_on (b := true) 68 rfl (Env.isT rfl c130) ?_
                        refine qv (v_load Try.isAgg3 rfl (Has.own 0 rfl) rfl) rfl ?_
                        refine shQ_on (b := true) 68 rfl (Env.isT rfl c130) ?_
                        obtain ⟨b132, o133, c134, vs135, ha136, hs137, hle138, rfl, hl139, hc140⟩ := SlR.at (iE_ok _) hz35 (L := (b92, .cells #[.int .i64 k] 3 (0, 0)) :: ((b76, .cells #[.int .i64 before4] 3 (0, 0)) :: ((b58, .cells #[.int .i64 p] 3 (0, 0)) :: ((b38, .cells #[.slice a32 n36 c33] 26 (0, 0)) :: ((b1, .cells #[.int .i64 wide, .slice plots_a plots.length plots_c] 24 (0, 0)) :: (Lb34 ++ (Lb54 ++ []))))))) (frontC (frontC (frontC (frontC (frontC (List.Perm.refl _)))))) g118.1 hx119
                        refine qv (v_indexO Try.underlying26 Try.sizeOf3 rfl ha136 rfl (SlR.idx hz35 g118)) rfl ?_
                        refine shQ_on (b := true) 68 rfl (Env.isT rfl c130) ?_
                        refine qv (v_load Try.isAgg3 rfl hs137 (hc140 0 (by decide))) rfl ?_
                        refine shQ_on (b := true) 68 rfl (Env.isT rfl c130) ?_
                        refine qv (v_move rfl) rfl ?_
                        refine shQ_on (b := true) 68 rfl (Env.isT rfl c130) ?_
                        obtain ⟨g141, r142⟩ := gd_ok r131; clear r131
                        refine qv (v_add rfl rfl g141) rfl ?_
                        refine shQ_on (b := true) 68 rfl (Env.isT rfl c130) ?_
                        refine qv (v_load Try.isAgg26 rfl (Has.own 3 rfl) rfl) rfl ?_
                        refine shQ_on (b := true) 68 rfl (Env.isT rfl c130) ?_
                        refine qv (v_load Try.isAgg3 rfl (Has.own 2 rfl) rfl) rfl ?_
                        refine shQ_on (b := true) 68 rfl (Env.isT rfl c130) ?_
                        obtain ⟨x4, g143, hx144, r145⟩ := ix_ok r142; clear r142
                        obtain ⟨b146, o147, c148, vs149, ha150, hs151, hle152, rfl, hl153, hc154⟩ := SlR.at (iE_ok _) hz35 (L := (b92, .cells #[.int .i64 k] 3 (0, 0)) :: ((b76, .cells #[.int .i64 before4] 3 (0, 0)) :: ((b58, .cells #[.int .i64 p] 3 (0, 0)) :: ((b38, .cells #[.slice a32 n36 c33] 26 (0, 0)) :: ((b1, .cells #[.int .i64 wide, .slice plots_a plots.length plots_c] 24 (0, 0)) :: (Lb34 ++ (Lb54 ++ []))))))) (frontC (frontC (frontC (frontC (frontC (List.Perm.refl _)))))) g143.1 hx144
                        refine qv (v_indexO Try.underlying26 Try.sizeOf3 rfl ha150 rfl (SlR.idx hz35 g143)) rfl ?_
                        refine shQ_on (b := true) 68 rfl (Env.isT rfl c130) ?_
                        refine qv (v_load Try.isAgg3 rfl hs151 (hc154 0 (by decide))) rfl ?_
                        refine shQ_on (b := true) 68 rfl (Env.isT rfl c130) ?_
                        refine qv (v_eql rfl rfl) rfl ?_
                        refine qv (v_pick_t (evD_true rfl c130) rfl) rfl ?_
                        refine shQ_nil ?_
                        obtain rfl := inj1 r145
                        refine meet_i (L2 := (b92, .cells #[.int .i64 k] 3 (0, 0)) :: ((b76, .cells #[.int .i64 before4] 3 (0, 0)) :: ((b58, .cells #[.int .i64 p] 3 (0, 0)) :: ((b38, .cells #[.slice a32 n36 c33] 26 (0, 0)) :: ((b1, .cells #[.int .i64 wide, .slice plots_a plots.length plots_c] 24 (0, 0)) :: (Lb34 ++ (Lb54 ++ []))))))) (L3 := (b92, .cells #[.int .i64 k] 3 (0, 0)) :: ((b76, .cells #[.int .i64 before4] 3 (0, 0)) :: ((b58, .cells #[.int .i64 p] 3 (0, 0)) :: ((b38, .cells #[.slice a32 n36 c33] 26 (0, 0)) :: ((b1, .cells #[.int .i64 wide, .slice plots_a plots.length plots_c] 24 (0, 0)) :: (Lb34 ++ (Lb54 ++ []))))))) (List.Perm.refl _) (List.Sublist.refl _) ?_
                        exact ⟨rfl, rfl, (sc rfl (sc rfl (sc rfl (sc rfl (sc rfl (sc rfl (sc rfl (sc rfl (sc rfl (sc rfl (sc rfl (sc rfl (sc rfl (sn _))))))))))))))⟩
                      · have r155 := ite_f r120 c130; clear r120
                        refine shQ_off (b' := false) 68 rfl (Env.isF rfl c130) rfl rfl ?_
                        refine shQ_off (b' := false) 68 rfl (Env.isF rfl c130) rfl rfl ?_
                        refine shQ_off (b' := false) 68 rfl (Env.isF rfl c130) rfl rfl ?_
                        refine shQ_off (b' := false) 68 rfl (Env.isF rfl c130) rfl rfl ?_
                        refine shQ_off (b' := false) 68 rfl (Env.isF rfl c130) rfl rfl ?_
                        refine shQ_off (b' := false) 68 rfl (Env.isF rfl c130) rfl rfl ?_
                        refine shQ_off (b' := false) 68 rfl (Env.isF rfl c130) rfl rfl ?_
                        refine shQ_off (b' := false) 68 rfl (Env.isF rfl c130) rfl rfl ?_
                        refine shQ_off (b' := false) 68 rfl (Env.isF rfl c130) rfl rfl ?_
                        refine shQ_off (b' := false) 68 rfl (Env.isF rfl c130) rfl rfl ?_
                        refine shQ_off (b' := false) 68 rfl (Env.isF rfl c130) rfl rfl ?_
                        refine qv (v_pick_f (evD_false rfl c130) rfl) rfl ?_
                        refine shQ_nil ?_
                        obtain rfl := inj1 r155
                        refine meet_i (L2 := (b92, .cells #[.int .i64 k] 3 (0, 0)) :: ((b76, .cells #[.int .i64 before4] 3 (0, 0)) :: ((b58, .cells #[.int .i64 p] 3 (0, 0)) :: ((b38, .cells #[.slice a32 n36 c33] 26 (0, 0)) :: ((b1, .cells #[.int .i64 wide, .slice plots_a plots.length plots_c] 24 (0, 0)) :: (Lb34 ++ (Lb54 ++ []))))))) (L3 := (b92, .cells #[.int .i64 k] 3 (0, 0)) :: ((b76, .cells #[.int .i64 before4] 3 (0, 0)) :: ((b58, .cells #[.int .i64 p] 3 (0, 0)) :: ((b38, .cells #[.slice a32 n36 c33] 26 (0, 0)) :: ((b1, .cells #[.int .i64 wide, .slice plots_a plots.length plots_c] 24 (0, 0)) :: (Lb34 ++ (Lb54 ++ []))))))) (List.Perm.refl _) (List.Sublist.refl _) ?_
                        exact ⟨rfl, rfl, (sc rfl (sc rfl (sc rfl (sc rfl (sc rfl (sc rfl (sc rfl (sc rfl (sc rfl (sc rfl (sc rfl (sc rfl (sc rfl (sn _))))))))))))))⟩
                    · have r156 := ite_f h114 c116; clear h114
                      refine shQ_off (b' := false) 61 rfl (Env.isF rfl c116) rfl rfl ?_
                      refine shQ_off (b' := false) 61 rfl (Env.isF rfl c116) rfl rfl ?_
                      refine shQ_off (b' := false) 61 rfl (Env.isF rfl c116) rfl rfl ?_
                      refine shQ_off (b' := false) 61 rfl (Env.isF rfl c116) rfl rfl ?_
                      refine shQ_off (b' := false) 61 rfl (Env.isF rfl c116) rfl rfl ?_
                      refine qv (v_pick_f (evD_false rfl c116) rfl) rfl ?_
                      refine qv (v_move rfl) rfl ?_
                      refine shQ_off (b' := false) 68 rfl rfl rfl rfl ?_
                      refine shQ_off (b' := false) 68 rfl rfl rfl rfl ?_
                      refine shQ_off (b' := false) 68 rfl rfl rfl rfl ?_
                      refine shQ_off (b' := false) 68 rfl rfl rfl rfl ?_
                      refine shQ_off (b' := false) 68 rfl rfl rfl rfl ?_
                      refine shQ_off (b' := false) 68 rfl rfl rfl rfl ?_
                      refine shQ_off (b' := false) 68 rfl rfl rfl rfl ?_
                      refine shQ_off (b' := false) 68 rfl rfl rfl rfl ?_
                      refine shQ_off (b' := false) 68 rfl rfl rfl rfl ?_
                      refine shQ_off (b' := false) 68 rfl rfl rfl rfl ?_
                      refine shQ_off (b' := false) 68 rfl rfl rfl rfl ?_
                      refine qv (v_pick_f rfl rfl) rfl ?_
                      refine shQ_nil ?_
                      obtain rfl := inj1 r156
                      refine meet_i (L2 := (b92, .cells #[.int .i64 k] 3 (0, 0)) :: ((b76, .cells #[.int .i64 before4] 3 (0, 0)) :: ((b58, .cells #[.int .i64 p] 3 (0, 0)) :: ((b38, .cells #[.slice a32 n36 c33] 26 (0, 0)) :: ((b1, .cells #[.int .i64 wide, .slice plots_a plots.length plots_c] 24 (0, 0)) :: (Lb34 ++ (Lb54 ++ []))))))) (L3 := (b92, .cells #[.int .i64 k] 3 (0, 0)) :: ((b76, .cells #[.int .i64 before4] 3 (0, 0)) :: ((b58, .cells #[.int .i64 p] 3 (0, 0)) :: ((b38, .cells #[.slice a32 n36 c33] 26 (0, 0)) :: ((b1, .cells #[.int .i64 wide, .slice plots_a plots.length plots_c] 24 (0, 0)) :: (Lb34 ++ (Lb54 ++ []))))))) (List.Perm.refl _) (List.Sublist.refl _) ?_
                      exact ⟨rfl, rfl, (sc rfl (sc rfl (sc rfl (sc rfl (sc rfl (sc rfl (sc rfl (sc rfl (sc rfl (sc rfl (sc rfl (sc rfl (sc rfl (sn _))))))))))))))⟩
                  · rintro e1 _ _ ⟨rfl, rfl, he157⟩
                    refine shW_env _ he157 ?_; clear he157
                    refine shW_cond rfl (fun c158 => ?_) (fun c158 => ?_)
                    · have r159 := bt r115 c158; clear r115
                      refine shW_region ?_
                      refine ov (v_load Try.isAgg3 rfl (Has.own 0 rfl) rfl) rfl ?_
                      refine o_store (i := 1) Try.sizeOf3 rfl rfl rfl rfl (Nat.le_of_ble_eq_true rfl) ?_
                      refine shO_L (L' := (b92, .cells #[.int .i64 k] 3 (0, 0)) :: ((b76, .cells #[.int .i64 k] 3 (0, 0)) :: ((b58, .cells #[.int .i64 p] 3 (0, 0)) :: ((b38, .cells #[.slice a32 n36 c33] 26 (0, 0)) :: ((b1, .cells #[.int .i64 wide, .slice plots_a plots.length plots_c] 24 (0, 0)) :: (Lb34 ++ (Lb54 ++ []))))))) rfl ?_
                      refine shO_nil ?_
                      refine inBlock_n (id := 5) ?_
                      refine ⟨(b92, .cells #[.int .i64 k] 3 (0, 0)) :: ((b76, .cells #[.int .i64 k] 3 (0, 0)) :: ((b58, .cells #[.int .i64 p] 3 (0, 0)) :: ((b38, .cells #[.slice a32 n36 c33] 26 (0, 0)) :: ((b1, .cells #[.int .i64 wide, .slice plots_a plots.length plots_c] 24 (0, 0)) :: (Lb34 ++ (Lb54 ++ [])))))), List.Sublist.refl _, ?_⟩; exact ⟨_, k, (by rw [hxs112]; simp), r159, rfl⟩
                    · have r160 := bf r115 c158; clear r115
                      refine shW_skip ?_
                      refine inBlock_n (id := 5) ?_
                      refine ⟨(b92, .cells #[.int .i64 k] 3 (0, 0)) :: ((b76, .cells #[.int .i64 before4] 3 (0, 0)) :: ((b58, .cells #[.int .i64 p] 3 (0, 0)) :: ((b38, .cells #[.slice a32 n36 c33] 26 (0, 0)) :: ((b1, .cells #[.int .i64 wide, .slice plots_a plots.length plots_c] 24 (0, 0)) :: (Lb34 ++ (Lb54 ++ [])))))), List.Sublist.refl _, ?_⟩; exact ⟨_, before4, (by rw [hxs112]; simp), r160, rfl⟩
                · rintro F161 _ hF162 ⟨tl3, before4, hs101, r163, rfl⟩
                  obtain rfl := rest_nil hs101; rw [hear_Way_l3] at r163
                  replace h_plots := h_plots.mono (iE_ok _) hF162
                  replace hp14 := hp14.mono (prE_ok (iE_ok _) (prE_ok (slE_ok (iE_ok _)) (prE_ok (iE_ok _) (prE_ok (iE_ok _) bE_ok)))) hF162
                  replace h24 := h24.mono (iE_ok _) hF162
                  replace hit100 := hit100.mono hF162
                  replace hz35 := hz35.mono (iE_ok _) hF162
                  replace hz55 := hz55.mono (iE_ok _) hF162
                  replace hz21 := hF162 _ _ hz21
                  refine inBlock_n (id := 4) ?_
                  refine inBlock_n (id := 3) ?_
                  obtain rfl := inj1 r163
                  refine meet_i (L2 := (b76, .cells #[.int .i64 before4] 3 (0, 0)) :: ((b58, .cells #[.int .i64 p] 3 (0, 0)) :: ((b38, .cells #[.slice a32 n36 c33] 26 (0, 0)) :: ((b1, .cells #[.int .i64 wide, .slice plots_a plots.length plots_c] 24 (0, 0)) :: (Lb34 ++ (Lb54 ++ [])))))) (L3 := (b76, .cells #[.int .i64 before4] 3 (0, 0)) :: ((b58, .cells #[.int .i64 p] 3 (0, 0)) :: ((b38, .cells #[.slice a32 n36 c33] 26 (0, 0)) :: ((b1, .cells #[.int .i64 wide, .slice plots_a plots.length plots_c] 24 (0, 0)) :: (Lb34 ++ (Lb54 ++ ((b92, .cells #[.int .i64 k] 3 (0, 0)) :: []))))))) (((frontC (frO)).trans (List.Perm.cons _ (((frontC (frO)).trans (List.Perm.cons _ (((frontC (frO)).trans (List.Perm.cons _ (((frontC (frO)).trans (List.Perm.cons _ (((frontC (List.Perm.refl _)).trans (List.Perm.append_left _ (((frontC (List.Perm.refl _)).trans (List.Perm.append_left _ (List.Perm.refl _))))))))))))))))))) ((List.Sublist.cons_cons _ ((List.Sublist.cons_cons _ ((List.Sublist.cons_cons _ ((List.Sublist.cons_cons _ ((List.Sublist.append (List.Sublist.refl _) ((List.Sublist.append (List.Sublist.refl _) ((List.Sublist.cons _ (List.Sublist.refl _))))))))))))))) ?_
                  exact ⟨(hF96.trans hF162), rfl, (sc rfl (sc rfl (sc rfl (sc rfl (sc rfl (sc rfl (sc rfl (sc rfl (sc rfl (sn _))))))))))⟩
                · intro c F1 L1 hx h; exact h.elim
              · rintro e1 F165 _ ⟨hF166, rfl, he164⟩
                refine shW_env _ he164 ?_; clear he164
                replace h_plots := h_plots.mono (iE_ok _) hF166
                replace hp14 := hp14.mono (prE_ok (iE_ok _) (prE_ok (slE_ok (iE_ok _)) (prE_ok (iE_ok _) (prE_ok (iE_ok _) bE_ok)))) hF166
                replace h24 := h24.mono (iE_ok _) hF166
                replace hz35 := hz35.mono (iE_ok _) hF166
                replace hz55 := hz55.mono (iE_ok _) hF166
                replace hz21 := hF166 _ _ hz21
                refine shW_region ?_
                refine ov (v_add rfl rfl (Lst.r64 hk79 c86 (RowR.lt h_plots))) rfl ?_
                refine ov (v_move rfl) rfl ?_
                refine shO_nil ?_
                subst hn80; exact lp_end (Nat.lt_succ_self _) (meet_0 (L2 := (b76, .cells #[.int .i64 before3] 3 (0, 0)) :: ((b58, .cells #[.int .i64 p] 3 (0, 0)) :: ((b38, .cells #[.slice a32 n36 c33] 26 (0, 0)) :: ((b1, .cells #[.int .i64 wide, .slice plots_a plots.length plots_c] 24 (0, 0)) :: (Lb34 ++ (Lb54 ++ [])))))) (L3 := (b76, .cells #[.int .i64 before3] 3 (0, 0)) :: ((b58, .cells #[.int .i64 p] 3 (0, 0)) :: ((b38, .cells #[.slice a32 n36 c33] 26 (0, 0)) :: ((b1, .cells #[.int .i64 wide, .slice plots_a plots.length plots_c] 24 (0, 0)) :: (Lb34 ++ (Lb54 ++ [])))))) (List.Perm.refl _) (List.Sublist.refl _) ⟨_, _, rfl, hk87, before3, r91, (hF84.trans hF166), rfl, (sc rfl (sc rfl (sc rfl (sc rfl (sc rfl (sc rfl (sc rfl (sc rfl (sc rfl (sn _))))))))))⟩)
            · obtain rfl := Lst.zero hk79 c86
              rw [hear_Way_l2] at r81
              refine shW_exit ?_
              refine andThen_exit ?_
              refine andThen_exit ?_
              refine inBlock_exit ?_
              obtain rfl := inj1 r81
              refine meet_i (L2 := (b76, .cells #[.int .i64 before2] 3 (0, 0)) :: ((b58, .cells #[.int .i64 p] 3 (0, 0)) :: ((b38, .cells #[.slice a32 n36 c33] 26 (0, 0)) :: ((b1, .cells #[.int .i64 wide, .slice plots_a plots.length plots_c] 24 (0, 0)) :: (Lb34 ++ (Lb54 ++ [])))))) (L3 := (b76, .cells #[.int .i64 before2] 3 (0, 0)) :: ((b58, .cells #[.int .i64 p] 3 (0, 0)) :: ((b38, .cells #[.slice a32 n36 c33] 26 (0, 0)) :: ((b1, .cells #[.int .i64 wide, .slice plots_a plots.length plots_c] 24 (0, 0)) :: (Lb34 ++ (Lb54 ++ [])))))) (List.Perm.refl _) (List.Sublist.refl _) ?_
              exact ⟨hF84, rfl, (sc rfl (sc rfl (sc rfl (sc rfl (sc rfl (sc rfl (sc rfl (sn _))))))))⟩
          · rintro e1 F168 _ ⟨hF169, rfl, he167⟩
            refine shW_env _ he167 ?_; clear he167
            replace h_plots := h_plots.mono (iE_ok _) hF169
            replace hp14 := hp14.mono (prE_ok (iE_ok _) (prE_ok (slE_ok (iE_ok _)) (prE_ok (iE_ok _) (prE_ok (iE_ok _) bE_ok)))) hF169
            replace h24 := h24.mono (iE_ok _) hF169
            replace hz35 := hz35.mono (iE_ok _) hF169
            replace hz55 := hz55.mono (iE_ok _) hF169
            replace hz21 := hF169 _ _ hz21
            refine shW_seq ?_
            refine shW_region ?_
            refine ov (v_load Try.isAgg3 rfl (Has.own 0 rfl) rfl) rfl ?_
            refine o_store (i := 1) Try.sizeOf3 rfl rfl rfl rfl (Nat.le_of_ble_eq_true rfl) ?_
            refine shO_L (L' := (b76, .cells #[.int .i64 before] 3 (0, 0)) :: ((b58, .cells #[.int .i64 before] 3 (0, 0)) :: ((b38, .cells #[.slice a32 n36 c33] 26 (0, 0)) :: ((b1, .cells #[.int .i64 wide, .slice plots_a plots.length plots_c] 24 (0, 0)) :: (Lb34 ++ (Lb54 ++ [])))))) rfl ?_
            refine shO_nil ?_
            refine shW_region ?_
            refine ov (v_move rfl) rfl ?_
            refine ov (v_load Try.isAgg3 rfl (Has.own 1 rfl) rfl) rfl ?_
            refine o_buildSlice (cs := #[.int .i64 before]) rfl rfl (buildSlice_all slt_26 [.int .i64 before] rfl (by decide) (by simp [Value.cells]) (by decide)) ?_; intro b170 hb170
            obtain ⟨out4, h171, g172, r173⟩ := ap_ok r78; clear r78
            refine o_appZ (xs := out2) (ys := [before]) (zs := out4) rfl slt_26 rfl rfl (Nat.le_refl _) (fun _ => .c (.c (.c (.c (.c (.s .h)))))) hz55 (SrcR.box (vss := [[.int .i64 before]]) (ys := [before]) 0 rfl (iE_ok _) (.cons rfl .nil) rfl rfl) h171 g172 (by decide) ?_; intro a174 n178 c175 Lb176 hz177
            refine shO_perm (L' := (b76, .cells #[.int .i64 before] 3 (0, 0)) :: ((b58, .cells #[.int .i64 before] 3 (0, 0)) :: ((b38, .cells #[.slice a32 n36 c33] 26 (0, 0)) :: ((b1, .cells #[.int .i64 wide, .slice plots_a plots.length plots_c] 24 (0, 0)) :: (Lb34 ++ (Lb176 ++ ((b170, .cells #[.int .i64 before] 3 (0, 0)) :: []))))))) (((frontC (frO)).trans (List.Perm.cons _ (((frontC (frO)).trans (List.Perm.cons _ (((frontC (frO)).trans (List.Perm.cons _ (((frontC (frO)).trans (List.Perm.cons _ (((frontC (List.Perm.refl _)).trans (List.Perm.append_left _ (((frontC (List.Perm.refl _)).trans (List.Perm.append_left _ (List.Perm.refl _))))))))))))))))))) ?_
            refine shO_drop (L' := (b76, .cells #[.int .i64 before] 3 (0, 0)) :: ((b58, .cells #[.int .i64 before] 3 (0, 0)) :: ((b38, .cells #[.slice a32 n36 c33] 26 (0, 0)) :: ((b1, .cells #[.int .i64 wide, .slice plots_a plots.length plots_c] 24 (0, 0)) :: (Lb34 ++ (Lb176 ++ [])))))) ((List.Sublist.cons_cons _ ((List.Sublist.cons_cons _ ((List.Sublist.cons_cons _ ((List.Sublist.cons_cons _ ((List.Sublist.append (List.Sublist.refl _) ((List.Sublist.append (List.Sublist.refl _) ((List.Sublist.cons _ (List.Sublist.refl _))))))))))))))) ?_
            refine ov (v_assign rfl) rfl ?_
            refine shO_nil ?_
            refine inBlock_n (id := 1) ?_
            obtain ⟨rfl, rfl⟩ := inj2 r173
            refine meet_i (L2 := (b58, .cells #[.int .i64 before] 3 (0, 0)) :: ((b38, .cells #[.slice a32 n36 c33] 26 (0, 0)) :: ((b1, .cells #[.int .i64 wide, .slice plots_a plots.length plots_c] 24 (0, 0)) :: (Lb34 ++ (Lb176 ++ []))))) (L3 := (b58, .cells #[.int .i64 before] 3 (0, 0)) :: ((b38, .cells #[.slice a32 n36 c33] 26 (0, 0)) :: ((b1, .cells #[.int .i64 wide, .slice plots_a plots.length plots_c] 24 (0, 0)) :: (Lb34 ++ (Lb176 ++ ((b76, .cells #[.int .i64 before] 3 (0, 0)) :: [])))))) (((frontC (frO)).trans (List.Perm.cons _ (((frontC (frO)).trans (List.Perm.cons _ (((frontC (frO)).trans (List.Perm.cons _ (((frontC (List.Perm.refl _)).trans (List.Perm.append_left _ (((frontC (List.Perm.refl _)).trans (List.Perm.append_left _ (List.Perm.refl _)))))))))))))))) ((List.Sublist.cons_cons _ ((List.Sublist.cons_cons _ ((List.Sublist.cons_cons _ ((List.Sublist.append (List.Sublist.refl _) ((List.Sublist.append (List.Sublist.refl _) ((List.Sublist.cons _ (List.Sublist.refl _))))))))))))) ?_
            exact ⟨a174, n178, c175, Lb176, hF169, rfl, (sc rfl (sc rfl (sc rfl (sc rfl (sc rfl (sc rfl (sn _))))))), hz177⟩
        · rintro e1 F181 _ ⟨a68, n72, c69, Lb70, hF182, rfl, he180, hz71⟩
          refine shW_env _ he180 ?_; clear he180
          replace h_plots := h_plots.mono (iE_ok _) hF182
          replace hp14 := hp14.mono (prE_ok (iE_ok _) (prE_ok (slE_ok (iE_ok _)) (prE_ok (iE_ok _) (prE_ok (iE_ok _) bE_ok)))) hF182
          replace h24 := h24.mono (iE_ok _) hF182
          replace hz35 := hz35.mono (iE_ok _) hF182
          replace hz21 := hF182 _ _ hz21
          refine shW_seq ?_
          refine shW_region ?_
          refine ov (v_load Try.isAgg3 rfl (Has.own 0 rfl) rfl) rfl ?_
          refine shO_nil ?_
          refine shW_region ?_
          refine o_alloc rfl Try.zeroValue3 ?_; intro b183 hb183
          refine o_store (i := 0) Try.sizeOf3 rfl rfl rfl rfl (Nat.le_of_ble_eq_true rfl) ?_
          refine shO_L (L' := (b183, .cells #[.int .i64 p2] 3 (0, 0)) :: ((b58, .cells #[.int .i64 p2] 3 (0, 0)) :: ((b38, .cells #[.slice a32 n36 c33] 26 (0, 0)) :: ((b1, .cells #[.int .i64 wide, .slice plots_a plots.length plots_c] 24 (0, 0)) :: (Lb34 ++ (Lb70 ++ [])))))) rfl ?_
          refine shO_nil ?_
          exact lp_end (Nat.lt_succ_self _) (meet_0 (L2 := (b183, .cells #[.int .i64 p2] 3 (0, 0)) :: ((b38, .cells #[.slice a32 n36 c33] 26 (0, 0)) :: ((b1, .cells #[.int .i64 wide, .slice plots_a plots.length plots_c] 24 (0, 0)) :: (Lb34 ++ (Lb70 ++ []))))) (L3 := (b183, .cells #[.int .i64 p2] 3 (0, 0)) :: ((b38, .cells #[.slice a32 n36 c33] 26 (0, 0)) :: ((b1, .cells #[.int .i64 wide, .slice plots_a plots.length plots_c] 24 (0, 0)) :: (Lb34 ++ (Lb70 ++ ((b58, .cells #[.int .i64 p2] 3 (0, 0)) :: [])))))) (List.Perm.cons _ (((frontC (frO)).trans (List.Perm.cons _ (((frontC (frO)).trans (List.Perm.cons _ (((frontC (List.Perm.refl _)).trans (List.Perm.append_left _ (((frontC (List.Perm.refl _)).trans (List.Perm.append_left _ (List.Perm.refl _)))))))))))))) ((List.Sublist.cons_cons _ ((List.Sublist.cons_cons _ ((List.Sublist.cons_cons _ ((List.Sublist.append (List.Sublist.refl _) ((List.Sublist.append (List.Sublist.refl _) ((List.Sublist.cons _ (List.Sublist.refl _))))))))))))) ⟨out3, p2, a68, n72, c69, Lb70, b183, r75, (hF65.trans hF182), rfl, (sc rfl (sc rfl (sc rfl (sc rfl (sc rfl (sc rfl (sn _))))))), hz71, hb183⟩)
      · have r184 := ite_f r62 c66; clear r62
        refine shW_exit ?_
        refine andThen_exit ?_
        refine andThen_exit ?_
        refine inBlock_exit ?_
        obtain rfl := inj1 r184
        refine meet_i (L2 := Lb54 ++ []) (L3 := Lb54 ++ ((b58, .cells #[.int .i64 p] 3 (0, 0)) :: ((b38, .cells #[.slice a32 n36 c33] 26 (0, 0)) :: ((b1, .cells #[.int .i64 wide, .slice plots_a plots.length plots_c] 24 (0, 0)) :: (Lb34 ++ []))))) (((frontC (frontC (frontC (frontS (List.Perm.refl _))))).trans (List.Perm.append_left _ (List.Perm.refl _)))) ((List.Sublist.append (List.Sublist.refl _) ((List.Sublist.cons _ ((List.Sublist.cons _ ((List.Sublist.cons _ (((List.Sublist.refl _).trans (List.sublist_append_right _ _))))))))))) ?_
        exact ⟨a52, n56, c53, Lb54, hF65, rfl, (sc rfl (sn _)), hz55⟩
    · rintro e1 F186 _ ⟨a43, n47, c44, Lb45, hF187, rfl, he185, hz46⟩
      refine shW_env _ he185 ?_; clear he185
      replace h_plots := h_plots.mono (iE_ok _) hF187
      replace hp14 := hp14.mono (prE_ok (iE_ok _) (prE_ok (slE_ok (iE_ok _)) (prE_ok (iE_ok _) (prE_ok (iE_ok _) bE_ok)))) hF187
      replace h24 := h24.mono (iE_ok _) hF187
      replace hz21 := hF187 _ _ hz21
      refine shW_seq ?_
      refine shW_region ?_
      refine ov (v_move rfl) rfl ?_
      obtain ⟨s_, h188, r189⟩ := b1_ok r50; clear r50
      refine o_callG (Lb := Lb45 ++ []) (Lr := []) rfl Try.call102 rfl rfl rfl ((List.Perm.refl _).trans (List.Perm.of_eq (by simp only [List.nil_append, List.cons_append, List.append_assoc, List.append_nil]))) (slices_Reverse_int_int_w hz46 h188) ?_; rintro _ F190 _ hF191 hd193 hn192 ⟨Lb194, rfl, rfl, hz195⟩
      replace h_plots := h_plots.mono (iE_ok _) hF191
      replace hp14 := hp14.mono (prE_ok (iE_ok _) (prE_ok (slE_ok (iE_ok _)) (prE_ok (iE_ok _) (prE_ok (iE_ok _) bE_ok)))) hF191
      replace h24 := h24.mono (iE_ok _) hF191
      replace hz46 := hz46.mono (iE_ok _) hF191
      replace hz21 := hF191 _ _ hz21
      refine shO_L (L' := Lb194 ++ []) (by simp only [List.nil_append, List.cons_append, List.append_assoc, List.append_nil] <;> rfl) ?_
      refine shO_nil ?_
      refine shW_seq ?_
      refine shW_region ?_
      refine ov (v_move rfl) rfl ?_
      refine ov (v_assign rfl) rfl ?_
      refine ov (v_assign rfl) rfl ?_
      refine shO_nil ?_
      refine shW_ret ?_
      refine q_res2 Try.results47 (res_tmp rfl) (res_tmp rfl) (List.Sublist.refl _) ?_
      obtain ⟨rfl, rfl⟩ := inj2 r189
      exact ⟨_, _, _, _, rfl, rfl, hz195.any⟩


set_option maxHeartbeats 1000000 in
theorem slices_Index_hear_ears_hear_ears_w {s__a : Option Addr} {s__c : Nat} {s_ : List (List Bool)} {v : List Bool} {F : FS} (h_s_ : RowR 30 (arE 30 cB) F s__a s__c s_) (h_v : v.length = 30) {r : Int} (hr : slices_Index_hear_ears_hear_ears s_ v = some r) :
    SpecV Try.prog 144 #[.slice s__a s_.length s__c, .agg (arr cB v)] F (.int .i64 r) := by
  refine spec_of_shW (args := [.slice s__a s_.length s__c, .agg (arr cB v)]) Try.func144 rfl Try.ntmps144 (Nat.le_of_ble_eq_true rfl) ?_
  intro K _ _; rw [slices_Index_hear_ears_hear_ears] at hr
  refine shW_seq ?_
  refine shW_region ?_
  refine o_box rfl rfl ?_; intro b1 hb1
  refine ov (v_assign rfl) rfl ?_
  refine shO_nil ?_
  refine shW_join (fun e1 F1 L1 => slices_Index_hear_ears_hear_ears_j1 = some r ∧ F = F1 ∧ L1 = [] ∧ e1.sub []) ?_ ?_
  · refine shW_seq ?_
    refine shW_region ?_
    refine ov (v_move rfl) rfl ?_
    refine ov (v_lenS Try.underlying119 rfl) rfl ?_
    refine ov (v_move rfl) rfl ?_
    refine shO_nil ?_
    refine shW_block ?_
    refine shW_lp (fun fu2 e1 F1 L1 => ∃ (tl : List (List Bool)) (k : Int), tl.length = fu2 ∧ Lst s_ k tl ∧ slices_Index_hear_ears_hear_ears_l2 v tl k = some r ∧ F = F1 ∧ L1 = [(b1, .cells (arr cB v) 142 (0, 0))] ∧ e1.sub [(0, .slice s__a s_.length s__c), (3, .pointer (some ⟨b1, 0, none⟩)), (7, .int .i64 (s_.length : Int)), (8, .int .i64 k)]) _ (meet_0 (L2 := [(b1, .cells (arr cB v) 142 (0, 0))]) (L3 := [(b1, .cells (arr cB v) 142 (0, 0))]) (List.Perm.refl _) (List.Sublist.refl _) ⟨_, _, rfl, Lst.start _, hr, rfl, rfl, (sc rfl (sc rfl (sc rfl (sc rfl (sn _)))))⟩) ?_
    rintro fu2 e1 _ _ ⟨tl, k, hn3, hk2, r4, rfl, rfl, he5⟩
    refine shW_env _ he5 ?_; clear he5
    refine shW_seq ?_
    refine shW_region ?_
    refine ov (v_lssK rfl rfl) rfl ?_
    refine shO_nil ?_
    refine shW_seq ?_
    refine shW_condP rfl (fun c7 => ?_) (fun c7 => ?_)
    · obtain ⟨x, tl2, rfl, hx9, g10, hk8⟩ := Lst.succ hk2 c7
      rw [slices_Index_hear_ears_hear_ears_l2] at r4
      refine shW_skip ?_
      refine shW_seq ?_
      refine shW_block ?_
      refine shW_seq ?_
      refine shW_region ?_
      refine ov (v_move rfl) rfl ?_
      refine ov (v_assign rfl) rfl ?_
      refine shO_nil ?_
      refine shW_seq ?_
      refine shW_draw (by kernel_rfl) (by kernel_rfl) (by kernel_rfl) ?_
      refine qv (v_loadW Try.isAgg142 Try.sizeOf142 rfl (Has.own 0 rfl) (arr_sz cB_ok h_v)) rfl ?_
      refine qv (v_move rfl) rfl ?_
      refine qv (v_move rfl) rfl ?_
      obtain ⟨b11, o12, c13, vs14, ha15, hs16, hle17, ⟨rfl, h20⟩, hl18, hc19⟩ := RowR.at (arE_ok (n := 30) (sz := 1) cB_ok) h_s_ ([(b1, .cells (arr cB v) 142 (0, 0))]) g10.1 hx9
      refine qv (v_indexO Try.underlying119 Try.sizeOf142 rfl ha15 rfl g10) rfl ?_
      refine qv (v_loadA (cs := arr cB x) Try.isAgg142 Try.sizeOf142 rfl hs16 hle17 (extract_cells hle17 hl18 hc19)) rfl ?_
      refine qv (v_eqA (eqga_142 _ _ _ _) (eqa_142 h_v h20) rfl rfl) rfl ?_
      refine shQ_nil ?_
      refine shW_condP rfl (fun c21 => ?_) (fun c21 => ?_)
      · have r22 := ite_t r4 c21; clear r4
        refine shW_seq ?_
        refine shW_region ?_
        refine ov (v_move rfl) rfl ?_
        refine ov (v_assign rfl) rfl ?_
        refine shO_nil ?_
        refine shW_drop (L' := []) ((List.Sublist.cons _ (List.Sublist.refl _))) ?_
        refine shW_ret ?_
        refine inBlock_ret ?_
        refine andThen_ret ?_
        refine andThen_ret ?_
        refine inBlock_ret ?_
        refine andThen_ret ?_
        refine q_res1 Try.results144 (res_tmp rfl) (List.Sublist.refl _) ?_
        obtain rfl := inj1 r22
        exact rfl
      · have r23 := ite_f r4 c21; clear r4
        refine shW_skip ?_
        refine inBlock_n (id := 1) ?_
        refine shW_region ?_
        refine ov (v_add rfl rfl (Lst.r64 hk2 c7 (RowR.lt h_s_))) rfl ?_
        refine ov (v_move rfl) rfl ?_
        refine shO_nil ?_
        subst hn3; exact lp_end (Nat.lt_succ_self _) (meet_0 (L2 := [(b1, .cells (arr cB v) 142 (0, 0))]) (L3 := [(b1, .cells (arr cB v) 142 (0, 0))]) (List.Perm.refl _) (List.Sublist.refl _) ⟨_, _, rfl, hk8, r23, rfl, rfl, (sc rfl (sc rfl (sc rfl (sc rfl (sn _)))))⟩)
    · obtain rfl := Lst.zero hk2 c7
      rw [slices_Index_hear_ears_hear_ears_l2] at r4
      refine shW_exit ?_
      refine andThen_exit ?_
      refine andThen_exit ?_
      refine inBlock_exit ?_
      refine meet_i (L2 := []) (L3 := [(b1, .cells (arr cB v) 142 (0, 0))]) (List.Perm.refl _) ((List.Sublist.cons _ (List.Sublist.refl _))) ?_
      exact ⟨r4, rfl, rfl, (sn _)⟩
  · rintro e1 _ _ ⟨r24, rfl, rfl, he25⟩
    refine shW_env _ he25 ?_; clear he25
    rw [slices_Index_hear_ears_hear_ears_j1] at r24
    refine shW_seq ?_
    refine shW_region ?_
    refine ov (v_assign rfl) rfl ?_
    refine shO_nil ?_
    refine shW_ret ?_
    refine q_res1 Try.results144 (res_tmp rfl) (List.Sublist.refl _) ?_
    obtain rfl := inj1 r24
    exact rfl


set_option maxHeartbeats 1000000 in
theorem slices_Contains_hear_ears_hear_ears_w {s__a : Option Addr} {s__c : Nat} {s_ : List (List Bool)} {v : List Bool} {F : FS} (h_s_ : RowR 30 (arE 30 cB) F s__a s__c s_) (h_v : v.length = 30) {r : Bool} (hr : slices_Contains_hear_ears_hear_ears s_ v = some r) :
    SpecV Try.prog 135 #[.slice s__a s_.length s__c, .agg (arr cB v)] F (.bool r) := by
  refine spec_of_shW (args := [.slice s__a s_.length s__c, .agg (arr cB v)]) Try.func135 rfl Try.ntmps135 (Nat.le_of_ble_eq_true rfl) ?_
  intro K _ _; rw [slices_Contains_hear_ears_hear_ears] at hr
  refine shW_seq ?_
  refine shW_region ?_
  refine o_box rfl rfl ?_; intro b1 hb1
  refine ov (v_assign rfl) rfl ?_
  refine shO_nil ?_
  refine shW_seq ?_
  refine shW_region ?_
  refine ov (v_move rfl) rfl ?_
  refine ov (v_loadW Try.isAgg142 Try.sizeOf142 rfl (Has.own 0 rfl) (arr_sz cB_ok h_v)) rfl ?_
  obtain ⟨n, h2, r3⟩ := b1_ok hr; clear hr
  refine o_callV rfl Try.call144 rfl rfl rfl (slices_Index_hear_ears_hear_ears_w h_s_ h_v h2) ?_
  refine ov (v_geqK rfl rfl) rfl ?_
  refine ov (v_assign rfl) rfl ?_
  refine shO_nil ?_
  refine shW_drop (L' := []) ((List.Sublist.cons _ (List.Sublist.refl _))) ?_
  refine shW_ret ?_
  refine q_res1 Try.results135 (res_tmp rfl) (List.Sublist.refl _) ?_
  obtain rfl := inj1 r3
  exact rfl


set_option maxHeartbeats 1000000 in
theorem hear_quarter_deaf_w {ears_a : Option Addr} {ears_c : Nat} {ears : List (List Bool)} {count_f : FuncId} {count_1 : Array Value} {count_2 : Array Value} {count : Int → Option Int} {F : FS} (h_ears : RowR 30 (arE 30 cB) F ears_a ears_c ears) (h_count : FnR Try.prog F count_f count_1 count_2 (iE .i64) (Value.int .i64) count) {r : Bool} (hr : hear_quarter_deaf ears count = some r) :
    SpecV Try.prog 107 #[.agg #[.slice ears_a ears.length ears_c, .func (.func count_f) count_1 count_2]] F (.bool r) := by
  refine spec_of_shW (args := [.agg #[.slice ears_a ears.length ears_c, .func (.func count_f) count_1 count_2]]) Try.func107 rfl Try.ntmps107 (Nat.le_of_ble_eq_true rfl) ?_
  intro K _ _; rw [hear_quarter_deaf] at hr
  refine shW_seq ?_
  refine shW_region ?_
  refine o_box rfl rfl ?_; intro b1 hb1
  refine ov (v_assign rfl) rfl ?_
  refine shO_nil ?_
  refine shW_seq ?_
  refine shW_region ?_
  refine ov (v_fieldAddr fa_121_0 rfl) rfl ?_
  refine ov (v_load Try.isAgg119 rfl (Has.own 0 rfl) rfl) rfl ?_
  refine ov (v_build (v := .agg (arr cB (List.replicate 30 false))) rfl (by intro w; kernel_rfl)) rfl ?_
  obtain ⟨ok, h2, r3⟩ := b1_ok hr; clear hr
  refine o_callV rfl Try.call135 rfl rfl rfl (slices_Contains_hear_ears_hear_ears_w h_ears List.length_replicate h2) ?_
  refine ov (v_assign rfl) rfl ?_
  refine shO_nil ?_
  refine shW_drop (L' := []) ((List.Sublist.cons _ (List.Sublist.refl _))) ?_
  refine shW_ret ?_
  refine q_res1 Try.results107 (res_tmp rfl) (List.Sublist.refl _) ?_
  obtain rfl := inj1 r3
  exact rfl


set_option maxHeartbeats 1000000 in
theorem slices_Compact_hear_ears_hear_ears_w {s__a : Option Addr} {s__n : Nat} {s__c : Nat} {s__L : LH} {s_ : List (List Bool)} {s__nb : Nat} {F : FS} (h_s_ : SlR s__nb 142 30 (arE 30 cB) F s__a s__n s__c s_ s__L) {r : List (List Bool)} (hr : slices_Compact_hear_ears_hear_ears s_ = some r) :
    SH.Spec Try.prog 108 #[.slice s__a s__n s__c] F (s__L ++ []) fun F' L' v => ∃ (ra : Option Addr) (rn : Nat) (rc : Nat) (rL : LH), v = .slice ra rn rc ∧ L' = rL ++ [] ∧ SlR s__nb 142 30 (arE 30 cB) F' ra rn rc r rL := by
  refine spec_of_shW (args := [.slice s__a s__n s__c]) Try.func108 rfl Try.ntmps108 (Nat.le_of_ble_eq_true rfl) ?_
  intro K _ _; rw [slices_Compact_hear_ears_hear_ears] at hr
  refine shW_L (L' := s__L ++ []) (by simp) ?_
  refine shW_seq ?_
  refine shW_region ?_
  refine ov (v_assign rfl) rfl ?_
  refine shO_nil ?_
  refine shW_seq ?_
  refine shW_seq ?_
  refine shW_region ?_
  refine ov (v_move rfl) rfl ?_
  refine ov ((v_lenS Try.underlying119 rfl).i (SlR.lenI h_s_)) rfl ?_
  refine ov (v_lssK rfl rfl) rfl ?_
  refine shO_nil ?_
  refine shW_condP rfl (fun c1 => ?_) (fun c1 => ?_)
  · have r2 := ite_t hr c1; clear hr
    refine shW_seq ?_
    refine shW_region ?_
    refine ov (v_move rfl) rfl ?_
    refine ov (v_assign rfl) rfl ?_
    refine shO_nil ?_
    refine shW_ret ?_
    refine andThen_ret ?_
    refine q_res1 Try.results108 (res_tmp rfl) (List.Sublist.refl _) ?_
    obtain rfl := inj1 r2
    exact ⟨_, _, _, _, rfl, rfl, h_s_⟩
  · have r3 := ite_f hr c1; clear hr
    refine shW_skip ?_
    refine shW_join (fun e1 F1 L1 => slices_Compact_hear_ears_hear_ears_j1 s_ = some r ∧ F = F1 ∧ L1 = (s__L ++ []) ∧ e1.sub [(0, .slice s__a s__n s__c)]) ?_ ?_
    · refine shW_seq ?_
      refine shW_region ?_
      refine ov (v_assign rfl) rfl ?_
      refine shO_nil ?_
      refine shW_block ?_
      obtain ⟨g4, r5⟩ := gd_ok r3; clear r3
      refine shW_lp (fun fu2 e1 F1 L1 => ∃ (k : Int), Ctr 1 (s_.length : Int) k fu2 ∧ slices_Compact_hear_ears_hear_ears_l2 s_ fu2 k = some r ∧ F = F1 ∧ L1 = (s__L ++ []) ∧ e1.sub [(0, .slice s__a s__n s__c), (3, .int .i64 k)]) _ (meet_0 (L2 := s__L ++ []) (L3 := s__L ++ []) (List.Perm.refl _) (List.Sublist.refl _) ⟨_, Ctr.start _ _, r5, rfl, rfl, (sc rfl (sc rfl (sn _)))⟩) ?_
      rintro fu2 e1 _ _ ⟨k, hk6, r8, rfl, rfl, he9⟩
      refine shW_env _ he9 ?_; clear he9
      refine shW_seq ?_
      refine shW_seq ?_
      refine shW_region ?_
      refine ov (v_move rfl) rfl ?_
      refine ov (v_move rfl) rfl ?_
      refine ov ((v_lenS Try.underlying119 rfl).i (SlR.lenI h_s_)) rfl ?_
      refine ov (v_lssK rfl rfl) rfl ?_
      refine shO_nil ?_
      refine shW_condP rfl (fun c11 => ?_) (fun c11 => ?_)
      · obtain ⟨fu2, rfl, hk12⟩ := Ctr.succ hk6 c11
        rw [slices_Compact_hear_ears_hear_ears_l2] at r8
        refine shW_skip ?_
        refine shW_join (fun e1 F1 L1 => slices_Compact_hear_ears_hear_ears_j3 k (slices_Compact_hear_ears_hear_ears_l2 s_ fu2) = some r ∧ F = F1 ∧ L1 = (s__L ++ []) ∧ e1.sub [(0, .slice s__a s__n s__c), (3, .int .i64 k)]) ?_ ?_
        · refine shW_block ?_
          refine shW_seq ?_
          refine shW_draw (by kernel_rfl) (by kernel_rfl) (by kernel_rfl) ?_
          refine qv (v_move rfl) rfl ?_
          refine qv (v_move rfl) rfl ?_
          obtain ⟨x, g13, hx14, r15⟩ := ix_ok r8; clear r8
          obtain ⟨b16, o17, c18, vs19, ha20, hs21, hle22, ⟨rfl, h25⟩, hl23, hc24⟩ := SlR.at (arE_ok (n := 30) (sz := 1) cB_ok) h_s_ (L := s__L ++ []) (List.Perm.refl _) g13.1 hx14
          refine qv (v_indexO Try.underlying119 Try.sizeOf142 rfl ha20 rfl (SlR.idx h_s_ g13)) rfl ?_
          refine qv (v_loadA (cs := arr cB x) Try.isAgg142 Try.sizeOf142 rfl hs21 hle22 (extract_cells hle22 hl23 hc24)) rfl ?_
          refine qv (v_move rfl) rfl ?_
          refine qv (v_move rfl) rfl ?_
          obtain ⟨g26, r27⟩ := gd_ok r15; clear r15
          refine qv (v_sub rfl rfl g26) rfl ?_
          obtain ⟨x2, g28, hx29, r30⟩ := ix_ok r27; clear r27
          obtain ⟨b31, o32, c33, vs34, ha35, hs36, hle37, ⟨rfl, h40⟩, hl38, hc39⟩ := SlR.at (arE_ok (n := 30) (sz := 1) cB_ok) h_s_ (L := s__L ++ []) (List.Perm.refl _) g28.1 hx29
          refine qv (v_indexO Try.underlying119 Try.sizeOf142 rfl ha35 rfl (SlR.idx h_s_ g28)) rfl ?_
          refine qv (v_loadA (cs := arr cB x2) Try.isAgg142 Try.sizeOf142 rfl hs36 hle37 (extract_cells hle37 hl38 hc39)) rfl ?_
          refine qv (v_eqA (eqga_142 _ _ _ _) (eqa_142 h25 h40) rfl rfl) rfl ?_
          refine shQ_nil ?_
          refine shW_condP rfl (fun c41 => ?_) (fun c41 => ?_)
          · have r42 := ite_t r30 c41; clear r30
            refine shW_seq ?_
            refine shW_region ?_
            refine ov (v_move rfl) rfl ?_
            refine ov (v_move rfl) rfl ?_
            obtain ⟨g43, r44⟩ := gd_ok r42; clear r42
            have gv45 := SlR.gV h_s_ g43
            refine ov (OpV.eq (v' := .slice (vwA s__a s__c (Int.toNat k) 30) (s__n - Int.toNat k) (s__c - Int.toNat k)) (v_slice (l := k) (h := (s__n : Nat)) Try.underlying119 Try.sizeOf142 rfl (.inr ⟨_, rfl, rfl⟩) (.inl ⟨rfl, rfl⟩) (SlR.capV h_s_ gv45)) rfl) rfl ?_
            refine ov (v_assign rfl) rfl ?_
            refine shO_nil ?_
            obtain ⟨s_2, k2, h48, r49⟩ := b2_ok r44; clear r44
            refine shW_join (fun e1 F1 L1 => ∃ (Lb46 : LH), F = F1 ∧ L1 = (Lb46 ++ []) ∧ e1.sub [(0, .slice s__a s__n s__c), (3, .int .i64 k2)] ∧ SlR s__nb 142 30 (arE 30 cB) F1 s__a s__n s__c s_2 Lb46) ?_ ?_
            · clear r49
              refine shW_seq ?_
              refine shW_region ?_
              refine ov (v_assign rfl) rfl ?_
              refine shO_nil ?_
              refine shW_block ?_
              refine shW_lp (fun fu4 e1 F1 L1 => ∃ (s_3 : List (List Bool)) (k3 : Int) (k2_2 : Int) (Lb50 : LH), slices_Compact_hear_ears_hear_ears_l4 k fu4 s_3 k3 k2_2 = some (s_2, k2) ∧ F = F1 ∧ L1 = (Lb50 ++ []) ∧ e1.sub [(0, .slice s__a s__n s__c), (3, .int .i64 k3), (4, .slice (vwA s__a s__c (Int.toNat k) 30) (s__n - Int.toNat k) (s__c - Int.toNat k)), (5, .int .i64 k2_2)] ∧ SlR s__nb 142 30 (arE 30 cB) F1 s__a s__n s__c s_3 Lb50) FU (meet_0 (L2 := s__L ++ []) (L3 := s__L ++ []) (List.Perm.refl _) (List.Sublist.refl _) ⟨s_, k, 1, s__L, h48, rfl, rfl, (sc rfl (sc rfl (sc rfl (sc rfl (sn _))))), h_s_⟩) ?_
              rintro fu4 e1 _ _ ⟨s_3, k3, k2_2, Lb50, r54, rfl, rfl, he55, hz51⟩
              refine shW_env _ he55 ?_; clear he55
              rcases fu4 with _ | fu4
              · rw [slices_Compact_hear_ears_hear_ears_l4] at r54; cases r54
              rw [slices_Compact_hear_ears_hear_ears_l4] at r54
              refine shW_seq ?_
              refine shW_seq ?_
              refine shW_region ?_
              refine ov (v_move rfl) rfl ?_
              refine ov (v_move rfl) rfl ?_
              refine ov ((v_lenS Try.underlying119 rfl).i (SlR.lenV hz51).symm) rfl ?_
              refine ov (v_lssK rfl rfl) rfl ?_
              refine shO_nil ?_
              refine shW_condP rfl (fun c56 => ?_) (fun c56 => ?_)
              · have r57 := ite_t r54 c56; clear r54
                refine shW_skip ?_
                refine shW_seq ?_
                refine shW_block ?_
                refine shW_seq ?_
                refine shW_draw (by kernel_rfl) (by kernel_rfl) (by kernel_rfl) ?_
                refine qv (v_move rfl) rfl ?_
                refine qv (v_move rfl) rfl ?_
                obtain ⟨x3, g58, hx59, r60⟩ := ix_ok r57; clear r57
                obtain ⟨b61, o62, c63, vs64, ha65, hs66, hle67, ⟨rfl, h70⟩, hl68, hc69⟩ := SlR.atV (arE_ok (n := 30) (sz := 1) cB_ok) hz51 (L := Lb50 ++ []) (List.Perm.refl _) gv45 g58.1 hx59
                refine qv (v_indexO Try.underlying119 Try.sizeOf142 rfl ha65 rfl (SlR.idxV hz51 g58)) rfl ?_
                refine qv (v_loadA (cs := arr cB x3) Try.isAgg142 Try.sizeOf142 rfl hs66 hle67 (extract_cells hle67 hl68 hc69)) rfl ?_
                refine qv (v_move rfl) rfl ?_
                refine qv (v_move rfl) rfl ?_
                obtain ⟨g71, r72⟩ := gd_ok r60; clear r60
                refine qv (v_sub rfl rfl g71) rfl ?_
                obtain ⟨x4, g73, hx74, r75⟩ := ix_ok r72; clear r72
                obtain ⟨b76, o77, c78, vs79, ha80, hs81, hle82, ⟨rfl, h85⟩, hl83, hc84⟩ := SlR.atV (arE_ok (n := 30) (sz := 1) cB_ok) hz51 (L := Lb50 ++ []) (List.Perm.refl _) gv45 g73.1 hx74
                refine qv (v_indexO Try.underlying119 Try.sizeOf142 rfl ha80 rfl (SlR.idxV hz51 g73)) rfl ?_
                refine qv (v_loadA (cs := arr cB x4) Try.isAgg142 Try.sizeOf142 rfl hs81 hle82 (extract_cells hle82 hl83 hc84)) rfl ?_
                refine qv (v_neA (eqgna_142 _ _ _ _) (nea_142 h70 h85) rfl rfl) rfl ?_
                refine shQ_nil ?_
                refine shW_condP rfl (fun c86 => ?_) (fun c86 => ?_)
                · have r87 := ite_t r75 c86; clear r75
                  refine shW_seq ?_
                  refine shW_region ?_
                  refine ov (v_move rfl) rfl ?_
                  refine ov (v_move rfl) rfl ?_
                  refine ov (v_move rfl) rfl ?_
                  refine ov (v_move rfl) rfl ?_
                  obtain ⟨b88, o89, c90, vs91, ha92, hs93, hle94, ⟨rfl, h97⟩, hl95, hc96⟩ := SlR.atV (arE_ok (n := 30) (sz := 1) cB_ok) hz51 (L := Lb50 ++ []) (List.Perm.refl _) gv45 g58.1 hx59
                  refine ov (v_indexO Try.underlying119 Try.sizeOf142 rfl ha92 rfl (SlR.idxV hz51 g58)) rfl ?_
                  refine ov (v_loadA (cs := arr cB x3) Try.isAgg142 Try.sizeOf142 rfl hs93 hle94 (extract_cells hle94 hl95 hc96)) rfl ?_
                  obtain ⟨x5, g98, hx99, r100⟩ := ix_ok r87; clear r87
                  obtain ⟨b101, o102, c103, vs104, ha105, hs106, hle107, ⟨rfl, h110⟩, hl108, hc109⟩ := SlR.at (arE_ok (n := 30) (sz := 1) cB_ok) hz51 (L := Lb50 ++ []) (List.Perm.refl _) g98.1 hx99
                  refine ov (v_indexO Try.underlying119 Try.sizeOf142 rfl ha105 rfl (SlR.idx hz51 g98)) rfl ?_
                  obtain ⟨s_4, h111, r112⟩ := bv_ok r100; clear r100
                  refine o_storeZ (u := x3) Try.sizeOf142 (arE_ok (n := 30) (sz := 1) cB_ok) rfl ha105 rfl ⟨rfl, h97⟩ (fun _ => .h) hz51 h111 g98 ?_; intro Lb113 hz114
                  refine shO_nil ?_
                  refine shW_region ?_
                  refine ov (v_move rfl) rfl ?_
                  obtain ⟨g115, r116⟩ := gd_ok r112; clear r112
                  refine ov (v_add rfl rfl g115) rfl ?_
                  refine ov (v_assign rfl) rfl ?_
                  refine shO_nil ?_
                  refine inBlock_n (id := 3) ?_
                  refine shW_region ?_
                  refine ov (v_move rfl) rfl ?_
                  obtain ⟨g117, r118⟩ := gd_ok r116; clear r116
                  refine ov (v_add rfl rfl g117) rfl ?_
                  refine ov (v_assign rfl) rfl ?_
                  refine shO_nil ?_
                  exact lp_end (Nat.lt_succ_self _) (meet_0 (L2 := Lb113 ++ []) (L3 := Lb113 ++ []) (List.Perm.refl _) (List.Sublist.refl _) ⟨s_4, k3 + 1, k2_2 + 1, Lb113, r118, rfl, rfl, (sc rfl (sc rfl (sc rfl (sc rfl (sn _))))), hz114⟩)
                · have r119 := ite_f r75 c86; clear r75
                  refine shW_skip ?_
                  refine inBlock_n (id := 3) ?_
                  refine shW_region ?_
                  refine ov (v_move rfl) rfl ?_
                  obtain ⟨g120, r121⟩ := gd_ok r119; clear r119
                  refine ov (v_add rfl rfl g120) rfl ?_
                  refine ov (v_assign rfl) rfl ?_
                  refine shO_nil ?_
                  exact lp_end (Nat.lt_succ_self _) (meet_0 (L2 := Lb50 ++ []) (L3 := Lb50 ++ []) (List.Perm.refl _) (List.Sublist.refl _) ⟨s_3, k3, k2_2 + 1, Lb50, r121, rfl, rfl, (sc rfl (sc rfl (sc rfl (sc rfl (sn _))))), hz51⟩)
              · have r122 := ite_f r54 c56; clear r54
                refine shW_exit ?_
                refine andThen_exit ?_
                refine andThen_exit ?_
                refine inBlock_exit ?_
                obtain ⟨rfl, rfl⟩ := inj2 r122
                refine meet_i (L2 := Lb50 ++ []) (L3 := Lb50 ++ []) (List.Perm.refl _) (List.Sublist.refl _) ?_
                exact ⟨Lb50, rfl, rfl, (sc rfl (sc rfl (sn _))), hz51⟩
            · rintro e1 _ _ ⟨Lb46, rfl, rfl, he123, hz47⟩
              refine shW_env _ he123 ?_; clear he123
              refine shW_seq ?_
              refine shW_region ?_
              refine ov (v_move rfl) rfl ?_
              refine ov (v_move rfl) rfl ?_
              obtain ⟨g124, r125⟩ := gd_ok r49; clear r49
              have gv126 := SlR.gV hz47 g124
              refine ov (OpV.eq (v' := .slice (vwA s__a s__c (Int.toNat k2) 30) (s__n - Int.toNat k2) (s__c - Int.toNat k2)) (v_slice (l := k2) (h := (s__n : Nat)) Try.underlying119 Try.sizeOf142 rfl (.inr ⟨_, rfl, rfl⟩) (.inl ⟨rfl, rfl⟩) (SlR.capV hz47 gv126)) rfl) rfl ?_
              obtain ⟨s_5, h127, r128⟩ := bv_ok r125; clear r125
              refine o_clearV (z0 := List.replicate 30 false) (zs := s_5) (l := k2) rfl slt_119 (by decide) (arE_ok (n := 30) (sz := 1) cB_ok) (fun _ => ⟨rfl, rfl⟩) rfl (fun _ => .h) hz47 gv126 h127 ?_; intro Lb129 hz130
              refine shO_nil ?_
              refine shW_seq ?_
              refine shW_region ?_
              refine ov (v_move rfl) rfl ?_
              refine ov (v_move rfl) rfl ?_
              obtain ⟨g131, r132⟩ := gd_ok r128; clear r128
              obtain ⟨s_6, h133, r134⟩ := bv_ok r132; clear r132
              refine o_sliceZ (l := 0) (h := k2) (zs := s_6) rfl slt_119 (arE_ok (n := 30) (sz := 1) cB_ok) rfl (.inl ⟨rfl, rfl⟩) (.inr ⟨_, rfl, rfl⟩) (fun _ => .h) hz130 g131 h133 ?_; intro a135 n138 c136 Lb139 h137
              refine ov (v_assign rfl) rfl ?_
              refine shO_nil ?_
              refine shW_ret ?_
              refine inBlock_ret ?_
              refine andThen_ret ?_
              refine andThen_ret ?_
              refine inBlock_ret ?_
              refine andThen_ret ?_
              refine q_res1 Try.results108 (res_tmp rfl) (List.Sublist.refl _) ?_
              obtain rfl := inj1 r134
              exact ⟨_, _, _, _, rfl, rfl, h137⟩
          · have r141 := ite_f r30 c41; clear r30
            refine shW_skip ?_
            refine inBlock_n (id := 1) ?_
            refine meet_i (L2 := s__L ++ []) (L3 := s__L ++ []) (List.Perm.refl _) (List.Sublist.refl _) ?_
            exact ⟨r141, rfl, rfl, (sc rfl (sc rfl (sn _)))⟩
        · rintro e1 _ _ ⟨r142, rfl, rfl, he143⟩
          refine shW_env _ he143 ?_; clear he143
          rw [slices_Compact_hear_ears_hear_ears_j3] at r142
          refine shW_region ?_
          refine ov (v_move rfl) rfl ?_
          refine ov (v_add rfl rfl (Ctr.r64 hk6 c11 g4)) rfl ?_
          refine ov (v_assign rfl) rfl ?_
          refine shO_nil ?_
          exact lp_end (Nat.lt_succ_self _) (meet_0 (L2 := s__L ++ []) (L3 := s__L ++ []) (List.Perm.refl _) (List.Sublist.refl _) ⟨_, hk12, r142, rfl, rfl, (sc rfl (sc rfl (sn _)))⟩)
      · obtain rfl := Ctr.zero hk6 c11
        rw [slices_Compact_hear_ears_hear_ears_l2] at r8
        refine shW_exit ?_
        refine andThen_exit ?_
        refine andThen_exit ?_
        refine inBlock_exit ?_
        refine meet_i (L2 := s__L ++ []) (L3 := s__L ++ []) (List.Perm.refl _) (List.Sublist.refl _) ?_
        exact ⟨r8, rfl, rfl, (sc rfl (sn _))⟩
    · rintro e1 _ _ ⟨r144, rfl, rfl, he145⟩
      refine shW_env _ he145 ?_; clear he145
      rw [slices_Compact_hear_ears_hear_ears_j1] at r144
      refine shW_seq ?_
      refine shW_region ?_
      refine ov (v_move rfl) rfl ?_
      refine ov (v_assign rfl) rfl ?_
      refine shO_nil ?_
      refine shW_ret ?_
      refine q_res1 Try.results108 (res_tmp rfl) (List.Sublist.refl _) ?_
      obtain rfl := inj1 r144
      exact ⟨_, _, _, _, rfl, rfl, h_s_⟩


set_option maxHeartbeats 1000000 in
theorem slices_Clone_hear_ears_hear_ears_w {s__a : Option Addr} {s__c : Nat} {s_ : List (List Bool)} {F : FS} (h_s_ : RowR 30 (arE 30 cB) F s__a s__c s_) {r : List (List Bool)} (hr : slices_Clone_hear_ears_hear_ears s_ = some r) :
    SH.Spec Try.prog 109 #[.slice s__a s_.length s__c] F [] fun F' L' v => ∃ (ra : Option Addr) (rn : Nat) (rc : Nat) (rL : LH), v = .slice ra rn rc ∧ L' = rL ++ [] ∧ SlR 0 142 30 (arE 30 cB) F' ra rn rc r rL := by
  refine spec_of_shW (args := [.slice s__a s_.length s__c]) Try.func109 rfl Try.ntmps109 (Nat.le_of_ble_eq_true rfl) ?_
  intro K _ _; rw [slices_Clone_hear_ears_hear_ears] at hr
  refine shW_seq ?_
  refine shW_region ?_
  refine ov (v_assign rfl) rfl ?_
  refine shO_nil ?_
  refine shW_seq ?_
  refine shW_seq ?_
  refine shW_region ?_
  refine ov (v_move rfl) rfl ?_
  refine ov (v_eqlNil Try.underlying119 rfl) rfl ?_
  refine shO_nil ?_
  refine shW_cond rfl (fun c1 => ?_) (fun c1 => ?_)
  · have r2 := nilIf_t hr (RowR.isNone h_s_ c1); clear hr
    refine shW_seq ?_
    refine shW_region ?_
    refine ov (v_assign rfl) rfl ?_
    refine shO_nil ?_
    refine shW_ret ?_
    refine andThen_ret ?_
    refine q_res1 Try.results109 (res_tmp rfl) (List.Sublist.refl _) ?_
    obtain rfl := inj1 r2
    exact ⟨_, _, _, [], rfl, rfl, SlR.nil _ _ _ _ _⟩
  · have r3 := nilIf_f hr; clear hr
    refine shW_skip ?_
    refine shW_seq ?_
    refine shW_region ?_
    refine o_buildSlice (cs := #[]) rfl rfl (buildSlice_none slt_119) ?_; intro b4 hb4
    refine ov (v_move rfl) rfl ?_
    have hz6 : SlR K.w0.heap.size 142 30 (arE 30 cB) F (some ⟨b4, 0, none⟩) 0 0 ([] : List (List Bool)) [(b4, .cells #[] 142 (0, 0))] := SlR.of_block (vss := []) (arE_ok (n := 30) (sz := 1) cB_ok) hb4 .nil rfl rfl (by simp [maxLen])
    generalize hLLb5 : ([(b4, .cells #[] 142 (0, 0))] : LH) = Lb5 at hz6
    refine shO_perm (L' := Lb5 ++ []) (by rw [← hLLb5]; exact (frO)) ?_
    obtain ⟨l, h8, g9, r10⟩ := ap_ok r3; clear r3
    refine o_appZ (xs := ([] : List (List Bool))) (ys := s_) (zs := l) rfl slt_119 rfl rfl (Nat.le_refl _) (fun _ => .h) hz6 (RowR.src h_s_) h8 g9 (by decide) ?_; intro a11 n15 c12 Lb13 hz14
    refine ov (v_assign rfl) rfl ?_
    refine shO_nil ?_
    refine shW_ret ?_
    refine q_res1 Try.results109 (res_tmp rfl) (List.Sublist.refl _) ?_
    obtain rfl := inj1 r10
    exact ⟨_, _, _, _, rfl, rfl, hz14.any⟩


set_option maxHeartbeats 1000000 in
theorem hear_Fewest_w {wide : Int} {plots_a : Option Addr} {plots_c : Nat} {plots : List Int} {wind : Int} {voice : Int} {houses_a : Option Addr} {houses_c : Nat} {houses : List Int} {F : FS} (h_plots : RowR 1 (iE .i64) F plots_a plots_c plots) (h_houses : RowR 1 (iE .i64) F houses_a houses_c houses) {r : List Int} {r2 : Int} (hr : hear_Fewest wide plots wind voice houses = some (r, r2)) :
    SH.Spec Try.prog 59 #[.agg #[.int .i64 wide, .slice plots_a plots.length plots_c], .agg #[.int .i64 wind, .int .i64 voice], .slice houses_a houses.length houses_c] F [] fun F' L' v => ∃ (ra : Option Addr) (rn : Nat) (rc : Nat) (rL : LH), v = .tuple #[.slice ra rn rc, .int .i64 r2] ∧ L' = rL ++ [] ∧ SlR 0 3 1 (iE .i64) F' ra rn rc r rL := by
  refine spec_of_shW (args := [.agg #[.int .i64 wide, .slice plots_a plots.length plots_c], .agg #[.int .i64 wind, .int .i64 voice], .slice houses_a houses.length houses_c]) Try.func59 rfl Try.ntmps59 (Nat.le_of_ble_eq_true rfl) ?_
  intro K _ _; rw [hear_Fewest] at hr
  refine shW_seq ?_
  refine shW_region ?_
  refine o_box rfl rfl ?_; intro b1 hb1
  refine o_box rfl rfl ?_; intro b2 hb2
  refine ov (v_assign rfl) rfl ?_
  refine ov (v_assign rfl) rfl ?_
  refine shO_nil ?_
  refine shW_seq ?_
  refine shW_region ?_
  refine ov (v_loadA (cs := #[.int .i64 wide, .slice plots_a plots.length plots_c]) Try.isAgg24 Try.sizeOf24 rfl (Has.own 1 rfl) (Nat.le_of_ble_eq_true rfl) rfl) rfl ?_
  refine ov (v_loadA (cs := #[.int .i64 wind, .int .i64 voice]) Try.isAgg48 Try.sizeOf48 rfl (Has.own 0 rfl) (Nat.le_of_ble_eq_true rfl) rfl) rfl ?_
  refine ov (v_move rfl) rfl ?_
  obtain ⟨l, y, n, h3, r4⟩ := b3_ok hr; clear hr
  refine o_call0 rfl Try.call88 rfl rfl rfl (hear_asked_w h_plots h_houses h3) ?_; rintro _ F5 _ hF6 hn7 ⟨a9, n13, c10, Lb11, v15, rfl, rfl, hz12, hp16⟩
  replace h_plots := h_plots.mono (iE_ok _) hF6
  replace h_houses := h_houses.mono (iE_ok _) hF6
  replace hz12 := hz12.new fun p hp => hn7 p (by simp [hp])
  refine shO_L (L' := Lb11 ++ ((b2, .cells #[.int .i64 wind, .int .i64 voice] 48 (0, 0)) :: ((b1, .cells #[.int .i64 wide, .slice plots_a plots.length plots_c] 24 (0, 0)) :: []))) (by simp only [List.nil_append, List.cons_append, List.append_assoc, List.append_nil] <;> rfl) ?_
  refine shO_perm (L' := (b2, .cells #[.int .i64 wind, .int .i64 voice] 48 (0, 0)) :: ((b1, .cells #[.int .i64 wide, .slice plots_a plots.length plots_c] 24 (0, 0)) :: (Lb11 ++ []))) (((frontS (frO)).trans (List.Perm.cons _ (((frontS (frO)).trans (List.Perm.cons _ (List.Perm.refl _))))))) ?_
  refine ov (v_move rfl) rfl ?_
  refine ov (v_extract rfl rfl) rfl ?_
  refine ov (v_extract rfl rfl) rfl ?_
  refine o_alloc rfl Try.zeroValue121 ?_; intro b17 hb17
  refine o_storeA (i := 0) Try.sizeOf121 rfl rfl rfl (List.forall_mem_cons.2 ⟨rfl, (List.forall_mem_cons.2 ⟨hp16.1, (fun _ h => absurd h List.not_mem_nil)⟩)⟩) rfl (Nat.le_of_ble_eq_true rfl) ?_
  refine shO_L (L' := (b17, .cells #[.slice a9 n13 c10, v15] 121 (0, 0)) :: ((b2, .cells #[.int .i64 wind, .int .i64 voice] 48 (0, 0)) :: ((b1, .cells #[.int .i64 wide, .slice plots_a plots.length plots_c] 24 (0, 0)) :: (Lb11 ++ [])))) rfl ?_
  refine ov (v_assign rfl) rfl ?_
  refine shO_nil ?_
  refine shW_seq ?_
  refine shW_block ?_
  refine shW_seq ?_
  refine shW_region ?_
  refine ov (v_move rfl) rfl ?_
  refine ov (v_neq rfl rfl) rfl ?_
  refine ov (v_assign rfl) rfl ?_
  refine shO_nil ?_
  refine shW_condP rfl (fun c18 => ?_) (fun c18 => ?_)
  · have r19 := ite_t r4 c18; clear r4
    refine shW_seq ?_
    refine shW_region ?_
    refine ov (v_move rfl) rfl ?_
    refine ov (v_assign rfl) rfl ?_
    refine ov (v_assign rfl) rfl ?_
    refine shO_nil ?_
    refine shW_drop (L' := []) ((List.Sublist.cons _ ((List.Sublist.cons _ ((List.Sublist.cons _ (((List.Sublist.refl _).trans (List.sublist_append_right _ _))))))))) ?_
    refine shW_ret ?_
    refine inBlock_ret ?_
    refine andThen_ret ?_
    refine q_res2 Try.results59 (res_tmp rfl) (res_tmp rfl) (List.Sublist.refl _) ?_
    obtain ⟨rfl, rfl⟩ := inj2 r19
    exact ⟨_, _, _, [], rfl, rfl, SlR.nil _ _ _ _ _⟩
  · have r20 := ite_f r4 c18; clear r4
    refine shW_seq ?_
    refine shW_region ?_
    refine ov (v_loadA (cs := #[.slice a9 n13 c10, v15]) Try.isAgg121 Try.sizeOf121 rfl (Has.own 0 rfl) (Nat.le_of_ble_eq_true rfl) rfl) rfl ?_
    obtain ⟨g21, r22⟩ := gd_ok r20; clear r20
    obtain rfl := hp16.2 g21
    have hn23 : FnR Try.prog F5 127 #[] #[] (iE .i64) (Value.int .i64) (fun x : Int => hear_ones x) := ⟨Try.call127, fun F2 h2 vs x r ha hr => by obtain rfl := ha; exact hear_ones_w hr⟩
    obtain ⟨ok, h24, r25⟩ := b1_ok r22; clear r22
    refine o_callT (Lt := Lb11 ++ []) (Lr := [(b17, .cells (#[.slice a9 n13 c10, .func (.func 127) #[] #[]]) 121 (0, 0)), (b2, .cells #[.int .i64 wind, .int .i64 voice] 48 (0, 0)), (b1, .cells #[.int .i64 wide, .slice plots_a plots.length plots_c] 24 (0, 0))]) rfl Try.call107 rfl rfl rfl ((((frontC (frontC (frontC (List.Perm.refl _)))).trans (List.Perm.append_left _ (List.Perm.refl _)))).trans (List.Perm.of_eq (by simp only [List.nil_append, List.cons_append, List.append_assoc, List.append_nil]))) (fun F2 h2 h3 => by have q := hear_quarter_deaf_w (hz12.row (arE_ok (n := 30) (sz := 1) cB_ok) h2 (fun p hp => h3 p (List.mem_append_left _ hp))) (hn23.mono h2) h24; rw [← (SlR.caps hz12).1] at q; exact q) ?_
    refine ov (v_assign rfl) rfl ?_
    refine shO_nil ?_
    refine shW_cond rfl (fun c26 => ?_) (fun c26 => ?_)
    · have r27 := bt r25 c26; clear r25
      refine shW_seq ?_
      refine shW_region ?_
      refine ov (v_assign rfl) rfl ?_
      refine ov (v_assign rfl) rfl ?_
      refine shO_nil ?_
      refine shW_drop (L' := []) ((List.Sublist.cons _ ((List.Sublist.cons _ ((List.Sublist.cons _ (((List.Sublist.refl _).trans (List.sublist_append_right _ _))))))))) ?_
      refine shW_ret ?_
      refine inBlock_ret ?_
      refine andThen_ret ?_
      refine q_res2 Try.results59 (res_tmp rfl) (res_tmp rfl) (List.Sublist.refl _) ?_
      obtain ⟨rfl, rfl⟩ := inj2 r27
      exact ⟨_, _, _, [], rfl, rfl, SlR.nil _ _ _ _ _⟩
    · have r28 := bf r25 c26; clear r25
      refine shW_skip ?_
      refine inBlock_n (id := 0) ?_
      refine shW_seq ?_
      refine shW_region ?_
      refine ov (v_fieldAddr fa_121_0 rfl) rfl ?_
      refine ov (v_load Try.isAgg119 rfl (Has.own 0 rfl) rfl) rfl ?_
      obtain rfl := (SlR.caps hz12).1
      refine shO_freezeR (Nat.le_refl _) (arE_ok (n := 30) (sz := 1) cB_ok) (frontC (frontC (frontC (List.Perm.refl _)))) hz12 ?_; intro F29 hF30 h31
      replace h_plots := h_plots.mono (iE_ok _) hF30
      replace h_houses := h_houses.mono (iE_ok _) hF30
      replace hn23 := hn23.mono hF30
      obtain ⟨l2, h32, r33⟩ := b1_ok r28; clear r28
      refine o_call0 rfl Try.call109 rfl rfl rfl (slices_Clone_hear_ears_hear_ears_w h31 h32) ?_; rintro _ F34 _ hF35 hn36 ⟨a38, n42, c39, Lb40, rfl, rfl, hz41⟩
      replace h_plots := h_plots.mono (iE_ok _) hF35
      replace h_houses := h_houses.mono (iE_ok _) hF35
      replace h31 := h31.mono (arE_ok (n := 30) (sz := 1) cB_ok) hF35
      replace hn23 := hn23.mono hF35
      replace hz41 := hz41.new fun p hp => hn36 p (by simp [hp])
      refine shO_L (L' := Lb40 ++ ((b17, .cells (#[.slice a9 l.length c10, .func (.func 127) #[] #[]]) 121 (0, 0)) :: ((b2, .cells #[.int .i64 wind, .int .i64 voice] 48 (0, 0)) :: ((b1, .cells #[.int .i64 wide, .slice plots_a plots.length plots_c] 24 (0, 0)) :: [])))) (by simp only [List.nil_append, List.cons_append, List.append_assoc, List.append_nil] <;> rfl) ?_
      refine shO_perm (L' := (b17, .cells (#[.slice a9 l.length c10, .func (.func 127) #[] #[]]) 121 (0, 0)) :: ((b2, .cells #[.int .i64 wind, .int .i64 voice] 48 (0, 0)) :: ((b1, .cells #[.int .i64 wide, .slice plots_a plots.length plots_c] 24 (0, 0)) :: (Lb40 ++ [])))) (((frontS (frO)).trans (List.Perm.cons _ (((frontS (frO)).trans (List.Perm.cons _ (((frontS (frO)).trans (List.Perm.cons _ (List.Perm.refl _)))))))))) ?_
      obtain ⟨l3, h44, r45⟩ := b1_ok r33; clear r33
      refine o_callG (Lb := Lb40 ++ []) (Lr := [(b17, .cells (#[.slice a9 l.length c10, .func (.func 127) #[] #[]]) 121 (0, 0)), (b2, .cells #[.int .i64 wind, .int .i64 voice] 48 (0, 0)), (b1, .cells #[.int .i64 wide, .slice plots_a plots.length plots_c] 24 (0, 0))]) rfl Try.call108 rfl rfl rfl ((((frontC (frontC (frontC (List.Perm.refl _)))).trans (List.Perm.append_left _ (List.Perm.refl _)))).trans (List.Perm.of_eq (by simp only [List.nil_append, List.cons_append, List.append_assoc, List.append_nil]))) (slices_Compact_hear_ears_hear_ears_w hz41 h44) ?_; rintro _ F46 _ hF47 hd49 hn48 ⟨a50, n54, c51, Lb52, rfl, rfl, hz53⟩
      replace h_plots := h_plots.mono (iE_ok _) hF47
      replace h_houses := h_houses.mono (iE_ok _) hF47
      replace h31 := h31.mono (arE_ok (n := 30) (sz := 1) cB_ok) hF47
      replace hn23 := hn23.mono hF47
      replace hz41 := hz41.mono (arE_ok (n := 30) (sz := 1) cB_ok) hF47
      refine shO_L (L' := Lb52 ++ ((b17, .cells (#[.slice a9 l.length c10, .func (.func 127) #[] #[]]) 121 (0, 0)) :: ((b2, .cells #[.int .i64 wind, .int .i64 voice] 48 (0, 0)) :: ((b1, .cells #[.int .i64 wide, .slice plots_a plots.length plots_c] 24 (0, 0)) :: [])))) (by simp only [List.nil_append, List.cons_append, List.append_assoc, List.append_nil] <;> rfl) ?_
      refine shO_perm (L' := (b17, .cells (#[.slice a9 l.length c10, .func (.func 127) #[] #[]]) 121 (0, 0)) :: ((b2, .cells #[.int .i64 wind, .int .i64 voice] 48 (0, 0)) :: ((b1, .cells #[.int .i64 wide, .slice plots_a plots.length plots_c] 24 (0, 0)) :: (Lb52 ++ [])))) (((frontS (frO)).trans (List.Perm.cons _ (((frontS (frO)).trans (List.Perm.cons _ (((frontS (frO)).trans (List.Perm.cons _ (List.Perm.refl _)))))))))) ?_
      refine ov (v_fieldAddr fa_121_0 rfl) rfl ?_
      refine o_store (i := 0) Try.sizeOf119 rfl rfl rfl rfl (Nat.le_of_ble_eq_true rfl) ?_
      refine shO_L (L' := (b17, .cells (#[.slice a50 n54 c51, .func (.func 127) #[] #[]]) 121 (0, 0)) :: ((b2, .cells #[.int .i64 wind, .int .i64 voice] 48 (0, 0)) :: ((b1, .cells #[.int .i64 wide, .slice plots_a plots.length plots_c] 24 (0, 0)) :: (Lb52 ++ [])))) rfl ?_
      refine shO_nil ?_
      refine shW_seq ?_
      refine shW_region ?_
      refine ov (v_loadA (cs := #[.slice a50 n54 c51, .func (.func 127) #[] #[]]) Try.isAgg121 Try.sizeOf121 rfl (Has.own 0 rfl) (Nat.le_of_ble_eq_true rfl) rfl) rfl ?_
      refine ov (v_fieldAddr fa_121_0 rfl) rfl ?_
      refine ov (v_load Try.isAgg119 rfl (Has.own 0 rfl) rfl) rfl ?_
      refine ov ((v_lenS Try.underlying119 rfl).i (SlR.lenI hz53)) rfl ?_
      obtain rfl := (SlR.caps hz53).1
      refine shO_freezeR (Nat.le_refl _) (arE_ok (n := 30) (sz := 1) cB_ok) (frontC (frontC (frontC (List.Perm.refl _)))) hz53 ?_; intro F56 hF57 h58
      replace h_plots := h_plots.mono (iE_ok _) hF57
      replace h_houses := h_houses.mono (iE_ok _) hF57
      replace h31 := h31.mono (arE_ok (n := 30) (sz := 1) cB_ok) hF57
      replace hn23 := hn23.mono hF57
      obtain ⟨l4, n2, h59, r60⟩ := b2_ok r45; clear r45
      refine o_call0 rfl Try.call90 rfl rfl rfl (hear_quarter_chosen_w h58 hn23 h59) ?_; rintro _ F61 _ hF62 hn63 ⟨a65, n69, c66, Lb67, rfl, rfl, hz68⟩
      replace h_plots := h_plots.mono (iE_ok _) hF62
      replace h_houses := h_houses.mono (iE_ok _) hF62
      replace h31 := h31.mono (arE_ok (n := 30) (sz := 1) cB_ok) hF62
      replace h58 := h58.mono (arE_ok (n := 30) (sz := 1) cB_ok) hF62
      replace hn23 := hn23.mono hF62
      replace hz68 := hz68.new fun p hp => hn63 p (by simp [hp])
      refine shO_L (L' := Lb67 ++ ((b17, .cells (#[.slice a50 l3.length c51, .func (.func 127) #[] #[]]) 121 (0, 0)) :: ((b2, .cells #[.int .i64 wind, .int .i64 voice] 48 (0, 0)) :: ((b1, .cells #[.int .i64 wide, .slice plots_a plots.length plots_c] 24 (0, 0)) :: [])))) (by simp only [List.nil_append, List.cons_append, List.append_assoc, List.append_nil] <;> rfl) ?_
      refine shO_perm (L' := (b17, .cells (#[.slice a50 l3.length c51, .func (.func 127) #[] #[]]) 121 (0, 0)) :: ((b2, .cells #[.int .i64 wind, .int .i64 voice] 48 (0, 0)) :: ((b1, .cells #[.int .i64 wide, .slice plots_a plots.length plots_c] 24 (0, 0)) :: (Lb67 ++ [])))) (((frontS (frO)).trans (List.Perm.cons _ (((frontS (frO)).trans (List.Perm.cons _ (((frontS (frO)).trans (List.Perm.cons _ (List.Perm.refl _)))))))))) ?_
      refine ov (v_move rfl) rfl ?_
      refine ov (v_extract rfl rfl) rfl ?_
      refine ov (v_extract rfl rfl) rfl ?_
      refine ov (v_assign rfl) rfl ?_
      refine ov (v_assign rfl) rfl ?_
      refine shO_nil ?_
      refine shW_seq ?_
      refine shW_region ?_
      refine ov (v_move rfl) rfl ?_
      refine ov (v_assign rfl) rfl ?_
      refine ov (v_assign rfl) rfl ?_
      refine shO_nil ?_
      refine shW_perm (L' := Lb67 ++ ((b17, .cells (#[.slice a50 l3.length c51, .func (.func 127) #[] #[]]) 121 (0, 0)) :: ((b2, .cells #[.int .i64 wind, .int .i64 voice] 48 (0, 0)) :: ((b1, .cells #[.int .i64 wide, .slice plots_a plots.length plots_c] 24 (0, 0)) :: [])))) (((frontC (frontC (frontC (List.Perm.refl _)))).trans (List.Perm.append_left _ (List.Perm.refl _)))) ?_
      refine shW_drop (L' := Lb67 ++ []) ((List.Sublist.append (List.Sublist.refl _) ((List.Sublist.cons _ ((List.Sublist.cons _ ((List.Sublist.cons _ (List.Sublist.refl _))))))))) ?_
      refine shW_ret ?_
      refine q_res2 Try.results59 (res_tmp rfl) (res_tmp rfl) (List.Sublist.refl _) ?_
      obtain ⟨rfl, rfl⟩ := inj2 r60
      exact ⟨_, _, _, _, rfl, rfl, hz68.any⟩


set_option maxHeartbeats 1000000 in
theorem oyezlaw01_Drawn_w {rows_a : Option Addr} {rows_c : Nat} {rows : List (List Int)} {F : FS} (h_rows : RowR 1 sE F rows_a rows_c rows) {r : Int} {r2 : List Int} (hr : oyezlaw01_Drawn rows = some (r, r2)) :
    SH.Spec Try.prog 75 #[.slice rows_a rows.length rows_c] F [] fun F' L' v => ∃ (r2a : Option Addr) (r2n : Nat) (r2c : Nat) (r2L : LH), v = .agg #[.int .i64 r, .slice r2a r2n r2c] ∧ L' = r2L ++ [] ∧ SlR 0 73 1 (iE .i64) F' r2a r2n r2c r2 r2L := by
  refine spec_of_shW (args := [.slice rows_a rows.length rows_c]) Try.func75 rfl Try.ntmps75 (Nat.le_of_ble_eq_true rfl) ?_
  intro K _ _; rw [oyezlaw01_Drawn] at hr
  refine shW_seq ?_
  refine shW_region ?_
  refine o_alloc rfl Try.zeroValue24 ?_; intro b1 hb1
  refine shO_nil ?_
  refine shW_seq ?_
  refine shW_region ?_
  refine o_alloc rfl Try.zeroValue24 ?_; intro b2 hb2
  refine shO_nil ?_
  obtain ⟨t_wide, t_plots, h9, r10⟩ := b2_ok hr; clear hr
  refine shW_join (fun e1 F1 L1 => ∃ (a3 : Option Addr) (n7 : Nat) (c4 : Nat) (Lb5 : LH), F = F1 ∧ L1 = ((b2, .cells #[.int .i64 t_wide, .slice a3 n7 c4] 24 (0, 0)) :: ((b1, .cells #[.int .i64 0, .slice none 0 0] 24 (0, 0)) :: (Lb5 ++ []))) ∧ e1.sub [(2, .pointer (some ⟨b1, 0, none⟩)), (3, .pointer (some ⟨b2, 0, none⟩))] ∧ SlR K.w0.heap.size 73 1 (iE .i64) F1 a3 n7 c4 t_plots Lb5) ?_ ?_
  · clear r10
    refine shW_seq ?_
    refine shW_region ?_
    refine ov (v_move rfl) rfl ?_
    refine ov (v_lenS Try.underlying155 rfl) rfl ?_
    refine ov (v_move rfl) rfl ?_
    refine shO_nil ?_
    refine shW_block ?_
    refine shW_lp (fun fu1 e1 F1 L1 => ∃ (tl : List (List Int)) (k : Int), tl.length = fu1 ∧ Lst rows k tl ∧ ∃ (t_wide2 : Int) (t_plots2 : List Int) (a11 : Option Addr) (n15 : Nat) (c12 : Nat) (Lb13 : LH), oyezlaw01_Drawn_l1 tl t_wide2 t_plots2 = some (t_wide, t_plots) ∧ F = F1 ∧ L1 = ((b2, .cells #[.int .i64 t_wide2, .slice a11 n15 c12] 24 (0, 0)) :: ((b1, .cells #[.int .i64 0, .slice none 0 0] 24 (0, 0)) :: (Lb13 ++ []))) ∧ e1.sub [(2, .pointer (some ⟨b1, 0, none⟩)), (3, .pointer (some ⟨b2, 0, none⟩)), (9, .slice rows_a rows.length rows_c), (10, .int .i64 (rows.length : Int)), (11, .int .i64 k)] ∧ SlR K.w0.heap.size 73 1 (iE .i64) F1 a11 n15 c12 t_plots2 Lb13) _ (meet_0 (L2 := (b2, .cells #[.int .i64 0, .slice none 0 0] 24 (0, 0)) :: ((b1, .cells #[.int .i64 0, .slice none 0 0] 24 (0, 0)) :: (([] : LH) ++ []))) (L3 := [(b2, .cells #[.int .i64 0, .slice none 0 0] 24 (0, 0)), (b1, .cells #[.int .i64 0, .slice none 0 0] 24 (0, 0))]) (List.Perm.refl _) (List.Sublist.refl _) ⟨_, _, rfl, Lst.start _, 0, [], none, 0, 0, [], h9, rfl, rfl, (sc rfl (sc rfl (sc rfl (sc rfl (sc rfl (sn _)))))), SlR.nil _ _ _ _ _⟩) ?_
    rintro fu1 e1 _ _ ⟨tl, k, hn18, hk17, t_wide2, t_plots2, a11, n15, c12, Lb13, r19, rfl, rfl, he20, hz14⟩
    refine shW_env _ he20 ?_; clear he20
    refine shW_seq ?_
    refine shW_region ?_
    refine ov (v_lssK rfl rfl) rfl ?_
    refine shO_nil ?_
    refine shW_seq ?_
    refine shW_condP rfl (fun c22 => ?_) (fun c22 => ?_)
    · obtain ⟨x, tl2, rfl, hx24, g25, hk23⟩ := Lst.succ hk17 c22
      rw [oyezlaw01_Drawn_l1] at r19
      refine shW_skip ?_
      obtain ⟨t_plots3, h32, r33⟩ := b1_ok r19; clear r19
      refine shW_join (fun e1 F1 L1 => ∃ (a26 : Option Addr) (n30 : Nat) (c27 : Nat) (Lb28 : LH), F = F1 ∧ L1 = ((b2, .cells #[.int .i64 (x.length : Int), .slice a26 n30 c27] 24 (0, 0)) :: ((b1, .cells #[.int .i64 0, .slice none 0 0] 24 (0, 0)) :: (Lb28 ++ []))) ∧ e1.sub [(2, .pointer (some ⟨b1, 0, none⟩)), (3, .pointer (some ⟨b2, 0, none⟩)), (9, .slice rows_a rows.length rows_c), (10, .int .i64 (rows.length : Int)), (11, .int .i64 k)] ∧ SlR K.w0.heap.size 73 1 (iE .i64) F1 a26 n30 c27 t_plots3 Lb28) ?_ ?_
      · clear r33
        refine shW_block ?_
        refine shW_seq ?_
        refine shW_region ?_
        obtain ⟨b34, o35, c36, vs37, ha38, hs39, hle40, rfl, hl41, hc42⟩ := RowR.at sE_ok h_rows ((b2, .cells #[.int .i64 t_wide2, .slice a11 n15 c12] 24 (0, 0)) :: ((b1, .cells #[.int .i64 0, .slice none 0 0] 24 (0, 0)) :: (Lb13 ++ []))) g25.1 hx24
        refine ov (v_indexO Try.underlying155 Try.sizeOf9 rfl ha38 rfl g25) rfl ?_
        refine ov (v_load Try.isAgg9 rfl hs39 (hc42 0 (by decide))) rfl ?_
        refine ov (v_assign rfl) rfl ?_
        refine shO_nil ?_
        refine shW_seq ?_
        refine shW_region ?_
        refine ov (v_move rfl) rfl ?_
        refine ov (v_lenStr Try.underlying9 rfl) rfl ?_
        refine ov (v_fieldAddr fa_24_0 rfl) rfl ?_
        refine o_store (i := 0) Try.sizeOf3 rfl rfl rfl rfl (Nat.le_of_ble_eq_true rfl) ?_
        refine shO_L (L' := (b2, .cells #[.int .i64 (x.length : Int), .slice a11 n15 c12] 24 (0, 0)) :: ((b1, .cells #[.int .i64 0, .slice none 0 0] 24 (0, 0)) :: (Lb13 ++ []))) rfl ?_
        refine shO_nil ?_
        refine shW_seq ?_
        refine shW_region ?_
        refine ov (v_move rfl) rfl ?_
        refine o_rangeStr (s := x) rfl Try.underlying9 rfl ?_; intro b43 hb43
        refine shO_nil ?_
        refine shW_block ?_
        refine shW_lp (fun fu2 e1 F1 L1 => ∃ (t_plots4 : List Int) (pos : Nat) (a44 : Option Addr) (n48 : Nat) (c45 : Nat) (Lb46 : LH), oyezlaw01_Drawn_l2 x fu2 t_plots4 pos = some t_plots3 ∧ F = F1 ∧ L1 = ((b43, .stringIter (sB x) pos) :: ((b2, .cells #[.int .i64 (x.length : Int), .slice a44 n48 c45] 24 (0, 0)) :: ((b1, .cells #[.int .i64 0, .slice none 0 0] 24 (0, 0)) :: (Lb46 ++ [])))) ∧ e1.sub [(2, .pointer (some ⟨b1, 0, none⟩)), (3, .pointer (some ⟨b2, 0, none⟩)), (9, .slice rows_a rows.length rows_c), (10, .int .i64 (rows.length : Int)), (11, .int .i64 k), (19, .pointer (some ⟨b43, 0, none⟩))] ∧ SlR K.w0.heap.size 73 1 (iE .i64) F1 a44 n48 c45 t_plots4 Lb46) FU (meet_0 (L2 := (b43, .stringIter (sB x) 0) :: ((b2, .cells #[.int .i64 (x.length : Int), .slice a11 n15 c12] 24 (0, 0)) :: ((b1, .cells #[.int .i64 0, .slice none 0 0] 24 (0, 0)) :: (Lb13 ++ [])))) (L3 := (b43, .stringIter (sB x) 0) :: ((b2, .cells #[.int .i64 (x.length : Int), .slice a11 n15 c12] 24 (0, 0)) :: ((b1, .cells #[.int .i64 0, .slice none 0 0] 24 (0, 0)) :: (Lb13 ++ [])))) (List.Perm.refl _) (List.Sublist.refl _) ⟨t_plots2, 0, a11, n15, c12, Lb13, h32, rfl, rfl, (sc rfl (sc rfl (sc rfl (sc rfl (sc rfl (sc rfl (sn _))))))), hz14⟩) ?_
        rintro fu2 e1 _ _ ⟨t_plots4, pos, a44, n48, c45, Lb46, r52, rfl, rfl, he53, hz47⟩
        refine shW_env _ he53 ?_; clear he53
        rcases fu2 with _ | fu2
        · rw [oyezlaw01_Drawn_l2] at r52; cases r52
        rw [oyezlaw01_Drawn_l2] at r52
        refine shW_seq ?_
        refine shW_region ?_
        by_cases c54 : pos < x.length
        · have r55 := ite_t r52 c54; clear r52
          obtain ⟨c, g56, hx57, r58⟩ := ix_ok r55; clear r55
          obtain ⟨g59, r60⟩ := gd_ok r58; clear r58
          refine o_nextStr (i := 0) (c := c) rfl rfl rfl (by simpa using hx57) g59 ?_
          refine shO_L (L' := (b43, .stringIter (sB x) (pos + 1)) :: ((b2, .cells #[.int .i64 (x.length : Int), .slice a44 n48 c45] 24 (0, 0)) :: ((b1, .cells #[.int .i64 0, .slice none 0 0] 24 (0, 0)) :: (Lb46 ++ [])))) rfl ?_
          refine ov (v_extract rfl rfl) rfl ?_
          refine shO_nil ?_
          refine shW_seq ?_
          refine shW_cond rfl (fun c61 => ?_) (fun c61 => nomatch c61)
          refine shW_skip ?_
          refine shW_block ?_
          refine shW_seq ?_
          refine shW_region ?_
          refine ov (v_extract rfl rfl) rfl ?_
          refine ov (v_assign rfl) rfl ?_
          refine shO_nil ?_
          refine shW_seq ?_
          refine shW_region ?_
          refine ov (v_assign rfl) rfl ?_
          refine shO_nil ?_
          obtain ⟨p, h62, r63⟩ := b1_ok r60; clear r60
          refine shW_join (fun e1 F1 L1 => F = F1 ∧ L1 = ((b43, .stringIter (sB x) (pos + 1)) :: ((b2, .cells #[.int .i64 (x.length : Int), .slice a44 n48 c45] 24 (0, 0)) :: ((b1, .cells #[.int .i64 0, .slice none 0 0] 24 (0, 0)) :: (Lb46 ++ [])))) ∧ e1.sub [(2, .pointer (some ⟨b1, 0, none⟩)), (3, .pointer (some ⟨b2, 0, none⟩)), (7, .int .i32 c), (8, .int .i64 p), (9, .slice rows_a rows.length rows_c), (10, .int .i64 (rows.length : Int)), (11, .int .i64 k), (19, .pointer (some ⟨b43, 0, none⟩))]) ?_ ?_
          · clear r63
            refine shW_seq ?_
            refine shW_region ?_
            refine ov (v_move rfl) rfl ?_
            refine ov (v_eql rfl rfl) rfl ?_
            refine shO_nil ?_
            refine shW_condP rfl (fun c64 => ?_) (fun c64 => ?_)
            · have r65 := ite_t h62 c64; clear h62
              refine shW_region ?_
              refine ov (v_assign rfl) rfl ?_
              refine shO_nil ?_
              obtain rfl := inj1 r65
              refine meet_i (L2 := (b43, .stringIter (sB x) (pos + 1)) :: ((b2, .cells #[.int .i64 (x.length : Int), .slice a44 n48 c45] 24 (0, 0)) :: ((b1, .cells #[.int .i64 0, .slice none 0 0] 24 (0, 0)) :: (Lb46 ++ [])))) (L3 := (b43, .stringIter (sB x) (pos + 1)) :: ((b2, .cells #[.int .i64 (x.length : Int), .slice a44 n48 c45] 24 (0, 0)) :: ((b1, .cells #[.int .i64 0, .slice none 0 0] 24 (0, 0)) :: (Lb46 ++ [])))) (List.Perm.refl _) (List.Sublist.refl _) ?_
              exact ⟨rfl, rfl, (sc rfl (sc rfl (sc rfl (sc rfl (sc rfl (sc rfl (sc rfl (sc rfl (sn _)))))))))⟩
            · have r66 := ite_f h62 c64; clear h62
              refine shW_skip ?_
              obtain rfl := inj1 r66
              refine meet_i (L2 := (b43, .stringIter (sB x) (pos + 1)) :: ((b2, .cells #[.int .i64 (x.length : Int), .slice a44 n48 c45] 24 (0, 0)) :: ((b1, .cells #[.int .i64 0, .slice none 0 0] 24 (0, 0)) :: (Lb46 ++ [])))) (L3 := (b43, .stringIter (sB x) (pos + 1)) :: ((b2, .cells #[.int .i64 (x.length : Int), .slice a44 n48 c45] 24 (0, 0)) :: ((b1, .cells #[.int .i64 0, .slice none 0 0] 24 (0, 0)) :: (Lb46 ++ [])))) (List.Perm.refl _) (List.Sublist.refl _) ?_
              exact ⟨rfl, rfl, (sc rfl (sc rfl (sc rfl (sc rfl (sc rfl (sc rfl (sc rfl (sc rfl (sn _)))))))))⟩
          · rintro e1 _ _ ⟨rfl, rfl, he67⟩
            refine shW_env _ he67 ?_; clear he67
            obtain ⟨p2, h68, r69⟩ := b1_ok r63; clear r63
            refine shW_join (fun e1 F1 L1 => F = F1 ∧ L1 = ((b43, .stringIter (sB x) (pos + 1)) :: ((b2, .cells #[.int .i64 (x.length : Int), .slice a44 n48 c45] 24 (0, 0)) :: ((b1, .cells #[.int .i64 0, .slice none 0 0] 24 (0, 0)) :: (Lb46 ++ [])))) ∧ e1.sub [(2, .pointer (some ⟨b1, 0, none⟩)), (3, .pointer (some ⟨b2, 0, none⟩)), (8, .int .i64 p2), (9, .slice rows_a rows.length rows_c), (10, .int .i64 (rows.length : Int)), (11, .int .i64 k), (19, .pointer (some ⟨b43, 0, none⟩))]) ?_ ?_
            · clear r69
              refine shW_seq ?_
              refine shW_region ?_
              refine ov (v_move rfl) rfl ?_
              refine ov (v_eql rfl rfl) rfl ?_
              refine shO_nil ?_
              refine shW_condP rfl (fun c70 => ?_) (fun c70 => ?_)
              · have r71 := ite_t h68 c70; clear h68
                refine shW_region ?_
                refine ov (v_assign rfl) rfl ?_
                refine shO_nil ?_
                obtain rfl := inj1 r71
                refine meet_i (L2 := (b43, .stringIter (sB x) (pos + 1)) :: ((b2, .cells #[.int .i64 (x.length : Int), .slice a44 n48 c45] 24 (0, 0)) :: ((b1, .cells #[.int .i64 0, .slice none 0 0] 24 (0, 0)) :: (Lb46 ++ [])))) (L3 := (b43, .stringIter (sB x) (pos + 1)) :: ((b2, .cells #[.int .i64 (x.length : Int), .slice a44 n48 c45] 24 (0, 0)) :: ((b1, .cells #[.int .i64 0, .slice none 0 0] 24 (0, 0)) :: (Lb46 ++ [])))) (List.Perm.refl _) (List.Sublist.refl _) ?_
                exact ⟨rfl, rfl, (sc rfl (sc rfl (sc rfl (sc rfl (sc rfl (sc rfl (sc rfl (sn _))))))))⟩
              · have r72 := ite_f h68 c70; clear h68
                refine shW_skip ?_
                obtain rfl := inj1 r72
                refine meet_i (L2 := (b43, .stringIter (sB x) (pos + 1)) :: ((b2, .cells #[.int .i64 (x.length : Int), .slice a44 n48 c45] 24 (0, 0)) :: ((b1, .cells #[.int .i64 0, .slice none 0 0] 24 (0, 0)) :: (Lb46 ++ [])))) (L3 := (b43, .stringIter (sB x) (pos + 1)) :: ((b2, .cells #[.int .i64 (x.length : Int), .slice a44 n48 c45] 24 (0, 0)) :: ((b1, .cells #[.int .i64 0, .slice none 0 0] 24 (0, 0)) :: (Lb46 ++ [])))) (List.Perm.refl _) (List.Sublist.refl _) ?_
                exact ⟨rfl, rfl, (sc rfl (sc rfl (sc rfl (sc rfl (sc rfl (sc rfl (sc rfl (sn _))))))))⟩
            · rintro e1 _ _ ⟨rfl, rfl, he73⟩
              refine shW_env _ he73 ?_; clear he73
              refine shW_region ?_
              refine ov (v_fieldAddr fa_24_1 rfl) rfl ?_
              refine ov (v_load Try.isAgg22 rfl (Has.own 1 rfl) rfl) rfl ?_
              refine ov (v_move rfl) rfl ?_
              refine o_buildSlice (cs := #[.int .i64 p2]) rfl rfl (buildSlice_all slt_22 [.int .i64 p2] rfl (by decide) (by simp [Value.cells]) (by decide)) ?_; intro b74 hb74
              obtain ⟨t, h75, g76, r77⟩ := ap_ok r69; clear r69
              refine o_appZ (xs := t_plots4) (ys := [p2]) (zs := t) rfl slt_22 rfl rfl (Nat.le_refl _) (fun _ => .c (.c (.c (.c .h)))) hz47 (SrcR.box (vss := [[.int .i64 p2]]) (ys := [p2]) 0 rfl (iE_ok _) (.cons rfl .nil) rfl rfl) h75 g76 (by decide) ?_; intro a78 n82 c79 Lb80 hz81
              refine shO_perm (L' := (b43, .stringIter (sB x) (pos + 1)) :: ((b2, .cells #[.int .i64 (x.length : Int), .slice a44 n48 c45] 24 (0, 0)) :: ((b1, .cells #[.int .i64 0, .slice none 0 0] 24 (0, 0)) :: (Lb80 ++ ((b74, .cells #[.int .i64 p2] 73 (0, 0)) :: []))))) (((frontC (frO)).trans (List.Perm.cons _ (((frontC (frO)).trans (List.Perm.cons _ (((frontC (frO)).trans (List.Perm.cons _ (((frontC (List.Perm.refl _)).trans (List.Perm.append_left _ (List.Perm.refl _))))))))))))) ?_
              refine shO_drop (L' := (b43, .stringIter (sB x) (pos + 1)) :: ((b2, .cells #[.int .i64 (x.length : Int), .slice a44 n48 c45] 24 (0, 0)) :: ((b1, .cells #[.int .i64 0, .slice none 0 0] 24 (0, 0)) :: (Lb80 ++ [])))) ((List.Sublist.cons_cons _ ((List.Sublist.cons_cons _ ((List.Sublist.cons_cons _ ((List.Sublist.append (List.Sublist.refl _) ((List.Sublist.cons _ (List.Sublist.refl _))))))))))) ?_
              refine ov (v_fieldAddr fa_24_1 rfl) rfl ?_
              refine o_store (i := 1) Try.sizeOf22 rfl rfl rfl rfl (Nat.le_of_ble_eq_true rfl) ?_
              refine shO_L (L' := (b43, .stringIter (sB x) (pos + 1)) :: ((b2, .cells #[.int .i64 (x.length : Int), .slice a78 n82 c79] 24 (0, 0)) :: ((b1, .cells #[.int .i64 0, .slice none 0 0] 24 (0, 0)) :: (Lb80 ++ [])))) rfl ?_
              refine shO_nil ?_
              refine inBlock_n (id := 3) ?_
              exact lp_end (Nat.lt_succ_self _) (meet_0 (L2 := (b43, .stringIter (sB x) (pos + 1)) :: ((b2, .cells #[.int .i64 (x.length : Int), .slice a78 n82 c79] 24 (0, 0)) :: ((b1, .cells #[.int .i64 0, .slice none 0 0] 24 (0, 0)) :: (Lb80 ++ [])))) (L3 := (b43, .stringIter (sB x) (pos + 1)) :: ((b2, .cells #[.int .i64 (x.length : Int), .slice a78 n82 c79] 24 (0, 0)) :: ((b1, .cells #[.int .i64 0, .slice none 0 0] 24 (0, 0)) :: (Lb80 ++ [])))) (List.Perm.refl _) (List.Sublist.refl _) ⟨t, pos + 1, a78, n82, c79, Lb80, r77, rfl, rfl, (sc rfl (sc rfl (sc rfl (sc rfl (sc rfl (sc rfl (sn _))))))), hz81⟩)
        · have r84 := ite_f r52 c54; clear r52
          refine o_nextStr0 (i := 0) (s := x) rfl rfl rfl c54 ?_
          refine ov (v_extract rfl rfl) rfl ?_
          refine shO_nil ?_
          refine shW_seq ?_
          refine shW_cond rfl (fun c85 => nomatch c85) (fun c85 => ?_)
          refine shW_exit ?_
          refine andThen_exit ?_
          refine andThen_exit ?_
          refine inBlock_exit ?_
          refine inBlock_n (id := 1) ?_
          obtain rfl := inj1 r84
          refine meet_i (L2 := (b2, .cells #[.int .i64 (x.length : Int), .slice a44 n48 c45] 24 (0, 0)) :: ((b1, .cells #[.int .i64 0, .slice none 0 0] 24 (0, 0)) :: (Lb46 ++ []))) (L3 := (b2, .cells #[.int .i64 (x.length : Int), .slice a44 n48 c45] 24 (0, 0)) :: ((b1, .cells #[.int .i64 0, .slice none 0 0] 24 (0, 0)) :: (Lb46 ++ ((b43, .stringIter (sB x) pos) :: [])))) (((frontC (frO)).trans (List.Perm.cons _ (((frontC (frO)).trans (List.Perm.cons _ (((frontC (List.Perm.refl _)).trans (List.Perm.append_left _ (List.Perm.refl _)))))))))) ((List.Sublist.cons_cons _ ((List.Sublist.cons_cons _ ((List.Sublist.append (List.Sublist.refl _) ((List.Sublist.cons _ (List.Sublist.refl _))))))))) ?_
          exact ⟨a44, n48, c45, Lb46, rfl, rfl, (sc rfl (sc rfl (sc rfl (sc rfl (sc rfl (sn _)))))), hz47⟩
      · rintro e1 _ _ ⟨a26, n30, c27, Lb28, rfl, rfl, he86, hz29⟩
        refine shW_env _ he86 ?_; clear he86
        refine shW_region ?_
        refine ov (v_add rfl rfl (Lst.r64 hk17 c22 (RowR.lt h_rows))) rfl ?_
        refine ov (v_move rfl) rfl ?_
        refine shO_nil ?_
        subst hn18; exact lp_end (Nat.lt_succ_self _) (meet_0 (L2 := (b2, .cells #[.int .i64 (x.length : Int), .slice a26 n30 c27] 24 (0, 0)) :: ((b1, .cells #[.int .i64 0, .slice none 0 0] 24 (0, 0)) :: (Lb28 ++ []))) (L3 := (b2, .cells #[.int .i64 (x.length : Int), .slice a26 n30 c27] 24 (0, 0)) :: ((b1, .cells #[.int .i64 0, .slice none 0 0] 24 (0, 0)) :: (Lb28 ++ []))) (List.Perm.refl _) (List.Sublist.refl _) ⟨_, _, rfl, hk23, (x.length : Int), t_plots3, a26, n30, c27, Lb28, r33, rfl, rfl, (sc rfl (sc rfl (sc rfl (sc rfl (sc rfl (sn _)))))), hz29⟩)
    · obtain rfl := Lst.zero hk17 c22
      rw [oyezlaw01_Drawn_l1] at r19
      refine shW_exit ?_
      refine andThen_exit ?_
      refine andThen_exit ?_
      refine inBlock_exit ?_
      obtain ⟨rfl, rfl⟩ := inj2 r19
      refine meet_i (L2 := (b2, .cells #[.int .i64 t_wide2, .slice a11 n15 c12] 24 (0, 0)) :: ((b1, .cells #[.int .i64 0, .slice none 0 0] 24 (0, 0)) :: (Lb13 ++ []))) (L3 := (b2, .cells #[.int .i64 t_wide2, .slice a11 n15 c12] 24 (0, 0)) :: ((b1, .cells #[.int .i64 0, .slice none 0 0] 24 (0, 0)) :: (Lb13 ++ []))) (List.Perm.refl _) (List.Sublist.refl _) ?_
      exact ⟨a11, n15, c12, Lb13, rfl, rfl, (sc rfl (sc rfl (sn _))), hz14⟩
  · rintro e1 _ _ ⟨a3, n7, c4, Lb5, rfl, rfl, he87, hz6⟩
    refine shW_env _ he87 ?_; clear he87
    refine shW_seq ?_
    refine shW_region ?_
    refine ov (v_loadA (cs := #[.int .i64 t_wide, .slice a3 n7 c4]) Try.isAgg24 Try.sizeOf24 rfl (Has.own 0 rfl) (Nat.le_of_ble_eq_true rfl) rfl) rfl ?_
    refine o_storeA (i := 1) Try.sizeOf24 rfl rfl rfl (by simp [Value.oneCell']) rfl (Nat.le_of_ble_eq_true rfl) ?_
    refine shO_L (L' := (b2, .cells #[.int .i64 t_wide, .slice a3 n7 c4] 24 (0, 0)) :: ((b1, .cells #[.int .i64 t_wide, .slice a3 n7 c4] 24 (0, 0)) :: (Lb5 ++ []))) rfl ?_
    refine shO_nil ?_
    refine shW_perm (L' := (b1, .cells #[.int .i64 t_wide, .slice a3 n7 c4] 24 (0, 0)) :: (Lb5 ++ ((b2, .cells #[.int .i64 t_wide, .slice a3 n7 c4] 24 (0, 0)) :: []))) (((frontC (frO)).trans (List.Perm.cons _ (((frontC (List.Perm.refl _)).trans (List.Perm.append_left _ (List.Perm.refl _))))))) ?_
    refine shW_drop (L' := (b1, .cells #[.int .i64 t_wide, .slice a3 n7 c4] 24 (0, 0)) :: (Lb5 ++ [])) ((List.Sublist.cons_cons _ ((List.Sublist.append (List.Sublist.refl _) ((List.Sublist.cons _ (List.Sublist.refl _))))))) ?_
    refine shW_ret ?_
    refine q_res1 Try.results75 (res_cellA (cs := #[.int .i64 t_wide, .slice a3 n7 c4]) Try.isAgg24 Try.sizeOf24 rfl (Has.own 0 rfl) (Nat.le_of_ble_eq_true rfl) rfl) ((List.Sublist.cons _ ((List.Sublist.append (List.Sublist.refl _) (List.Sublist.refl _))))) ?_
    obtain ⟨rfl, rfl⟩ := inj2 r10
    exact ⟨_, _, _, _, rfl, rfl, hz6.any⟩


set_option maxHeartbeats 1000000 in
theorem oyezlaw01_awake_w {F : FS} {r : Bool} (hr : oyezlaw01_awake = some r) :
    SpecV Try.prog 15 #[] F (.bool r) := by
  refine spec_of_shW (args := []) Try.func15 rfl Try.ntmps15 (Nat.le_of_ble_eq_true rfl) ?_
  intro K _ _; rw [oyezlaw01_awake] at hr
  refine shW_seq ?_
  refine shW_region ?_
  refine ov (v_assign rfl) rfl ?_
  refine shO_nil ?_
  refine shW_seq ?_
  refine shW_region ?_
  refine o_buildSlice (cs := #[.string (sB [115, 104, 115, 104])]) rfl rfl (buildSlice_all slt_155 [.string (sB [115, 104, 115, 104])] rfl (by decide) (by simp [Value.cells]) (by decide)) ?_; intro b1 hb1
  refine shO_freeze 0 rfl hb1 ?_; intro F2 hF3 hz4
  refine shO_L (L' := []) rfl ?_
  have h5 : RowR 1 sE F2 (some ⟨b1, 0, none⟩) 1 [[115, 104, 115, 104]] := RowR.of_block sE_ok (vss := [[.string (sB [115, 104, 115, 104])]]) (xs := [[115, 104, 115, 104]]) hz4 (.cons rfl .nil) rfl (by simp [maxLen])
  obtain ⟨n, l, h6, r7⟩ := b2_ok hr; clear hr
  refine o_call0 rfl Try.call75 rfl rfl rfl (oyezlaw01_Drawn_w h5 h6) ?_; rintro _ F8 _ hF9 hn10 ⟨a12, n16, c13, Lb14, rfl, rfl, hz15⟩
  replace h5 := h5.mono sE_ok hF9
  replace hz4 := hF9 _ _ hz4
  replace hz15 := hz15.new fun p hp => hn10 p (by simp [hp])
  refine shO_L (L' := Lb14 ++ []) (by simp only [List.nil_append, List.cons_append, List.append_assoc, List.append_nil] <;> rfl) ?_
  refine o_buildSlice (cs := #[.string (sB [104, 115, 104]), .string (sB [115, 119, 115])]) rfl rfl (buildSlice_all slt_155 [.string (sB [104, 115, 104]), .string (sB [115, 119, 115])] rfl (by decide) (by simp [Value.cells]) (by decide)) ?_; intro b18 hb18
  refine shO_freeze 0 rfl hb18 ?_; intro F19 hF20 hz21
  refine shO_L (L' := Lb14 ++ []) rfl ?_
  replace h5 := h5.mono sE_ok hF20
  replace hz15 := hz15.mono (iE_ok _) hF20
  replace hz4 := hF20 _ _ hz4
  have h22 : RowR 1 sE F19 (some ⟨b18, 0, none⟩) 2 [[104, 115, 104], [115, 119, 115]] := RowR.of_block sE_ok (vss := [[.string (sB [104, 115, 104])], [.string (sB [115, 119, 115])]]) (xs := [[104, 115, 104], [115, 119, 115]]) hz21 (.cons rfl (.cons rfl .nil)) rfl (by simp [maxLen])
  obtain ⟨n2, l2, h23, r24⟩ := b2_ok r7; clear r7
  refine o_call0 rfl Try.call75 rfl rfl rfl (oyezlaw01_Drawn_w h22 h23) ?_; rintro _ F25 _ hF26 hn27 ⟨a29, n33, c30, Lb31, rfl, rfl, hz32⟩
  replace h5 := h5.mono sE_ok hF26
  replace h22 := h22.mono sE_ok hF26
  replace hz15 := hz15.mono (iE_ok _) hF26
  replace hz4 := hF26 _ _ hz4
  replace hz21 := hF26 _ _ hz21
  replace hz32 := hz32.new fun p hp => hn27 p (by simp [hp])
  refine shO_L (L' := Lb31 ++ (Lb14 ++ [])) (by simp only [List.nil_append, List.cons_append, List.append_assoc, List.append_nil] <;> rfl) ?_
  refine o_alloc rfl Try.zeroValue24 ?_; intro b35 hb35
  refine o_alloc rfl Try.zeroValue24 ?_; intro b36 hb36
  refine o_storeA (i := 1) Try.sizeOf24 rfl rfl rfl (by simp [Value.oneCell']) rfl (Nat.le_of_ble_eq_true rfl) ?_
  refine shO_L (L' := (b36, .cells #[.int .i64 0, .slice none 0 0] 24 (0, 0)) :: ((b35, .cells #[.int .i64 n, .slice a12 n16 c13] 24 (0, 0)) :: (Lb31 ++ (Lb14 ++ [])))) rfl ?_
  refine o_storeA (i := 0) Try.sizeOf24 rfl rfl rfl (by simp [Value.oneCell']) rfl (Nat.le_of_ble_eq_true rfl) ?_
  refine shO_L (L' := (b36, .cells #[.int .i64 n2, .slice a29 n33 c30] 24 (0, 0)) :: ((b35, .cells #[.int .i64 n, .slice a12 n16 c13] 24 (0, 0)) :: (Lb31 ++ (Lb14 ++ [])))) rfl ?_
  refine shO_nil ?_
  refine shW_seq ?_
  refine shW_region ?_
  refine ov (v_loadA (cs := #[.int .i64 n, .slice a12 n16 c13]) Try.isAgg24 Try.sizeOf24 rfl (Has.own 1 rfl) (Nat.le_of_ble_eq_true rfl) rfl) rfl ?_
  obtain rfl := (SlR.caps hz15).1
  refine shO_freezeR (Nat.le_refl _) (iE_ok _) (frontC (frontC (frontS (List.Perm.refl _)))) hz15 ?_; intro F37 hF38 h39
  replace h5 := h5.mono sE_ok hF38
  replace h22 := h22.mono sE_ok hF38
  replace hz32 := hz32.mono (iE_ok _) hF38
  replace hz4 := hF38 _ _ hz4
  replace hz21 := hF38 _ _ hz21
  obtain ⟨l3, n3, h40, r41⟩ := b2_ok r24; clear r24
  refine o_call0 rfl Try.call21 rfl rfl rfl (hear_Needs_w h39 h40) ?_; rintro _ F42 _ hF43 hn44 ⟨a46, n50, c47, Lb48, rfl, rfl, hz49⟩
  replace h5 := h5.mono sE_ok hF43
  replace h22 := h22.mono sE_ok hF43
  replace h39 := h39.mono (iE_ok _) hF43
  replace hz32 := hz32.mono (iE_ok _) hF43
  replace hz4 := hF43 _ _ hz4
  replace hz21 := hF43 _ _ hz21
  replace hz49 := hz49.new fun p hp => hn44 p (by simp [hp])
  refine shO_L (L' := Lb48 ++ ((b36, .cells #[.int .i64 n2, .slice a29 n33 c30] 24 (0, 0)) :: ((b35, .cells #[.int .i64 n, .slice a12 l.length c13] 24 (0, 0)) :: (Lb31 ++ [])))) (by simp only [List.nil_append, List.cons_append, List.append_assoc, List.append_nil] <;> rfl) ?_
  refine shO_perm (L' := (b36, .cells #[.int .i64 n2, .slice a29 n33 c30] 24 (0, 0)) :: ((b35, .cells #[.int .i64 n, .slice a12 l.length c13] 24 (0, 0)) :: (Lb48 ++ (Lb31 ++ [])))) (((frontS (frO)).trans (List.Perm.cons _ (((frontS (frO)).trans (List.Perm.cons _ (List.Perm.refl _))))))) ?_
  refine ov (v_move rfl) rfl ?_
  refine ov (v_extract rfl rfl) rfl ?_
  refine ov (v_extract rfl rfl) rfl ?_
  refine ov (v_assign rfl) rfl ?_
  refine ov (v_assign rfl) rfl ?_
  refine shO_nil ?_
  refine shW_seq ?_
  refine shW_region ?_
  refine ov (v_loadA (cs := #[.int .i64 n, .slice a12 l.length c13]) Try.isAgg24 Try.sizeOf24 rfl (Has.own 1 rfl) (Nat.le_of_ble_eq_true rfl) rfl) rfl ?_
  refine ov (v_build (v := .agg #[.int .i64 0, .int .i64 5]) rfl (by intro w; kernel_rfl)) rfl ?_
  refine o_buildSlice (cs := #[.int .i64 1, .int .i64 3]) rfl rfl (buildSlice_all slt_26 [.int .i64 1, .int .i64 3] rfl (by decide) (by simp [Value.cells]) (by decide)) ?_; intro b52 hb52
  refine shO_freeze 0 rfl hb52 ?_; intro F53 hF54 hz55
  refine shO_L (L' := (b36, .cells #[.int .i64 n2, .slice a29 n33 c30] 24 (0, 0)) :: ((b35, .cells #[.int .i64 n, .slice a12 l.length c13] 24 (0, 0)) :: (Lb48 ++ (Lb31 ++ [])))) rfl ?_
  replace h5 := h5.mono sE_ok hF54
  replace h22 := h22.mono sE_ok hF54
  replace h39 := h39.mono (iE_ok _) hF54
  replace hz32 := hz32.mono (iE_ok _) hF54
  replace hz49 := hz49.mono (iE_ok _) hF54
  replace hz4 := hF54 _ _ hz4
  replace hz21 := hF54 _ _ hz21
  have h56 : RowR 1 (iE .i64) F53 (some ⟨b52, 0, none⟩) 2 [1, 3] := RowR.of_block (iE_ok _) (vss := [[.int .i64 1], [.int .i64 3]]) (xs := [1, 3]) hz55 (.cons rfl (.cons rfl .nil)) rfl (by simp [maxLen])
  obtain ⟨l4, n4, h57, r58⟩ := b2_ok r41; clear r41
  refine o_call0 rfl Try.call59 rfl rfl rfl (hear_Fewest_w h39 h56 h57) ?_; rintro _ F59 _ hF60 hn61 ⟨a63, n67, c64, Lb65, rfl, rfl, hz66⟩
  replace h5 := h5.mono sE_ok hF60
  replace h22 := h22.mono sE_ok hF60
  replace h39 := h39.mono (iE_ok _) hF60
  replace h56 := h56.mono (iE_ok _) hF60
  replace hz32 := hz32.mono (iE_ok _) hF60
  replace hz49 := hz49.mono (iE_ok _) hF60
  replace hz4 := hF60 _ _ hz4
  replace hz21 := hF60 _ _ hz21
  replace hz55 := hF60 _ _ hz55
  replace hz66 := hz66.new fun p hp => hn61 p (by simp [hp])
  refine shO_L (L' := Lb65 ++ ((b36, .cells #[.int .i64 n2, .slice a29 n33 c30] 24 (0, 0)) :: ((b35, .cells #[.int .i64 n, .slice a12 l.length c13] 24 (0, 0)) :: (Lb48 ++ (Lb31 ++ []))))) (by simp only [List.nil_append, List.cons_append, List.append_assoc, List.append_nil] <;> rfl) ?_
  refine shO_perm (L' := (b36, .cells #[.int .i64 n2, .slice a29 n33 c30] 24 (0, 0)) :: ((b35, .cells #[.int .i64 n, .slice a12 l.length c13] 24 (0, 0)) :: (Lb65 ++ (Lb48 ++ (Lb31 ++ []))))) (((frontS (frO)).trans (List.Perm.cons _ (((frontS (frO)).trans (List.Perm.cons _ (List.Perm.refl _))))))) ?_
  refine ov (v_move rfl) rfl ?_
  refine ov (v_extract rfl rfl) rfl ?_
  refine ov (v_extract rfl rfl) rfl ?_
  refine ov (v_assign rfl) rfl ?_
  refine ov (v_assign rfl) rfl ?_
  refine shO_nil ?_
  refine shW_seq ?_
  refine shW_region ?_
  refine ov (v_loadA (cs := #[.int .i64 n2, .slice a29 n33 c30]) Try.isAgg24 Try.sizeOf24 rfl (Has.own 0 rfl) (Nat.le_of_ble_eq_true rfl) rfl) rfl ?_
  refine ov (v_build (v := .agg #[.int .i64 0, .int .i64 3]) rfl (by intro w; kernel_rfl)) rfl ?_
  refine o_buildSlice (cs := #[.int .i64 0, .int .i64 2]) rfl rfl (buildSlice_all slt_26 [.int .i64 0, .int .i64 2] rfl (by decide) (by simp [Value.cells]) (by decide)) ?_; intro b69 hb69
  obtain rfl := (SlR.caps hz32).1
  refine shO_freezeR (Nat.le_refl _) (iE_ok _) (frontC (frontC (frontC (frontS (frontS (List.Perm.refl _)))))) hz32 ?_; intro F70 hF71 h72
  replace h5 := h5.mono sE_ok hF71
  replace h22 := h22.mono sE_ok hF71
  replace h39 := h39.mono (iE_ok _) hF71
  replace h56 := h56.mono (iE_ok _) hF71
  replace hz49 := hz49.mono (iE_ok _) hF71
  replace hz66 := hz66.mono (iE_ok _) hF71
  replace hz4 := hF71 _ _ hz4
  replace hz21 := hF71 _ _ hz21
  replace hz55 := hF71 _ _ hz55
  refine shO_freeze 0 rfl hb69 ?_; intro F73 hF74 hz75
  refine shO_L (L' := (b36, .cells #[.int .i64 n2, .slice a29 l2.length c30] 24 (0, 0)) :: ((b35, .cells #[.int .i64 n, .slice a12 l.length c13] 24 (0, 0)) :: (Lb65 ++ (Lb48 ++ [])))) rfl ?_
  replace h5 := h5.mono sE_ok hF74
  replace h22 := h22.mono sE_ok hF74
  replace h39 := h39.mono (iE_ok _) hF74
  replace h56 := h56.mono (iE_ok _) hF74
  replace h72 := h72.mono (iE_ok _) hF74
  replace hz49 := hz49.mono (iE_ok _) hF74
  replace hz66 := hz66.mono (iE_ok _) hF74
  replace hz4 := hF74 _ _ hz4
  replace hz21 := hF74 _ _ hz21
  replace hz55 := hF74 _ _ hz55
  have h76 : RowR 1 (iE .i64) F73 (some ⟨b69, 0, none⟩) 2 [0, 2] := RowR.of_block (iE_ok _) (vss := [[.int .i64 0], [.int .i64 2]]) (xs := [0, 2]) hz75 (.cons rfl (.cons rfl .nil)) rfl (by simp [maxLen])
  obtain ⟨l5, n5, h77, r78⟩ := b2_ok r58; clear r58
  refine o_call0 rfl Try.call59 rfl rfl rfl (hear_Fewest_w h72 h76 h77) ?_; rintro _ F79 _ hF80 hn81 ⟨a83, n87, c84, Lb85, rfl, rfl, hz86⟩
  replace h5 := h5.mono sE_ok hF80
  replace h22 := h22.mono sE_ok hF80
  replace h39 := h39.mono (iE_ok _) hF80
  replace h56 := h56.mono (iE_ok _) hF80
  replace h72 := h72.mono (iE_ok _) hF80
  replace h76 := h76.mono (iE_ok _) hF80
  replace hz49 := hz49.mono (iE_ok _) hF80
  replace hz66 := hz66.mono (iE_ok _) hF80
  replace hz4 := hF80 _ _ hz4
  replace hz21 := hF80 _ _ hz21
  replace hz55 := hF80 _ _ hz55
  replace hz75 := hF80 _ _ hz75
  replace hz86 := hz86.new fun p hp => hn81 p (by simp [hp])
  refine shO_L (L' := Lb85 ++ ((b36, .cells #[.int .i64 n2, .slice a29 l2.length c30] 24 (0, 0)) :: ((b35, .cells #[.int .i64 n, .slice a12 l.length c13] 24 (0, 0)) :: (Lb65 ++ (Lb48 ++ []))))) (by simp only [List.nil_append, List.cons_append, List.append_assoc, List.append_nil] <;> rfl) ?_
  refine shO_perm (L' := (b36, .cells #[.int .i64 n2, .slice a29 l2.length c30] 24 (0, 0)) :: ((b35, .cells #[.int .i64 n, .slice a12 l.length c13] 24 (0, 0)) :: (Lb85 ++ (Lb65 ++ (Lb48 ++ []))))) (((frontS (frO)).trans (List.Perm.cons _ (((frontS (frO)).trans (List.Perm.cons _ (List.Perm.refl _))))))) ?_
  refine ov (v_move rfl) rfl ?_
  refine ov (v_extract rfl rfl) rfl ?_
  refine ov (v_extract rfl rfl) rfl ?_
  refine ov (v_assign rfl) rfl ?_
  refine ov (v_assign rfl) rfl ?_
  refine shO_nil ?_
  refine shW_seq ?_
  refine shW_region ?_
  refine ov (v_loadA (cs := #[.int .i64 n2, .slice a29 l2.length c30]) Try.isAgg24 Try.sizeOf24 rfl (Has.own 0 rfl) (Nat.le_of_ble_eq_true rfl) rfl) rfl ?_
  refine o_buildSlice (cs := #[.int .i64 3, .int .i64 0, .int .i64 3, .int .i64 5, .int .i64 0, .int .i64 5]) rfl rfl (buildSlice_all slt_26 [.int .i64 3, .int .i64 0, .int .i64 3, .int .i64 5, .int .i64 0, .int .i64 5] rfl (by decide) (by simp [Value.cells]) (by decide)) ?_; intro b89 hb89
  refine shO_freeze 0 rfl hb89 ?_; intro F90 hF91 hz92
  refine shO_L (L' := (b36, .cells #[.int .i64 n2, .slice a29 l2.length c30] 24 (0, 0)) :: ((b35, .cells #[.int .i64 n, .slice a12 l.length c13] 24 (0, 0)) :: (Lb85 ++ (Lb65 ++ (Lb48 ++ []))))) rfl ?_
  replace h5 := h5.mono sE_ok hF91
  replace h22 := h22.mono sE_ok hF91
  replace h39 := h39.mono (iE_ok _) hF91
  replace h56 := h56.mono (iE_ok _) hF91
  replace h72 := h72.mono (iE_ok _) hF91
  replace h76 := h76.mono (iE_ok _) hF91
  replace hz49 := hz49.mono (iE_ok _) hF91
  replace hz66 := hz66.mono (iE_ok _) hF91
  replace hz86 := hz86.mono (iE_ok _) hF91
  replace hz4 := hF91 _ _ hz4
  replace hz21 := hF91 _ _ hz21
  replace hz55 := hF91 _ _ hz55
  replace hz75 := hF91 _ _ hz75
  have h93 : RowR 1 (iE .i64) F90 (some ⟨b89, 0, none⟩) 6 [3, 0, 3, 5, 0, 5] := RowR.of_block (iE_ok _) (vss := [[.int .i64 3], [.int .i64 0], [.int .i64 3], [.int .i64 5], [.int .i64 0], [.int .i64 5]]) (xs := [3, 0, 3, 5, 0, 5]) hz92 (.cons rfl (.cons rfl (.cons rfl (.cons rfl (.cons rfl (.cons rfl .nil)))))) rfl (by simp [maxLen])
  obtain ⟨ok, n6, h94, r95⟩ := b2_ok r78; clear r78
  refine o_callV rfl Try.call24 rfl rfl rfl (hear_Holds_w h72 h93 h94) ?_
  refine ov (v_move rfl) rfl ?_
  refine ov (v_extract rfl rfl) rfl ?_
  refine ov (v_extract rfl rfl) rfl ?_
  refine ov (v_assign rfl) rfl ?_
  refine ov (v_assign rfl) rfl ?_
  refine shO_nil ?_
  refine shW_seq ?_
  obtain ⟨k, h96, r97⟩ := b1_ok r95; clear r95
  refine shW_join (fun e1 F1 L1 => FExt F90 F1 ∧ L1 = [(b36, .cells #[.int .i64 n2, .slice a29 l2.length c30] 24 (0, 0)), (b35, .cells #[.int .i64 n, .slice a12 l.length c13] 24 (0, 0))] ∧ e1.sub [(1, .pointer (some ⟨b35, 0, none⟩)), (2, .pointer (some ⟨b36, 0, none⟩)), (77, .bool k)]) ?_ ?_
  · clear r97
    refine shW_region ?_
    refine ov (v_move rfl) rfl ?_
    refine ov (v_neq rfl rfl) rfl ?_
    refine ov (v_move rfl) rfl ?_
    by_cases c98 : n3 ≠ 0
    · have r99 := ite_t h96 c98; clear h96
      refine shO_off (b' := true) 44 rfl (Env.isT rfl c98) rfl rfl ?_
      refine shO_off (b' := true) 44 rfl (Env.isT rfl c98) rfl rfl ?_
      refine ov (v_pick_t (evD_true rfl c98) rfl) rfl ?_
      refine ov (v_move rfl) rfl ?_
      refine shO_off (b' := true) 48 rfl rfl rfl rfl ?_
      refine shO_off (b' := true) 48 rfl rfl rfl rfl ?_
      refine ov (v_pick_t rfl rfl) rfl ?_
      refine ov (v_move rfl) rfl ?_
      refine shO_off (b' := true) 52 rfl rfl rfl rfl ?_
      refine shO_off (b' := true) 52 rfl rfl rfl rfl ?_
      refine ov (v_pick_t rfl rfl) rfl ?_
      refine ov (v_move rfl) rfl ?_
      refine shO_off (b' := true) 56 rfl rfl rfl rfl ?_
      refine shO_off (b' := true) 56 rfl rfl rfl rfl ?_
      refine ov (v_pick_t rfl rfl) rfl ?_
      refine ov (v_move rfl) rfl ?_
      refine shO_off (b' := true) 60 rfl rfl rfl rfl ?_
      refine shO_off (b' := true) 60 rfl rfl rfl rfl ?_
      refine shO_off (b' := true) 60 rfl rfl rfl rfl ?_
      refine shO_off (b' := true) 60 rfl rfl rfl rfl ?_
      refine ov (v_pick_t rfl rfl) rfl ?_
      refine ov (v_move rfl) rfl ?_
      refine shO_off (b' := true) 66 rfl rfl rfl rfl ?_
      refine shO_off (b' := true) 66 rfl rfl rfl rfl ?_
      refine shO_off (b' := true) 66 rfl rfl rfl rfl ?_
      refine shO_off (b' := true) 66 rfl rfl rfl rfl ?_
      refine ov (v_pick_t rfl rfl) rfl ?_
      refine ov (v_move rfl) rfl ?_
      refine shO_off (b' := true) 72 rfl rfl rfl rfl ?_
      refine shO_off (b' := true) 72 rfl rfl rfl rfl ?_
      refine shO_off (b' := true) 72 rfl rfl rfl rfl ?_
      refine shO_off (b' := true) 72 rfl rfl rfl rfl ?_
      refine ov (v_pick_t rfl rfl) rfl ?_
      refine shO_nil ?_
      obtain rfl := inj1 r99
      refine meet_i (L2 := [(b36, .cells #[.int .i64 n2, .slice a29 l2.length c30] 24 (0, 0)), (b35, .cells #[.int .i64 n, .slice a12 l.length c13] 24 (0, 0))]) (L3 := (b36, .cells #[.int .i64 n2, .slice a29 l2.length c30] 24 (0, 0)) :: ((b35, .cells #[.int .i64 n, .slice a12 l.length c13] 24 (0, 0)) :: (Lb85 ++ (Lb65 ++ (Lb48 ++ []))))) (List.Perm.refl _) ((List.Sublist.cons_cons _ ((List.Sublist.cons_cons _ (((((((List.Sublist.refl _).trans (List.sublist_append_right _ _))).trans (List.sublist_append_right _ _))).trans (List.sublist_append_right _ _))))))) ?_
      exact ⟨FExt.refl _, rfl, (sc rfl (sc rfl (sc rfl (sn _))))⟩
    · have r100 := ite_f h96 c98; clear h96
      refine shO_on (b := false) 44 rfl (Env.isF rfl c98) ?_
      refine ov (v_move rfl) rfl ?_
      refine shO_on (b := false) 44 rfl (Env.isF rfl c98) ?_
      refine ov (v_neq rfl rfl) rfl ?_
      refine ov (v_pick_f (evD_false rfl c98) rfl) rfl ?_
      refine ov (v_move rfl) rfl ?_
      by_cases c101 : n4 ≠ 0
      · have r102 := ite_t r100 c101; clear r100
        refine shO_off (b' := true) 48 rfl (Env.isT rfl c101) rfl rfl ?_
        refine shO_off (b' := true) 48 rfl (Env.isT rfl c101) rfl rfl ?_
        refine ov (v_pick_t (evD_true rfl c101) rfl) rfl ?_
        refine ov (v_move rfl) rfl ?_
        refine shO_off (b' := true) 52 rfl rfl rfl rfl ?_
        refine shO_off (b' := true) 52 rfl rfl rfl rfl ?_
        refine ov (v_pick_t rfl rfl) rfl ?_
        refine ov (v_move rfl) rfl ?_
        refine shO_off (b' := true) 56 rfl rfl rfl rfl ?_
        refine shO_off (b' := true) 56 rfl rfl rfl rfl ?_
        refine ov (v_pick_t rfl rfl) rfl ?_
        refine ov (v_move rfl) rfl ?_
        refine shO_off (b' := true) 60 rfl rfl rfl rfl ?_
        refine shO_off (b' := true) 60 rfl rfl rfl rfl ?_
        refine shO_off (b' := true) 60 rfl rfl rfl rfl ?_
        refine shO_off (b' := true) 60 rfl rfl rfl rfl ?_
        refine ov (v_pick_t rfl rfl) rfl ?_
        refine ov (v_move rfl) rfl ?_
        refine shO_off (b' := true) 66 rfl rfl rfl rfl ?_
        refine shO_off (b' := true) 66 rfl rfl rfl rfl ?_
        refine shO_off (b' := true) 66 rfl rfl rfl rfl ?_
        refine shO_off (b' := true) 66 rfl rfl rfl rfl ?_
        refine ov (v_pick_t rfl rfl) rfl ?_
        refine ov (v_move rfl) rfl ?_
        refine shO_off (b' := true) 72 rfl rfl rfl rfl ?_
        refine shO_off (b' := true) 72 rfl rfl rfl rfl ?_
        refine shO_off (b' := true) 72 rfl rfl rfl rfl ?_
        refine shO_off (b' := true) 72 rfl rfl rfl rfl ?_
        refine ov (v_pick_t rfl rfl) rfl ?_
        refine shO_nil ?_
        obtain rfl := inj1 r102
        refine meet_i (L2 := [(b36, .cells #[.int .i64 n2, .slice a29 l2.length c30] 24 (0, 0)), (b35, .cells #[.int .i64 n, .slice a12 l.length c13] 24 (0, 0))]) (L3 := (b36, .cells #[.int .i64 n2, .slice a29 l2.length c30] 24 (0, 0)) :: ((b35, .cells #[.int .i64 n, .slice a12 l.length c13] 24 (0, 0)) :: (Lb85 ++ (Lb65 ++ (Lb48 ++ []))))) (List.Perm.refl _) ((List.Sublist.cons_cons _ ((List.Sublist.cons_cons _ (((((((List.Sublist.refl _).trans (List.sublist_append_right _ _))).trans (List.sublist_append_right _ _))).trans (List.sublist_append_right _ _))))))) ?_
        exact ⟨FExt.refl _, rfl, (sc rfl (sc rfl (sc rfl (sn _))))⟩
      · have r103 := ite_f r100 c101; clear r100
        refine shO_on (b := false) 48 rfl (Env.isF rfl c101) ?_
        refine ov (v_move rfl) rfl ?_
        refine shO_on (b := false) 48 rfl (Env.isF rfl c101) ?_
        refine ov (v_neq rfl rfl) rfl ?_
        refine ov (v_pick_f (evD_false rfl c101) rfl) rfl ?_
        refine ov (v_move rfl) rfl ?_
        by_cases c104 : n5 ≠ 0
        · have r105 := ite_t r103 c104; clear r103
          refine shO_off (b' := true) 52 rfl (Env.isT rfl c104) rfl rfl ?_
          refine shO_off (b' := true) 52 rfl (Env.isT rfl c104) rfl rfl ?_
          refine ov (v_pick_t (evD_true rfl c104) rfl) rfl ?_
          refine ov (v_move rfl) rfl ?_
          refine shO_off (b' := true) 56 rfl rfl rfl rfl ?_
          refine shO_off (b' := true) 56 rfl rfl rfl rfl ?_
          refine ov (v_pick_t rfl rfl) rfl ?_
          refine ov (v_move rfl) rfl ?_
          refine shO_off (b' := true) 60 rfl rfl rfl rfl ?_
          refine shO_off (b' := true) 60 rfl rfl rfl rfl ?_
          refine shO_off (b' := true) 60 rfl rfl rfl rfl ?_
          refine shO_off (b' := true) 60 rfl rfl rfl rfl ?_
          refine ov (v_pick_t rfl rfl) rfl ?_
          refine ov (v_move rfl) rfl ?_
          refine shO_off (b' := true) 66 rfl rfl rfl rfl ?_
          refine shO_off (b' := true) 66 rfl rfl rfl rfl ?_
          refine shO_off (b' := true) 66 rfl rfl rfl rfl ?_
          refine shO_off (b' := true) 66 rfl rfl rfl rfl ?_
          refine ov (v_pick_t rfl rfl) rfl ?_
          refine ov (v_move rfl) rfl ?_
          refine shO_off (b' := true) 72 rfl rfl rfl rfl ?_
          refine shO_off (b' := true) 72 rfl rfl rfl rfl ?_
          refine shO_off (b' := true) 72 rfl rfl rfl rfl ?_
          refine shO_off (b' := true) 72 rfl rfl rfl rfl ?_
          refine ov (v_pick_t rfl rfl) rfl ?_
          refine shO_nil ?_
          obtain rfl := inj1 r105
          refine meet_i (L2 := [(b36, .cells #[.int .i64 n2, .slice a29 l2.length c30] 24 (0, 0)), (b35, .cells #[.int .i64 n, .slice a12 l.length c13] 24 (0, 0))]) (L3 := (b36, .cells #[.int .i64 n2, .slice a29 l2.length c30] 24 (0, 0)) :: ((b35, .cells #[.int .i64 n, .slice a12 l.length c13] 24 (0, 0)) :: (Lb85 ++ (Lb65 ++ (Lb48 ++ []))))) (List.Perm.refl _) ((List.Sublist.cons_cons _ ((List.Sublist.cons_cons _ (((((((List.Sublist.refl _).trans (List.sublist_append_right _ _))).trans (List.sublist_append_right _ _))).trans (List.sublist_append_right _ _))))))) ?_
          exact ⟨FExt.refl _, rfl, (sc rfl (sc rfl (sc rfl (sn _))))⟩
        · have r106 := ite_f r103 c104; clear r103
          refine shO_on (b := false) 52 rfl (Env.isF rfl c104) ?_
          refine ov (v_move rfl) rfl ?_
          refine shO_on (b := false) 52 rfl (Env.isF rfl c104) ?_
          refine ov (v_neq rfl rfl) rfl ?_
          refine ov (v_pick_f (evD_false rfl c104) rfl) rfl ?_
          refine ov (v_move rfl) rfl ?_
          by_cases c107 : n6 ≠ 0
          · have r108 := ite_t r106 c107; clear r106
            refine shO_off (b' := true) 56 rfl (Env.isT rfl c107) rfl rfl ?_
            refine shO_off (b' := true) 56 rfl (Env.isT rfl c107) rfl rfl ?_
            refine ov (v_pick_t (evD_true rfl c107) rfl) rfl ?_
            refine ov (v_move rfl) rfl ?_
            refine shO_off (b' := true) 60 rfl rfl rfl rfl ?_
            refine shO_off (b' := true) 60 rfl rfl rfl rfl ?_
            refine shO_off (b' := true) 60 rfl rfl rfl rfl ?_
            refine shO_off (b' := true) 60 rfl rfl rfl rfl ?_
            refine ov (v_pick_t rfl rfl) rfl ?_
            refine ov (v_move rfl) rfl ?_
            refine shO_off (b' := true) 66 rfl rfl rfl rfl ?_
            refine shO_off (b' := true) 66 rfl rfl rfl rfl ?_
            refine shO_off (b' := true) 66 rfl rfl rfl rfl ?_
            refine shO_off (b' := true) 66 rfl rfl rfl rfl ?_
            refine ov (v_pick_t rfl rfl) rfl ?_
            refine ov (v_move rfl) rfl ?_
            refine shO_off (b' := true) 72 rfl rfl rfl rfl ?_
            refine shO_off (b' := true) 72 rfl rfl rfl rfl ?_
            refine shO_off (b' := true) 72 rfl rfl rfl rfl ?_
            refine shO_off (b' := true) 72 rfl rfl rfl rfl ?_
            refine ov (v_pick_t rfl rfl) rfl ?_
            refine shO_nil ?_
            obtain rfl := inj1 r108
            refine meet_i (L2 := [(b36, .cells #[.int .i64 n2, .slice a29 l2.length c30] 24 (0, 0)), (b35, .cells #[.int .i64 n, .slice a12 l.length c13] 24 (0, 0))]) (L3 := (b36, .cells #[.int .i64 n2, .slice a29 l2.length c30] 24 (0, 0)) :: ((b35, .cells #[.int .i64 n, .slice a12 l.length c13] 24 (0, 0)) :: (Lb85 ++ (Lb65 ++ (Lb48 ++ []))))) (List.Perm.refl _) ((List.Sublist.cons_cons _ ((List.Sublist.cons_cons _ (((((((List.Sublist.refl _).trans (List.sublist_append_right _ _))).trans (List.sublist_append_right _ _))).trans (List.sublist_append_right _ _))))))) ?_
            exact ⟨FExt.refl _, rfl, (sc rfl (sc rfl (sc rfl (sn _))))⟩
          · have r109 := ite_f r106 c107; clear r106
            refine shO_on (b := false) 56 rfl (Env.isF rfl c107) ?_
            refine ov (v_move rfl) rfl ?_
            refine shO_on (b := false) 56 rfl (Env.isF rfl c107) ?_
            refine ov (v_notB rfl) rfl ?_
            refine ov (v_pick_f (evD_false rfl c107) rfl) rfl ?_
            refine ov (v_move rfl) rfl ?_
            rcases bool_two (!ok) with c110 | c110
            · have r111 := bt r109 c110; clear r109
              refine shO_off (b' := true) 60 rfl (EnvB rfl c110) rfl rfl ?_
              refine shO_off (b' := true) 60 rfl (EnvB rfl c110) rfl rfl ?_
              refine shO_off (b' := true) 60 rfl (EnvB rfl c110) rfl rfl ?_
              refine shO_off (b' := true) 60 rfl (EnvB rfl c110) rfl rfl ?_
              refine ov (v_pick_t (evB rfl c110) rfl) rfl ?_
              refine ov (v_move rfl) rfl ?_
              refine shO_off (b' := true) 66 rfl rfl rfl rfl ?_
              refine shO_off (b' := true) 66 rfl rfl rfl rfl ?_
              refine shO_off (b' := true) 66 rfl rfl rfl rfl ?_
              refine shO_off (b' := true) 66 rfl rfl rfl rfl ?_
              refine ov (v_pick_t rfl rfl) rfl ?_
              refine ov (v_move rfl) rfl ?_
              refine shO_off (b' := true) 72 rfl rfl rfl rfl ?_
              refine shO_off (b' := true) 72 rfl rfl rfl rfl ?_
              refine shO_off (b' := true) 72 rfl rfl rfl rfl ?_
              refine shO_off (b' := true) 72 rfl rfl rfl rfl ?_
              refine ov (v_pick_t rfl rfl) rfl ?_
              refine shO_nil ?_
              obtain rfl := inj1 r111
              refine meet_i (L2 := [(b36, .cells #[.int .i64 n2, .slice a29 l2.length c30] 24 (0, 0)), (b35, .cells #[.int .i64 n, .slice a12 l.length c13] 24 (0, 0))]) (L3 := (b36, .cells #[.int .i64 n2, .slice a29 l2.length c30] 24 (0, 0)) :: ((b35, .cells #[.int .i64 n, .slice a12 l.length c13] 24 (0, 0)) :: (Lb85 ++ (Lb65 ++ (Lb48 ++ []))))) (List.Perm.refl _) ((List.Sublist.cons_cons _ ((List.Sublist.cons_cons _ (((((((List.Sublist.refl _).trans (List.sublist_append_right _ _))).trans (List.sublist_append_right _ _))).trans (List.sublist_append_right _ _))))))) ?_
              exact ⟨FExt.refl _, rfl, (sc rfl (sc rfl (sc rfl (sn _))))⟩
            · have r112 := bf r109 c110; clear r109
              refine shO_on (b := false) 60 rfl (EnvB rfl c110) ?_
              refine ov (v_move rfl) rfl ?_
              refine shO_on (b := false) 60 rfl (EnvB rfl c110) ?_
              refine o_buildSlice (cs := #[.int .i64 0, .int .i64 5, .int .i64 9, .int .i64 14]) rfl rfl (buildSlice_all slt_26 [.int .i64 0, .int .i64 5, .int .i64 9, .int .i64 14] rfl (by decide) (by simp [Value.cells]) (by decide)) ?_; intro b113 hb113
              refine shO_on (b := false) 60 rfl (EnvB rfl c110) ?_
              refine shO_freeze 0 rfl hb113 ?_; intro F114 hF115 hz116
              refine shO_L (L' := (b36, .cells #[.int .i64 n2, .slice a29 l2.length c30] 24 (0, 0)) :: ((b35, .cells #[.int .i64 n, .slice a12 l.length c13] 24 (0, 0)) :: (Lb85 ++ (Lb65 ++ (Lb48 ++ []))))) rfl ?_
              replace h5 := h5.mono sE_ok hF115
              replace h22 := h22.mono sE_ok hF115
              replace h39 := h39.mono (iE_ok _) hF115
              replace h56 := h56.mono (iE_ok _) hF115
              replace h72 := h72.mono (iE_ok _) hF115
              replace h76 := h76.mono (iE_ok _) hF115
              replace h93 := h93.mono (iE_ok _) hF115
              replace hz49 := hz49.mono (iE_ok _) hF115
              replace hz66 := hz66.mono (iE_ok _) hF115
              replace hz86 := hz86.mono (iE_ok _) hF115
              replace hz4 := hF115 _ _ hz4
              replace hz21 := hF115 _ _ hz21
              replace hz55 := hF115 _ _ hz55
              replace hz75 := hF115 _ _ hz75
              replace hz92 := hF115 _ _ hz92
              have h117 : RowR 1 (iE .i64) F114 (some ⟨b113, 0, none⟩) 4 [0, 5, 9, 14] := RowR.of_block (iE_ok _) (vss := [[.int .i64 0], [.int .i64 5], [.int .i64 9], [.int .i64 14]]) (xs := [0, 5, 9, 14]) hz116 (.cons rfl (.cons rfl (.cons rfl (.cons rfl .nil)))) rfl (by simp [maxLen])
              obtain ⟨ok2, h118, r119⟩ := b1_ok r112; clear r112
              refine o_callT (Lt := Lb48 ++ []) (Lr := (b36, .cells #[.int .i64 n2, .slice a29 l2.length c30] 24 (0, 0)) :: ((b35, .cells #[.int .i64 n, .slice a12 l.length c13] 24 (0, 0)) :: (Lb85 ++ (Lb65 ++ [])))) rfl Try.call23 rfl rfl rfl ((((frontC (frontC (frontS (frontS (List.Perm.refl _))))).trans (List.Perm.append_left _ (List.Perm.refl _)))).trans (List.Perm.of_eq (by simp only [List.nil_append, List.cons_append, List.append_assoc, List.append_nil]))) (fun F2 h2 h3 => by have q := oyezkit_Like_int_w (hz49.row (iE_ok _) h2 (fun p hp => h3 p (List.mem_append_left _ hp))) (h117.mono (iE_ok _) h2) h118; rw [← (SlR.caps hz49).1] at q; exact q) ?_
              refine shO_on (b := false) 60 rfl (EnvB rfl c110) ?_
              refine ov (v_notB rfl) rfl ?_
              refine ov (v_pick_f (evB rfl c110) rfl) rfl ?_
              refine ov (v_move rfl) rfl ?_
              rcases bool_two (!ok2) with c120 | c120
              · have r121 := bt r119 c120; clear r119
                refine shO_off (b' := true) 66 rfl (EnvB rfl c120) rfl rfl ?_
                refine shO_off (b' := true) 66 rfl (EnvB rfl c120) rfl rfl ?_
                refine shO_off (b' := true) 66 rfl (EnvB rfl c120) rfl rfl ?_
                refine shO_off (b' := true) 66 rfl (EnvB rfl c120) rfl rfl ?_
                refine ov (v_pick_t (evB rfl c120) rfl) rfl ?_
                refine ov (v_move rfl) rfl ?_
                refine shO_off (b' := true) 72 rfl rfl rfl rfl ?_
                refine shO_off (b' := true) 72 rfl rfl rfl rfl ?_
                refine shO_off (b' := true) 72 rfl rfl rfl rfl ?_
                refine shO_off (b' := true) 72 rfl rfl rfl rfl ?_
                refine ov (v_pick_t rfl rfl) rfl ?_
                refine shO_nil ?_
                obtain rfl := inj1 r121
                refine meet_i (L2 := [(b36, .cells #[.int .i64 n2, .slice a29 l2.length c30] 24 (0, 0)), (b35, .cells #[.int .i64 n, .slice a12 l.length c13] 24 (0, 0))]) (L3 := (b36, .cells #[.int .i64 n2, .slice a29 l2.length c30] 24 (0, 0)) :: ((b35, .cells #[.int .i64 n, .slice a12 l.length c13] 24 (0, 0)) :: (Lb85 ++ (Lb65 ++ (Lb48 ++ []))))) (List.Perm.refl _) ((List.Sublist.cons_cons _ ((List.Sublist.cons_cons _ (((((((List.Sublist.refl _).trans (List.sublist_append_right _ _))).trans (List.sublist_append_right _ _))).trans (List.sublist_append_right _ _))))))) ?_
                exact ⟨hF115, rfl, (sc rfl (sc rfl (sc rfl (sn _))))⟩
              · have r122 := bf r119 c120; clear r119
                refine shO_on (b := false) 66 rfl (EnvB rfl c120) ?_
                refine ov (v_move rfl) rfl ?_
                refine shO_on (b := false) 66 rfl (EnvB rfl c120) ?_
                refine o_buildSlice (cs := #[.int .i64 2]) rfl rfl (buildSlice_all slt_26 [.int .i64 2] rfl (by decide) (by simp [Value.cells]) (by decide)) ?_; intro b123 hb123
                refine shO_on (b := false) 66 rfl (EnvB rfl c120) ?_
                refine shO_freeze 0 rfl hb123 ?_; intro F124 hF125 hz126
                refine shO_L (L' := (b36, .cells #[.int .i64 n2, .slice a29 l2.length c30] 24 (0, 0)) :: ((b35, .cells #[.int .i64 n, .slice a12 l.length c13] 24 (0, 0)) :: (Lb85 ++ (Lb65 ++ (Lb48 ++ []))))) rfl ?_
                replace h5 := h5.mono sE_ok hF125
                replace h22 := h22.mono sE_ok hF125
                replace h39 := h39.mono (iE_ok _) hF125
                replace h56 := h56.mono (iE_ok _) hF125
                replace h72 := h72.mono (iE_ok _) hF125
                replace h76 := h76.mono (iE_ok _) hF125
                replace h93 := h93.mono (iE_ok _) hF125
                replace h117 := h117.mono (iE_ok _) hF125
                replace hz49 := hz49.mono (iE_ok _) hF125
                replace hz66 := hz66.mono (iE_ok _) hF125
                replace hz86 := hz86.mono (iE_ok _) hF125
                replace hz4 := hF125 _ _ hz4
                replace hz21 := hF125 _ _ hz21
                replace hz55 := hF125 _ _ hz55
                replace hz75 := hF125 _ _ hz75
                replace hz92 := hF125 _ _ hz92
                replace hz116 := hF125 _ _ hz116
                have h127 : RowR 1 (iE .i64) F124 (some ⟨b123, 0, none⟩) 1 [2] := RowR.of_block (iE_ok _) (vss := [[.int .i64 2]]) (xs := [2]) hz126 (.cons rfl .nil) rfl (by simp [maxLen])
                obtain ⟨ok3, h128, r129⟩ := b1_ok r122; clear r122
                refine o_callT (Lt := Lb65 ++ []) (Lr := (b36, .cells #[.int .i64 n2, .slice a29 l2.length c30] 24 (0, 0)) :: ((b35, .cells #[.int .i64 n, .slice a12 l.length c13] 24 (0, 0)) :: (Lb85 ++ (Lb48 ++ [])))) rfl Try.call23 rfl rfl rfl ((((frontC (frontC (frontS (List.Perm.refl _)))).trans (List.Perm.append_left _ (List.Perm.refl _)))).trans (List.Perm.of_eq (by simp only [List.nil_append, List.cons_append, List.append_assoc, List.append_nil]))) (fun F2 h2 h3 => by have q := oyezkit_Like_int_w (hz66.row (iE_ok _) h2 (fun p hp => h3 p (List.mem_append_left _ hp))) (h127.mono (iE_ok _) h2) h128; rw [← (SlR.caps hz66).1] at q; exact q) ?_
                refine shO_on (b := false) 66 rfl (EnvB rfl c120) ?_
                refine ov (v_notB rfl) rfl ?_
                refine ov (v_pick_f (evB rfl c120) rfl) rfl ?_
                refine ov (v_move rfl) rfl ?_
                rcases bool_two (!ok3) with c130 | c130
                · have r131 := bt r129 c130; clear r129
                  refine shO_off (b' := true) 72 rfl (EnvB rfl c130) rfl rfl ?_
                  refine shO_off (b' := true) 72 rfl (EnvB rfl c130) rfl rfl ?_
                  refine shO_off (b' := true) 72 rfl (EnvB rfl c130) rfl rfl ?_
                  refine shO_off (b' := true) 72 rfl (EnvB rfl c130) rfl rfl ?_
                  refine ov (v_pick_t (evB rfl c130) rfl) rfl ?_
                  refine shO_nil ?_
                  obtain rfl := inj1 r131
                  refine meet_i (L2 := [(b36, .cells #[.int .i64 n2, .slice a29 l2.length c30] 24 (0, 0)), (b35, .cells #[.int .i64 n, .slice a12 l.length c13] 24 (0, 0))]) (L3 := (b36, .cells #[.int .i64 n2, .slice a29 l2.length c30] 24 (0, 0)) :: ((b35, .cells #[.int .i64 n, .slice a12 l.length c13] 24 (0, 0)) :: (Lb85 ++ (Lb65 ++ (Lb48 ++ []))))) (List.Perm.refl _) ((List.Sublist.cons_cons _ ((List.Sublist.cons_cons _ (((((((List.Sublist.refl _).trans (List.sublist_append_right _ _))).trans (List.sublist_append_right _ _))).trans (List.sublist_append_right _ _))))))) ?_
                  exact ⟨(hF115.trans hF125), rfl, (sc rfl (sc rfl (sc rfl (sn _))))⟩
                · have r132 := bf r129 c130; clear r129
                  refine shO_on (b := false) 72 rfl (EnvB rfl c130) ?_
                  refine ov (v_move rfl) rfl ?_
                  refine shO_on (b := false) 72 rfl (EnvB rfl c130) ?_
                  refine o_buildSlice (cs := #[.int .i64 1]) rfl rfl (buildSlice_all slt_26 [.int .i64 1] rfl (by decide) (by simp [Value.cells]) (by decide)) ?_; intro b133 hb133
                  refine shO_on (b := false) 72 rfl (EnvB rfl c130) ?_
                  refine shO_freeze 0 rfl hb133 ?_; intro F134 hF135 hz136
                  refine shO_L (L' := (b36, .cells #[.int .i64 n2, .slice a29 l2.length c30] 24 (0, 0)) :: ((b35, .cells #[.int .i64 n, .slice a12 l.length c13] 24 (0, 0)) :: (Lb85 ++ (Lb65 ++ (Lb48 ++ []))))) rfl ?_
                  replace h5 := h5.mono sE_ok hF135
                  replace h22 := h22.mono sE_ok hF135
                  replace h39 := h39.mono (iE_ok _) hF135
                  replace h56 := h56.mono (iE_ok _) hF135
                  replace h72 := h72.mono (iE_ok _) hF135
                  replace h76 := h76.mono (iE_ok _) hF135
                  replace h93 := h93.mono (iE_ok _) hF135
                  replace h117 := h117.mono (iE_ok _) hF135
                  replace h127 := h127.mono (iE_ok _) hF135
                  replace hz49 := hz49.mono (iE_ok _) hF135
                  replace hz66 := hz66.mono (iE_ok _) hF135
                  replace hz86 := hz86.mono (iE_ok _) hF135
                  replace hz4 := hF135 _ _ hz4
                  replace hz21 := hF135 _ _ hz21
                  replace hz55 := hF135 _ _ hz55
                  replace hz75 := hF135 _ _ hz75
                  replace hz92 := hF135 _ _ hz92
                  replace hz116 := hF135 _ _ hz116
                  replace hz126 := hF135 _ _ hz126
                  have h137 : RowR 1 (iE .i64) F134 (some ⟨b133, 0, none⟩) 1 [1] := RowR.of_block (iE_ok _) (vss := [[.int .i64 1]]) (xs := [1]) hz136 (.cons rfl .nil) rfl (by simp [maxLen])
                  obtain ⟨ok4, h138, r139⟩ := b1_ok r132; clear r132
                  refine o_callT (Lt := Lb85 ++ []) (Lr := (b36, .cells #[.int .i64 n2, .slice a29 l2.length c30] 24 (0, 0)) :: ((b35, .cells #[.int .i64 n, .slice a12 l.length c13] 24 (0, 0)) :: (Lb65 ++ (Lb48 ++ [])))) rfl Try.call23 rfl rfl rfl ((((frontC (frontC (List.Perm.refl _))).trans (List.Perm.append_left _ (List.Perm.refl _)))).trans (List.Perm.of_eq (by simp only [List.nil_append, List.cons_append, List.append_assoc, List.append_nil]))) (fun F2 h2 h3 => by have q := oyezkit_Like_int_w (hz86.row (iE_ok _) h2 (fun p hp => h3 p (List.mem_append_left _ hp))) (h137.mono (iE_ok _) h2) h138; rw [← (SlR.caps hz86).1] at q; exact q) ?_
                  refine shO_on (b := false) 72 rfl (EnvB rfl c130) ?_
                  refine ov (v_notB rfl) rfl ?_
                  refine ov (v_pick_f (evB rfl c130) rfl) rfl ?_
                  refine shO_nil ?_
                  obtain rfl := inj1 r139
                  refine meet_i (L2 := [(b36, .cells #[.int .i64 n2, .slice a29 l2.length c30] 24 (0, 0)), (b35, .cells #[.int .i64 n, .slice a12 l.length c13] 24 (0, 0))]) (L3 := (b36, .cells #[.int .i64 n2, .slice a29 l2.length c30] 24 (0, 0)) :: ((b35, .cells #[.int .i64 n, .slice a12 l.length c13] 24 (0, 0)) :: (Lb85 ++ (Lb65 ++ (Lb48 ++ []))))) (List.Perm.refl _) ((List.Sublist.cons_cons _ ((List.Sublist.cons_cons _ (((((((List.Sublist.refl _).trans (List.sublist_append_right _ _))).trans (List.sublist_append_right _ _))).trans (List.sublist_append_right _ _))))))) ?_
                  exact ⟨((hF115.trans hF125).trans hF135), rfl, (sc rfl (sc rfl (sc rfl (sn _))))⟩
  · rintro e1 F141 _ ⟨hF142, rfl, he140⟩
    refine shW_env _ he140 ?_; clear he140
    replace h5 := h5.mono sE_ok hF142
    replace h22 := h22.mono sE_ok hF142
    replace h39 := h39.mono (iE_ok _) hF142
    replace h56 := h56.mono (iE_ok _) hF142
    replace h72 := h72.mono (iE_ok _) hF142
    replace h76 := h76.mono (iE_ok _) hF142
    replace h93 := h93.mono (iE_ok _) hF142
    replace hz4 := hF142 _ _ hz4
    replace hz21 := hF142 _ _ hz21
    replace hz55 := hF142 _ _ hz55
    replace hz75 := hF142 _ _ hz75
    replace hz92 := hF142 _ _ hz92
    refine shW_cond rfl (fun c143 => ?_) (fun c143 => ?_)
    · have r144 := bt r97 c143; clear r97
      refine shW_seq ?_
      refine shW_region ?_
      refine ov (v_assign rfl) rfl ?_
      refine shO_nil ?_
      refine shW_drop (L' := []) ((List.Sublist.cons _ ((List.Sublist.cons _ (List.Sublist.refl _))))) ?_
      refine shW_ret ?_
      refine andThen_ret ?_
      refine q_res1 Try.results15 (res_tmp rfl) (List.Sublist.refl _) ?_
      obtain rfl := inj1 r144
      exact rfl
    · have r145 := bf r97 c143; clear r97
      refine shW_skip ?_
      refine shW_seq ?_
      refine shW_region ?_
      refine ov (v_loadA (cs := #[.int .i64 n, .slice a12 l.length c13]) Try.isAgg24 Try.sizeOf24 rfl (Has.own 1 rfl) (Nat.le_of_ble_eq_true rfl) rfl) rfl ?_
      refine o_buildSlice (cs := #[.int .i64 1, .int .i64 3]) rfl rfl (buildSlice_all slt_26 [.int .i64 1, .int .i64 3] rfl (by decide) (by simp [Value.cells]) (by decide)) ?_; intro b146 hb146
      refine shO_freeze 0 rfl hb146 ?_; intro F147 hF148 hz149
      refine shO_L (L' := [(b36, .cells #[.int .i64 n2, .slice a29 l2.length c30] 24 (0, 0)), (b35, .cells #[.int .i64 n, .slice a12 l.length c13] 24 (0, 0))]) rfl ?_
      replace h5 := h5.mono sE_ok hF148
      replace h22 := h22.mono sE_ok hF148
      replace h39 := h39.mono (iE_ok _) hF148
      replace h56 := h56.mono (iE_ok _) hF148
      replace h72 := h72.mono (iE_ok _) hF148
      replace h76 := h76.mono (iE_ok _) hF148
      replace h93 := h93.mono (iE_ok _) hF148
      replace hz4 := hF148 _ _ hz4
      replace hz21 := hF148 _ _ hz21
      replace hz55 := hF148 _ _ hz55
      replace hz75 := hF148 _ _ hz75
      replace hz92 := hF148 _ _ hz92
      have h150 : RowR 1 (iE .i64) F147 (some ⟨b146, 0, none⟩) 2 [1, 3] := RowR.of_block (iE_ok _) (vss := [[.int .i64 1], [.int .i64 3]]) (xs := [1, 3]) hz149 (.cons rfl (.cons rfl .nil)) rfl (by simp [maxLen])
      obtain ⟨n7, n8, h151, r152⟩ := b2_ok r145; clear r145
      refine o_callV rfl Try.call29 rfl rfl rfl (hear_Louder_w h39 h150 h151) ?_
      refine ov (v_move rfl) rfl ?_
      refine ov (v_extract rfl rfl) rfl ?_
      refine ov (v_extract rfl rfl) rfl ?_
      refine ov (v_assign rfl) rfl ?_
      refine ov (v_assign rfl) rfl ?_
      refine shO_nil ?_
      refine shW_seq ?_
      refine shW_region ?_
      refine ov (v_loadA (cs := #[.int .i64 n2, .slice a29 l2.length c30]) Try.isAgg24 Try.sizeOf24 rfl (Has.own 0 rfl) (Nat.le_of_ble_eq_true rfl) rfl) rfl ?_
      obtain ⟨l6, n9, h153, r154⟩ := b2_ok r152; clear r152
      refine o_call0 rfl Try.call47 rfl rfl rfl (hear_Way_w h72 h153) ?_; rintro _ F155 _ hF156 hn157 ⟨a159, n163, c160, Lb161, rfl, rfl, hz162⟩
      replace h5 := h5.mono sE_ok hF156
      replace h22 := h22.mono sE_ok hF156
      replace h39 := h39.mono (iE_ok _) hF156
      replace h56 := h56.mono (iE_ok _) hF156
      replace h72 := h72.mono (iE_ok _) hF156
      replace h76 := h76.mono (iE_ok _) hF156
      replace h93 := h93.mono (iE_ok _) hF156
      replace h150 := h150.mono (iE_ok _) hF156
      replace hz4 := hF156 _ _ hz4
      replace hz21 := hF156 _ _ hz21
      replace hz55 := hF156 _ _ hz55
      replace hz75 := hF156 _ _ hz75
      replace hz92 := hF156 _ _ hz92
      replace hz149 := hF156 _ _ hz149
      replace hz162 := hz162.new fun p hp => hn157 p (by simp [hp])
      refine shO_L (L' := Lb161 ++ ((b36, .cells #[.int .i64 n2, .slice a29 l2.length c30] 24 (0, 0)) :: ((b35, .cells #[.int .i64 n, .slice a12 l.length c13] 24 (0, 0)) :: []))) (by simp only [List.nil_append, List.cons_append, List.append_assoc, List.append_nil] <;> rfl) ?_
      refine shO_perm (L' := (b36, .cells #[.int .i64 n2, .slice a29 l2.length c30] 24 (0, 0)) :: ((b35, .cells #[.int .i64 n, .slice a12 l.length c13] 24 (0, 0)) :: (Lb161 ++ []))) (((frontS (frO)).trans (List.Perm.cons _ (((frontS (frO)).trans (List.Perm.cons _ (List.Perm.refl _))))))) ?_
      refine ov (v_move rfl) rfl ?_
      refine ov (v_extract rfl rfl) rfl ?_
      refine ov (v_extract rfl rfl) rfl ?_
      refine ov (v_assign rfl) rfl ?_
      refine ov (v_assign rfl) rfl ?_
      refine shO_nil ?_
      refine shW_seq ?_
      refine shW_region ?_
      refine o_buildSlice (cs := #[.string (sB [115, 104, 119, 104])]) rfl rfl (buildSlice_all slt_155 [.string (sB [115, 104, 119, 104])] rfl (by decide) (by simp [Value.cells]) (by decide)) ?_; intro b165 hb165
      refine shO_freeze 0 rfl hb165 ?_; intro F166 hF167 hz168
      refine shO_L (L' := (b36, .cells #[.int .i64 n2, .slice a29 l2.length c30] 24 (0, 0)) :: ((b35, .cells #[.int .i64 n, .slice a12 l.length c13] 24 (0, 0)) :: (Lb161 ++ []))) rfl ?_
      replace h5 := h5.mono sE_ok hF167
      replace h22 := h22.mono sE_ok hF167
      replace h39 := h39.mono (iE_ok _) hF167
      replace h56 := h56.mono (iE_ok _) hF167
      replace h72 := h72.mono (iE_ok _) hF167
      replace h76 := h76.mono (iE_ok _) hF167
      replace h93 := h93.mono (iE_ok _) hF167
      replace h150 := h150.mono (iE_ok _) hF167
      replace hz162 := hz162.mono (iE_ok _) hF167
      replace hz4 := hF167 _ _ hz4
      replace hz21 := hF167 _ _ hz21
      replace hz55 := hF167 _ _ hz55
      replace hz75 := hF167 _ _ hz75
      replace hz92 := hF167 _ _ hz92
      replace hz149 := hF167 _ _ hz149
      have h169 : RowR 1 sE F166 (some ⟨b165, 0, none⟩) 1 [[115, 104, 119, 104]] := RowR.of_block sE_ok (vss := [[.string (sB [115, 104, 119, 104])]]) (xs := [[115, 104, 119, 104]]) hz168 (.cons rfl .nil) rfl (by simp [maxLen])
      obtain ⟨n10, l7, h170, r171⟩ := b2_ok r154; clear r154
      refine o_call0 rfl Try.call75 rfl rfl rfl (oyezlaw01_Drawn_w h169 h170) ?_; rintro _ F172 _ hF173 hn174 ⟨a176, n180, c177, Lb178, rfl, rfl, hz179⟩
      replace h5 := h5.mono sE_ok hF173
      replace h22 := h22.mono sE_ok hF173
      replace h39 := h39.mono (iE_ok _) hF173
      replace h56 := h56.mono (iE_ok _) hF173
      replace h72 := h72.mono (iE_ok _) hF173
      replace h76 := h76.mono (iE_ok _) hF173
      replace h93 := h93.mono (iE_ok _) hF173
      replace h150 := h150.mono (iE_ok _) hF173
      replace h169 := h169.mono sE_ok hF173
      replace hz162 := hz162.mono (iE_ok _) hF173
      replace hz4 := hF173 _ _ hz4
      replace hz21 := hF173 _ _ hz21
      replace hz55 := hF173 _ _ hz55
      replace hz75 := hF173 _ _ hz75
      replace hz92 := hF173 _ _ hz92
      replace hz149 := hF173 _ _ hz149
      replace hz168 := hF173 _ _ hz168
      replace hz179 := hz179.new fun p hp => hn174 p (by simp [hp])
      refine shO_L (L' := Lb178 ++ ((b36, .cells #[.int .i64 n2, .slice a29 l2.length c30] 24 (0, 0)) :: ((b35, .cells #[.int .i64 n, .slice a12 l.length c13] 24 (0, 0)) :: (Lb161 ++ [])))) (by simp only [List.nil_append, List.cons_append, List.append_assoc, List.append_nil] <;> rfl) ?_
      refine shO_perm (L' := (b36, .cells #[.int .i64 n2, .slice a29 l2.length c30] 24 (0, 0)) :: ((b35, .cells #[.int .i64 n, .slice a12 l.length c13] 24 (0, 0)) :: (Lb178 ++ (Lb161 ++ [])))) (((frontS (frO)).trans (List.Perm.cons _ (((frontS (frO)).trans (List.Perm.cons _ (List.Perm.refl _))))))) ?_
      obtain ⟨n11, n12, h182, r183⟩ := b2_ok r171; clear r171
      refine o_callT (Lt := Lb178 ++ []) (Lr := (b36, .cells #[.int .i64 n2, .slice a29 l2.length c30] 24 (0, 0)) :: ((b35, .cells #[.int .i64 n, .slice a12 l.length c13] 24 (0, 0)) :: (Lb161 ++ []))) rfl Try.call19 rfl rfl rfl ((((frontC (frontC (List.Perm.refl _))).trans (List.Perm.append_left _ (List.Perm.refl _)))).trans (List.Perm.of_eq (by simp only [List.nil_append, List.cons_append, List.append_assoc, List.append_nil]))) (fun F2 h2 h3 => by have q := hear_Need_w (hz179.row (iE_ok _) h2 (fun p hp => h3 p (List.mem_append_left _ hp))) h182; rw [← (SlR.caps hz179).1] at q; exact q) ?_
      refine ov (v_move rfl) rfl ?_
      refine ov (v_extract rfl rfl) rfl ?_
      refine ov (v_extract rfl rfl) rfl ?_
      refine ov (v_assign rfl) rfl ?_
      refine shO_nil ?_
      refine shW_seq ?_
      refine shW_region ?_
      refine ov (v_move rfl) rfl ?_
      refine ov (v_eql rfl rfl) rfl ?_
      refine ov (v_move rfl) rfl ?_
      by_cases c184 : n8 = 0
      · have r185 := ite_t r183 c184; clear r183
        refine shO_on (b := true) 97 rfl (Env.isT rfl c184) ?_
        refine ov (v_move rfl) rfl ?_
        refine shO_on (b := true) 97 rfl (Env.isT rfl c184) ?_
        refine ov (v_eql rfl rfl) rfl ?_
        refine ov (v_pick_t (evD_true rfl c184) rfl) rfl ?_
        refine ov (v_move rfl) rfl ?_
        by_cases c186 : n9 = 0
        · have r187 := ite_t r185 c186; clear r185
          refine shO_on (b := true) 101 rfl (Env.isT rfl c186) ?_
          refine ov (v_move rfl) rfl ?_
          refine shO_on (b := true) 101 rfl (Env.isT rfl c186) ?_
          refine ov (v_eql rfl rfl) rfl ?_
          refine ov (v_pick_t (evD_true rfl c186) rfl) rfl ?_
          refine ov (v_move rfl) rfl ?_
          by_cases c188 : n7 = 5
          · have r189 := ite_t r187 c188; clear r187
            refine shO_on (b := true) 105 rfl (Env.isT rfl c188) ?_
            refine ov (v_move rfl) rfl ?_
            refine shO_on (b := true) 105 rfl (Env.isT rfl c188) ?_
            refine o_buildSlice (cs := #[.int .i64 3, .int .i64 0, .int .i64 1, .int .i64 2]) rfl rfl (buildSlice_all slt_26 [.int .i64 3, .int .i64 0, .int .i64 1, .int .i64 2] rfl (by decide) (by simp [Value.cells]) (by decide)) ?_; intro b190 hb190
            refine shO_on (b := true) 105 rfl (Env.isT rfl c188) ?_
            refine shO_freeze 0 rfl hb190 ?_; intro F191 hF192 hz193
            refine shO_L (L' := (b36, .cells #[.int .i64 n2, .slice a29 l2.length c30] 24 (0, 0)) :: ((b35, .cells #[.int .i64 n, .slice a12 l.length c13] 24 (0, 0)) :: (Lb178 ++ (Lb161 ++ [])))) rfl ?_
            replace h5 := h5.mono sE_ok hF192
            replace h22 := h22.mono sE_ok hF192
            replace h39 := h39.mono (iE_ok _) hF192
            replace h56 := h56.mono (iE_ok _) hF192
            replace h72 := h72.mono (iE_ok _) hF192
            replace h76 := h76.mono (iE_ok _) hF192
            replace h93 := h93.mono (iE_ok _) hF192
            replace h150 := h150.mono (iE_ok _) hF192
            replace h169 := h169.mono sE_ok hF192
            replace hz162 := hz162.mono (iE_ok _) hF192
            replace hz179 := hz179.mono (iE_ok _) hF192
            replace hz4 := hF192 _ _ hz4
            replace hz21 := hF192 _ _ hz21
            replace hz55 := hF192 _ _ hz55
            replace hz75 := hF192 _ _ hz75
            replace hz92 := hF192 _ _ hz92
            replace hz149 := hF192 _ _ hz149
            replace hz168 := hF192 _ _ hz168
            have h194 : RowR 1 (iE .i64) F191 (some ⟨b190, 0, none⟩) 4 [3, 0, 1, 2] := RowR.of_block (iE_ok _) (vss := [[.int .i64 3], [.int .i64 0], [.int .i64 1], [.int .i64 2]]) (xs := [3, 0, 1, 2]) hz193 (.cons rfl (.cons rfl (.cons rfl (.cons rfl .nil)))) rfl (by simp [maxLen])
            obtain ⟨ok5, h195, r196⟩ := b1_ok r189; clear r189
            refine o_callT (Lt := Lb161 ++ []) (Lr := (b36, .cells #[.int .i64 n2, .slice a29 l2.length c30] 24 (0, 0)) :: ((b35, .cells #[.int .i64 n, .slice a12 l.length c13] 24 (0, 0)) :: (Lb178 ++ []))) rfl Try.call23 rfl rfl rfl ((((frontC (frontC (frontS (List.Perm.refl _)))).trans (List.Perm.append_left _ (List.Perm.refl _)))).trans (List.Perm.of_eq (by simp only [List.nil_append, List.cons_append, List.append_assoc, List.append_nil]))) (fun F2 h2 h3 => by have q := oyezkit_Like_int_w (hz162.row (iE_ok _) h2 (fun p hp => h3 p (List.mem_append_left _ hp))) (h194.mono (iE_ok _) h2) h195; rw [← (SlR.caps hz162).1] at q; exact q) ?_
            refine ov (v_pick_t (evD_true rfl c188) rfl) rfl ?_
            refine ov (v_move rfl) rfl ?_
            rcases bool_two ok5 with c197 | c197
            · have r198 := bt r196 c197; clear r196
              refine shO_on (b := true) 110 rfl (EnvB rfl c197) ?_
              refine ov (v_move rfl) rfl ?_
              refine shO_on (b := true) 110 rfl (EnvB rfl c197) ?_
              refine ov (v_eql rfl rfl) rfl ?_
              refine ov (v_pick_t (evB rfl c197) rfl) rfl ?_
              refine ov (v_assign rfl) rfl ?_
              refine shO_nil ?_
              refine shW_drop (L' := []) ((List.Sublist.cons _ ((List.Sublist.cons _ (((((List.Sublist.refl _).trans (List.sublist_append_right _ _))).trans (List.sublist_append_right _ _))))))) ?_
              refine shW_ret ?_
              refine q_res1 Try.results15 (res_tmp rfl) (List.Sublist.refl _) ?_
              obtain rfl := inj1 r198
              exact rfl
            · have r199 := bf r196 c197; clear r196
              refine shO_off (b' := false) 110 rfl (EnvB rfl c197) rfl rfl ?_
              refine shO_off (b' := false) 110 rfl (EnvB rfl c197) rfl rfl ?_
              refine ov (v_pick_f (evB rfl c197) rfl) rfl ?_
              refine ov (v_assign rfl) rfl ?_
              refine shO_nil ?_
              refine shW_drop (L' := []) ((List.Sublist.cons _ ((List.Sublist.cons _ (((((List.Sublist.refl _).trans (List.sublist_append_right _ _))).trans (List.sublist_append_right _ _))))))) ?_
              refine shW_ret ?_
              refine q_res1 Try.results15 (res_tmp rfl) (List.Sublist.refl _) ?_
              obtain rfl := inj1 r199
              exact rfl
          · have r200 := ite_f r187 c188; clear r187
            refine shO_off (b' := false) 105 rfl (Env.isF rfl c188) rfl rfl ?_
            refine shO_off (b' := false) 105 rfl (Env.isF rfl c188) rfl rfl ?_
            refine shO_off (b' := false) 105 rfl (Env.isF rfl c188) rfl rfl ?_
            refine ov (v_pick_f (evD_false rfl c188) rfl) rfl ?_
            refine ov (v_move rfl) rfl ?_
            refine shO_off (b' := false) 110 rfl rfl rfl rfl ?_
            refine shO_off (b' := false) 110 rfl rfl rfl rfl ?_
            refine ov (v_pick_f rfl rfl) rfl ?_
            refine ov (v_assign rfl) rfl ?_
            refine shO_nil ?_
            refine shW_drop (L' := []) ((List.Sublist.cons _ ((List.Sublist.cons _ (((((List.Sublist.refl _).trans (List.sublist_append_right _ _))).trans (List.sublist_append_right _ _))))))) ?_
            refine shW_ret ?_
            refine q_res1 Try.results15 (res_tmp rfl) (List.Sublist.refl _) ?_
            obtain rfl := inj1 r200
            exact rfl
        · have r201 := ite_f r185 c186; clear r185
          refine shO_off (b' := false) 101 rfl (Env.isF rfl c186) rfl rfl ?_
          refine shO_off (b' := false) 101 rfl (Env.isF rfl c186) rfl rfl ?_
          refine ov (v_pick_f (evD_false rfl c186) rfl) rfl ?_
          refine ov (v_move rfl) rfl ?_
          refine shO_off (b' := false) 105 rfl rfl rfl rfl ?_
          refine shO_off (b' := false) 105 rfl rfl rfl rfl ?_
          refine shO_off (b' := false) 105 rfl rfl rfl rfl ?_
          refine ov (v_pick_f rfl rfl) rfl ?_
          refine ov (v_move rfl) rfl ?_
          refine shO_off (b' := false) 110 rfl rfl rfl rfl ?_
          refine shO_off (b' := false) 110 rfl rfl rfl rfl ?_
          refine ov (v_pick_f rfl rfl) rfl ?_
          refine ov (v_assign rfl) rfl ?_
          refine shO_nil ?_
          refine shW_drop (L' := []) ((List.Sublist.cons _ ((List.Sublist.cons _ (((((List.Sublist.refl _).trans (List.sublist_append_right _ _))).trans (List.sublist_append_right _ _))))))) ?_
          refine shW_ret ?_
          refine q_res1 Try.results15 (res_tmp rfl) (List.Sublist.refl _) ?_
          obtain rfl := inj1 r201
          exact rfl
      · have r202 := ite_f r183 c184; clear r183
        refine shO_off (b' := false) 97 rfl (Env.isF rfl c184) rfl rfl ?_
        refine shO_off (b' := false) 97 rfl (Env.isF rfl c184) rfl rfl ?_
        refine ov (v_pick_f (evD_false rfl c184) rfl) rfl ?_
        refine ov (v_move rfl) rfl ?_
        refine shO_off (b' := false) 101 rfl rfl rfl rfl ?_
        refine shO_off (b' := false) 101 rfl rfl rfl rfl ?_
        refine ov (v_pick_f rfl rfl) rfl ?_
        refine ov (v_move rfl) rfl ?_
        refine shO_off (b' := false) 105 rfl rfl rfl rfl ?_
        refine shO_off (b' := false) 105 rfl rfl rfl rfl ?_
        refine shO_off (b' := false) 105 rfl rfl rfl rfl ?_
        refine ov (v_pick_f rfl rfl) rfl ?_
        refine ov (v_move rfl) rfl ?_
        refine shO_off (b' := false) 110 rfl rfl rfl rfl ?_
        refine shO_off (b' := false) 110 rfl rfl rfl rfl ?_
        refine ov (v_pick_f rfl rfl) rfl ?_
        refine ov (v_assign rfl) rfl ?_
        refine shO_nil ?_
        refine shW_drop (L' := []) ((List.Sublist.cons _ ((List.Sublist.cons _ (((((List.Sublist.refl _).trans (List.sublist_append_right _ _))).trans (List.sublist_append_right _ _))))))) ?_
        refine shW_ret ?_
        refine q_res1 Try.results15 (res_tmp rfl) (List.Sublist.refl _) ?_
        obtain rfl := inj1 r202
        exact rfl


set_option maxHeartbeats 1000000 in
theorem oyezkit_Copy_Plot_w {l_a : Option Addr} {l_c : Nat} {l : List Int} {F : FS} (h_l : RowR 1 (iE .i64) F l_a l_c l) {r : List Int} (hr : oyezkit_Copy_Plot l = some r) :
    SH.Spec Try.prog 76 #[.slice l_a l.length l_c] F [] fun F' L' v => ∃ (ra : Option Addr) (rn : Nat) (rc : Nat) (rL : LH), v = .slice ra rn rc ∧ L' = rL ++ [] ∧ SlR 0 73 1 (iE .i64) F' ra rn rc r rL := by
  refine spec_of_shW (args := [.slice l_a l.length l_c]) Try.func76 rfl Try.ntmps76 (Nat.le_of_ble_eq_true rfl) ?_
  intro K _ _; rw [oyezkit_Copy_Plot] at hr
  refine shW_seq ?_
  refine shW_region ?_
  refine ov (v_assign rfl) rfl ?_
  refine shO_nil ?_
  refine shW_seq ?_
  refine shW_region ?_
  refine ov (v_move rfl) rfl ?_
  refine ov (v_lenS Try.underlying22 rfl) rfl ?_
  obtain ⟨g1, r2⟩ := gd_ok hr; clear hr
  obtain ⟨l2, h3, r4⟩ := bv_ok r2; clear r2
  refine o_makeZ (R := (iE .i64)) (z0 := 0) (zs := l2) rfl slt_22 (by decide) (iE_ok _) (fun _ => rfl) rfl g1 h3 (fun _ => .n) ?_; intro a5 n8 Lb6 hz7
  refine ov (v_assign rfl) rfl ?_
  refine shO_nil ?_
  refine shW_seq ?_
  refine shW_region ?_
  refine ov (v_move rfl) rfl ?_
  refine ov (v_move rfl) rfl ?_
  obtain ⟨out, h10, r11⟩ := bv_ok r4; clear r4
  refine o_copyZ (ys := l) (zs := out) rfl slt_22 (iE_ok _) rfl rfl (fun _ => .h) hz7 (RowR.src h_l) h10 ?_; intro Lb12 hz13
  refine shO_nil ?_
  refine shW_seq ?_
  refine shW_region ?_
  refine ov (v_move rfl) rfl ?_
  refine ov (v_assign rfl) rfl ?_
  refine shO_nil ?_
  refine shW_ret ?_
  refine q_res1 Try.results76 (res_tmp rfl) (List.Sublist.refl _) ?_
  obtain rfl := inj1 r11
  exact ⟨_, _, _, _, rfl, rfl, hz13.any⟩


set_option maxHeartbeats 1000000 in
theorem oyezlaw01_Own_w {wide : Int} {plots_a : Option Addr} {plots_c : Nat} {plots : List Int} {F : FS} (h_plots : RowR 1 (iE .i64) F plots_a plots_c plots) {r : Int} {r2 : List Int} (hr : oyezlaw01_Own wide plots = some (r, r2)) :
    SH.Spec Try.prog 16 #[.agg #[.int .i64 wide, .slice plots_a plots.length plots_c]] F [] fun F' L' v => ∃ (r2a : Option Addr) (r2n : Nat) (r2c : Nat) (r2L : LH), v = .agg #[.int .i64 r, .slice r2a r2n r2c] ∧ L' = r2L ++ [] ∧ SlR 0 73 1 (iE .i64) F' r2a r2n r2c r2 r2L := by
  refine spec_of_shW (args := [.agg #[.int .i64 wide, .slice plots_a plots.length plots_c]]) Try.func16 rfl Try.ntmps16 (Nat.le_of_ble_eq_true rfl) ?_
  intro K _ _; rw [oyezlaw01_Own] at hr
  refine shW_seq ?_
  refine shW_region ?_
  refine o_box rfl rfl ?_; intro b1 hb1
  refine o_alloc rfl Try.zeroValue24 ?_; intro b2 hb2
  refine shO_nil ?_
  refine shW_seq ?_
  refine shW_drawM [(.still, 0), (.still, 1), (.still, 2), (.still, 3), (.seq, 4), (.still, 5), (.seq, 6)] (by kernel_rfl) (by kernel_rfl) (trivial) (by rfl) ?_
  refine shM_v (v := .pointer (some ⟨b1, 0, none⟩)) (ek := [(1, .pointer (some ⟨b1, 0, none⟩))]) (Ls := []) rfl rfl rfl rfl ((sc rfl (sn _))) (by kernel_rfl) (fun p hp => ((List.Sublist.cons _ ((List.Sublist.cons _ (List.Sublist.refl _))))).subset hp) (fun H F' L' hF' hL' => v_fieldAddr fa_24_0 rfl) ?_
  refine shM_v (v := .int .i64 wide) (ek := [(3, .pointer (some ⟨b1, 0, none⟩))]) (Ls := [(b1, .cells #[.int .i64 wide, .slice plots_a plots.length plots_c] 24 (0, 0))]) rfl rfl rfl rfl ((sc rfl (sn _))) (by kernel_rfl) (fun p hp => ((List.Sublist.cons _ ((List.Sublist.cons_cons _ (List.Sublist.refl _))))).subset hp) (fun H F' L' hF' hL' => v_load Try.isAgg3 rfl ((Has.own 0 rfl).ext hF' hL') rfl) ?_
  refine shM_v (v := .pointer (some ⟨b1, 1, none⟩)) (ek := [(1, .pointer (some ⟨b1, 0, none⟩))]) (Ls := []) rfl rfl rfl rfl ((sc rfl (sn _))) (by kernel_rfl) (fun p hp => ((List.Sublist.cons _ ((List.Sublist.cons _ (List.Sublist.refl _))))).subset hp) (fun H F' L' hF' hL' => v_fieldAddr fa_24_1 rfl) ?_
  refine shM_v (v := .slice plots_a plots.length plots_c) (ek := [(5, .pointer (some ⟨b1, 1, none⟩))]) (Ls := [(b1, .cells #[.int .i64 wide, .slice plots_a plots.length plots_c] 24 (0, 0))]) rfl rfl rfl rfl ((sc rfl (sn _))) (by kernel_rfl) (fun p hp => ((List.Sublist.cons _ ((List.Sublist.cons_cons _ (List.Sublist.refl _))))).subset hp) (fun H F' L' hF' hL' => v_load Try.isAgg22 rfl ((Has.own 0 rfl).ext hF' hL') rfl) ?_
  refine ⟨_, [(6, .slice plots_a plots.length plots_c)], rfl, rfl, (sc rfl (sn _)), by kernel_rfl, ?_⟩; intro H
  obtain ⟨l, h3, r4⟩ := b1_ok hr; clear hr
  refine o_call0 rfl Try.call76 rfl rfl rfl (oyezkit_Copy_Plot_w h_plots h3) ?_; rintro _ F5 _ hF6 hn7 ⟨a9, n13, c10, Lb11, rfl, rfl, hz12⟩
  replace h_plots := h_plots.mono (iE_ok _) hF6
  replace hz12 := hz12.new fun p hp => hn7 p (by simp [hp])
  refine shO_L (L' := Lb11 ++ ((b2, .cells #[.int .i64 0, .slice none 0 0] 24 (0, 0)) :: ((b1, .cells #[.int .i64 wide, .slice plots_a plots.length plots_c] 24 (0, 0)) :: []))) (by simp only [List.nil_append, List.cons_append, List.append_assoc, List.append_nil] <;> rfl) ?_
  refine shO_perm (L' := (b2, .cells #[.int .i64 0, .slice none 0 0] 24 (0, 0)) :: ((b1, .cells #[.int .i64 wide, .slice plots_a plots.length plots_c] 24 (0, 0)) :: (Lb11 ++ []))) (((frontS (frO)).trans (List.Perm.cons _ (((frontS (frO)).trans (List.Perm.cons _ (List.Perm.refl _))))))) ?_
  refine shO_nil ⟨_, rfl, hF6, [1, 0], by kernel_rfl, .inr (fun d h => by cases h; rfl), (List.forall_mem_cons.2 ⟨fun p hp => ((List.Sublist.cons _ ((List.Sublist.cons_cons _ (((List.Sublist.refl _).trans (List.sublist_append_right _ _))))))).subset hp, (List.forall_mem_cons.2 ⟨fun p hp => ((List.Sublist.cons _ ((List.Sublist.cons _ (((List.Sublist.refl _).trans (List.sublist_append_right _ _))))))).subset hp, (fun _ h => absurd h List.not_mem_nil)⟩)⟩), ?_⟩
  refine shM_v (v := .agg #[.int .i64 wide, .slice a9 n13 c10]) (ek := [(4, .int .i64 wide), (7, .slice a9 n13 c10)]) (Ls := []) rfl rfl rfl rfl ((sc rfl (sc rfl (sn _)))) (by kernel_rfl) (fun p hp => ((List.Sublist.cons _ ((List.Sublist.cons _ (((List.Sublist.refl _).trans (List.sublist_append_right _ _))))))).subset hp) (fun H F' L' hF' hL' => v_build (v := .agg #[.int .i64 wide, .slice a9 n13 c10]) rfl (by intro w; kernel_rfl)) ?_
  refine ⟨_, [(2, .pointer (some ⟨b2, 0, none⟩)), (8, .agg #[.int .i64 wide, .slice a9 n13 c10])], rfl, rfl, (sc rfl (sc rfl (sn _))), by kernel_rfl, ?_⟩; intro H
  refine o_storeA (i := 0) Try.sizeOf24 rfl rfl rfl (by simp [Value.oneCell']) rfl (Nat.le_of_ble_eq_true rfl) ?_
  refine shO_L (L' := (b2, .cells #[.int .i64 wide, .slice a9 n13 c10] 24 (0, 0)) :: ((b1, .cells #[.int .i64 wide, .slice plots_a plots.length plots_c] 24 (0, 0)) :: (Lb11 ++ []))) rfl ?_
  refine shO_nil ⟨undef, rfl, FExt.refl _, [], by kernel_rfl, .inl rfl, (fun _ h => absurd h List.not_mem_nil), ?_⟩
  refine shM_nil ?_
  refine shW_perm (L' := (b2, .cells #[.int .i64 wide, .slice a9 n13 c10] 24 (0, 0)) :: (Lb11 ++ ((b1, .cells #[.int .i64 wide, .slice plots_a plots.length plots_c] 24 (0, 0)) :: []))) (List.Perm.cons _ (((frontC (List.Perm.refl _)).trans (List.Perm.append_left _ (List.Perm.refl _))))) ?_
  refine shW_drop (L' := (b2, .cells #[.int .i64 wide, .slice a9 n13 c10] 24 (0, 0)) :: (Lb11 ++ [])) ((List.Sublist.cons_cons _ ((List.Sublist.append (List.Sublist.refl _) ((List.Sublist.cons _ (List.Sublist.refl _))))))) ?_
  refine shW_ret ?_
  refine q_res1 Try.results16 (res_cellA (cs := #[.int .i64 wide, .slice a9 n13 c10]) Try.isAgg24 Try.sizeOf24 rfl (Has.own 0 rfl) (Nat.le_of_ble_eq_true rfl) rfl) ((List.Sublist.cons _ ((List.Sublist.append (List.Sublist.refl _) (List.Sublist.refl _))))) ?_
  obtain ⟨rfl, rfl⟩ := inj2 r4
  exact ⟨_, _, _, _, rfl, rfl, hz12.any⟩


set_option maxHeartbeats 1000000 in
theorem oyezkit_Copy_int_w {l_a : Option Addr} {l_c : Nat} {l : List Int} {F : FS} (h_l : RowR 1 (iE .i64) F l_a l_c l) {r : List Int} (hr : oyezkit_Copy_int l = some r) :
    SH.Spec Try.prog 17 #[.slice l_a l.length l_c] F [] fun F' L' v => ∃ (ra : Option Addr) (rn : Nat) (rc : Nat) (rL : LH), v = .slice ra rn rc ∧ L' = rL ++ [] ∧ SlR 0 3 1 (iE .i64) F' ra rn rc r rL := by
  refine spec_of_shW (args := [.slice l_a l.length l_c]) Try.func17 rfl Try.ntmps17 (Nat.le_of_ble_eq_true rfl) ?_
  intro K _ _; rw [oyezkit_Copy_int] at hr
  refine shW_seq ?_
  refine shW_region ?_
  refine ov (v_assign rfl) rfl ?_
  refine shO_nil ?_
  refine shW_seq ?_
  refine shW_region ?_
  refine ov (v_move rfl) rfl ?_
  refine ov (v_lenS Try.underlying26 rfl) rfl ?_
  obtain ⟨g1, r2⟩ := gd_ok hr; clear hr
  obtain ⟨l2, h3, r4⟩ := bv_ok r2; clear r2
  refine o_makeZ (R := (iE .i64)) (z0 := 0) (zs := l2) rfl slt_26 (by decide) (iE_ok _) (fun _ => rfl) rfl g1 h3 (fun _ => .n) ?_; intro a5 n8 Lb6 hz7
  refine ov (v_assign rfl) rfl ?_
  refine shO_nil ?_
  refine shW_seq ?_
  refine shW_region ?_
  refine ov (v_move rfl) rfl ?_
  refine ov (v_move rfl) rfl ?_
  obtain ⟨out, h10, r11⟩ := bv_ok r4; clear r4
  refine o_copyZ (ys := l) (zs := out) rfl slt_26 (iE_ok _) rfl rfl (fun _ => .h) hz7 (RowR.src h_l) h10 ?_; intro Lb12 hz13
  refine shO_nil ?_
  refine shW_seq ?_
  refine shW_region ?_
  refine ov (v_move rfl) rfl ?_
  refine ov (v_assign rfl) rfl ?_
  refine shO_nil ?_
  refine shW_ret ?_
  refine q_res1 Try.results17 (res_tmp rfl) (List.Sublist.refl _) ?_
  obtain rfl := inj1 r11
  exact ⟨_, _, _, _, rfl, rfl, hz13.any⟩


set_option maxHeartbeats 1000000 in
theorem oyezlaw01_theirs_w {wide : Int} {plots_a : Option Addr} {plots_c : Nat} {plots : List Int} {F : FS} (h_plots : RowR 1 (iE .i64) F plots_a plots_c plots) {r : Int} {r2 : List Int} (hr : oyezlaw01_theirs wide plots = some (r, r2)) :
    SH.Spec Try.prog 18 #[.agg #[.int .i64 wide, .slice plots_a plots.length plots_c]] F [] fun F' L' v => ∃ (r2a : Option Addr) (r2n : Nat) (r2c : Nat) (r2L : LH), v = .agg #[.int .i64 r, .slice r2a r2n r2c] ∧ L' = r2L ++ [] ∧ SlR 0 3 1 (iE .i64) F' r2a r2n r2c r2 r2L := by
  refine spec_of_shW (args := [.agg #[.int .i64 wide, .slice plots_a plots.length plots_c]]) Try.func18 rfl Try.ntmps18 (Nat.le_of_ble_eq_true rfl) ?_
  intro K _ _; rw [oyezlaw01_theirs] at hr
  refine shW_seq ?_
  refine shW_region ?_
  refine o_box rfl rfl ?_; intro b1 hb1
  refine o_alloc rfl Try.zeroValue32 ?_; intro b2 hb2
  refine shO_nil ?_
  refine shW_seq ?_
  refine shW_region ?_
  refine ov (v_fieldAddr fa_24_0 rfl) rfl ?_
  refine ov (v_load Try.isAgg3 rfl (Has.own 1 rfl) rfl) rfl ?_
  refine ov (v_build (v := .agg #[.int .i64 wide, .slice none 0 0]) rfl (by intro w; kernel_rfl)) rfl ?_
  refine o_alloc rfl Try.zeroValue32 ?_; intro b3 hb3
  refine o_storeA (i := 0) Try.sizeOf32 rfl rfl rfl (by simp [Value.oneCell']) rfl (Nat.le_of_ble_eq_true rfl) ?_
  refine shO_L (L' := [(b3, .cells #[.int .i64 wide, .slice none 0 0] 32 (0, 0)), (b2, .cells #[.int .i64 0, .slice none 0 0] 32 (0, 0)), (b1, .cells #[.int .i64 wide, .slice plots_a plots.length plots_c] 24 (0, 0))]) rfl ?_
  refine shO_nil ?_
  obtain ⟨out_plots, h10, r11⟩ := b1_ok hr; clear hr
  refine shW_join (fun e1 F1 L1 => ∃ (a4 : Option Addr) (n8 : Nat) (c5 : Nat) (Lb6 : LH), F = F1 ∧ L1 = ((b3, .cells #[.int .i64 wide, .slice a4 n8 c5] 32 (0, 0)) :: ((b2, .cells #[.int .i64 0, .slice none 0 0] 32 (0, 0)) :: (Lb6 ++ []))) ∧ e1.sub [(2, .pointer (some ⟨b2, 0, none⟩)), (3, .pointer (some ⟨b3, 0, none⟩))] ∧ SlR K.w0.heap.size 3 1 (iE .i64) F1 a4 n8 c5 out_plots Lb6) ?_ ?_
  · clear r11
    refine shW_seq ?_
    refine shW_region ?_
    refine ov (v_fieldAddr fa_24_1 rfl) rfl ?_
    refine ov (v_load Try.isAgg22 rfl (Has.own 2 rfl) rfl) rfl ?_
    refine ov (v_lenS Try.underlying22 rfl) rfl ?_
    refine ov (v_move rfl) rfl ?_
    refine shO_nil ?_
    refine shW_block ?_
    refine shW_drop (L' := [(b3, .cells #[.int .i64 wide, .slice none 0 0] 32 (0, 0)), (b2, .cells #[.int .i64 0, .slice none 0 0] 32 (0, 0))]) ((List.Sublist.cons_cons _ ((List.Sublist.cons_cons _ ((List.Sublist.cons _ (List.Sublist.refl _))))))) ?_
    refine shW_lp (fun fu1 e1 F1 L1 => ∃ (tl : List Int) (k : Int), tl.length = fu1 ∧ Lst plots k tl ∧ ∃ (out_plots2 : List Int) (a12 : Option Addr) (n16 : Nat) (c13 : Nat) (Lb14 : LH), oyezlaw01_theirs_l1 tl out_plots2 = some out_plots ∧ F = F1 ∧ L1 = ((b3, .cells #[.int .i64 wide, .slice a12 n16 c13] 32 (0, 0)) :: ((b2, .cells #[.int .i64 0, .slice none 0 0] 32 (0, 0)) :: (Lb14 ++ []))) ∧ e1.sub [(2, .pointer (some ⟨b2, 0, none⟩)), (3, .pointer (some ⟨b3, 0, none⟩)), (10, .slice plots_a plots.length plots_c), (11, .int .i64 (plots.length : Int)), (12, .int .i64 k)] ∧ SlR K.w0.heap.size 3 1 (iE .i64) F1 a12 n16 c13 out_plots2 Lb14) _ (meet_0 (L2 := (b3, .cells #[.int .i64 wide, .slice none 0 0] 32 (0, 0)) :: ((b2, .cells #[.int .i64 0, .slice none 0 0] 32 (0, 0)) :: (([] : LH) ++ []))) (L3 := [(b3, .cells #[.int .i64 wide, .slice none 0 0] 32 (0, 0)), (b2, .cells #[.int .i64 0, .slice none 0 0] 32 (0, 0))]) (List.Perm.refl _) (List.Sublist.refl _) ⟨_, _, rfl, Lst.start _, [], none, 0, 0, [], h10, rfl, rfl, (sc rfl (sc rfl (sc rfl (sc rfl (sc rfl (sn _)))))), SlR.nil _ _ _ _ _⟩) ?_
    rintro fu1 e1 _ _ ⟨tl, k, hn19, hk18, out_plots2, a12, n16, c13, Lb14, r20, rfl, rfl, he21, hz15⟩
    refine shW_env _ he21 ?_; clear he21
    refine shW_seq ?_
    refine shW_region ?_
    refine ov (v_lssK rfl rfl) rfl ?_
    refine shO_nil ?_
    refine shW_seq ?_
    refine shW_condP rfl (fun c23 => ?_) (fun c23 => ?_)
    · obtain ⟨x, tl2, rfl, hx25, g26, hk24⟩ := Lst.succ hk18 c23
      rw [oyezlaw01_theirs_l1] at r20
      refine shW_skip ?_
      refine shW_seq ?_
      refine shW_block ?_
      refine shW_seq ?_
      refine shW_region ?_
      obtain ⟨b27, o28, c29, vs30, ha31, hs32, hle33, rfl, hl34, hc35⟩ := RowR.at (iE_ok _) h_plots ((b3, .cells #[.int .i64 wide, .slice a12 n16 c13] 32 (0, 0)) :: ((b2, .cells #[.int .i64 0, .slice none 0 0] 32 (0, 0)) :: (Lb14 ++ []))) g26.1 hx25
      refine ov (v_indexO Try.underlying22 Try.sizeOf73 rfl ha31 rfl g26) rfl ?_
      refine ov (v_load Try.isAgg73 rfl hs32 (hc35 0 (by decide))) rfl ?_
      refine ov (v_assign rfl) rfl ?_
      refine shO_nil ?_
      refine shW_region ?_
      refine ov (v_fieldAddr fa_32_1 rfl) rfl ?_
      refine ov (v_load Try.isAgg26 rfl (Has.own 0 rfl) rfl) rfl ?_
      refine ov (v_move rfl) rfl ?_
      refine o_buildSlice (cs := #[.int .i64 x]) rfl rfl (buildSlice_all slt_26 [.int .i64 x] rfl (by decide) (by simp [Value.cells]) (by decide)) ?_; intro b36 hb36
      obtain ⟨out, h37, g38, r39⟩ := ap_ok r20; clear r20
      refine o_appZ (xs := out_plots2) (ys := [x]) (zs := out) rfl slt_26 rfl rfl (Nat.le_refl _) (fun _ => .c (.c (.c .h))) hz15 (SrcR.box (vss := [[.int .i64 x]]) (ys := [x]) 0 rfl (iE_ok _) (.cons rfl .nil) rfl rfl) h37 g38 (by decide) ?_; intro a40 n44 c41 Lb42 hz43
      refine shO_perm (L' := (b3, .cells #[.int .i64 wide, .slice a12 n16 c13] 32 (0, 0)) :: ((b2, .cells #[.int .i64 0, .slice none 0 0] 32 (0, 0)) :: (Lb42 ++ ((b36, .cells #[.int .i64 x] 3 (0, 0)) :: [])))) (((frontC (frO)).trans (List.Perm.cons _ (((frontC (frO)).trans (List.Perm.cons _ (((frontC (List.Perm.refl _)).trans (List.Perm.append_left _ (List.Perm.refl _)))))))))) ?_
      refine shO_drop (L' := (b3, .cells #[.int .i64 wide, .slice a12 n16 c13] 32 (0, 0)) :: ((b2, .cells #[.int .i64 0, .slice none 0 0] 32 (0, 0)) :: (Lb42 ++ []))) ((List.Sublist.cons_cons _ ((List.Sublist.cons_cons _ ((List.Sublist.append (List.Sublist.refl _) ((List.Sublist.cons _ (List.Sublist.refl _))))))))) ?_
      refine ov (v_fieldAddr fa_32_1 rfl) rfl ?_
      refine o_store (i := 0) Try.sizeOf26 rfl rfl rfl rfl (Nat.le_of_ble_eq_true rfl) ?_
      refine shO_L (L' := (b3, .cells #[.int .i64 wide, .slice a40 n44 c41] 32 (0, 0)) :: ((b2, .cells #[.int .i64 0, .slice none 0 0] 32 (0, 0)) :: (Lb42 ++ []))) rfl ?_
      refine shO_nil ?_
      refine inBlock_n (id := 1) ?_
      refine shW_region ?_
      refine ov (v_add rfl rfl (Lst.r64 hk18 c23 (RowR.lt h_plots))) rfl ?_
      refine ov (v_move rfl) rfl ?_
      refine shO_nil ?_
      subst hn19; exact lp_end (Nat.lt_succ_self _) (meet_0 (L2 := (b3, .cells #[.int .i64 wide, .slice a40 n44 c41] 32 (0, 0)) :: ((b2, .cells #[.int .i64 0, .slice none 0 0] 32 (0, 0)) :: (Lb42 ++ []))) (L3 := (b3, .cells #[.int .i64 wide, .slice a40 n44 c41] 32 (0, 0)) :: ((b2, .cells #[.int .i64 0, .slice none 0 0] 32 (0, 0)) :: (Lb42 ++ []))) (List.Perm.refl _) (List.Sublist.refl _) ⟨_, _, rfl, hk24, out, a40, n44, c41, Lb42, r39, rfl, rfl, (sc rfl (sc rfl (sc rfl (sc rfl (sc rfl (sn _)))))), hz43⟩)
    · obtain rfl := Lst.zero hk18 c23
      rw [oyezlaw01_theirs_l1] at r20
      refine shW_exit ?_
      refine andThen_exit ?_
      refine andThen_exit ?_
      refine inBlock_exit ?_
      obtain rfl := inj1 r20
      refine meet_i (L2 := (b3, .cells #[.int .i64 wide, .slice a12 n16 c13] 32 (0, 0)) :: ((b2, .cells #[.int .i64 0, .slice none 0 0] 32 (0, 0)) :: (Lb14 ++ []))) (L3 := (b3, .cells #[.int .i64 wide, .slice a12 n16 c13] 32 (0, 0)) :: ((b2, .cells #[.int .i64 0, .slice none 0 0] 32 (0, 0)) :: (Lb14 ++ []))) (List.Perm.refl _) (List.Sublist.refl _) ?_
      exact ⟨a12, n16, c13, Lb14, rfl, rfl, (sc rfl (sc rfl (sn _))), hz15⟩
  · rintro e1 _ _ ⟨a4, n8, c5, Lb6, rfl, rfl, he46, hz7⟩
    refine shW_env _ he46 ?_; clear he46
    refine shW_seq ?_
    refine shW_region ?_
    refine ov (v_loadA (cs := #[.int .i64 wide, .slice a4 n8 c5]) Try.isAgg32 Try.sizeOf32 rfl (Has.own 0 rfl) (Nat.le_of_ble_eq_true rfl) rfl) rfl ?_
    refine o_storeA (i := 1) Try.sizeOf32 rfl rfl rfl (by simp [Value.oneCell']) rfl (Nat.le_of_ble_eq_true rfl) ?_
    refine shO_L (L' := (b3, .cells #[.int .i64 wide, .slice a4 n8 c5] 32 (0, 0)) :: ((b2, .cells #[.int .i64 wide, .slice a4 n8 c5] 32 (0, 0)) :: (Lb6 ++ []))) rfl ?_
    refine shO_nil ?_
    refine shW_perm (L' := (b2, .cells #[.int .i64 wide, .slice a4 n8 c5] 32 (0, 0)) :: (Lb6 ++ ((b3, .cells #[.int .i64 wide, .slice a4 n8 c5] 32 (0, 0)) :: []))) (((frontC (frO)).trans (List.Perm.cons _ (((frontC (List.Perm.refl _)).trans (List.Perm.append_left _ (List.Perm.refl _))))))) ?_
    refine shW_drop (L' := (b2, .cells #[.int .i64 wide, .slice a4 n8 c5] 32 (0, 0)) :: (Lb6 ++ [])) ((List.Sublist.cons_cons _ ((List.Sublist.append (List.Sublist.refl _) ((List.Sublist.cons _ (List.Sublist.refl _))))))) ?_
    refine shW_ret ?_
    refine q_res1 Try.results18 (res_cellA (cs := #[.int .i64 wide, .slice a4 n8 c5]) Try.isAgg32 Try.sizeOf32 rfl (Has.own 0 rfl) (Nat.le_of_ble_eq_true rfl) rfl) ((List.Sublist.cons _ ((List.Sublist.append (List.Sublist.refl _) (List.Sublist.refl _))))) ?_
    obtain ⟨rfl, rfl⟩ := inj2 r11
    exact ⟨_, _, _, _, rfl, rfl, hz7.any⟩


set_option maxHeartbeats 1000000 in
theorem oyezref01_off_w {n : Int} {lo : Int} {hi : Int} {F : FS} {r : Bool} (hr : oyezref01_off n lo hi = some r) :
    SpecV Try.prog 78 #[.int .i64 n, .int .i64 lo, .int .i64 hi] F (.bool r) := by
  refine spec_of_shW (args := [.int .i64 n, .int .i64 lo, .int .i64 hi]) Try.func78 rfl Try.ntmps78 (Nat.le_of_ble_eq_true rfl) ?_
  intro K _ _; rw [oyezref01_off] at hr
  refine shW_seq ?_
  refine shW_region ?_
  refine ov (v_assign rfl) rfl ?_
  refine shO_nil ?_
  refine shW_seq ?_
  refine shW_region ?_
  refine ov (v_move rfl) rfl ?_
  refine ov (v_move rfl) rfl ?_
  refine ov (v_lssK rfl rfl) rfl ?_
  refine ov (v_move rfl) rfl ?_
  by_cases c1 : n < lo
  · have r2 := ite_t hr c1; clear hr
    refine shO_off (b' := true) 10 rfl (Env.isT rfl c1) rfl rfl ?_
    refine shO_off (b' := true) 10 rfl (Env.isT rfl c1) rfl rfl ?_
    refine shO_off (b' := true) 10 rfl (Env.isT rfl c1) rfl rfl ?_
    refine ov (v_pick_t (evD_true rfl c1) rfl) rfl ?_
    refine ov (v_assign rfl) rfl ?_
    refine shO_nil ?_
    refine shW_ret ?_
    refine q_res1 Try.results78 (res_tmp rfl) (List.Sublist.refl _) ?_
    obtain rfl := inj1 r2
    exact rfl
  · have r3 := ite_f hr c1; clear hr
    refine shO_on (b := false) 10 rfl (Env.isF rfl c1) ?_
    refine ov (v_move rfl) rfl ?_
    refine shO_on (b := false) 10 rfl (Env.isF rfl c1) ?_
    refine ov (v_move rfl) rfl ?_
    refine shO_on (b := false) 10 rfl (Env.isF rfl c1) ?_
    refine ov (v_gtrK rfl rfl) rfl ?_
    refine ov (v_pick_f (evD_false rfl c1) rfl) rfl ?_
    refine ov (v_assign rfl) rfl ?_
    refine shO_nil ?_
    refine shW_ret ?_
    refine q_res1 Try.results78 (res_tmp rfl) (List.Sublist.refl _) ?_
    obtain rfl := inj1 r3
    exact rfl


set_option maxHeartbeats 1000000 in
theorem oyezref01_Check_w {wide : Int} {plots_a : Option Addr} {plots_c : Nat} {plots : List Int} {F : FS} (h_plots : RowR 1 (iE .i64) F plots_a plots_c plots) {r : Int} (hr : oyezref01_Check wide plots = some r) :
    SpecV Try.prog 34 #[.agg #[.int .i64 wide, .slice plots_a plots.length plots_c]] F (.int .i64 r) := by
  refine spec_of_shW (args := [.agg #[.int .i64 wide, .slice plots_a plots.length plots_c]]) Try.func34 rfl Try.ntmps34 (Nat.le_of_ble_eq_true rfl) ?_
  intro K _ _; rw [oyezref01_Check] at hr
  refine shW_seq ?_
  refine shW_region ?_
  refine o_box rfl rfl ?_; intro b1 hb1
  refine ov (v_assign rfl) rfl ?_
  refine shO_nil ?_
  refine shW_seq ?_
  obtain ⟨k, h2, r3⟩ := b1_ok hr; clear hr
  refine shW_join (fun e1 F1 L1 => F = F1 ∧ L1 = [(b1, .cells #[.int .i64 wide, .slice plots_a plots.length plots_c] 32 (0, 0))] ∧ e1.sub [(1, .pointer (some ⟨b1, 0, none⟩)), (23, .bool k)]) ?_ ?_
  · clear r3
    refine shW_region ?_
    refine ov (v_fieldAddr fa_32_0 rfl) rfl ?_
    refine ov (v_load Try.isAgg3 rfl (Has.own 0 rfl) rfl) rfl ?_
    obtain ⟨ok, h4, r5⟩ := b1_ok h2; clear h2
    refine o_callV rfl Try.call78 rfl rfl rfl (oyezref01_off_w h4) ?_
    refine ov (v_move rfl) rfl ?_
    rcases bool_two ok with c6 | c6
    · have r7 := bt r5 c6; clear r5
      refine shO_off (b' := true) 9 rfl (EnvB rfl c6) rfl rfl ?_
      refine shO_off (b' := true) 9 rfl (EnvB rfl c6) rfl rfl ?_
      refine shO_off (b' := true) 9 rfl (EnvB rfl c6) rfl rfl ?_
      refine shO_off (b' := true) 9 rfl (EnvB rfl c6) rfl rfl ?_
      refine ov (v_pick_t (evB rfl c6) rfl) rfl ?_
      refine ov (v_move rfl) rfl ?_
      refine shO_off (b' := true) 15 rfl rfl rfl rfl ?_
      refine shO_off (b' := true) 15 rfl rfl rfl rfl ?_
      refine shO_off (b' := true) 15 rfl rfl rfl rfl ?_
      refine shO_off (b' := true) 15 rfl rfl rfl rfl ?_
      refine shO_off (b' := true) 15 rfl rfl rfl rfl ?_
      refine shO_off (b' := true) 15 rfl rfl rfl rfl ?_
      refine shO_off (b' := true) 15 rfl rfl rfl rfl ?_
      refine ov (v_pick_t rfl rfl) rfl ?_
      refine shO_nil ?_
      obtain rfl := inj1 r7
      refine meet_i (L2 := [(b1, .cells #[.int .i64 wide, .slice plots_a plots.length plots_c] 32 (0, 0))]) (L3 := [(b1, .cells #[.int .i64 wide, .slice plots_a plots.length plots_c] 32 (0, 0))]) (List.Perm.refl _) (List.Sublist.refl _) ?_
      exact ⟨rfl, rfl, (sc rfl (sc rfl (sn _)))⟩
    · have r8 := bf r5 c6; clear r5
      refine shO_on (b := false) 9 rfl (EnvB rfl c6) ?_
      refine ov (v_fieldAddr fa_32_1 rfl) rfl ?_
      refine shO_on (b := false) 9 rfl (EnvB rfl c6) ?_
      refine ov (v_load Try.isAgg26 rfl (Has.own 0 rfl) rfl) rfl ?_
      refine shO_on (b := false) 9 rfl (EnvB rfl c6) ?_
      refine ov (v_lenS Try.underlying26 rfl) rfl ?_
      refine shO_on (b := false) 9 rfl (EnvB rfl c6) ?_
      obtain ⟨ok2, h9, r10⟩ := b1_ok r8; clear r8
      refine o_callV rfl Try.call78 rfl rfl rfl (oyezref01_off_w h9) ?_
      refine ov (v_pick_f (evB rfl c6) rfl) rfl ?_
      refine ov (v_move rfl) rfl ?_
      rcases bool_two ok2 with c11 | c11
      · have r12 := bt r10 c11; clear r10
        refine shO_off (b' := true) 15 rfl (EnvB rfl c11) rfl rfl ?_
        refine shO_off (b' := true) 15 rfl (EnvB rfl c11) rfl rfl ?_
        refine shO_off (b' := true) 15 rfl (EnvB rfl c11) rfl rfl ?_
        refine shO_off (b' := true) 15 rfl (EnvB rfl c11) rfl rfl ?_
        refine shO_off (b' := true) 15 rfl (EnvB rfl c11) rfl rfl ?_
        refine shO_off (b' := true) 15 rfl (EnvB rfl c11) rfl rfl ?_
        refine shO_off (b' := true) 15 rfl (EnvB rfl c11) rfl rfl ?_
        refine ov (v_pick_t (evB rfl c11) rfl) rfl ?_
        refine shO_nil ?_
        obtain rfl := inj1 r12
        refine meet_i (L2 := [(b1, .cells #[.int .i64 wide, .slice plots_a plots.length plots_c] 32 (0, 0))]) (L3 := [(b1, .cells #[.int .i64 wide, .slice plots_a plots.length plots_c] 32 (0, 0))]) (List.Perm.refl _) (List.Sublist.refl _) ?_
        exact ⟨rfl, rfl, (sc rfl (sc rfl (sn _)))⟩
      · have r13 := bf r10 c11; clear r10
        refine shO_on (b := false) 15 rfl (EnvB rfl c11) ?_
        refine ov (v_fieldAddr fa_32_1 rfl) rfl ?_
        refine shO_on (b := false) 15 rfl (EnvB rfl c11) ?_
        refine ov (v_load Try.isAgg26 rfl (Has.own 0 rfl) rfl) rfl ?_
        refine shO_on (b := false) 15 rfl (EnvB rfl c11) ?_
        refine ov (v_lenS Try.underlying26 rfl) rfl ?_
        refine shO_on (b := false) 15 rfl (EnvB rfl c11) ?_
        refine ov (v_fieldAddr fa_32_0 rfl) rfl ?_
        refine shO_on (b := false) 15 rfl (EnvB rfl c11) ?_
        refine ov (v_load Try.isAgg3 rfl (Has.own 0 rfl) rfl) rfl ?_
        refine shO_on (b := false) 15 rfl (EnvB rfl c11) ?_
        obtain ⟨g14, r15⟩ := gd_ok r13; clear r13
        refine ov (v_remT rfl rfl g14) rfl ?_
        refine shO_on (b := false) 15 rfl (EnvB rfl c11) ?_
        refine ov (v_neq rfl rfl) rfl ?_
        refine ov (v_pick_f (evB rfl c11) rfl) rfl ?_
        refine shO_nil ?_
        obtain rfl := inj1 r15
        refine meet_i (L2 := [(b1, .cells #[.int .i64 wide, .slice plots_a plots.length plots_c] 32 (0, 0))]) (L3 := [(b1, .cells #[.int .i64 wide, .slice plots_a plots.length plots_c] 32 (0, 0))]) (List.Perm.refl _) (List.Sublist.refl _) ?_
        exact ⟨rfl, rfl, (sc rfl (sc rfl (sn _)))⟩
  · rintro e1 _ _ ⟨rfl, rfl, he16⟩
    refine shW_env _ he16 ?_; clear he16
    refine shW_cond rfl (fun c17 => ?_) (fun c17 => ?_)
    · have r18 := bt r3 c17; clear r3
      refine shW_seq ?_
      refine shW_region ?_
      refine ov (v_assign rfl) rfl ?_
      refine shO_nil ?_
      refine shW_drop (L' := []) ((List.Sublist.cons _ (List.Sublist.refl _))) ?_
      refine shW_ret ?_
      refine andThen_ret ?_
      refine q_res1 Try.results34 (res_tmp rfl) (List.Sublist.refl _) ?_
      obtain rfl := inj1 r18
      exact rfl
    · have r19 := bf r3 c17; clear r3
      refine shW_skip ?_
      refine shW_seq ?_
      refine shW_region ?_
      refine ov (v_assign rfl) rfl ?_
      refine shO_nil ?_
      refine shW_join (fun e1 F1 L1 => oyezref01_Check_j1 plots = some r ∧ F = F1 ∧ L1 = [(b1, .cells #[.int .i64 wide, .slice plots_a plots.length plots_c] 32 (0, 0))] ∧ e1.sub [(1, .pointer (some ⟨b1, 0, none⟩)), (3, .int .i64 0)]) ?_ ?_
      · refine shW_seq ?_
        refine shW_region ?_
        refine ov (v_assign rfl) rfl ?_
        refine shO_nil ?_
        refine shW_block ?_
        refine shW_lp (fun fu2 e1 F1 L1 => ∃ (tl : List Int) (p : Int), tl.length = fu2 ∧ Lst plots p tl ∧ oyezref01_Check_l2 plots tl = some r ∧ F = F1 ∧ L1 = [(b1, .cells #[.int .i64 wide, .slice plots_a plots.length plots_c] 32 (0, 0))] ∧ e1.sub [(1, .pointer (some ⟨b1, 0, none⟩)), (3, .int .i64 0), (4, .int .i64 p)]) _ (meet_0 (L2 := [(b1, .cells #[.int .i64 wide, .slice plots_a plots.length plots_c] 32 (0, 0))]) (L3 := [(b1, .cells #[.int .i64 wide, .slice plots_a plots.length plots_c] 32 (0, 0))]) (List.Perm.refl _) (List.Sublist.refl _) ⟨_, _, rfl, Lst.start _, r19, rfl, rfl, (sc rfl (sc rfl (sc rfl (sn _))))⟩) ?_
        rintro fu2 e1 _ _ ⟨tl, p, hn21, hk20, r22, rfl, rfl, he23⟩
        refine shW_env _ he23 ?_; clear he23
        refine shW_seq ?_
        refine shW_seq ?_
        refine shW_region ?_
        refine ov (v_move rfl) rfl ?_
        refine ov (v_fieldAddr fa_32_1 rfl) rfl ?_
        refine ov (v_load Try.isAgg26 rfl (Has.own 0 rfl) rfl) rfl ?_
        refine ov (v_lenS Try.underlying26 rfl) rfl ?_
        refine ov (v_lssK rfl rfl) rfl ?_
        refine shO_nil ?_
        refine shW_condP rfl (fun c25 => ?_) (fun c25 => ?_)
        · obtain ⟨x, tl2, rfl, hx27, g28, hk26⟩ := Lst.succ hk20 c25
          rw [oyezref01_Check_l2] at r22
          refine shW_skip ?_
          refine shW_seq ?_
          refine shW_block ?_
          refine shW_seq ?_
          refine shW_region ?_
          refine ov (v_fieldAddr fa_32_1 rfl) rfl ?_
          refine ov (v_load Try.isAgg26 rfl (Has.own 0 rfl) rfl) rfl ?_
          refine ov (v_move rfl) rfl ?_
          obtain ⟨b29, o30, c31, vs32, ha33, hs34, hle35, rfl, hl36, hc37⟩ := RowR.at (iE_ok _) h_plots ([(b1, .cells #[.int .i64 wide, .slice plots_a plots.length plots_c] 32 (0, 0))]) g28.1 hx27
          refine ov (v_indexO Try.underlying26 Try.sizeOf3 rfl ha33 rfl g28) rfl ?_
          refine ov (v_load Try.isAgg3 rfl hs34 (hc37 0 (by decide))) rfl ?_
          obtain ⟨ok3, h38, r39⟩ := b1_ok r22; clear r22
          refine o_callV rfl Try.call78 rfl rfl rfl (oyezref01_off_w h38) ?_
          refine shO_nil ?_
          refine shW_cond rfl (fun c40 => ?_) (fun c40 => ?_)
          · have r41 := bt r39 c40; clear r39
            refine shW_seq ?_
            refine shW_region ?_
            refine ov (v_assign rfl) rfl ?_
            refine shO_nil ?_
            refine shW_drop (L' := []) ((List.Sublist.cons _ (List.Sublist.refl _))) ?_
            refine shW_ret ?_
            refine inBlock_ret ?_
            refine andThen_ret ?_
            refine andThen_ret ?_
            refine inBlock_ret ?_
            refine andThen_ret ?_
            refine q_res1 Try.results34 (res_tmp rfl) (List.Sublist.refl _) ?_
            obtain rfl := inj1 r41
            exact rfl
          · have r42 := bf r39 c40; clear r39
            refine shW_skip ?_
            refine inBlock_n (id := 1) ?_
            refine shW_region ?_
            refine ov (v_move rfl) rfl ?_
            refine ov (v_add rfl rfl (Lst.r64 hk20 c25 (RowR.lt h_plots))) rfl ?_
            refine ov (v_assign rfl) rfl ?_
            refine shO_nil ?_
            subst hn21; exact lp_end (Nat.lt_succ_self _) (meet_0 (L2 := [(b1, .cells #[.int .i64 wide, .slice plots_a plots.length plots_c] 32 (0, 0))]) (L3 := [(b1, .cells #[.int .i64 wide, .slice plots_a plots.length plots_c] 32 (0, 0))]) (List.Perm.refl _) (List.Sublist.refl _) ⟨_, _, rfl, hk26, r42, rfl, rfl, (sc rfl (sc rfl (sc rfl (sn _))))⟩)
        · obtain rfl := Lst.zero hk20 c25
          rw [oyezref01_Check_l2] at r22
          refine shW_exit ?_
          refine andThen_exit ?_
          refine andThen_exit ?_
          refine inBlock_exit ?_
          refine meet_i (L2 := [(b1, .cells #[.int .i64 wide, .slice plots_a plots.length plots_c] 32 (0, 0))]) (L3 := [(b1, .cells #[.int .i64 wide, .slice plots_a plots.length plots_c] 32 (0, 0))]) (List.Perm.refl _) (List.Sublist.refl _) ?_
          exact ⟨r22, rfl, rfl, (sc rfl (sc rfl (sn _)))⟩
      · rintro e1 _ _ ⟨r43, rfl, rfl, he44⟩
        refine shW_env _ he44 ?_; clear he44
        rw [oyezref01_Check_j1] at r43
        obtain ⟨houses, h45, r46⟩ := b1_ok r43; clear r43
        refine shW_join (fun e1 F1 L1 => F = F1 ∧ L1 = [] ∧ e1.sub [(3, .int .i64 houses)]) ?_ ?_
        · clear r46
          refine shW_seq ?_
          refine shW_region ?_
          refine ov (v_assign rfl) rfl ?_
          refine shO_nil ?_
          refine shW_block ?_
          refine shW_lp (fun fu3 e1 F1 L1 => ∃ (tl3 : List Int) (p2 : Int), tl3.length = fu3 ∧ Lst plots p2 tl3 ∧ ∃ (houses2 : Int), oyezref01_Check_l3 tl3 houses2 = some houses ∧ F = F1 ∧ L1 = [(b1, .cells #[.int .i64 wide, .slice plots_a plots.length plots_c] 32 (0, 0))] ∧ e1.sub [(1, .pointer (some ⟨b1, 0, none⟩)), (3, .int .i64 houses2), (5, .int .i64 p2)]) _ (meet_0 (L2 := [(b1, .cells #[.int .i64 wide, .slice plots_a plots.length plots_c] 32 (0, 0))]) (L3 := [(b1, .cells #[.int .i64 wide, .slice plots_a plots.length plots_c] 32 (0, 0))]) (List.Perm.refl _) (List.Sublist.refl _) ⟨_, _, rfl, Lst.start _, 0, h45, rfl, rfl, (sc rfl (sc rfl (sc rfl (sn _))))⟩) ?_
          rintro fu3 e1 _ _ ⟨tl3, p2, hn48, hk47, houses2, r49, rfl, rfl, he50⟩
          refine shW_env _ he50 ?_; clear he50
          refine shW_seq ?_
          refine shW_seq ?_
          refine shW_region ?_
          refine ov (v_move rfl) rfl ?_
          refine ov (v_fieldAddr fa_32_1 rfl) rfl ?_
          refine ov (v_load Try.isAgg26 rfl (Has.own 0 rfl) rfl) rfl ?_
          refine ov (v_lenS Try.underlying26 rfl) rfl ?_
          refine ov (v_lssK rfl rfl) rfl ?_
          refine shO_nil ?_
          refine shW_condP rfl (fun c52 => ?_) (fun c52 => ?_)
          · obtain ⟨x2, tl4, rfl, hx54, g55, hk53⟩ := Lst.succ hk47 c52
            rw [oyezref01_Check_l3] at r49
            refine shW_skip ?_
            refine shW_seq ?_
            refine shW_block ?_
            refine shW_seq ?_
            refine shW_region ?_
            refine ov (v_fieldAddr fa_32_1 rfl) rfl ?_
            refine ov (v_load Try.isAgg26 rfl (Has.own 0 rfl) rfl) rfl ?_
            refine ov (v_move rfl) rfl ?_
            obtain ⟨b56, o57, c58, vs59, ha60, hs61, hle62, rfl, hl63, hc64⟩ := RowR.at (iE_ok _) h_plots ([(b1, .cells #[.int .i64 wide, .slice plots_a plots.length plots_c] 32 (0, 0))]) g55.1 hx54
            refine ov (v_indexO Try.underlying26 Try.sizeOf3 rfl ha60 rfl g55) rfl ?_
            refine ov (v_load Try.isAgg3 rfl hs61 (hc64 0 (by decide))) rfl ?_
            refine ov (v_eql rfl rfl) rfl ?_
            refine shO_nil ?_
            refine shW_condP rfl (fun c65 => ?_) (fun c65 => ?_)
            · have r66 := ite_t r49 c65; clear r49
              refine shW_region ?_
              refine ov (v_move rfl) rfl ?_
              obtain ⟨g67, r68⟩ := gd_ok r66; clear r66
              refine ov (v_add rfl rfl g67) rfl ?_
              refine ov (v_assign rfl) rfl ?_
              refine shO_nil ?_
              refine inBlock_n (id := 3) ?_
              refine shW_region ?_
              refine ov (v_move rfl) rfl ?_
              refine ov (v_add rfl rfl (Lst.r64 hk47 c52 (RowR.lt h_plots))) rfl ?_
              refine ov (v_assign rfl) rfl ?_
              refine shO_nil ?_
              subst hn48; exact lp_end (Nat.lt_succ_self _) (meet_0 (L2 := [(b1, .cells #[.int .i64 wide, .slice plots_a plots.length plots_c] 32 (0, 0))]) (L3 := [(b1, .cells #[.int .i64 wide, .slice plots_a plots.length plots_c] 32 (0, 0))]) (List.Perm.refl _) (List.Sublist.refl _) ⟨_, _, rfl, hk53, houses2 + 1, r68, rfl, rfl, (sc rfl (sc rfl (sc rfl (sn _))))⟩)
            · have r69 := ite_f r49 c65; clear r49
              refine shW_skip ?_
              refine inBlock_n (id := 3) ?_
              refine shW_region ?_
              refine ov (v_move rfl) rfl ?_
              refine ov (v_add rfl rfl (Lst.r64 hk47 c52 (RowR.lt h_plots))) rfl ?_
              refine ov (v_assign rfl) rfl ?_
              refine shO_nil ?_
              subst hn48; exact lp_end (Nat.lt_succ_self _) (meet_0 (L2 := [(b1, .cells #[.int .i64 wide, .slice plots_a plots.length plots_c] 32 (0, 0))]) (L3 := [(b1, .cells #[.int .i64 wide, .slice plots_a plots.length plots_c] 32 (0, 0))]) (List.Perm.refl _) (List.Sublist.refl _) ⟨_, _, rfl, hk53, houses2, r69, rfl, rfl, (sc rfl (sc rfl (sc rfl (sn _))))⟩)
          · obtain rfl := Lst.zero hk47 c52
            rw [oyezref01_Check_l3] at r49
            refine shW_exit ?_
            refine andThen_exit ?_
            refine andThen_exit ?_
            refine inBlock_exit ?_
            obtain rfl := inj1 r49
            refine meet_i (L2 := []) (L3 := [(b1, .cells #[.int .i64 wide, .slice plots_a plots.length plots_c] 32 (0, 0))]) (List.Perm.refl _) ((List.Sublist.cons _ (List.Sublist.refl _))) ?_
            exact ⟨rfl, rfl, (sc rfl (sn _))⟩
        · rintro e1 _ _ ⟨rfl, rfl, he70⟩
          refine shW_env _ he70 ?_; clear he70
          refine shW_seq ?_
          refine shW_seq ?_
          refine shW_region ?_
          refine ov (v_move rfl) rfl ?_
          refine ov (v_gtrK rfl rfl) rfl ?_
          refine shO_nil ?_
          refine shW_condP rfl (fun c71 => ?_) (fun c71 => ?_)
          · have r72 := ite_t r46 c71; clear r46
            refine shW_seq ?_
            refine shW_region ?_
            refine ov (v_assign rfl) rfl ?_
            refine shO_nil ?_
            refine shW_ret ?_
            refine andThen_ret ?_
            refine q_res1 Try.results34 (res_tmp rfl) (List.Sublist.refl _) ?_
            obtain rfl := inj1 r72
            exact rfl
          · have r73 := ite_f r46 c71; clear r46
            refine shW_skip ?_
            refine shW_seq ?_
            refine shW_region ?_
            refine ov (v_assign rfl) rfl ?_
            refine shO_nil ?_
            refine shW_ret ?_
            refine q_res1 Try.results34 (res_tmp rfl) (List.Sublist.refl _) ?_
            obtain rfl := inj1 r73
            exact rfl


set_option maxHeartbeats 1000000 in
theorem oyezref01_Is_w {wide : Int} {plots_a : Option Addr} {plots_c : Nat} {plots : List Int} {p : Int} {kind : Int} {F : FS} (h_plots : RowR 1 (iE .i64) F plots_a plots_c plots) {r : Int} (hr : oyezref01_Is wide plots p kind = some r) :
    SpecV Try.prog 50 #[.agg #[.int .i64 wide, .slice plots_a plots.length plots_c], .int .i64 p, .int .i64 kind] F (.int .i64 r) := by
  refine spec_of_shW (args := [.agg #[.int .i64 wide, .slice plots_a plots.length plots_c], .int .i64 p, .int .i64 kind]) Try.func50 rfl Try.ntmps50 (Nat.le_of_ble_eq_true rfl) ?_
  intro K _ _; rw [oyezref01_Is] at hr
  refine shW_seq ?_
  refine shW_region ?_
  refine o_box rfl rfl ?_; intro b1 hb1
  refine ov (v_assign rfl) rfl ?_
  refine shO_nil ?_
  refine shW_seq ?_
  refine shW_seq ?_
  refine shW_region ?_
  refine ov (v_move rfl) rfl ?_
  refine ov (v_fieldAddr fa_32_1 rfl) rfl ?_
  refine ov (v_load Try.isAgg26 rfl (Has.own 0 rfl) rfl) rfl ?_
  refine ov (v_lenS Try.underlying26 rfl) rfl ?_
  obtain ⟨g2, r3⟩ := gd_ok hr; clear hr
  refine ov (v_sub rfl rfl g2) rfl ?_
  obtain ⟨ok, h4, r5⟩ := b1_ok r3; clear r3
  refine o_callV rfl Try.call78 rfl rfl rfl (oyezref01_off_w h4) ?_
  refine shO_nil ?_
  refine shW_cond rfl (fun c6 => ?_) (fun c6 => ?_)
  · have r7 := bt r5 c6; clear r5
    refine shW_seq ?_
    refine shW_region ?_
    refine ov (v_assign rfl) rfl ?_
    refine shO_nil ?_
    refine shW_drop (L' := []) ((List.Sublist.cons _ (List.Sublist.refl _))) ?_
    refine shW_ret ?_
    refine andThen_ret ?_
    refine q_res1 Try.results50 (res_tmp rfl) (List.Sublist.refl _) ?_
    obtain rfl := inj1 r7
    exact rfl
  · have r8 := bf r5 c6; clear r5
    refine shW_skip ?_
    refine shW_seq ?_
    refine shW_seq ?_
    refine shW_region ?_
    refine ov (v_fieldAddr fa_32_1 rfl) rfl ?_
    refine ov (v_load Try.isAgg26 rfl (Has.own 0 rfl) rfl) rfl ?_
    refine ov (v_move rfl) rfl ?_
    obtain ⟨x, g9, hx10, r11⟩ := ix_ok r8; clear r8
    obtain ⟨b12, o13, c14, vs15, ha16, hs17, hle18, rfl, hl19, hc20⟩ := RowR.at (iE_ok _) h_plots ([(b1, .cells #[.int .i64 wide, .slice plots_a plots.length plots_c] 32 (0, 0))]) g9.1 hx10
    refine ov (v_indexO Try.underlying26 Try.sizeOf3 rfl ha16 rfl g9) rfl ?_
    refine ov (v_load Try.isAgg3 rfl hs17 (hc20 0 (by decide))) rfl ?_
    refine ov (v_move rfl) rfl ?_
    refine ov (v_neq rfl rfl) rfl ?_
    refine shO_nil ?_
    refine shW_condP rfl (fun c21 => ?_) (fun c21 => ?_)
    · have r22 := ite_t r11 c21; clear r11
      refine shW_seq ?_
      refine shW_region ?_
      refine ov (v_assign rfl) rfl ?_
      refine shO_nil ?_
      refine shW_drop (L' := []) ((List.Sublist.cons _ (List.Sublist.refl _))) ?_
      refine shW_ret ?_
      refine andThen_ret ?_
      refine q_res1 Try.results50 (res_tmp rfl) (List.Sublist.refl _) ?_
      obtain rfl := inj1 r22
      exact rfl
    · have r23 := ite_f r11 c21; clear r11
      refine shW_skip ?_
      refine shW_seq ?_
      refine shW_region ?_
      refine ov (v_assign rfl) rfl ?_
      refine shO_nil ?_
      refine shW_drop (L' := []) ((List.Sublist.cons _ (List.Sublist.refl _))) ?_
      refine shW_ret ?_
      refine q_res1 Try.results50 (res_tmp rfl) (List.Sublist.refl _) ?_
      obtain rfl := inj1 r23
      exact rfl


set_option maxHeartbeats 1000000 in
theorem oyezref01_Stand_w {wide : Int} {plots_a : Option Addr} {plots_c : Nat} {plots : List Int} {wind : Int} {stand : Int} {F : FS} (h_plots : RowR 1 (iE .i64) F plots_a plots_c plots) {r : Int} (hr : oyezref01_Stand wide plots wind stand = some r) :
    SpecV Try.prog 81 #[.agg #[.int .i64 wide, .slice plots_a plots.length plots_c], .int .i64 wind, .int .i64 stand] F (.int .i64 r) := by
  refine spec_of_shW (args := [.agg #[.int .i64 wide, .slice plots_a plots.length plots_c], .int .i64 wind, .int .i64 stand]) Try.func81 rfl Try.ntmps81 (Nat.le_of_ble_eq_true rfl) ?_
  intro K _ _; rw [oyezref01_Stand] at hr
  refine shW_seq ?_
  refine shW_region ?_
  refine o_box rfl rfl ?_; intro b1 hb1
  refine ov (v_assign rfl) rfl ?_
  refine shO_nil ?_
  refine shW_seq ?_
  refine shW_seq ?_
  refine shW_region ?_
  refine ov (v_loadA (cs := #[.int .i64 wide, .slice plots_a plots.length plots_c]) Try.isAgg32 Try.sizeOf32 rfl (Has.own 0 rfl) (Nat.le_of_ble_eq_true rfl) rfl) rfl ?_
  obtain ⟨n, h2, r3⟩ := b1_ok hr; clear hr
  refine o_callV rfl Try.call34 rfl rfl rfl (oyezref01_Check_w h_plots h2) ?_
  refine ov (v_assign rfl) rfl ?_
  refine shO_nil ?_
  refine shW_seq ?_
  refine shW_region ?_
  refine ov (v_move rfl) rfl ?_
  refine ov (v_neq rfl rfl) rfl ?_
  refine shO_nil ?_
  refine shW_condP rfl (fun c4 => ?_) (fun c4 => ?_)
  · have r5 := ite_t r3 c4; clear r3
    refine shW_seq ?_
    refine shW_region ?_
    refine ov (v_move rfl) rfl ?_
    refine ov (v_assign rfl) rfl ?_
    refine shO_nil ?_
    refine shW_drop (L' := []) ((List.Sublist.cons _ (List.Sublist.refl _))) ?_
    refine shW_ret ?_
    refine andThen_ret ?_
    refine q_res1 Try.results81 (res_tmp rfl) (List.Sublist.refl _) ?_
    obtain rfl := inj1 r5
    exact rfl
  · have r6 := ite_f r3 c4; clear r3
    refine shW_skip ?_
    refine shW_seq ?_
    refine shW_seq ?_
    refine shW_region ?_
    refine ov (v_move rfl) rfl ?_
    obtain ⟨ok, h7, r8⟩ := b1_ok r6; clear r6
    refine o_callV rfl Try.call78 rfl rfl rfl (oyezref01_off_w h7) ?_
    refine shO_nil ?_
    refine shW_cond rfl (fun c9 => ?_) (fun c9 => ?_)
    · have r10 := bt r8 c9; clear r8
      refine shW_seq ?_
      refine shW_region ?_
      refine ov (v_assign rfl) rfl ?_
      refine shO_nil ?_
      refine shW_drop (L' := []) ((List.Sublist.cons _ (List.Sublist.refl _))) ?_
      refine shW_ret ?_
      refine andThen_ret ?_
      refine q_res1 Try.results81 (res_tmp rfl) (List.Sublist.refl _) ?_
      obtain rfl := inj1 r10
      exact rfl
    · have r11 := bf r8 c9; clear r8
      refine shW_skip ?_
      refine shW_seq ?_
      refine shW_region ?_
      refine ov (v_loadA (cs := #[.int .i64 wide, .slice plots_a plots.length plots_c]) Try.isAgg32 Try.sizeOf32 rfl (Has.own 0 rfl) (Nat.le_of_ble_eq_true rfl) rfl) rfl ?_
      refine ov (v_move rfl) rfl ?_
      obtain ⟨n2, h12, r13⟩ := b1_ok r11; clear r11
      refine o_callV rfl Try.call50 rfl rfl rfl (oyezref01_Is_w h_plots h12) ?_
      refine ov (v_assign rfl) rfl ?_
      refine shO_nil ?_
      refine shW_drop (L' := []) ((List.Sublist.cons _ (List.Sublist.refl _))) ?_
      refine shW_ret ?_
      refine q_res1 Try.results81 (res_tmp rfl) (List.Sublist.refl _) ?_
      obtain rfl := inj1 r13
      exact rfl


end Go.Proofs.Ytdnmaodkdhdacaa
