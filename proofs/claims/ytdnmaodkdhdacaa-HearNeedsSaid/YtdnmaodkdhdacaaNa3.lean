/- The walks that this claim needs, printed by a program of mine; part 3. -/
import Derived.Test.YtdnmaodkdhdacaaNa2
namespace Go.Proofs.Ytdnmaodkdhdacaa
open Go.SH Go.PL
set_option maxHeartbeats 1000000 in
theorem oyezref01_Step_w {wide : Int} {plots_a : Option Addr} {plots_c : Nat} {plots : List Int} {wind : Int} {p : Int} {q : Int} {F : FS} (h_plots : RowR 1 (iE .i64) F plots_a plots_c plots) {r : Int} (hr : oyezref01_Step wide plots wind p q = some r) :
    SpecV Try.prog 82 #[.agg #[.int .i64 wide, .slice plots_a plots.length plots_c], .int .i64 wind, .int .i64 p, .int .i64 q] F (.int .i64 r) := by
  refine spec_of_shW (args := [.agg #[.int .i64 wide, .slice plots_a plots.length plots_c], .int .i64 wind, .int .i64 p, .int .i64 q]) Try.func82 rfl Try.ntmps82 (Nat.le_of_ble_eq_true rfl) ?_
  intro K _ _; rw [oyezref01_Step] at hr
  refine shW_seq ?_
  refine shW_region ?_
  refine o_box rfl rfl ?_; intro b1 hb1
  refine ov (v_assign rfl) rfl ?_
  refine shO_nil ?_
  refine shW_seq ?_
  obtain ⟨k, h2, r3⟩ := b1_ok hr; clear hr
  refine shW_join (fun e1 F1 L1 => F = F1 ∧ L1 = [(b1, .cells #[.int .i64 wide, .slice plots_a plots.length plots_c] 32 (0, 0))] ∧ e1.sub [(1, .int .i64 wind), (2, .int .i64 p), (3, .int .i64 q), (4, .pointer (some ⟨b1, 0, none⟩)), (42, .bool k)]) ?_ ?_
  · clear r3
    refine shW_region ?_
    refine ov (v_move rfl) rfl ?_
    refine ov (v_fieldAddr fa_32_1 rfl) rfl ?_
    refine ov (v_load Try.isAgg26 rfl (Has.own 0 rfl) rfl) rfl ?_
    refine ov (v_lenS Try.underlying26 rfl) rfl ?_
    obtain ⟨g4, r5⟩ := gd_ok h2; clear h2
    refine ov (v_sub rfl rfl g4) rfl ?_
    obtain ⟨ok, h6, r7⟩ := b1_ok r5; clear r5
    refine o_callV rfl Try.call78 rfl rfl rfl (oyezref01_off_w h6) ?_
    refine ov (v_move rfl) rfl ?_
    rcases bool_two ok with c8 | c8
    · have r9 := bt r7 c8; clear r7
      refine shO_off (b' := true) 19 rfl (EnvB rfl c8) rfl rfl ?_
      refine shO_off (b' := true) 19 rfl (EnvB rfl c8) rfl rfl ?_
      refine shO_off (b' := true) 19 rfl (EnvB rfl c8) rfl rfl ?_
      refine shO_off (b' := true) 19 rfl (EnvB rfl c8) rfl rfl ?_
      refine shO_off (b' := true) 19 rfl (EnvB rfl c8) rfl rfl ?_
      refine shO_off (b' := true) 19 rfl (EnvB rfl c8) rfl rfl ?_
      refine ov (v_pick_t (evB rfl c8) rfl) rfl ?_
      refine ov (v_move rfl) rfl ?_
      refine shO_off (b' := true) 27 rfl rfl rfl rfl ?_
      refine shO_off (b' := true) 27 rfl rfl rfl rfl ?_
      refine shO_off (b' := true) 27 rfl rfl rfl rfl ?_
      refine shO_off (b' := true) 27 rfl rfl rfl rfl ?_
      refine shO_off (b' := true) 27 rfl rfl rfl rfl ?_
      refine shO_off (b' := true) 27 rfl rfl rfl rfl ?_
      refine ov (v_pick_t rfl rfl) rfl ?_
      refine ov (v_move rfl) rfl ?_
      refine shO_off (b' := true) 35 rfl rfl rfl rfl ?_
      refine shO_off (b' := true) 35 rfl rfl rfl rfl ?_
      refine shO_off (b' := true) 35 rfl rfl rfl rfl ?_
      refine shO_off (b' := true) 35 rfl rfl rfl rfl ?_
      refine shO_off (b' := true) 35 rfl rfl rfl rfl ?_
      refine shO_off (b' := true) 35 rfl rfl rfl rfl ?_
      refine ov (v_pick_t rfl rfl) rfl ?_
      refine shO_nil ?_
      obtain rfl := inj1 r9
      refine meet_i (L2 := [(b1, .cells #[.int .i64 wide, .slice plots_a plots.length plots_c] 32 (0, 0))]) (L3 := [(b1, .cells #[.int .i64 wide, .slice plots_a plots.length plots_c] 32 (0, 0))]) (List.Perm.refl _) (List.Sublist.refl _) ?_
      exact ⟨rfl, rfl, (sc rfl (sc rfl (sc rfl (sc rfl (sc rfl (sn _))))))⟩
    · have r10 := bf r7 c8; clear r7
      refine shO_on (b := false) 19 rfl (EnvB rfl c8) ?_
      refine ov (v_move rfl) rfl ?_
      refine shO_on (b := false) 19 rfl (EnvB rfl c8) ?_
      refine ov (v_fieldAddr fa_32_1 rfl) rfl ?_
      refine shO_on (b := false) 19 rfl (EnvB rfl c8) ?_
      refine ov (v_load Try.isAgg26 rfl (Has.own 0 rfl) rfl) rfl ?_
      refine shO_on (b := false) 19 rfl (EnvB rfl c8) ?_
      refine ov (v_lenS Try.underlying26 rfl) rfl ?_
      refine shO_on (b := false) 19 rfl (EnvB rfl c8) ?_
      obtain ⟨g11, r12⟩ := gd_ok r10; clear r10
      refine ov (v_sub rfl rfl g11) rfl ?_
      refine shO_on (b := false) 19 rfl (EnvB rfl c8) ?_
      obtain ⟨ok2, h13, r14⟩ := b1_ok r12; clear r12
      refine o_callV rfl Try.call78 rfl rfl rfl (oyezref01_off_w h13) ?_
      refine ov (v_pick_f (evB rfl c8) rfl) rfl ?_
      refine ov (v_move rfl) rfl ?_
      rcases bool_two ok2 with c15 | c15
      · have r16 := bt r14 c15; clear r14
        refine shO_off (b' := true) 27 rfl (EnvB rfl c15) rfl rfl ?_
        refine shO_off (b' := true) 27 rfl (EnvB rfl c15) rfl rfl ?_
        refine shO_off (b' := true) 27 rfl (EnvB rfl c15) rfl rfl ?_
        refine shO_off (b' := true) 27 rfl (EnvB rfl c15) rfl rfl ?_
        refine shO_off (b' := true) 27 rfl (EnvB rfl c15) rfl rfl ?_
        refine shO_off (b' := true) 27 rfl (EnvB rfl c15) rfl rfl ?_
        refine ov (v_pick_t (evB rfl c15) rfl) rfl ?_
        refine ov (v_move rfl) rfl ?_
        refine shO_off (b' := true) 35 rfl rfl rfl rfl ?_
        refine shO_off (b' := true) 35 rfl rfl rfl rfl ?_
        refine shO_off (b' := true) 35 rfl rfl rfl rfl ?_
        refine shO_off (b' := true) 35 rfl rfl rfl rfl ?_
        refine shO_off (b' := true) 35 rfl rfl rfl rfl ?_
        refine shO_off (b' := true) 35 rfl rfl rfl rfl ?_
        refine ov (v_pick_t rfl rfl) rfl ?_
        refine shO_nil ?_
        obtain rfl := inj1 r16
        refine meet_i (L2 := [(b1, .cells #[.int .i64 wide, .slice plots_a plots.length plots_c] 32 (0, 0))]) (L3 := [(b1, .cells #[.int .i64 wide, .slice plots_a plots.length plots_c] 32 (0, 0))]) (List.Perm.refl _) (List.Sublist.refl _) ?_
        exact ⟨rfl, rfl, (sc rfl (sc rfl (sc rfl (sc rfl (sc rfl (sn _))))))⟩
      · have r17 := bf r14 c15; clear r14
        refine shO_on (b := false) 27 rfl (EnvB rfl c15) ?_
        refine ov (v_fieldAddr fa_32_1 rfl) rfl ?_
        refine shO_on (b := false) 27 rfl (EnvB rfl c15) ?_
        refine ov (v_load Try.isAgg26 rfl (Has.own 0 rfl) rfl) rfl ?_
        refine shO_on (b := false) 27 rfl (EnvB rfl c15) ?_
        refine ov (v_move rfl) rfl ?_
        refine shO_on (b := false) 27 rfl (EnvB rfl c15) ?_
        obtain ⟨x, g18, hx19, r20⟩ := ix_ok r17; clear r17
        obtain ⟨b21, o22, c23, vs24, ha25, hs26, hle27, rfl, hl28, hc29⟩ := RowR.at (iE_ok _) h_plots ([(b1, .cells #[.int .i64 wide, .slice plots_a plots.length plots_c] 32 (0, 0))]) g18.1 hx19
        refine ov (v_indexO Try.underlying26 Try.sizeOf3 rfl ha25 rfl g18) rfl ?_
        refine shO_on (b := false) 27 rfl (EnvB rfl c15) ?_
        refine ov (v_load Try.isAgg3 rfl hs26 (hc29 0 (by decide))) rfl ?_
        refine shO_on (b := false) 27 rfl (EnvB rfl c15) ?_
        refine ov (v_eql rfl rfl) rfl ?_
        refine ov (v_pick_f (evB rfl c15) rfl) rfl ?_
        refine ov (v_move rfl) rfl ?_
        by_cases c30 : x = 2
        · have r31 := ite_t r20 c30; clear r20
          refine shO_off (b' := true) 35 rfl (Env.isT rfl c30) rfl rfl ?_
          refine shO_off (b' := true) 35 rfl (Env.isT rfl c30) rfl rfl ?_
          refine shO_off (b' := true) 35 rfl (Env.isT rfl c30) rfl rfl ?_
          refine shO_off (b' := true) 35 rfl (Env.isT rfl c30) rfl rfl ?_
          refine shO_off (b' := true) 35 rfl (Env.isT rfl c30) rfl rfl ?_
          refine shO_off (b' := true) 35 rfl (Env.isT rfl c30) rfl rfl ?_
          refine ov (v_pick_t (evD_true rfl c30) rfl) rfl ?_
          refine shO_nil ?_
          obtain rfl := inj1 r31
          refine meet_i (L2 := [(b1, .cells #[.int .i64 wide, .slice plots_a plots.length plots_c] 32 (0, 0))]) (L3 := [(b1, .cells #[.int .i64 wide, .slice plots_a plots.length plots_c] 32 (0, 0))]) (List.Perm.refl _) (List.Sublist.refl _) ?_
          exact ⟨rfl, rfl, (sc rfl (sc rfl (sc rfl (sc rfl (sc rfl (sn _))))))⟩
        · have r32 := ite_f r20 c30; clear r20
          refine shO_on (b := false) 35 rfl (Env.isF rfl c30) ?_
          refine ov (v_fieldAddr fa_32_1 rfl) rfl ?_
          refine shO_on (b := false) 35 rfl (Env.isF rfl c30) ?_
          refine ov (v_load Try.isAgg26 rfl (Has.own 0 rfl) rfl) rfl ?_
          refine shO_on (b := false) 35 rfl (Env.isF rfl c30) ?_
          refine ov (v_move rfl) rfl ?_
          refine shO_on (b := false) 35 rfl (Env.isF rfl c30) ?_
          obtain ⟨x2, g33, hx34, r35⟩ := ix_ok r32; clear r32
          obtain ⟨b36, o37, c38, vs39, ha40, hs41, hle42, rfl, hl43, hc44⟩ := RowR.at (iE_ok _) h_plots ([(b1, .cells #[.int .i64 wide, .slice plots_a plots.length plots_c] 32 (0, 0))]) g33.1 hx34
          refine ov (v_indexO Try.underlying26 Try.sizeOf3 rfl ha40 rfl g33) rfl ?_
          refine shO_on (b := false) 35 rfl (Env.isF rfl c30) ?_
          refine ov (v_load Try.isAgg3 rfl hs41 (hc44 0 (by decide))) rfl ?_
          refine shO_on (b := false) 35 rfl (Env.isF rfl c30) ?_
          refine ov (v_eql rfl rfl) rfl ?_
          refine ov (v_pick_f (evD_false rfl c30) rfl) rfl ?_
          refine shO_nil ?_
          obtain rfl := inj1 r35
          refine meet_i (L2 := [(b1, .cells #[.int .i64 wide, .slice plots_a plots.length plots_c] 32 (0, 0))]) (L3 := [(b1, .cells #[.int .i64 wide, .slice plots_a plots.length plots_c] 32 (0, 0))]) (List.Perm.refl _) (List.Sublist.refl _) ?_
          exact ⟨rfl, rfl, (sc rfl (sc rfl (sc rfl (sc rfl (sc rfl (sn _))))))⟩
  · rintro e1 _ _ ⟨rfl, rfl, he45⟩
    refine shW_env _ he45 ?_; clear he45
    refine shW_cond rfl (fun c46 => ?_) (fun c46 => ?_)
    · have r47 := bt r3 c46; clear r3
      refine shW_seq ?_
      refine shW_region ?_
      refine ov (v_assign rfl) rfl ?_
      refine shO_nil ?_
      refine shW_drop (L' := []) ((List.Sublist.cons _ (List.Sublist.refl _))) ?_
      refine shW_ret ?_
      refine andThen_ret ?_
      refine q_res1 Try.results82 (res_tmp rfl) (List.Sublist.refl _) ?_
      obtain rfl := inj1 r47
      exact rfl
    · have r48 := bf r3 c46; clear r3
      refine shW_skip ?_
      refine shW_seq ?_
      refine shW_draw (by kernel_rfl) (by kernel_rfl) (by kernel_rfl) ?_
      refine qv (v_move rfl) rfl ?_
      refine qv (v_fieldAddr fa_32_0 rfl) rfl ?_
      refine qv (v_load Try.isAgg3 rfl (Has.own 0 rfl) rfl) rfl ?_
      obtain ⟨g49, r50⟩ := gd_ok r48; clear r48
      refine qv (v_quoT rfl rfl g49) rfl ?_
      refine qv (v_move rfl) rfl ?_
      refine qv (v_fieldAddr fa_32_0 rfl) rfl ?_
      refine qv (v_load Try.isAgg3 rfl (Has.own 0 rfl) rfl) rfl ?_
      obtain ⟨g51, r52⟩ := gd_ok r50; clear r50
      refine qv (v_quoT rfl rfl g51) rfl ?_
      obtain ⟨g53, r54⟩ := gd_ok r52; clear r52
      refine qv (v_sub rfl rfl g53) rfl ?_
      obtain ⟨down, h55, r56⟩ := bv_ok r54; clear r54
      refine qv ((v_assign rfl).i h55) rfl ?_
      refine shQ_nil ?_
      refine shW_seq ?_
      refine shW_draw (by kernel_rfl) (by kernel_rfl) (by kernel_rfl) ?_
      refine qv (v_move rfl) rfl ?_
      refine qv (v_fieldAddr fa_32_0 rfl) rfl ?_
      refine qv (v_load Try.isAgg3 rfl (Has.own 0 rfl) rfl) rfl ?_
      obtain ⟨g57, r58⟩ := gd_ok r56; clear r56
      refine qv (v_remT rfl rfl g57) rfl ?_
      refine qv (v_move rfl) rfl ?_
      refine qv (v_fieldAddr fa_32_0 rfl) rfl ?_
      refine qv (v_load Try.isAgg3 rfl (Has.own 0 rfl) rfl) rfl ?_
      obtain ⟨g59, r60⟩ := gd_ok r58; clear r58
      refine qv (v_remT rfl rfl g59) rfl ?_
      obtain ⟨g61, r62⟩ := gd_ok r60; clear r60
      refine qv (v_sub rfl rfl g61) rfl ?_
      obtain ⟨right_, h63, r64⟩ := bv_ok r62; clear r62
      refine qv ((v_assign rfl).i h63) rfl ?_
      refine shQ_nil ?_
      refine shW_seq ?_
      refine shW_seq ?_
      refine shW_region ?_
      refine ov (v_move rfl) rfl ?_
      refine ov (v_move rfl) rfl ?_
      obtain ⟨g65, r66⟩ := gd_ok r64; clear r64
      refine ov (v_mul rfl rfl g65) rfl ?_
      refine ov (v_move rfl) rfl ?_
      refine ov (v_move rfl) rfl ?_
      obtain ⟨g67, r68⟩ := gd_ok r66; clear r66
      refine ov (v_mul rfl rfl g67) rfl ?_
      obtain ⟨g69, r70⟩ := gd_ok r68; clear r68
      refine ov (v_add rfl rfl g69) rfl ?_
      refine ov (v_neq rfl rfl) rfl ?_
      refine shO_nil ?_
      refine shW_condP rfl (fun c71 => ?_) (fun c71 => ?_)
      · have r72 := ite_t r70 c71; clear r70
        refine shW_seq ?_
        refine shW_region ?_
        refine ov (v_assign rfl) rfl ?_
        refine shO_nil ?_
        refine shW_drop (L' := []) ((List.Sublist.cons _ (List.Sublist.refl _))) ?_
        refine shW_ret ?_
        refine andThen_ret ?_
        refine q_res1 Try.results82 (res_tmp rfl) (List.Sublist.refl _) ?_
        obtain rfl := inj1 r72
        exact rfl
      · have r73 := ite_f r70 c71; clear r70
        refine shW_skip ?_
        refine shW_seq ?_
        refine shW_region ?_
        refine ov (v_assign rfl) rfl ?_
        refine shO_nil ?_
        obtain ⟨along, h74, r75⟩ := b1_ok r73; clear r73
        refine shW_join (fun e1 F1 L1 => F = F1 ∧ L1 = [(b1, .cells #[.int .i64 wide, .slice plots_a plots.length plots_c] 32 (0, 0))] ∧ e1.sub [(3, .int .i64 q), (4, .pointer (some ⟨b1, 0, none⟩)), (11, .int .i64 along)]) ?_ ?_
        · clear r75
          refine shW_seq ?_
          refine shW_region ?_
          refine ov (v_move rfl) rfl ?_
          refine shO_nil ?_
          refine shW_block ?_
          refine shW_seq ?_
          refine shW_region ?_
          refine ov (v_eql rfl rfl) rfl ?_
          refine ov (v_assign rfl) rfl ?_
          refine shO_nil ?_
          refine shW_condP rfl (fun c76 => ?_) (fun c76 => ?_)
          · have r77 := ite_t h74 c76; clear h74
            refine shW_region ?_
            refine ov (v_move rfl) rfl ?_
            obtain ⟨g78, r79⟩ := gd_ok r77; clear r77
            refine ov (v_negT rfl g78) rfl ?_
            refine ov (v_assign rfl) rfl ?_
            refine shO_nil ?_
            refine inBlock_n (id := 0) ?_
            obtain rfl := inj1 r79
            refine meet_i (L2 := [(b1, .cells #[.int .i64 wide, .slice plots_a plots.length plots_c] 32 (0, 0))]) (L3 := [(b1, .cells #[.int .i64 wide, .slice plots_a plots.length plots_c] 32 (0, 0))]) (List.Perm.refl _) (List.Sublist.refl _) ?_
            exact ⟨rfl, rfl, (sc rfl (sc rfl (sc rfl (sn _))))⟩
          · have r80 := ite_f h74 c76; clear h74
            refine shW_seq ?_
            refine shW_region ?_
            refine ov (v_eql rfl rfl) rfl ?_
            refine ov (v_assign rfl) rfl ?_
            refine shO_nil ?_
            refine shW_condP rfl (fun c81 => ?_) (fun c81 => ?_)
            · have r82 := ite_t r80 c81; clear r80
              refine shW_region ?_
              refine ov (v_move rfl) rfl ?_
              refine ov (v_assign rfl) rfl ?_
              refine shO_nil ?_
              refine inBlock_n (id := 0) ?_
              obtain rfl := inj1 r82
              refine meet_i (L2 := [(b1, .cells #[.int .i64 wide, .slice plots_a plots.length plots_c] 32 (0, 0))]) (L3 := [(b1, .cells #[.int .i64 wide, .slice plots_a plots.length plots_c] 32 (0, 0))]) (List.Perm.refl _) (List.Sublist.refl _) ?_
              exact ⟨rfl, rfl, (sc rfl (sc rfl (sc rfl (sn _))))⟩
            · have r83 := ite_f r80 c81; clear r80
              refine shW_seq ?_
              refine shW_region ?_
              refine ov (v_eql rfl rfl) rfl ?_
              refine ov (v_assign rfl) rfl ?_
              refine shO_nil ?_
              refine shW_condP rfl (fun c84 => ?_) (fun c84 => ?_)
              · have r85 := ite_t r83 c84; clear r83
                refine shW_region ?_
                refine ov (v_move rfl) rfl ?_
                refine ov (v_assign rfl) rfl ?_
                refine shO_nil ?_
                refine inBlock_n (id := 0) ?_
                obtain rfl := inj1 r85
                refine meet_i (L2 := [(b1, .cells #[.int .i64 wide, .slice plots_a plots.length plots_c] 32 (0, 0))]) (L3 := [(b1, .cells #[.int .i64 wide, .slice plots_a plots.length plots_c] 32 (0, 0))]) (List.Perm.refl _) (List.Sublist.refl _) ?_
                exact ⟨rfl, rfl, (sc rfl (sc rfl (sc rfl (sn _))))⟩
              · have r86 := ite_f r83 c84; clear r83
                refine shW_seq ?_
                refine shW_region ?_
                refine ov (v_eql rfl rfl) rfl ?_
                refine ov (v_assign rfl) rfl ?_
                refine shO_nil ?_
                refine shW_condP rfl (fun c87 => ?_) (fun c87 => ?_)
                · have r88 := ite_t r86 c87; clear r86
                  refine shW_region ?_
                  refine ov (v_move rfl) rfl ?_
                  obtain ⟨g89, r90⟩ := gd_ok r88; clear r88
                  refine ov (v_negT rfl g89) rfl ?_
                  refine ov (v_assign rfl) rfl ?_
                  refine shO_nil ?_
                  refine inBlock_n (id := 0) ?_
                  obtain rfl := inj1 r90
                  refine meet_i (L2 := [(b1, .cells #[.int .i64 wide, .slice plots_a plots.length plots_c] 32 (0, 0))]) (L3 := [(b1, .cells #[.int .i64 wide, .slice plots_a plots.length plots_c] 32 (0, 0))]) (List.Perm.refl _) (List.Sublist.refl _) ?_
                  exact ⟨rfl, rfl, (sc rfl (sc rfl (sc rfl (sn _))))⟩
                · have r91 := ite_f r86 c87; clear r86
                  refine shW_skip ?_
                  refine inBlock_n (id := 0) ?_
                  obtain rfl := inj1 r91
                  refine meet_i (L2 := [(b1, .cells #[.int .i64 wide, .slice plots_a plots.length plots_c] 32 (0, 0))]) (L3 := [(b1, .cells #[.int .i64 wide, .slice plots_a plots.length plots_c] 32 (0, 0))]) (List.Perm.refl _) (List.Sublist.refl _) ?_
                  exact ⟨rfl, rfl, (sc rfl (sc rfl (sc rfl (sn _))))⟩
        · rintro e1 _ _ ⟨rfl, rfl, he92⟩
          refine shW_env _ he92 ?_; clear he92
          refine shW_seq ?_
          refine shW_region ?_
          refine ov (v_assign rfl) rfl ?_
          refine shO_nil ?_
          obtain ⟨n, h93, r94⟩ := b1_ok r75; clear r75
          refine shW_join (fun e1 F1 L1 => F = F1 ∧ L1 = [(b1, .cells #[.int .i64 wide, .slice plots_a plots.length plots_c] 32 (0, 0))] ∧ e1.sub [(3, .int .i64 q), (4, .pointer (some ⟨b1, 0, none⟩)), (11, .int .i64 along), (12, .int .i64 n)]) ?_ ?_
          · clear r94
            refine shW_seq ?_
            refine shW_region ?_
            refine ov (v_move rfl) rfl ?_
            refine ov (v_eql rfl rfl) rfl ?_
            refine shO_nil ?_
            refine shW_condP rfl (fun c95 => ?_) (fun c95 => ?_)
            · have r96 := ite_t h93 c95; clear h93
              refine shW_region ?_
              refine ov (v_assign rfl) rfl ?_
              refine shO_nil ?_
              obtain rfl := inj1 r96
              refine meet_i (L2 := [(b1, .cells #[.int .i64 wide, .slice plots_a plots.length plots_c] 32 (0, 0))]) (L3 := [(b1, .cells #[.int .i64 wide, .slice plots_a plots.length plots_c] 32 (0, 0))]) (List.Perm.refl _) (List.Sublist.refl _) ?_
              exact ⟨rfl, rfl, (sc rfl (sc rfl (sc rfl (sc rfl (sn _)))))⟩
            · have r97 := ite_f h93 c95; clear h93
              refine shW_skip ?_
              obtain rfl := inj1 r97
              refine meet_i (L2 := [(b1, .cells #[.int .i64 wide, .slice plots_a plots.length plots_c] 32 (0, 0))]) (L3 := [(b1, .cells #[.int .i64 wide, .slice plots_a plots.length plots_c] 32 (0, 0))]) (List.Perm.refl _) (List.Sublist.refl _) ?_
              exact ⟨rfl, rfl, (sc rfl (sc rfl (sc rfl (sc rfl (sn _)))))⟩
          · rintro e1 _ _ ⟨rfl, rfl, he98⟩
            refine shW_env _ he98 ?_; clear he98
            obtain ⟨n2, h99, r100⟩ := b1_ok r94; clear r94
            refine shW_join (fun e1 F1 L1 => F = F1 ∧ L1 = [(b1, .cells #[.int .i64 wide, .slice plots_a plots.length plots_c] 32 (0, 0))] ∧ e1.sub [(3, .int .i64 q), (4, .pointer (some ⟨b1, 0, none⟩)), (12, .int .i64 n2)]) ?_ ?_
            · clear r100
              refine shW_seq ?_
              refine shW_region ?_
              refine ov (v_move rfl) rfl ?_
              refine ov (v_eql rfl rfl) rfl ?_
              refine shO_nil ?_
              refine shW_condP rfl (fun c101 => ?_) (fun c101 => ?_)
              · have r102 := ite_t h99 c101; clear h99
                refine shW_region ?_
                refine ov (v_assign rfl) rfl ?_
                refine shO_nil ?_
                obtain rfl := inj1 r102
                refine meet_i (L2 := [(b1, .cells #[.int .i64 wide, .slice plots_a plots.length plots_c] 32 (0, 0))]) (L3 := [(b1, .cells #[.int .i64 wide, .slice plots_a plots.length plots_c] 32 (0, 0))]) (List.Perm.refl _) (List.Sublist.refl _) ?_
                exact ⟨rfl, rfl, (sc rfl (sc rfl (sc rfl (sn _))))⟩
              · have r103 := ite_f h99 c101; clear h99
                refine shW_skip ?_
                obtain rfl := inj1 r103
                refine meet_i (L2 := [(b1, .cells #[.int .i64 wide, .slice plots_a plots.length plots_c] 32 (0, 0))]) (L3 := [(b1, .cells #[.int .i64 wide, .slice plots_a plots.length plots_c] 32 (0, 0))]) (List.Perm.refl _) (List.Sublist.refl _) ?_
                exact ⟨rfl, rfl, (sc rfl (sc rfl (sc rfl (sn _))))⟩
            · rintro e1 _ _ ⟨rfl, rfl, he104⟩
              refine shW_env _ he104 ?_; clear he104
              refine shW_seq ?_
              refine shW_region ?_
              refine ov (v_move rfl) rfl ?_
              refine ov (v_fieldAddr fa_32_1 rfl) rfl ?_
              refine ov (v_load Try.isAgg26 rfl (Has.own 0 rfl) rfl) rfl ?_
              refine ov (v_move rfl) rfl ?_
              obtain ⟨x3, g105, hx106, r107⟩ := ix_ok r100; clear r100
              obtain ⟨b108, o109, c110, vs111, ha112, hs113, hle114, rfl, hl115, hc116⟩ := RowR.at (iE_ok _) h_plots ([(b1, .cells #[.int .i64 wide, .slice plots_a plots.length plots_c] 32 (0, 0))]) g105.1 hx106
              refine ov (v_indexO Try.underlying26 Try.sizeOf3 rfl ha112 rfl g105) rfl ?_
              refine ov (v_load Try.isAgg3 rfl hs113 (hc116 0 (by decide))) rfl ?_
              refine ov (v_remT rfl rfl (by decide)) rfl ?_
              obtain ⟨g117, r118⟩ := gd_ok r107; clear r107
              refine ov (v_add rfl rfl g117) rfl ?_
              refine ov (v_assign rfl) rfl ?_
              refine shO_nil ?_
              refine shW_drop (L' := []) ((List.Sublist.cons _ (List.Sublist.refl _))) ?_
              refine shW_ret ?_
              refine q_res1 Try.results82 (res_tmp rfl) (List.Sublist.refl _) ?_
              obtain rfl := inj1 r118
              exact rfl


set_option maxHeartbeats 1000000 in
theorem oyezref01_Needs_w {wide : Int} {plots_a : Option Addr} {plots_c : Nat} {plots : List Int} {wind : Int} {stand : Int} {F : FS} (h_plots : RowR 1 (iE .i64) F plots_a plots_c plots) {r : List Int} {r2 : Int} (hr : oyezref01_Needs wide plots wind stand = some (r, r2)) :
    SH.Spec Try.prog 22 #[.agg #[.int .i64 wide, .slice plots_a plots.length plots_c], .int .i64 wind, .int .i64 stand] F [] fun F' L' v => ∃ (ra : Option Addr) (rn : Nat) (rc : Nat) (rL : LH), v = .tuple #[.slice ra rn rc, .int .i64 r2] ∧ L' = rL ++ [] ∧ SlR 0 3 1 (iE .i64) F' ra rn rc r rL := by
  refine spec_of_shW (args := [.agg #[.int .i64 wide, .slice plots_a plots.length plots_c], .int .i64 wind, .int .i64 stand]) Try.func22 rfl Try.ntmps22 (Nat.le_of_ble_eq_true rfl) ?_
  intro K _ _; rw [oyezref01_Needs] at hr
  refine shW_seq ?_
  refine shW_region ?_
  refine o_box rfl rfl ?_; intro b1 hb1
  refine ov (v_assign rfl) rfl ?_
  refine ov (v_assign rfl) rfl ?_
  refine shO_nil ?_
  refine shW_seq ?_
  refine shW_seq ?_
  refine shW_region ?_
  refine ov (v_loadA (cs := #[.int .i64 wide, .slice plots_a plots.length plots_c]) Try.isAgg32 Try.sizeOf32 rfl (Has.own 0 rfl) (Nat.le_of_ble_eq_true rfl) rfl) rfl ?_
  refine ov (v_move rfl) rfl ?_
  refine ov (v_move rfl) rfl ?_
  obtain ⟨n, h2, r3⟩ := b1_ok hr; clear hr
  refine o_callV rfl Try.call81 rfl rfl rfl (oyezref01_Stand_w h_plots h2) ?_
  refine ov (v_assign rfl) rfl ?_
  refine shO_nil ?_
  refine shW_seq ?_
  refine shW_region ?_
  refine ov (v_move rfl) rfl ?_
  refine ov (v_neq rfl rfl) rfl ?_
  refine shO_nil ?_
  refine shW_condP rfl (fun c4 => ?_) (fun c4 => ?_)
  · have r5 := ite_t r3 c4; clear r3
    refine shW_seq ?_
    refine shW_region ?_
    refine ov (v_move rfl) rfl ?_
    refine ov (v_assign rfl) rfl ?_
    refine ov (v_assign rfl) rfl ?_
    refine shO_nil ?_
    refine shW_drop (L' := []) ((List.Sublist.cons _ (List.Sublist.refl _))) ?_
    refine shW_ret ?_
    refine andThen_ret ?_
    refine q_res2 Try.results22 (res_tmp rfl) (res_tmp rfl) (List.Sublist.refl _) ?_
    obtain ⟨rfl, rfl⟩ := inj2 r5
    exact ⟨_, _, _, [], rfl, rfl, SlR.nil _ _ _ _ _⟩
  · have r6 := ite_f r3 c4; clear r3
    refine shW_skip ?_
    refine shW_seq ?_
    refine shW_region ?_
    refine ov (v_fieldAddr fa_32_1 rfl) rfl ?_
    refine ov (v_load Try.isAgg26 rfl (Has.own 0 rfl) rfl) rfl ?_
    refine ov (v_lenS Try.underlying26 rfl) rfl ?_
    obtain ⟨g7, r8⟩ := gd_ok r6; clear r6
    obtain ⟨l, h9, r10⟩ := bv_ok r8; clear r8
    refine o_makeZ (R := (iE .i64)) (z0 := 0) (zs := l) rfl slt_26 (by decide) (iE_ok _) (fun _ => rfl) rfl g7 h9 (fun _ => .c .n) ?_; intro a11 n14 Lb12 hz13
    refine ov (v_assign rfl) rfl ?_
    refine shO_nil ?_
    obtain ⟨out, h18, r19⟩ := b1_ok r10; clear r10
    refine shW_join (fun e1 F1 L1 => ∃ (Lb16 : LH), F = F1 ∧ L1 = ((b1, .cells #[.int .i64 wide, .slice plots_a plots.length plots_c] 32 (0, 0)) :: (Lb16 ++ [])) ∧ e1.sub [(1, .int .i64 wind), (2, .int .i64 stand), (3, .pointer (some ⟨b1, 0, none⟩)), (9, .slice a11 n14 n14)] ∧ SlR K.w0.heap.size 3 1 (iE .i64) F1 a11 n14 n14 out Lb16) ?_ ?_
    · clear r19
      refine shW_seq ?_
      refine shW_region ?_
      refine ov (v_assign rfl) rfl ?_
      refine shO_nil ?_
      refine shW_block ?_
      refine shW_lp (fun fu1 e1 F1 L1 => ∃ (out2 : List Int) (p : Int) (Lb20 : LH), oyezref01_Needs_l1 fu1 out2 p = some out ∧ F = F1 ∧ L1 = ((b1, .cells #[.int .i64 wide, .slice plots_a plots.length plots_c] 32 (0, 0)) :: (Lb20 ++ [])) ∧ e1.sub [(1, .int .i64 wind), (2, .int .i64 stand), (3, .pointer (some ⟨b1, 0, none⟩)), (9, .slice a11 n14 n14), (10, .int .i64 p)] ∧ SlR K.w0.heap.size 3 1 (iE .i64) F1 a11 n14 n14 out2 Lb20) FU (meet_0 (L2 := (b1, .cells #[.int .i64 wide, .slice plots_a plots.length plots_c] 32 (0, 0)) :: (Lb12 ++ [])) (L3 := (b1, .cells #[.int .i64 wide, .slice plots_a plots.length plots_c] 32 (0, 0)) :: (Lb12 ++ [])) (List.Perm.refl _) (List.Sublist.refl _) ⟨l, 0, Lb12, h18, rfl, rfl, (sc rfl (sc rfl (sc rfl (sc rfl (sc rfl (sn _)))))), hz13⟩) ?_
      rintro fu1 e1 _ _ ⟨out2, p, Lb20, r24, rfl, rfl, he25, hz21⟩
      refine shW_env _ he25 ?_; clear he25
      rcases fu1 with _ | fu1
      · rw [oyezref01_Needs_l1] at r24; cases r24
      rw [oyezref01_Needs_l1] at r24
      refine shW_seq ?_
      refine shW_seq ?_
      refine shW_region ?_
      refine ov (v_move rfl) rfl ?_
      refine ov (v_move rfl) rfl ?_
      refine ov ((v_lenS Try.underlying26 rfl).i (SlR.lenI hz21)) rfl ?_
      refine ov (v_lssK rfl rfl) rfl ?_
      refine shO_nil ?_
      refine shW_condP rfl (fun c26 => ?_) (fun c26 => ?_)
      · have r27 := ite_t r24 c26; clear r24
        refine shW_skip ?_
        refine shW_seq ?_
        refine shW_block ?_
        refine shW_region ?_
        refine ov (v_move rfl) rfl ?_
        refine ov (v_move rfl) rfl ?_
        obtain ⟨x, g28, hx29, r30⟩ := ix_ok r27; clear r27
        obtain ⟨b31, o32, c33, vs34, ha35, hs36, hle37, rfl, hl38, hc39⟩ := SlR.at (iE_ok _) hz21 (L := (b1, .cells #[.int .i64 wide, .slice plots_a plots.length plots_c] 32 (0, 0)) :: (Lb20 ++ [])) (frontC (List.Perm.refl _)) g28.1 hx29
        refine ov (v_indexO Try.underlying26 Try.sizeOf3 rfl ha35 rfl (SlR.idx hz21 g28)) rfl ?_
        obtain ⟨out3, h40, r41⟩ := bv_ok r30; clear r30
        refine o_storeZ (u := -1) Try.sizeOf3 (iE_ok _) rfl ha35 rfl rfl (fun _ => .c .h) hz21 h40 g28 ?_; intro Lb42 hz43
        refine shO_nil ?_
        refine inBlock_n (id := 1) ?_
        refine shW_region ?_
        refine ov (v_move rfl) rfl ?_
        obtain ⟨g44, r45⟩ := gd_ok r41; clear r41
        refine ov (v_add rfl rfl g44) rfl ?_
        refine ov (v_assign rfl) rfl ?_
        refine shO_nil ?_
        exact lp_end (Nat.lt_succ_self _) (meet_0 (L2 := (b1, .cells #[.int .i64 wide, .slice plots_a plots.length plots_c] 32 (0, 0)) :: (Lb42 ++ [])) (L3 := (b1, .cells #[.int .i64 wide, .slice plots_a plots.length plots_c] 32 (0, 0)) :: (Lb42 ++ [])) (List.Perm.refl _) (List.Sublist.refl _) ⟨out3, p + 1, Lb42, r45, rfl, rfl, (sc rfl (sc rfl (sc rfl (sc rfl (sc rfl (sn _)))))), hz43⟩)
      · have r46 := ite_f r24 c26; clear r24
        refine shW_exit ?_
        refine andThen_exit ?_
        refine andThen_exit ?_
        refine inBlock_exit ?_
        obtain rfl := inj1 r46
        refine meet_i (L2 := (b1, .cells #[.int .i64 wide, .slice plots_a plots.length plots_c] 32 (0, 0)) :: (Lb20 ++ [])) (L3 := (b1, .cells #[.int .i64 wide, .slice plots_a plots.length plots_c] 32 (0, 0)) :: (Lb20 ++ [])) (List.Perm.refl _) (List.Sublist.refl _) ?_
        exact ⟨Lb20, rfl, rfl, (sc rfl (sc rfl (sc rfl (sc rfl (sn _))))), hz21⟩
    · rintro e1 _ _ ⟨Lb16, rfl, rfl, he47, hz17⟩
      refine shW_env _ he47 ?_; clear he47
      refine shW_seq ?_
      refine shW_region ?_
      refine ov (v_move rfl) rfl ?_
      refine ov (v_move rfl) rfl ?_
      obtain ⟨x2, g48, hx49, r50⟩ := ix_ok r19; clear r19
      obtain ⟨b51, o52, c53, vs54, ha55, hs56, hle57, rfl, hl58, hc59⟩ := SlR.at (iE_ok _) hz17 (L := (b1, .cells #[.int .i64 wide, .slice plots_a plots.length plots_c] 32 (0, 0)) :: (Lb16 ++ [])) (frontC (List.Perm.refl _)) g48.1 hx49
      refine ov (v_indexO Try.underlying26 Try.sizeOf3 rfl ha55 rfl (SlR.idx hz17 g48)) rfl ?_
      obtain ⟨out4, h60, r61⟩ := bv_ok r50; clear r50
      refine o_storeZ (u := 0) Try.sizeOf3 (iE_ok _) rfl ha55 rfl rfl (fun _ => .c .h) hz17 h60 g48 ?_; intro Lb62 hz63
      refine shO_nil ?_
      obtain ⟨out5, h66, r67⟩ := b1_ok r61; clear r61
      refine shW_join (fun e1 F1 L1 => ∃ (Lb64 : LH), F = F1 ∧ L1 = (Lb64 ++ []) ∧ e1.sub [(9, .slice a11 n14 n14)] ∧ SlR K.w0.heap.size 3 1 (iE .i64) F1 a11 n14 n14 out5 Lb64) ?_ ?_
      · clear r67
        refine shW_seq ?_
        refine shW_region ?_
        refine ov (v_assign rfl) rfl ?_
        refine shO_nil ?_
        refine shW_block ?_
        refine shW_lp (fun fu2 e1 F1 L1 => ∃ (out6 : List Int) (changed : Bool) (Lb68 : LH), oyezref01_Needs_l2 wide plots wind fu2 out6 changed = some out5 ∧ F = F1 ∧ L1 = ((b1, .cells #[.int .i64 wide, .slice plots_a plots.length plots_c] 32 (0, 0)) :: (Lb68 ++ [])) ∧ e1.sub [(1, .int .i64 wind), (3, .pointer (some ⟨b1, 0, none⟩)), (9, .slice a11 n14 n14), (11, .bool changed)] ∧ SlR K.w0.heap.size 3 1 (iE .i64) F1 a11 n14 n14 out6 Lb68) FU (meet_0 (L2 := (b1, .cells #[.int .i64 wide, .slice plots_a plots.length plots_c] 32 (0, 0)) :: (Lb62 ++ [])) (L3 := (b1, .cells #[.int .i64 wide, .slice plots_a plots.length plots_c] 32 (0, 0)) :: (Lb62 ++ [])) (List.Perm.refl _) (List.Sublist.refl _) ⟨out4, true, Lb62, h66, rfl, rfl, (sc rfl (sc rfl (sc rfl (sc rfl (sn _))))), hz63⟩) ?_
        rintro fu2 e1 _ _ ⟨out6, changed, Lb68, r72, rfl, rfl, he73, hz69⟩
        refine shW_env _ he73 ?_; clear he73
        rcases fu2 with _ | fu2
        · rw [oyezref01_Needs_l2] at r72; cases r72
        rw [oyezref01_Needs_l2] at r72
        refine shW_seq ?_
        refine shW_seq ?_
        refine shW_region ?_
        refine ov (v_move rfl) rfl ?_
        refine shO_nil ?_
        refine shW_cond rfl (fun c74 => ?_) (fun c74 => ?_)
        · have r75 := bt r72 c74; clear r72
          refine shW_skip ?_
          refine shW_block ?_
          refine shW_seq ?_
          refine shW_region ?_
          refine ov (v_assign rfl) rfl ?_
          refine shO_nil ?_
          refine shW_seq ?_
          refine shW_region ?_
          refine ov (v_assign rfl) rfl ?_
          refine shO_nil ?_
          refine shW_block ?_
          refine shW_lp (fun fu3 e1 F1 L1 => ∃ (out7 : List Int) (changed2 : Bool) (p2 : Int) (Lb76 : LH), oyezref01_Needs_l3 wide plots wind (oyezref01_Needs_l2 wide plots wind fu2) fu3 out7 changed2 p2 = some out5 ∧ F = F1 ∧ L1 = ((b1, .cells #[.int .i64 wide, .slice plots_a plots.length plots_c] 32 (0, 0)) :: (Lb76 ++ [])) ∧ e1.sub [(1, .int .i64 wind), (3, .pointer (some ⟨b1, 0, none⟩)), (9, .slice a11 n14 n14), (11, .bool changed2), (12, .int .i64 p2)] ∧ SlR K.w0.heap.size 3 1 (iE .i64) F1 a11 n14 n14 out7 Lb76) FU (meet_0 (L2 := (b1, .cells #[.int .i64 wide, .slice plots_a plots.length plots_c] 32 (0, 0)) :: (Lb68 ++ [])) (L3 := (b1, .cells #[.int .i64 wide, .slice plots_a plots.length plots_c] 32 (0, 0)) :: (Lb68 ++ [])) (List.Perm.refl _) (List.Sublist.refl _) ⟨out6, false, 0, Lb68, r75, rfl, rfl, (sc rfl (sc rfl (sc rfl (sc rfl (sc rfl (sn _)))))), hz69⟩) ?_
          rintro fu3 e1 _ _ ⟨out7, changed2, p2, Lb76, r80, rfl, rfl, he81, hz77⟩
          refine shW_env _ he81 ?_; clear he81
          rcases fu3 with _ | fu3
          · rw [oyezref01_Needs_l3] at r80; cases r80
          rw [oyezref01_Needs_l3] at r80
          refine shW_seq ?_
          refine shW_seq ?_
          refine shW_region ?_
          refine ov (v_move rfl) rfl ?_
          refine ov (v_move rfl) rfl ?_
          refine ov ((v_lenS Try.underlying26 rfl).i (SlR.lenI hz77)) rfl ?_
          refine ov (v_lssK rfl rfl) rfl ?_
          refine shO_nil ?_
          refine shW_condP rfl (fun c82 => ?_) (fun c82 => ?_)
          · have r83 := ite_t r80 c82; clear r80
            refine shW_skip ?_
            obtain ⟨out8, changed3, h86, r87⟩ := b2_ok r83; clear r83
            refine shW_join (fun e1 F1 L1 => ∃ (Lb84 : LH), F = F1 ∧ L1 = ((b1, .cells #[.int .i64 wide, .slice plots_a plots.length plots_c] 32 (0, 0)) :: (Lb84 ++ [])) ∧ e1.sub [(1, .int .i64 wind), (3, .pointer (some ⟨b1, 0, none⟩)), (9, .slice a11 n14 n14), (11, .bool changed3), (12, .int .i64 p2)] ∧ SlR K.w0.heap.size 3 1 (iE .i64) F1 a11 n14 n14 out8 Lb84) ?_ ?_
            · clear r87
              refine shW_block ?_
              refine shW_seq ?_
              refine shW_region ?_
              refine ov (v_assign rfl) rfl ?_
              refine shO_nil ?_
              refine shW_block ?_
              refine shW_lp (fun fu4 e1 F1 L1 => ∃ (out9 : List Int) (changed4 : Bool) (q : Int) (Lb88 : LH), oyezref01_Needs_l4 wide plots wind p2 fu4 out9 changed4 q = some (out8, changed3) ∧ F = F1 ∧ L1 = ((b1, .cells #[.int .i64 wide, .slice plots_a plots.length plots_c] 32 (0, 0)) :: (Lb88 ++ [])) ∧ e1.sub [(1, .int .i64 wind), (3, .pointer (some ⟨b1, 0, none⟩)), (9, .slice a11 n14 n14), (11, .bool changed4), (12, .int .i64 p2), (13, .int .i64 q)] ∧ SlR K.w0.heap.size 3 1 (iE .i64) F1 a11 n14 n14 out9 Lb88) FU (meet_0 (L2 := (b1, .cells #[.int .i64 wide, .slice plots_a plots.length plots_c] 32 (0, 0)) :: (Lb76 ++ [])) (L3 := (b1, .cells #[.int .i64 wide, .slice plots_a plots.length plots_c] 32 (0, 0)) :: (Lb76 ++ [])) (List.Perm.refl _) (List.Sublist.refl _) ⟨out7, changed2, 0, Lb76, h86, rfl, rfl, (sc rfl (sc rfl (sc rfl (sc rfl (sc rfl (sc rfl (sn _))))))), hz77⟩) ?_
              rintro fu4 e1 _ _ ⟨out9, changed4, q, Lb88, r92, rfl, rfl, he93, hz89⟩
              refine shW_env _ he93 ?_; clear he93
              rcases fu4 with _ | fu4
              · rw [oyezref01_Needs_l4] at r92; cases r92
              rw [oyezref01_Needs_l4] at r92
              refine shW_seq ?_
              refine shW_seq ?_
              refine shW_region ?_
              refine ov (v_move rfl) rfl ?_
              refine ov (v_move rfl) rfl ?_
              refine ov ((v_lenS Try.underlying26 rfl).i (SlR.lenI hz89)) rfl ?_
              refine ov (v_lssK rfl rfl) rfl ?_
              refine shO_nil ?_
              refine shW_condP rfl (fun c94 => ?_) (fun c94 => ?_)
              · have r95 := ite_t r92 c94; clear r92
                refine shW_skip ?_
                refine shW_seq ?_
                refine shW_block ?_
                refine shW_seq ?_
                refine shW_region ?_
                refine ov (v_loadA (cs := #[.int .i64 wide, .slice plots_a plots.length plots_c]) Try.isAgg32 Try.sizeOf32 rfl (Has.own 0 rfl) (Nat.le_of_ble_eq_true rfl) rfl) rfl ?_
                refine ov (v_move rfl) rfl ?_
                refine ov (v_move rfl) rfl ?_
                refine ov (v_move rfl) rfl ?_
                obtain ⟨n2, h96, r97⟩ := b1_ok r95; clear r95
                refine o_callV rfl Try.call82 rfl rfl rfl (oyezref01_Step_w h_plots h96) ?_
                refine ov (v_assign rfl) rfl ?_
                refine shO_nil ?_
                obtain ⟨k, h98, r99⟩ := b1_ok r97; clear r97
                refine shW_join (fun e1 F1 L1 => F = F1 ∧ L1 = ((b1, .cells #[.int .i64 wide, .slice plots_a plots.length plots_c] 32 (0, 0)) :: (Lb88 ++ [])) ∧ e1.sub [(1, .int .i64 wind), (3, .pointer (some ⟨b1, 0, none⟩)), (9, .slice a11 n14 n14), (11, .bool changed4), (12, .int .i64 p2), (13, .int .i64 q), (14, .int .i64 n2), (84, .bool k)]) ?_ ?_
                · clear r99
                  refine shW_draw (by kernel_rfl) (by kernel_rfl) (by kernel_rfl) ?_
                  refine qv (v_move rfl) rfl ?_
                  refine qv (v_gtrK rfl rfl) rfl ?_
                  refine qv (v_move rfl) rfl ?_
                  by_cases c100 : 0 < n2
                  · have r101 := ite_t h98 c100; clear h98
                    refine shQ_on (b := true) 58 rfl (Env.isT rfl c100) ?_
                    refine qv (v_move rfl) rfl ?_
                    refine shQ_on (b := true) 58 rfl (Env.isT rfl c100) ?_
                    refine qv (v_move rfl) rfl ?_
                    refine shQ_on (b := true) 58 rfl (Env.isT rfl c100) ?_
                    obtain ⟨x3, g102, hx103, r104⟩ := ix_ok r101; clear r101
                    obtain ⟨b105, o106, c107, vs108, ha109, hs110, hle111, rfl, hl112, hc113⟩ := SlR.at (iE_ok _) hz89 (L := (b1, .cells #[.int .i64 wide, .slice plots_a plots.length plots_c] 32 (0, 0)) :: (Lb88 ++ [])) (frontC (List.Perm.refl _)) g102.1 hx103
                    refine qv (v_indexO Try.underlying26 Try.sizeOf3 rfl ha109 rfl (SlR.idx hz89 g102)) rfl ?_
                    refine shQ_on (b := true) 58 rfl (Env.isT rfl c100) ?_
                    refine qv (v_load Try.isAgg3 rfl hs110 (hc113 0 (by decide))) rfl ?_
                    refine shQ_on (b := true) 58 rfl (Env.isT rfl c100) ?_
                    refine qv (v_geqK rfl rfl) rfl ?_
                    refine qv (v_pick_t (evD_true rfl c100) rfl) rfl ?_
                    refine qv (v_move rfl) rfl ?_
                    by_cases c114 : 0 ≤ x3
                    · have r115 := ite_t r104 c114; clear r104
                      refine shQ_on (b := true) 65 rfl (Env.isT rfl c114) ?_
                      refine qv (v_move rfl) rfl ?_
                      refine shQ_on (b := true) 65 rfl (Env.isT rfl c114) ?_
                      refine qv (v_move rfl) rfl ?_
                      refine shQ_on (b := true) 65 rfl (Env.isT rfl c114) ?_
                      obtain ⟨x4, g116, hx117, r118⟩ := ix_ok r115; clear r115
                      obtain ⟨b119, o120, c121, vs122, ha123, hs124, hle125, rfl, hl126, hc127⟩ := SlR.at (iE_ok _) hz89 (L := (b1, .cells #[.int .i64 wide, .slice plots_a plots.length plots_c] 32 (0, 0)) :: (Lb88 ++ [])) (frontC (List.Perm.refl _)) g116.1 hx117
                      refine qv (v_indexO Try.underlying26 Try.sizeOf3 rfl ha123 rfl (SlR.idx hz89 g116)) rfl ?_
                      refine shQ_on (b := true) 65 rfl (Env.isT rfl c114) ?_
                      refine qv (v_load Try.isAgg3 rfl hs124 (hc127 0 (by decide))) rfl ?_
                      refine shQ_on (b := true) 65 rfl (Env.isT rfl c114) ?_
                      refine qv (v_lssK rfl rfl) rfl ?_
                      refine shQ_on (b := true) 65 rfl (Env.isT rfl c114) ?_
                      refine qv (v_move rfl) rfl ?_
                      by_cases c128 : x4 < 0
                      · have r129 := ite_t r118 c128; clear r118
                        refine shQ_off (b' := true) 71 rfl (Env.isT rfl c128) rfl rfl ?_
                        refine shQ_off (b' := true) 71 rfl (Env.isT rfl c128) rfl rfl ?_
                        refine shQ_off (b' := true) 71 rfl (Env.isT rfl c128) rfl rfl ?_
                        refine shQ_off (b' := true) 71 rfl (Env.isT rfl c128) rfl rfl ?_
                        refine shQ_off (b' := true) 71 rfl (Env.isT rfl c128) rfl rfl ?_
                        refine shQ_off (b' := true) 71 rfl (Env.isT rfl c128) rfl rfl ?_
                        refine shQ_off (b' := true) 71 rfl (Env.isT rfl c128) rfl rfl ?_
                        refine shQ_off (b' := true) 71 rfl (Env.isT rfl c128) rfl rfl ?_
                        refine shQ_off (b' := true) 71 rfl (Env.isT rfl c128) rfl rfl ?_
                        refine shQ_off (b' := true) 71 rfl (Env.isT rfl c128) rfl rfl ?_
                        refine shQ_off (b' := true) 71 rfl (Env.isT rfl c128) rfl rfl ?_
                        refine shQ_on (b := true) 65 rfl (Env.isT rfl c114) ?_
                        refine qv (v_pick_t (evD_true rfl c128) rfl) rfl ?_
                        refine qv (v_pick_t (evD_true rfl c114) rfl) rfl ?_
                        refine shQ_nil ?_
                        obtain rfl := inj1 r129
                        refine meet_i (L2 := (b1, .cells #[.int .i64 wide, .slice plots_a plots.length plots_c] 32 (0, 0)) :: (Lb88 ++ [])) (L3 := (b1, .cells #[.int .i64 wide, .slice plots_a plots.length plots_c] 32 (0, 0)) :: (Lb88 ++ [])) (List.Perm.refl _) (List.Sublist.refl _) ?_
                        exact ⟨rfl, rfl, (sc rfl (sc rfl (sc rfl (sc rfl (sc rfl (sc rfl (sc rfl (sc rfl (sn _)))))))))⟩
                      · have r130 := ite_f r118 c128; clear r118
                        refine shQ_on (b := false) 71 rfl (Env.isF rfl c128) ?_
                        refine qv (v_move rfl) rfl ?_
                        refine shQ_on (b := false) 71 rfl (Env.isF rfl c128) ?_
                        refine qv (v_move rfl) rfl ?_
                        refine shQ_on (b := false) 71 rfl (Env.isF rfl c128) ?_
                        obtain ⟨b131, o132, c133, vs134, ha135, hs136, hle137, rfl, hl138, hc139⟩ := SlR.at (iE_ok _) hz89 (L := (b1, .cells #[.int .i64 wide, .slice plots_a plots.length plots_c] 32 (0, 0)) :: (Lb88 ++ [])) (frontC (List.Perm.refl _)) g102.1 hx103
                        refine qv (v_indexO Try.underlying26 Try.sizeOf3 rfl ha135 rfl (SlR.idx hz89 g102)) rfl ?_
                        refine shQ_on (b := false) 71 rfl (Env.isF rfl c128) ?_
                        refine qv (v_load Try.isAgg3 rfl hs136 (hc139 0 (by decide))) rfl ?_
                        refine shQ_on (b := false) 71 rfl (Env.isF rfl c128) ?_
                        refine qv (v_move rfl) rfl ?_
                        refine shQ_on (b := false) 71 rfl (Env.isF rfl c128) ?_
                        obtain ⟨g140, r141⟩ := gd_ok r130; clear r130
                        refine qv (v_add rfl rfl g140) rfl ?_
                        refine shQ_on (b := false) 71 rfl (Env.isF rfl c128) ?_
                        refine qv (v_move rfl) rfl ?_
                        refine shQ_on (b := false) 71 rfl (Env.isF rfl c128) ?_
                        refine qv (v_move rfl) rfl ?_
                        refine shQ_on (b := false) 71 rfl (Env.isF rfl c128) ?_
                        obtain ⟨b142, o143, c144, vs145, ha146, hs147, hle148, rfl, hl149, hc150⟩ := SlR.at (iE_ok _) hz89 (L := (b1, .cells #[.int .i64 wide, .slice plots_a plots.length plots_c] 32 (0, 0)) :: (Lb88 ++ [])) (frontC (List.Perm.refl _)) g116.1 hx117
                        refine qv (v_indexO Try.underlying26 Try.sizeOf3 rfl ha146 rfl (SlR.idx hz89 g116)) rfl ?_
                        refine shQ_on (b := false) 71 rfl (Env.isF rfl c128) ?_
                        refine qv (v_load Try.isAgg3 rfl hs147 (hc150 0 (by decide))) rfl ?_
                        refine shQ_on (b := false) 71 rfl (Env.isF rfl c128) ?_
                        refine qv (v_lssK rfl rfl) rfl ?_
                        refine shQ_on (b := true) 65 rfl (Env.isT rfl c114) ?_
                        refine qv (v_pick_f (evD_false rfl c128) rfl) rfl ?_
                        refine qv (v_pick_t (evD_true rfl c114) rfl) rfl ?_
                        refine shQ_nil ?_
                        obtain rfl := inj1 r141
                        refine meet_i (L2 := (b1, .cells #[.int .i64 wide, .slice plots_a plots.length plots_c] 32 (0, 0)) :: (Lb88 ++ [])) (L3 := (b1, .cells #[.int .i64 wide, .slice plots_a plots.length plots_c] 32 (0, 0)) :: (Lb88 ++ [])) (List.Perm.refl _) (List.Sublist.refl _) ?_
                        exact ⟨rfl, rfl, (sc rfl (sc rfl (sc rfl (sc rfl (sc rfl (sc rfl (sc rfl (sc rfl (sn _)))))))))⟩
                    · have r151 := ite_f r104 c114; clear r104
                      refine shQ_off (b' := false) 65 rfl (Env.isF rfl c114) rfl rfl ?_
                      refine shQ_off (b' := false) 65 rfl (Env.isF rfl c114) rfl rfl ?_
                      refine shQ_off (b' := false) 65 rfl (Env.isF rfl c114) rfl rfl ?_
                      refine shQ_off (b' := false) 65 rfl (Env.isF rfl c114) rfl rfl ?_
                      refine shQ_off (b' := false) 65 rfl (Env.isF rfl c114) rfl rfl ?_
                      refine shQ_off (b' := false) 65 rfl (Env.isF rfl c114) rfl rfl ?_
                      refine shQ_offU 71 rfl rfl rfl ?_
                      refine shQ_offU 71 rfl rfl rfl ?_
                      refine shQ_offU 71 rfl rfl rfl ?_
                      refine shQ_offU 71 rfl rfl rfl ?_
                      refine shQ_offU 71 rfl rfl rfl ?_
                      refine shQ_offU 71 rfl rfl rfl ?_
                      refine shQ_offU 71 rfl rfl rfl ?_
                      refine shQ_offU 71 rfl rfl rfl ?_
                      refine shQ_offU 71 rfl rfl rfl ?_
                      refine shQ_offU 71 rfl rfl rfl ?_
                      refine shQ_offU 71 rfl rfl rfl ?_
                      refine shQ_off (b' := false) 65 rfl (Env.isF rfl c114) rfl rfl ?_
                      refine qv (v_pick_f (evD_false rfl c114) rfl) rfl ?_
                      refine shQ_nil ?_
                      obtain rfl := inj1 r151
                      refine meet_i (L2 := (b1, .cells #[.int .i64 wide, .slice plots_a plots.length plots_c] 32 (0, 0)) :: (Lb88 ++ [])) (L3 := (b1, .cells #[.int .i64 wide, .slice plots_a plots.length plots_c] 32 (0, 0)) :: (Lb88 ++ [])) (List.Perm.refl _) (List.Sublist.refl _) ?_
                      exact ⟨rfl, rfl, (sc rfl (sc rfl (sc rfl (sc rfl (sc rfl (sc rfl (sc rfl (sc rfl (sn _)))))))))⟩
                  · have r152 := ite_f h98 c100; clear h98
                    refine shQ_off (b' := false) 58 rfl (Env.isF rfl c100) rfl rfl ?_
                    refine shQ_off (b' := false) 58 rfl (Env.isF rfl c100) rfl rfl ?_
                    refine shQ_off (b' := false) 58 rfl (Env.isF rfl c100) rfl rfl ?_
                    refine shQ_off (b' := false) 58 rfl (Env.isF rfl c100) rfl rfl ?_
                    refine shQ_off (b' := false) 58 rfl (Env.isF rfl c100) rfl rfl ?_
                    refine qv (v_pick_f (evD_false rfl c100) rfl) rfl ?_
                    refine qv (v_move rfl) rfl ?_
                    refine shQ_off (b' := false) 65 rfl rfl rfl rfl ?_
                    refine shQ_off (b' := false) 65 rfl rfl rfl rfl ?_
                    refine shQ_off (b' := false) 65 rfl rfl rfl rfl ?_
                    refine shQ_off (b' := false) 65 rfl rfl rfl rfl ?_
                    refine shQ_off (b' := false) 65 rfl rfl rfl rfl ?_
                    refine shQ_off (b' := false) 65 rfl rfl rfl rfl ?_
                    refine shQ_offU 71 rfl rfl rfl ?_
                    refine shQ_offU 71 rfl rfl rfl ?_
                    refine shQ_offU 71 rfl rfl rfl ?_
                    refine shQ_offU 71 rfl rfl rfl ?_
                    refine shQ_offU 71 rfl rfl rfl ?_
                    refine shQ_offU 71 rfl rfl rfl ?_
                    refine shQ_offU 71 rfl rfl rfl ?_
                    refine shQ_offU 71 rfl rfl rfl ?_
                    refine shQ_offU 71 rfl rfl rfl ?_
                    refine shQ_offU 71 rfl rfl rfl ?_
                    refine shQ_offU 71 rfl rfl rfl ?_
                    refine shQ_off (b' := false) 65 rfl rfl rfl rfl ?_
                    refine qv (v_pick_f rfl rfl) rfl ?_
                    refine shQ_nil ?_
                    obtain rfl := inj1 r152
                    refine meet_i (L2 := (b1, .cells #[.int .i64 wide, .slice plots_a plots.length plots_c] 32 (0, 0)) :: (Lb88 ++ [])) (L3 := (b1, .cells #[.int .i64 wide, .slice plots_a plots.length plots_c] 32 (0, 0)) :: (Lb88 ++ [])) (List.Perm.refl _) (List.Sublist.refl _) ?_
                    exact ⟨rfl, rfl, (sc rfl (sc rfl (sc rfl (sc rfl (sc rfl (sc rfl (sc rfl (sc rfl (sn _)))))))))⟩
                · rintro e1 _ _ ⟨rfl, rfl, he153⟩
                  refine shW_env _ he153 ?_; clear he153
                  refine shW_cond rfl (fun c154 => ?_) (fun c154 => ?_)
                  · have r155 := bt r99 c154; clear r99
                    refine shW_seq ?_
                    refine shW_region ?_
                    refine ov (v_move rfl) rfl ?_
                    refine ov (v_move rfl) rfl ?_
                    refine ov (v_move rfl) rfl ?_
                    refine ov (v_move rfl) rfl ?_
                    obtain ⟨x5, g156, hx157, r158⟩ := ix_ok r155; clear r155
                    obtain ⟨b159, o160, c161, vs162, ha163, hs164, hle165, rfl, hl166, hc167⟩ := SlR.at (iE_ok _) hz89 (L := (b1, .cells #[.int .i64 wide, .slice plots_a plots.length plots_c] 32 (0, 0)) :: (Lb88 ++ [])) (frontC (List.Perm.refl _)) g156.1 hx157
                    refine ov (v_indexO Try.underlying26 Try.sizeOf3 rfl ha163 rfl (SlR.idx hz89 g156)) rfl ?_
                    refine ov (v_load Try.isAgg3 rfl hs164 (hc167 0 (by decide))) rfl ?_
                    refine ov (v_move rfl) rfl ?_
                    obtain ⟨g168, r169⟩ := gd_ok r158; clear r158
                    refine ov (v_add rfl rfl g168) rfl ?_
                    obtain ⟨x6, g170, hx171, r172⟩ := ix_ok r169; clear r169
                    obtain ⟨b173, o174, c175, vs176, ha177, hs178, hle179, rfl, hl180, hc181⟩ := SlR.at (iE_ok _) hz89 (L := (b1, .cells #[.int .i64 wide, .slice plots_a plots.length plots_c] 32 (0, 0)) :: (Lb88 ++ [])) (frontC (List.Perm.refl _)) g170.1 hx171
                    refine ov (v_indexO Try.underlying26 Try.sizeOf3 rfl ha177 rfl (SlR.idx hz89 g170)) rfl ?_
                    obtain ⟨out10, h182, r183⟩ := bv_ok r172; clear r172
                    refine o_storeZ (u := x5 + n2) Try.sizeOf3 (iE_ok _) rfl ha177 rfl rfl (fun _ => .c .h) hz89 h182 g170 ?_; intro Lb184 hz185
                    refine shO_nil ?_
                    refine shW_region ?_
                    refine ov (v_assign rfl) rfl ?_
                    refine shO_nil ?_
                    refine inBlock_n (id := 7) ?_
                    refine shW_region ?_
                    refine ov (v_move rfl) rfl ?_
                    obtain ⟨g186, r187⟩ := gd_ok r183; clear r183
                    refine ov (v_add rfl rfl g186) rfl ?_
                    refine ov (v_assign rfl) rfl ?_
                    refine shO_nil ?_
                    exact lp_end (Nat.lt_succ_self _) (meet_0 (L2 := (b1, .cells #[.int .i64 wide, .slice plots_a plots.length plots_c] 32 (0, 0)) :: (Lb184 ++ [])) (L3 := (b1, .cells #[.int .i64 wide, .slice plots_a plots.length plots_c] 32 (0, 0)) :: (Lb184 ++ [])) (List.Perm.refl _) (List.Sublist.refl _) ⟨out10, true, q + 1, Lb184, r187, rfl, rfl, (sc rfl (sc rfl (sc rfl (sc rfl (sc rfl (sc rfl (sn _))))))), hz185⟩)
                  · have r188 := bf r99 c154; clear r99
                    refine shW_skip ?_
                    refine inBlock_n (id := 7) ?_
                    refine shW_region ?_
                    refine ov (v_move rfl) rfl ?_
                    obtain ⟨g189, r190⟩ := gd_ok r188; clear r188
                    refine ov (v_add rfl rfl g189) rfl ?_
                    refine ov (v_assign rfl) rfl ?_
                    refine shO_nil ?_
                    exact lp_end (Nat.lt_succ_self _) (meet_0 (L2 := (b1, .cells #[.int .i64 wide, .slice plots_a plots.length plots_c] 32 (0, 0)) :: (Lb88 ++ [])) (L3 := (b1, .cells #[.int .i64 wide, .slice plots_a plots.length plots_c] 32 (0, 0)) :: (Lb88 ++ [])) (List.Perm.refl _) (List.Sublist.refl _) ⟨out9, changed4, q + 1, Lb88, r190, rfl, rfl, (sc rfl (sc rfl (sc rfl (sc rfl (sc rfl (sc rfl (sn _))))))), hz89⟩)
              · have r191 := ite_f r92 c94; clear r92
                refine shW_exit ?_
                refine andThen_exit ?_
                refine andThen_exit ?_
                refine inBlock_exit ?_
                refine inBlock_n (id := 5) ?_
                obtain ⟨rfl, rfl⟩ := inj2 r191
                refine meet_i (L2 := (b1, .cells #[.int .i64 wide, .slice plots_a plots.length plots_c] 32 (0, 0)) :: (Lb88 ++ [])) (L3 := (b1, .cells #[.int .i64 wide, .slice plots_a plots.length plots_c] 32 (0, 0)) :: (Lb88 ++ [])) (List.Perm.refl _) (List.Sublist.refl _) ?_
                exact ⟨Lb88, rfl, rfl, (sc rfl (sc rfl (sc rfl (sc rfl (sc rfl (sn _)))))), hz89⟩
            · rintro e1 _ _ ⟨Lb84, rfl, rfl, he192, hz85⟩
              refine shW_env _ he192 ?_; clear he192
              refine shW_region ?_
              refine ov (v_move rfl) rfl ?_
              obtain ⟨g193, r194⟩ := gd_ok r87; clear r87
              refine ov (v_add rfl rfl g193) rfl ?_
              refine ov (v_assign rfl) rfl ?_
              refine shO_nil ?_
              exact lp_end (Nat.lt_succ_self _) (meet_0 (L2 := (b1, .cells #[.int .i64 wide, .slice plots_a plots.length plots_c] 32 (0, 0)) :: (Lb84 ++ [])) (L3 := (b1, .cells #[.int .i64 wide, .slice plots_a plots.length plots_c] 32 (0, 0)) :: (Lb84 ++ [])) (List.Perm.refl _) (List.Sublist.refl _) ⟨out8, changed3, p2 + 1, Lb84, r194, rfl, rfl, (sc rfl (sc rfl (sc rfl (sc rfl (sc rfl (sn _)))))), hz85⟩)
          · have r195 := ite_f r80 c82; clear r80
            refine shW_exit ?_
            refine andThen_exit ?_
            refine andThen_exit ?_
            refine inBlock_exit ?_
            refine inBlock_n (id := 3) ?_
            exact lp_end (Nat.lt_succ_self _) (meet_0 (L2 := (b1, .cells #[.int .i64 wide, .slice plots_a plots.length plots_c] 32 (0, 0)) :: (Lb76 ++ [])) (L3 := (b1, .cells #[.int .i64 wide, .slice plots_a plots.length plots_c] 32 (0, 0)) :: (Lb76 ++ [])) (List.Perm.refl _) (List.Sublist.refl _) ⟨out7, changed2, Lb76, r195, rfl, rfl, (sc rfl (sc rfl (sc rfl (sc rfl (sn _))))), hz77⟩)
        · have r196 := bf r72 c74; clear r72
          refine shW_exit ?_
          refine andThen_exit ?_
          refine andThen_exit ?_
          refine inBlock_exit ?_
          obtain rfl := inj1 r196
          refine meet_i (L2 := Lb68 ++ []) (L3 := Lb68 ++ ((b1, .cells #[.int .i64 wide, .slice plots_a plots.length plots_c] 32 (0, 0)) :: [])) (((frontC (List.Perm.refl _)).trans (List.Perm.append_left _ (List.Perm.refl _)))) ((List.Sublist.append (List.Sublist.refl _) ((List.Sublist.cons _ (List.Sublist.refl _))))) ?_
          exact ⟨Lb68, rfl, rfl, (sc rfl (sn _)), hz69⟩
      · rintro e1 _ _ ⟨Lb64, rfl, rfl, he197, hz65⟩
        refine shW_env _ he197 ?_; clear he197
        refine shW_seq ?_
        refine shW_region ?_
        refine ov (v_move rfl) rfl ?_
        refine ov (v_assign rfl) rfl ?_
        refine ov (v_assign rfl) rfl ?_
        refine shO_nil ?_
        refine shW_ret ?_
        refine q_res2 Try.results22 (res_tmp rfl) (res_tmp rfl) (List.Sublist.refl _) ?_
        obtain ⟨rfl, rfl⟩ := inj2 r67
        exact ⟨_, _, _, _, rfl, rfl, hz65.any⟩


set_option maxHeartbeats 1000000 in
theorem oyezref01_Need_w {wide : Int} {plots_a : Option Addr} {plots_c : Nat} {plots : List Int} {wind : Int} {stand : Int} {plot : Int} {F : FS} (h_plots : RowR 1 (iE .i64) F plots_a plots_c plots) {r : Int} {r2 : Int} (hr : oyezref01_Need wide plots wind stand plot = some (r, r2)) :
    SpecV Try.prog 20 #[.agg #[.int .i64 wide, .slice plots_a plots.length plots_c], .int .i64 wind, .int .i64 stand, .int .i64 plot] F (.tuple #[.int .i64 r, .int .i64 r2]) := by
  refine spec_of_shW (args := [.agg #[.int .i64 wide, .slice plots_a plots.length plots_c], .int .i64 wind, .int .i64 stand, .int .i64 plot]) Try.func20 rfl Try.ntmps20 (Nat.le_of_ble_eq_true rfl) ?_
  intro K _ _; rw [oyezref01_Need] at hr
  refine shW_seq ?_
  refine shW_region ?_
  refine o_box rfl rfl ?_; intro b1 hb1
  refine ov (v_assign rfl) rfl ?_
  refine ov (v_assign rfl) rfl ?_
  refine shO_nil ?_
  refine shW_seq ?_
  refine shW_region ?_
  refine ov (v_loadA (cs := #[.int .i64 wide, .slice plots_a plots.length plots_c]) Try.isAgg32 Try.sizeOf32 rfl (Has.own 0 rfl) (Nat.le_of_ble_eq_true rfl) rfl) rfl ?_
  refine ov (v_move rfl) rfl ?_
  refine ov (v_move rfl) rfl ?_
  obtain ⟨l, n, h2, r3⟩ := b2_ok hr; clear hr
  refine o_call0 rfl Try.call22 rfl rfl rfl (oyezref01_Needs_w h_plots h2) ?_; rintro _ F4 _ hF5 hn6 ⟨a8, n12, c9, Lb10, rfl, rfl, hz11⟩
  replace h_plots := h_plots.mono (iE_ok _) hF5
  replace hz11 := hz11.new fun p hp => hn6 p (by simp [hp])
  refine shO_L (L' := Lb10 ++ ((b1, .cells #[.int .i64 wide, .slice plots_a plots.length plots_c] 32 (0, 0)) :: [])) (by simp only [List.nil_append, List.cons_append, List.append_assoc, List.append_nil] <;> rfl) ?_
  refine shO_perm (L' := (b1, .cells #[.int .i64 wide, .slice plots_a plots.length plots_c] 32 (0, 0)) :: (Lb10 ++ [])) (((frontS (frO)).trans (List.Perm.cons _ (List.Perm.refl _)))) ?_
  refine ov (v_move rfl) rfl ?_
  refine ov (v_extract rfl rfl) rfl ?_
  refine ov (v_extract rfl rfl) rfl ?_
  refine ov (v_assign rfl) rfl ?_
  refine ov (v_assign rfl) rfl ?_
  refine shO_nil ?_
  refine shW_seq ?_
  refine shW_seq ?_
  refine shW_region ?_
  refine ov (v_move rfl) rfl ?_
  refine ov (v_neq rfl rfl) rfl ?_
  refine shO_nil ?_
  refine shW_condP rfl (fun c14 => ?_) (fun c14 => ?_)
  · have r15 := ite_t r3 c14; clear r3
    refine shW_seq ?_
    refine shW_region ?_
    refine ov (v_move rfl) rfl ?_
    refine ov (v_assign rfl) rfl ?_
    refine ov (v_assign rfl) rfl ?_
    refine shO_nil ?_
    refine shW_drop (L' := []) ((List.Sublist.cons _ (((List.Sublist.refl _).trans (List.sublist_append_right _ _))))) ?_
    refine shW_ret ?_
    refine andThen_ret ?_
    refine q_res2 Try.results20 (res_tmp rfl) (res_tmp rfl) (List.Sublist.refl _) ?_
    obtain ⟨rfl, rfl⟩ := inj2 r15
    exact rfl
  · have r16 := ite_f r3 c14; clear r3
    refine shW_skip ?_
    refine shW_seq ?_
    refine shW_seq ?_
    refine shW_region ?_
    refine ov (v_move rfl) rfl ?_
    refine ov (v_fieldAddr fa_32_1 rfl) rfl ?_
    refine ov (v_load Try.isAgg26 rfl (Has.own 0 rfl) rfl) rfl ?_
    refine ov (v_lenS Try.underlying26 rfl) rfl ?_
    obtain ⟨g17, r18⟩ := gd_ok r16; clear r16
    refine ov (v_sub rfl rfl g17) rfl ?_
    obtain ⟨ok, h19, r20⟩ := b1_ok r18; clear r18
    refine o_callV rfl Try.call78 rfl rfl rfl (oyezref01_off_w h19) ?_
    refine shO_nil ?_
    refine shW_cond rfl (fun c21 => ?_) (fun c21 => ?_)
    · have r22 := bt r20 c21; clear r20
      refine shW_seq ?_
      refine shW_region ?_
      refine ov (v_assign rfl) rfl ?_
      refine ov (v_assign rfl) rfl ?_
      refine shO_nil ?_
      refine shW_drop (L' := []) ((List.Sublist.cons _ (((List.Sublist.refl _).trans (List.sublist_append_right _ _))))) ?_
      refine shW_ret ?_
      refine andThen_ret ?_
      refine q_res2 Try.results20 (res_tmp rfl) (res_tmp rfl) (List.Sublist.refl _) ?_
      obtain ⟨rfl, rfl⟩ := inj2 r22
      exact rfl
    · have r23 := bf r20 c21; clear r20
      refine shW_skip ?_
      refine shW_seq ?_
      refine shW_seq ?_
      refine shW_region ?_
      refine ov (v_move rfl) rfl ?_
      refine ov (v_move rfl) rfl ?_
      obtain ⟨x, g24, hx25, r26⟩ := ix_ok r23; clear r23
      obtain ⟨b27, o28, c29, vs30, ha31, hs32, hle33, rfl, hl34, hc35⟩ := SlR.at (iE_ok _) hz11 (L := (b1, .cells #[.int .i64 wide, .slice plots_a plots.length plots_c] 32 (0, 0)) :: (Lb10 ++ [])) (frontC (List.Perm.refl _)) g24.1 hx25
      refine ov (v_indexO Try.underlying26 Try.sizeOf3 rfl ha31 rfl (SlR.idx hz11 g24)) rfl ?_
      refine ov (v_load Try.isAgg3 rfl hs32 (hc35 0 (by decide))) rfl ?_
      refine ov (v_lssK rfl rfl) rfl ?_
      refine shO_nil ?_
      refine shW_condP rfl (fun c36 => ?_) (fun c36 => ?_)
      · have r37 := ite_t r26 c36; clear r26
        refine shW_seq ?_
        refine shW_region ?_
        refine ov (v_assign rfl) rfl ?_
        refine ov (v_assign rfl) rfl ?_
        refine shO_nil ?_
        refine shW_drop (L' := []) ((List.Sublist.cons _ (((List.Sublist.refl _).trans (List.sublist_append_right _ _))))) ?_
        refine shW_ret ?_
        refine andThen_ret ?_
        refine q_res2 Try.results20 (res_tmp rfl) (res_tmp rfl) (List.Sublist.refl _) ?_
        obtain ⟨rfl, rfl⟩ := inj2 r37
        exact rfl
      · have r38 := ite_f r26 c36; clear r26
        refine shW_skip ?_
        refine shW_seq ?_
        refine shW_region ?_
        refine ov (v_move rfl) rfl ?_
        refine ov (v_move rfl) rfl ?_
        obtain ⟨b39, o40, c41, vs42, ha43, hs44, hle45, rfl, hl46, hc47⟩ := SlR.at (iE_ok _) hz11 (L := (b1, .cells #[.int .i64 wide, .slice plots_a plots.length plots_c] 32 (0, 0)) :: (Lb10 ++ [])) (frontC (List.Perm.refl _)) g24.1 hx25
        refine ov (v_indexO Try.underlying26 Try.sizeOf3 rfl ha43 rfl (SlR.idx hz11 g24)) rfl ?_
        refine ov (v_load Try.isAgg3 rfl hs44 (hc47 0 (by decide))) rfl ?_
        refine ov (v_assign rfl) rfl ?_
        refine ov (v_assign rfl) rfl ?_
        refine shO_nil ?_
        refine shW_drop (L' := []) ((List.Sublist.cons _ (((List.Sublist.refl _).trans (List.sublist_append_right _ _))))) ?_
        refine shW_ret ?_
        refine q_res2 Try.results20 (res_tmp rfl) (res_tmp rfl) (List.Sublist.refl _) ?_
        obtain ⟨rfl, rfl⟩ := inj2 r38
        exact rfl


set_option maxHeartbeats 1000000 in
theorem oyezref01_above_w {a : Int} {b : Int} {n : Int} {F : FS} {r : Bool} (hr : oyezref01_above a b n = some r) :
    SpecV Try.prog 86 #[.int .i64 a, .int .i64 b, .int .i64 n] F (.bool r) := by
  refine spec_of_shW (args := [.int .i64 a, .int .i64 b, .int .i64 n]) Try.func86 rfl Try.ntmps86 (Nat.le_of_ble_eq_true rfl) ?_
  intro K _ _; rw [oyezref01_above] at hr
  refine shW_seq ?_
  refine shW_region ?_
  refine ov (v_assign rfl) rfl ?_
  refine shO_nil ?_
  refine shW_join (fun e1 F1 L1 => ∃ (b2 : Int), oyezref01_above_j1 a b2 = some r ∧ F = F1 ∧ L1 = [] ∧ e1.sub [(0, .int .i64 a), (1, .int .i64 b2)]) ?_ ?_
  · refine shW_seq ?_
    refine shW_region ?_
    refine ov (v_assign rfl) rfl ?_
    refine shO_nil ?_
    refine shW_block ?_
    obtain ⟨g1, r2⟩ := gd_ok hr; clear hr
    refine shW_lp (fun fu2 e1 F1 L1 => ∃ (i : Int), Ctr 0 n i fu2 ∧ ∃ (b3 : Int), oyezref01_above_l2 a fu2 b3 = some r ∧ F = F1 ∧ L1 = [] ∧ e1.sub [(0, .int .i64 a), (1, .int .i64 b3), (2, .int .i64 n), (7, .int .i64 i)]) _ (meet_0 (L2 := []) (L3 := []) (List.Perm.refl _) (List.Sublist.refl _) ⟨_, Ctr.start _ _, b, r2, rfl, rfl, (sc rfl (sc rfl (sc rfl (sc rfl (sn _)))))⟩) ?_
    rintro fu2 e1 _ _ ⟨i, hk3, b3, r5, rfl, rfl, he6⟩
    refine shW_env _ he6 ?_; clear he6
    refine shW_seq ?_
    refine shW_seq ?_
    refine shW_region ?_
    refine ov (v_move rfl) rfl ?_
    refine ov (v_move rfl) rfl ?_
    refine ov (v_lssK rfl rfl) rfl ?_
    refine shO_nil ?_
    refine shW_condP rfl (fun c8 => ?_) (fun c8 => ?_)
    · obtain ⟨fu2, rfl, hk9⟩ := Ctr.succ hk3 c8
      rw [oyezref01_above_l2] at r5
      refine shW_skip ?_
      refine shW_seq ?_
      refine shW_block ?_
      refine shW_seq ?_
      refine shW_seq ?_
      refine shW_region ?_
      refine ov (v_move rfl) rfl ?_
      refine ov (v_move rfl) rfl ?_
      refine ov (v_geqK rfl rfl) rfl ?_
      refine shO_nil ?_
      refine shW_condP rfl (fun c10 => ?_) (fun c10 => ?_)
      · have r11 := ite_t r5 c10; clear r5
        refine shW_seq ?_
        refine shW_region ?_
        refine ov (v_assign rfl) rfl ?_
        refine shO_nil ?_
        refine shW_ret ?_
        refine andThen_ret ?_
        refine inBlock_ret ?_
        refine andThen_ret ?_
        refine andThen_ret ?_
        refine inBlock_ret ?_
        refine andThen_ret ?_
        refine q_res1 Try.results86 (res_tmp rfl) (List.Sublist.refl _) ?_
        obtain rfl := inj1 r11
        exact rfl
      · have r12 := ite_f r5 c10; clear r5
        refine shW_skip ?_
        refine shW_region ?_
        refine ov (v_move rfl) rfl ?_
        obtain ⟨g13, r14⟩ := gd_ok r12; clear r12
        refine ov (v_add rfl rfl g13) rfl ?_
        refine ov (v_assign rfl) rfl ?_
        refine shO_nil ?_
        refine inBlock_n (id := 1) ?_
        refine shW_region ?_
        refine ov (v_move rfl) rfl ?_
        refine ov (v_add rfl rfl (Ctr.r64 hk3 c8 g1)) rfl ?_
        refine ov (v_assign rfl) rfl ?_
        refine shO_nil ?_
        exact lp_end (Nat.lt_succ_self _) (meet_0 (L2 := []) (L3 := []) (List.Perm.refl _) (List.Sublist.refl _) ⟨_, hk9, b3 + 1, r14, rfl, rfl, (sc rfl (sc rfl (sc rfl (sc rfl (sn _)))))⟩)
    · obtain rfl := Ctr.zero hk3 c8
      rw [oyezref01_above_l2] at r5
      refine shW_exit ?_
      refine andThen_exit ?_
      refine andThen_exit ?_
      refine inBlock_exit ?_
      refine meet_i (L2 := []) (L3 := []) (List.Perm.refl _) (List.Sublist.refl _) ?_
      exact ⟨b3, r5, rfl, rfl, (sc rfl (sc rfl (sn _)))⟩
  · rintro e1 _ _ ⟨b2, r15, rfl, rfl, he16⟩
    refine shW_env _ he16 ?_; clear he16
    rw [oyezref01_above_j1] at r15
    refine shW_seq ?_
    refine shW_region ?_
    refine ov (v_move rfl) rfl ?_
    refine ov (v_move rfl) rfl ?_
    refine ov (v_lssK rfl rfl) rfl ?_
    refine ov (v_assign rfl) rfl ?_
    refine shO_nil ?_
    refine shW_ret ?_
    refine q_res1 Try.results86 (res_tmp rfl) (List.Sublist.refl _) ?_
    obtain rfl := inj1 r15
    exact rfl


set_option maxHeartbeats 1000000 in
theorem oyezref01_Holds_w {wide : Int} {plots_a : Option Addr} {plots_c : Nat} {plots : List Int} {wind : Int} {stand : Int} {table_a : Option Addr} {table_c : Nat} {table : List Int} {F : FS} (h_plots : RowR 1 (iE .i64) F plots_a plots_c plots) (h_table : RowR 1 (iE .i64) F table_a table_c table) {r : Bool} {r2 : Int} (hr : oyezref01_Holds wide plots wind stand table = some (r, r2)) :
    SpecV Try.prog 25 #[.agg #[.int .i64 wide, .slice plots_a plots.length plots_c], .int .i64 wind, .int .i64 stand, .slice table_a table.length table_c] F (.tuple #[.bool r, .int .i64 r2]) := by
  refine spec_of_shW (args := [.agg #[.int .i64 wide, .slice plots_a plots.length plots_c], .int .i64 wind, .int .i64 stand, .slice table_a table.length table_c]) Try.func25 rfl Try.ntmps25 (Nat.le_of_ble_eq_true rfl) ?_
  intro K _ _; rw [oyezref01_Holds] at hr
  refine shW_seq ?_
  refine shW_region ?_
  refine o_box rfl rfl ?_; intro b1 hb1
  refine ov (v_assign rfl) rfl ?_
  refine ov (v_assign rfl) rfl ?_
  refine shO_nil ?_
  refine shW_seq ?_
  refine shW_seq ?_
  refine shW_region ?_
  refine ov (v_loadA (cs := #[.int .i64 wide, .slice plots_a plots.length plots_c]) Try.isAgg32 Try.sizeOf32 rfl (Has.own 0 rfl) (Nat.le_of_ble_eq_true rfl) rfl) rfl ?_
  refine ov (v_move rfl) rfl ?_
  refine ov (v_move rfl) rfl ?_
  obtain ⟨n, h2, r3⟩ := b1_ok hr; clear hr
  refine o_callV rfl Try.call81 rfl rfl rfl (oyezref01_Stand_w h_plots h2) ?_
  refine ov (v_assign rfl) rfl ?_
  refine shO_nil ?_
  refine shW_seq ?_
  refine shW_region ?_
  refine ov (v_move rfl) rfl ?_
  refine ov (v_neq rfl rfl) rfl ?_
  refine shO_nil ?_
  refine shW_condP rfl (fun c4 => ?_) (fun c4 => ?_)
  · have r5 := ite_t r3 c4; clear r3
    refine shW_seq ?_
    refine shW_region ?_
    refine ov (v_move rfl) rfl ?_
    refine ov (v_assign rfl) rfl ?_
    refine ov (v_assign rfl) rfl ?_
    refine shO_nil ?_
    refine shW_drop (L' := []) ((List.Sublist.cons _ (List.Sublist.refl _))) ?_
    refine shW_ret ?_
    refine andThen_ret ?_
    refine q_res2 Try.results25 (res_tmp rfl) (res_tmp rfl) (List.Sublist.refl _) ?_
    obtain ⟨rfl, rfl⟩ := inj2 r5
    exact rfl
  · have r6 := ite_f r3 c4; clear r3
    refine shW_skip ?_
    refine shW_seq ?_
    refine shW_seq ?_
    refine shW_region ?_
    refine ov (v_move rfl) rfl ?_
    refine ov (v_lenS Try.underlying26 rfl) rfl ?_
    refine ov (v_fieldAddr fa_32_1 rfl) rfl ?_
    refine ov (v_load Try.isAgg26 rfl (Has.own 0 rfl) rfl) rfl ?_
    refine ov (v_lenS Try.underlying26 rfl) rfl ?_
    refine ov (v_neq rfl rfl) rfl ?_
    refine shO_nil ?_
    refine shW_condP rfl (fun c7 => ?_) (fun c7 => ?_)
    · have r8 := ite_t r6 c7; clear r6
      refine shW_seq ?_
      refine shW_region ?_
      refine ov (v_assign rfl) rfl ?_
      refine ov (v_assign rfl) rfl ?_
      refine shO_nil ?_
      refine shW_drop (L' := []) ((List.Sublist.cons _ (List.Sublist.refl _))) ?_
      refine shW_ret ?_
      refine andThen_ret ?_
      refine q_res2 Try.results25 (res_tmp rfl) (res_tmp rfl) (List.Sublist.refl _) ?_
      obtain ⟨rfl, rfl⟩ := inj2 r8
      exact rfl
    · have r9 := ite_f r6 c7; clear r6
      refine shW_skip ?_
      refine shW_seq ?_
      refine shW_seq ?_
      refine shW_region ?_
      refine ov (v_move rfl) rfl ?_
      refine ov (v_move rfl) rfl ?_
      obtain ⟨x, g10, hx11, r12⟩ := ix_ok r9; clear r9
      obtain ⟨b13, o14, c15, vs16, ha17, hs18, hle19, rfl, hl20, hc21⟩ := RowR.at (iE_ok _) h_table ([(b1, .cells #[.int .i64 wide, .slice plots_a plots.length plots_c] 32 (0, 0))]) g10.1 hx11
      refine ov (v_indexO Try.underlying26 Try.sizeOf3 rfl ha17 rfl g10) rfl ?_
      refine ov (v_load Try.isAgg3 rfl hs18 (hc21 0 (by decide))) rfl ?_
      refine ov (v_neq rfl rfl) rfl ?_
      refine shO_nil ?_
      refine shW_condP rfl (fun c22 => ?_) (fun c22 => ?_)
      · have r23 := ite_t r12 c22; clear r12
        refine shW_seq ?_
        refine shW_region ?_
        refine ov (v_assign rfl) rfl ?_
        refine ov (v_assign rfl) rfl ?_
        refine shO_nil ?_
        refine shW_drop (L' := []) ((List.Sublist.cons _ (List.Sublist.refl _))) ?_
        refine shW_ret ?_
        refine andThen_ret ?_
        refine q_res2 Try.results25 (res_tmp rfl) (res_tmp rfl) (List.Sublist.refl _) ?_
        obtain ⟨rfl, rfl⟩ := inj2 r23
        exact rfl
      · have r24 := ite_f r12 c22; clear r12
        refine shW_skip ?_
        refine shW_join (fun e1 F1 L1 => oyezref01_Holds_j1 = some (r, r2) ∧ F = F1 ∧ L1 = [] ∧ e1.sub []) ?_ ?_
        · refine shW_seq ?_
          refine shW_region ?_
          refine ov (v_assign rfl) rfl ?_
          refine shO_nil ?_
          refine shW_block ?_
          refine shW_lp (fun fu2 e1 F1 L1 => ∃ (tl : List Int) (p : Int), tl.length = fu2 ∧ Lst table p tl ∧ oyezref01_Holds_l2 wide plots wind table tl p = some (r, r2) ∧ F = F1 ∧ L1 = [(b1, .cells #[.int .i64 wide, .slice plots_a plots.length plots_c] 32 (0, 0))] ∧ e1.sub [(1, .int .i64 wind), (3, .slice table_a table.length table_c), (4, .pointer (some ⟨b1, 0, none⟩)), (11, .int .i64 p)]) _ (meet_0 (L2 := [(b1, .cells #[.int .i64 wide, .slice plots_a plots.length plots_c] 32 (0, 0))]) (L3 := [(b1, .cells #[.int .i64 wide, .slice plots_a plots.length plots_c] 32 (0, 0))]) (List.Perm.refl _) (List.Sublist.refl _) ⟨_, _, rfl, Lst.start _, r24, rfl, rfl, (sc rfl (sc rfl (sc rfl (sc rfl (sn _)))))⟩) ?_
          rintro fu2 e1 _ _ ⟨tl, p, hn26, hk25, r27, rfl, rfl, he28⟩
          refine shW_env _ he28 ?_; clear he28
          refine shW_seq ?_
          refine shW_seq ?_
          refine shW_region ?_
          refine ov (v_move rfl) rfl ?_
          refine ov (v_move rfl) rfl ?_
          refine ov (v_lenS Try.underlying26 rfl) rfl ?_
          refine ov (v_lssK rfl rfl) rfl ?_
          refine shO_nil ?_
          refine shW_condP rfl (fun c30 => ?_) (fun c30 => ?_)
          · obtain ⟨x2, tl2, rfl, hx32, g33, hk31⟩ := Lst.succ hk25 c30
            rw [oyezref01_Holds_l2] at r27
            refine shW_skip ?_
            refine shW_join (fun e1 F1 L1 => oyezref01_Holds_j3 p (oyezref01_Holds_l2 wide plots wind table tl2) = some (r, r2) ∧ F = F1 ∧ L1 = [(b1, .cells #[.int .i64 wide, .slice plots_a plots.length plots_c] 32 (0, 0))] ∧ e1.sub [(1, .int .i64 wind), (3, .slice table_a table.length table_c), (4, .pointer (some ⟨b1, 0, none⟩)), (11, .int .i64 p)]) ?_ ?_
            · refine shW_block ?_
              refine shW_seq ?_
              refine shW_region ?_
              refine ov (v_assign rfl) rfl ?_
              refine shO_nil ?_
              refine shW_block ?_
              refine shW_lp (fun fu4 e1 F1 L1 => ∃ (tl3 : List Int) (q : Int), tl3.length = fu4 ∧ Lst table q tl3 ∧ oyezref01_Holds_l4 wide plots wind p x2 (oyezref01_Holds_l2 wide plots wind table tl2) tl3 q = some (r, r2) ∧ F = F1 ∧ L1 = [(b1, .cells #[.int .i64 wide, .slice plots_a plots.length plots_c] 32 (0, 0))] ∧ e1.sub [(1, .int .i64 wind), (3, .slice table_a table.length table_c), (4, .pointer (some ⟨b1, 0, none⟩)), (11, .int .i64 p), (12, .int .i64 q)]) _ (meet_0 (L2 := [(b1, .cells #[.int .i64 wide, .slice plots_a plots.length plots_c] 32 (0, 0))]) (L3 := [(b1, .cells #[.int .i64 wide, .slice plots_a plots.length plots_c] 32 (0, 0))]) (List.Perm.refl _) (List.Sublist.refl _) ⟨_, _, rfl, Lst.start _, r27, rfl, rfl, (sc rfl (sc rfl (sc rfl (sc rfl (sc rfl (sn _))))))⟩) ?_
              rintro fu4 e1 _ _ ⟨tl3, q, hn35, hk34, r36, rfl, rfl, he37⟩
              refine shW_env _ he37 ?_; clear he37
              refine shW_seq ?_
              refine shW_seq ?_
              refine shW_region ?_
              refine ov (v_move rfl) rfl ?_
              refine ov (v_move rfl) rfl ?_
              refine ov (v_lenS Try.underlying26 rfl) rfl ?_
              refine ov (v_lssK rfl rfl) rfl ?_
              refine shO_nil ?_
              refine shW_condP rfl (fun c39 => ?_) (fun c39 => ?_)
              · obtain ⟨x3, tl4, rfl, hx41, g42, hk40⟩ := Lst.succ hk34 c39
                rw [oyezref01_Holds_l4] at r36
                refine shW_skip ?_
                refine shW_seq ?_
                refine shW_block ?_
                refine shW_seq ?_
                refine shW_region ?_
                refine ov (v_loadA (cs := #[.int .i64 wide, .slice plots_a plots.length plots_c]) Try.isAgg32 Try.sizeOf32 rfl (Has.own 0 rfl) (Nat.le_of_ble_eq_true rfl) rfl) rfl ?_
                refine ov (v_move rfl) rfl ?_
                refine ov (v_move rfl) rfl ?_
                refine ov (v_move rfl) rfl ?_
                obtain ⟨n2, h43, r44⟩ := b1_ok r36; clear r36
                refine o_callV rfl Try.call82 rfl rfl rfl (oyezref01_Step_w h_plots h43) ?_
                refine ov (v_assign rfl) rfl ?_
                refine shO_nil ?_
                obtain ⟨k, h45, r46⟩ := b1_ok r44; clear r44
                refine shW_join (fun e1 F1 L1 => F = F1 ∧ L1 = [(b1, .cells #[.int .i64 wide, .slice plots_a plots.length plots_c] 32 (0, 0))] ∧ e1.sub [(1, .int .i64 wind), (3, .slice table_a table.length table_c), (4, .pointer (some ⟨b1, 0, none⟩)), (11, .int .i64 p), (12, .int .i64 q), (62, .bool k)]) ?_ ?_
                · clear r46
                  refine shW_draw (by kernel_rfl) (by kernel_rfl) (by kernel_rfl) ?_
                  refine qv (v_move rfl) rfl ?_
                  refine qv (v_gtrK rfl rfl) rfl ?_
                  refine qv (v_move rfl) rfl ?_
                  by_cases c47 : 0 < n2
                  · have r48 := ite_t h45 c47; clear h45
                    refine shQ_on (b := true) 51 rfl (Env.isT rfl c47) ?_
                    refine qv (v_move rfl) rfl ?_
                    refine shQ_on (b := true) 51 rfl (Env.isT rfl c47) ?_
                    refine qv (v_move rfl) rfl ?_
                    refine shQ_on (b := true) 51 rfl (Env.isT rfl c47) ?_
                    obtain ⟨b49, o50, c51, vs52, ha53, hs54, hle55, rfl, hl56, hc57⟩ := RowR.at (iE_ok _) h_table ([(b1, .cells #[.int .i64 wide, .slice plots_a plots.length plots_c] 32 (0, 0))]) g42.1 hx41
                    refine qv (v_indexO Try.underlying26 Try.sizeOf3 rfl ha53 rfl g42) rfl ?_
                    refine shQ_on (b := true) 51 rfl (Env.isT rfl c47) ?_
                    refine qv (v_load Try.isAgg3 rfl hs54 (hc57 0 (by decide))) rfl ?_
                    refine shQ_on (b := true) 51 rfl (Env.isT rfl c47) ?_
                    refine qv (v_move rfl) rfl ?_
                    refine shQ_on (b := true) 51 rfl (Env.isT rfl c47) ?_
                    refine qv (v_move rfl) rfl ?_
                    refine shQ_on (b := true) 51 rfl (Env.isT rfl c47) ?_
                    obtain ⟨b58, o59, c60, vs61, ha62, hs63, hle64, rfl, hl65, hc66⟩ := RowR.at (iE_ok _) h_table ([(b1, .cells #[.int .i64 wide, .slice plots_a plots.length plots_c] 32 (0, 0))]) g33.1 hx32
                    refine qv (v_indexO Try.underlying26 Try.sizeOf3 rfl ha62 rfl g33) rfl ?_
                    refine shQ_on (b := true) 51 rfl (Env.isT rfl c47) ?_
                    refine qv (v_load Try.isAgg3 rfl hs63 (hc66 0 (by decide))) rfl ?_
                    refine shQ_on (b := true) 51 rfl (Env.isT rfl c47) ?_
                    refine qv (v_move rfl) rfl ?_
                    refine shQ_on (b := true) 51 rfl (Env.isT rfl c47) ?_
                    obtain ⟨ok, h67, r68⟩ := b1_ok r48; clear r48
                    refine shQ_callV rfl Try.call86 rfl rfl rfl (oyezref01_above_w h67) ?_
                    refine qv (v_pick_t (evD_true rfl c47) rfl) rfl ?_
                    refine shQ_nil ?_
                    obtain rfl := inj1 r68
                    refine meet_i (L2 := [(b1, .cells #[.int .i64 wide, .slice plots_a plots.length plots_c] 32 (0, 0))]) (L3 := [(b1, .cells #[.int .i64 wide, .slice plots_a plots.length plots_c] 32 (0, 0))]) (List.Perm.refl _) (List.Sublist.refl _) ?_
                    exact ⟨rfl, rfl, (sc rfl (sc rfl (sc rfl (sc rfl (sc rfl (sc rfl (sn _)))))))⟩
                  · have r69 := ite_f h45 c47; clear h45
                    refine shQ_off (b' := false) 51 rfl (Env.isF rfl c47) rfl rfl ?_
                    refine shQ_off (b' := false) 51 rfl (Env.isF rfl c47) rfl rfl ?_
                    refine shQ_off (b' := false) 51 rfl (Env.isF rfl c47) rfl rfl ?_
                    refine shQ_off (b' := false) 51 rfl (Env.isF rfl c47) rfl rfl ?_
                    refine shQ_off (b' := false) 51 rfl (Env.isF rfl c47) rfl rfl ?_
                    refine shQ_off (b' := false) 51 rfl (Env.isF rfl c47) rfl rfl ?_
                    refine shQ_off (b' := false) 51 rfl (Env.isF rfl c47) rfl rfl ?_
                    refine shQ_off (b' := false) 51 rfl (Env.isF rfl c47) rfl rfl ?_
                    refine shQ_off (b' := false) 51 rfl (Env.isF rfl c47) rfl rfl ?_
                    refine shQ_off (b' := false) 51 rfl (Env.isF rfl c47) rfl rfl ?_
                    refine qv (v_pick_f (evD_false rfl c47) rfl) rfl ?_
                    refine shQ_nil ?_
                    obtain rfl := inj1 r69
                    refine meet_i (L2 := [(b1, .cells #[.int .i64 wide, .slice plots_a plots.length plots_c] 32 (0, 0))]) (L3 := [(b1, .cells #[.int .i64 wide, .slice plots_a plots.length plots_c] 32 (0, 0))]) (List.Perm.refl _) (List.Sublist.refl _) ?_
                    exact ⟨rfl, rfl, (sc rfl (sc rfl (sc rfl (sc rfl (sc rfl (sc rfl (sn _)))))))⟩
                · rintro e1 _ _ ⟨rfl, rfl, he70⟩
                  refine shW_env _ he70 ?_; clear he70
                  refine shW_cond rfl (fun c71 => ?_) (fun c71 => ?_)
                  · have r72 := bt r46 c71; clear r46
                    refine shW_seq ?_
                    refine shW_region ?_
                    refine ov (v_assign rfl) rfl ?_
                    refine ov (v_assign rfl) rfl ?_
                    refine shO_nil ?_
                    refine shW_drop (L' := []) ((List.Sublist.cons _ (List.Sublist.refl _))) ?_
                    refine shW_ret ?_
                    refine inBlock_ret ?_
                    refine andThen_ret ?_
                    refine andThen_ret ?_
                    refine inBlock_ret ?_
                    refine inBlock_ret ?_
                    refine andThen_ret ?_
                    refine andThen_ret ?_
                    refine inBlock_ret ?_
                    refine andThen_ret ?_
                    refine q_res2 Try.results25 (res_tmp rfl) (res_tmp rfl) (List.Sublist.refl _) ?_
                    obtain ⟨rfl, rfl⟩ := inj2 r72
                    exact rfl
                  · have r73 := bf r46 c71; clear r46
                    refine shW_skip ?_
                    refine inBlock_n (id := 3) ?_
                    refine shW_region ?_
                    refine ov (v_move rfl) rfl ?_
                    refine ov (v_add rfl rfl (Lst.r64 hk34 c39 (RowR.lt h_table))) rfl ?_
                    refine ov (v_assign rfl) rfl ?_
                    refine shO_nil ?_
                    subst hn35; exact lp_end (Nat.lt_succ_self _) (meet_0 (L2 := [(b1, .cells #[.int .i64 wide, .slice plots_a plots.length plots_c] 32 (0, 0))]) (L3 := [(b1, .cells #[.int .i64 wide, .slice plots_a plots.length plots_c] 32 (0, 0))]) (List.Perm.refl _) (List.Sublist.refl _) ⟨_, _, rfl, hk40, r73, rfl, rfl, (sc rfl (sc rfl (sc rfl (sc rfl (sc rfl (sn _))))))⟩)
              · obtain rfl := Lst.zero hk34 c39
                rw [oyezref01_Holds_l4] at r36
                refine shW_exit ?_
                refine andThen_exit ?_
                refine andThen_exit ?_
                refine inBlock_exit ?_
                refine inBlock_n (id := 1) ?_
                refine meet_i (L2 := [(b1, .cells #[.int .i64 wide, .slice plots_a plots.length plots_c] 32 (0, 0))]) (L3 := [(b1, .cells #[.int .i64 wide, .slice plots_a plots.length plots_c] 32 (0, 0))]) (List.Perm.refl _) (List.Sublist.refl _) ?_
                exact ⟨r36, rfl, rfl, (sc rfl (sc rfl (sc rfl (sc rfl (sn _)))))⟩
            · rintro e1 _ _ ⟨r74, rfl, rfl, he75⟩
              refine shW_env _ he75 ?_; clear he75
              rw [oyezref01_Holds_j3] at r74
              refine shW_region ?_
              refine ov (v_move rfl) rfl ?_
              refine ov (v_add rfl rfl (Lst.r64 hk25 c30 (RowR.lt h_table))) rfl ?_
              refine ov (v_assign rfl) rfl ?_
              refine shO_nil ?_
              subst hn26; exact lp_end (Nat.lt_succ_self _) (meet_0 (L2 := [(b1, .cells #[.int .i64 wide, .slice plots_a plots.length plots_c] 32 (0, 0))]) (L3 := [(b1, .cells #[.int .i64 wide, .slice plots_a plots.length plots_c] 32 (0, 0))]) (List.Perm.refl _) (List.Sublist.refl _) ⟨_, _, rfl, hk31, r74, rfl, rfl, (sc rfl (sc rfl (sc rfl (sc rfl (sn _)))))⟩)
          · obtain rfl := Lst.zero hk25 c30
            rw [oyezref01_Holds_l2] at r27
            refine shW_exit ?_
            refine andThen_exit ?_
            refine andThen_exit ?_
            refine inBlock_exit ?_
            refine meet_i (L2 := []) (L3 := [(b1, .cells #[.int .i64 wide, .slice plots_a plots.length plots_c] 32 (0, 0))]) (List.Perm.refl _) ((List.Sublist.cons _ (List.Sublist.refl _))) ?_
            exact ⟨r27, rfl, rfl, (sn _)⟩
        · rintro e1 _ _ ⟨r76, rfl, rfl, he77⟩
          refine shW_env _ he77 ?_; clear he77
          rw [oyezref01_Holds_j1] at r76
          refine shW_seq ?_
          refine shW_region ?_
          refine ov (v_assign rfl) rfl ?_
          refine ov (v_assign rfl) rfl ?_
          refine shO_nil ?_
          refine shW_ret ?_
          refine q_res2 Try.results25 (res_tmp rfl) (res_tmp rfl) (List.Sublist.refl _) ?_
          obtain ⟨rfl, rfl⟩ := inj2 r76
          exact rfl


set_option maxHeartbeats 1000000 in
theorem slices_Equal_hear_Plot_hear_Plot_w {s1_a : Option Addr} {s1_c : Nat} {s1 : List Int} {s2_a : Option Addr} {s2_c : Nat} {s2 : List Int} {F : FS} (h_s1 : RowR 1 (iE .i64) F s1_a s1_c s1) (h_s2 : RowR 1 (iE .i64) F s2_a s2_c s2) {r : Bool} (hr : slices_Equal_hear_Plot_hear_Plot s1 s2 = some r) :
    SpecV Try.prog 125 #[.slice s1_a s1.length s1_c, .slice s2_a s2.length s2_c] F (.bool r) := by
  refine spec_of_shW (args := [.slice s1_a s1.length s1_c, .slice s2_a s2.length s2_c]) Try.func125 rfl Try.ntmps125 (Nat.le_of_ble_eq_true rfl) ?_
  intro K _ _; rw [slices_Equal_hear_Plot_hear_Plot] at hr
  refine shW_seq ?_
  refine shW_region ?_
  refine ov (v_assign rfl) rfl ?_
  refine shO_nil ?_
  refine shW_seq ?_
  refine shW_seq ?_
  refine shW_region ?_
  refine ov (v_move rfl) rfl ?_
  refine ov (v_lenS Try.underlying22 rfl) rfl ?_
  refine ov (v_move rfl) rfl ?_
  refine ov (v_lenS Try.underlying22 rfl) rfl ?_
  refine ov (v_neq rfl rfl) rfl ?_
  refine shO_nil ?_
  refine shW_condP rfl (fun c1 => ?_) (fun c1 => ?_)
  · have r2 := ite_t hr c1; clear hr
    refine shW_seq ?_
    refine shW_region ?_
    refine ov (v_assign rfl) rfl ?_
    refine shO_nil ?_
    refine shW_ret ?_
    refine andThen_ret ?_
    refine q_res1 Try.results125 (res_tmp rfl) (List.Sublist.refl _) ?_
    obtain rfl := inj1 r2
    exact rfl
  · have r3 := ite_f hr c1; clear hr
    refine shW_skip ?_
    refine shW_join (fun e1 F1 L1 => slices_Equal_hear_Plot_hear_Plot_j1 = some r ∧ F = F1 ∧ L1 = [] ∧ e1.sub []) ?_ ?_
    · refine shW_seq ?_
      refine shW_region ?_
      refine ov (v_move rfl) rfl ?_
      refine ov (v_lenS Try.underlying22 rfl) rfl ?_
      refine ov (v_move rfl) rfl ?_
      refine shO_nil ?_
      refine shW_block ?_
      refine shW_lp (fun fu2 e1 F1 L1 => ∃ (tl : List Int) (k : Int), tl.length = fu2 ∧ Lst s1 k tl ∧ slices_Equal_hear_Plot_hear_Plot_l2 s2 tl k = some r ∧ F = F1 ∧ L1 = [] ∧ e1.sub [(0, .slice s1_a s1.length s1_c), (1, .slice s2_a s2.length s2_c), (12, .int .i64 (s1.length : Int)), (13, .int .i64 k)]) _ (meet_0 (L2 := []) (L3 := []) (List.Perm.refl _) (List.Sublist.refl _) ⟨_, _, rfl, Lst.start _, r3, rfl, rfl, (sc rfl (sc rfl (sc rfl (sc rfl (sn _)))))⟩) ?_
      rintro fu2 e1 _ _ ⟨tl, k, hn5, hk4, r6, rfl, rfl, he7⟩
      refine shW_env _ he7 ?_; clear he7
      refine shW_seq ?_
      refine shW_region ?_
      refine ov (v_lssK rfl rfl) rfl ?_
      refine shO_nil ?_
      refine shW_seq ?_
      refine shW_condP rfl (fun c9 => ?_) (fun c9 => ?_)
      · obtain ⟨x, tl2, rfl, hx11, g12, hk10⟩ := Lst.succ hk4 c9
        rw [slices_Equal_hear_Plot_hear_Plot_l2] at r6
        refine shW_skip ?_
        refine shW_seq ?_
        refine shW_block ?_
        refine shW_seq ?_
        refine shW_region ?_
        refine ov (v_move rfl) rfl ?_
        refine ov (v_assign rfl) rfl ?_
        refine shO_nil ?_
        refine shW_seq ?_
        refine shW_draw (by kernel_rfl) (by kernel_rfl) (by kernel_rfl) ?_
        refine qv (v_move rfl) rfl ?_
        refine qv (v_move rfl) rfl ?_
        obtain ⟨b13, o14, c15, vs16, ha17, hs18, hle19, rfl, hl20, hc21⟩ := RowR.at (iE_ok _) h_s1 ([]) g12.1 hx11
        refine qv (v_indexO Try.underlying22 Try.sizeOf73 rfl ha17 rfl g12) rfl ?_
        refine qv (v_load Try.isAgg73 rfl hs18 (hc21 0 (by decide))) rfl ?_
        refine qv (v_move rfl) rfl ?_
        refine qv (v_move rfl) rfl ?_
        obtain ⟨x2, g22, hx23, r24⟩ := ix_ok r6; clear r6
        obtain ⟨b25, o26, c27, vs28, ha29, hs30, hle31, rfl, hl32, hc33⟩ := RowR.at (iE_ok _) h_s2 ([]) g22.1 hx23
        refine qv (v_indexO Try.underlying22 Try.sizeOf73 rfl ha29 rfl g22) rfl ?_
        refine qv (v_load Try.isAgg73 rfl hs30 (hc33 0 (by decide))) rfl ?_
        refine qv (v_neq rfl rfl) rfl ?_
        refine shQ_nil ?_
        refine shW_condP rfl (fun c34 => ?_) (fun c34 => ?_)
        · have r35 := ite_t r24 c34; clear r24
          refine shW_seq ?_
          refine shW_region ?_
          refine ov (v_assign rfl) rfl ?_
          refine shO_nil ?_
          refine shW_ret ?_
          refine inBlock_ret ?_
          refine andThen_ret ?_
          refine andThen_ret ?_
          refine inBlock_ret ?_
          refine andThen_ret ?_
          refine q_res1 Try.results125 (res_tmp rfl) (List.Sublist.refl _) ?_
          obtain rfl := inj1 r35
          exact rfl
        · have r36 := ite_f r24 c34; clear r24
          refine shW_skip ?_
          refine inBlock_n (id := 1) ?_
          refine shW_region ?_
          refine ov (v_add rfl rfl (Lst.r64 hk4 c9 (RowR.lt h_s1))) rfl ?_
          refine ov (v_move rfl) rfl ?_
          refine shO_nil ?_
          subst hn5; exact lp_end (Nat.lt_succ_self _) (meet_0 (L2 := []) (L3 := []) (List.Perm.refl _) (List.Sublist.refl _) ⟨_, _, rfl, hk10, r36, rfl, rfl, (sc rfl (sc rfl (sc rfl (sc rfl (sn _)))))⟩)
      · obtain rfl := Lst.zero hk4 c9
        rw [slices_Equal_hear_Plot_hear_Plot_l2] at r6
        refine shW_exit ?_
        refine andThen_exit ?_
        refine andThen_exit ?_
        refine inBlock_exit ?_
        refine meet_i (L2 := []) (L3 := []) (List.Perm.refl _) (List.Sublist.refl _) ?_
        exact ⟨r6, rfl, rfl, (sn _)⟩
    · rintro e1 _ _ ⟨r37, rfl, rfl, he38⟩
      refine shW_env _ he38 ?_; clear he38
      rw [slices_Equal_hear_Plot_hear_Plot_j1] at r37
      refine shW_seq ?_
      refine shW_region ?_
      refine ov (v_assign rfl) rfl ?_
      refine shO_nil ?_
      refine shW_ret ?_
      refine q_res1 Try.results125 (res_tmp rfl) (List.Sublist.refl _) ?_
      obtain rfl := inj1 r37
      exact rfl


set_option maxHeartbeats 1000000 in
theorem oyezkit_Like_Plot_w {a_a : Option Addr} {a_c : Nat} {a : List Int} {b_a : Option Addr} {b_c : Nat} {b : List Int} {F : FS} (h_a : RowR 1 (iE .i64) F a_a a_c a) (h_b : RowR 1 (iE .i64) F b_a b_c b) {r : Bool} (hr : oyezkit_Like_Plot a b = some r) :
    SpecV Try.prog 87 #[.slice a_a a.length a_c, .slice b_a b.length b_c] F (.bool r) := by
  refine spec_of_shW (args := [.slice a_a a.length a_c, .slice b_a b.length b_c]) Try.func87 rfl Try.ntmps87 (Nat.le_of_ble_eq_true rfl) ?_
  intro K _ _; rw [oyezkit_Like_Plot] at hr
  refine shW_seq ?_
  refine shW_region ?_
  refine ov (v_assign rfl) rfl ?_
  refine shO_nil ?_
  refine shW_seq ?_
  refine shW_region ?_
  refine ov (v_move rfl) rfl ?_
  refine ov (v_move rfl) rfl ?_
  obtain ⟨ok, h1, r2⟩ := b1_ok hr; clear hr
  refine o_callV rfl Try.call125 rfl rfl rfl (slices_Equal_hear_Plot_hear_Plot_w h_a h_b h1) ?_
  refine ov (v_assign rfl) rfl ?_
  refine shO_nil ?_
  refine shW_ret ?_
  refine q_res1 Try.results87 (res_tmp rfl) (List.Sublist.refl _) ?_
  obtain rfl := inj1 r2
  exact rfl


set_option maxHeartbeats 1000000 in
theorem oyezlaw01_same_w {wide : Int} {plots_a : Option Addr} {plots_c : Nat} {plots : List Int} {wide2 : Int} {plots2_a : Option Addr} {plots2_c : Nat} {plots2 : List Int} {F : FS} (h_plots : RowR 1 (iE .i64) F plots_a plots_c plots) (h_plots2 : RowR 1 (iE .i64) F plots2_a plots2_c plots2) {r : Bool} (hr : oyezlaw01_same wide plots wide2 plots2 = some r) :
    SpecV Try.prog 26 #[.agg #[.int .i64 wide, .slice plots_a plots.length plots_c], .agg #[.int .i64 wide2, .slice plots2_a plots2.length plots2_c]] F (.bool r) := by
  refine spec_of_shW (args := [.agg #[.int .i64 wide, .slice plots_a plots.length plots_c], .agg #[.int .i64 wide2, .slice plots2_a plots2.length plots2_c]]) Try.func26 rfl Try.ntmps26 (Nat.le_of_ble_eq_true rfl) ?_
  intro K _ _; rw [oyezlaw01_same] at hr
  refine shW_seq ?_
  refine shW_region ?_
  refine o_box rfl rfl ?_; intro b1 hb1
  refine o_box rfl rfl ?_; intro b2 hb2
  refine ov (v_assign rfl) rfl ?_
  refine shO_nil ?_
  refine shW_seq ?_
  refine shW_region ?_
  refine ov (v_fieldAddr fa_24_0 rfl) rfl ?_
  refine ov (v_load Try.isAgg3 rfl (Has.own 1 rfl) rfl) rfl ?_
  refine ov (v_fieldAddr fa_24_0 rfl) rfl ?_
  refine ov (v_load Try.isAgg3 rfl (Has.own 0 rfl) rfl) rfl ?_
  refine ov (v_eql rfl rfl) rfl ?_
  refine ov (v_move rfl) rfl ?_
  by_cases c3 : wide = wide2
  · have r4 := ite_t hr c3; clear hr
    refine shO_on (b := true) 10 rfl (Env.isT rfl c3) ?_
    refine ov (v_fieldAddr fa_24_1 rfl) rfl ?_
    refine shO_on (b := true) 10 rfl (Env.isT rfl c3) ?_
    refine ov (v_load Try.isAgg22 rfl (Has.own 1 rfl) rfl) rfl ?_
    refine shO_on (b := true) 10 rfl (Env.isT rfl c3) ?_
    refine ov (v_fieldAddr fa_24_1 rfl) rfl ?_
    refine shO_on (b := true) 10 rfl (Env.isT rfl c3) ?_
    refine ov (v_load Try.isAgg22 rfl (Has.own 0 rfl) rfl) rfl ?_
    refine shO_on (b := true) 10 rfl (Env.isT rfl c3) ?_
    obtain ⟨ok, h5, r6⟩ := b1_ok r4; clear r4
    refine o_callV rfl Try.call87 rfl rfl rfl (oyezkit_Like_Plot_w h_plots h_plots2 h5) ?_
    refine ov (v_pick_t (evD_true rfl c3) rfl) rfl ?_
    refine ov (v_assign rfl) rfl ?_
    refine shO_nil ?_
    refine shW_drop (L' := []) ((List.Sublist.cons _ ((List.Sublist.cons _ (List.Sublist.refl _))))) ?_
    refine shW_ret ?_
    refine q_res1 Try.results26 (res_tmp rfl) (List.Sublist.refl _) ?_
    obtain rfl := inj1 r6
    exact rfl
  · have r7 := ite_f hr c3; clear hr
    refine shO_off (b' := false) 10 rfl (Env.isF rfl c3) rfl rfl ?_
    refine shO_off (b' := false) 10 rfl (Env.isF rfl c3) rfl rfl ?_
    refine shO_off (b' := false) 10 rfl (Env.isF rfl c3) rfl rfl ?_
    refine shO_off (b' := false) 10 rfl (Env.isF rfl c3) rfl rfl ?_
    refine shO_off (b' := false) 10 rfl (Env.isF rfl c3) rfl rfl ?_
    refine ov (v_pick_f (evD_false rfl c3) rfl) rfl ?_
    refine ov (v_assign rfl) rfl ?_
    refine shO_nil ?_
    refine shW_drop (L' := []) ((List.Sublist.cons _ ((List.Sublist.cons _ (List.Sublist.refl _))))) ?_
    refine shW_ret ?_
    refine q_res1 Try.results26 (res_tmp rfl) (List.Sublist.refl _) ?_
    obtain rfl := inj1 r7
    exact rfl


set_option maxHeartbeats 1000000 in
theorem oyezlaw01_HearNeeds_w {wide : Int} {plots_a : Option Addr} {plots_c : Nat} {plots : List Int} {wind : Int} {stand : Int} {plot : Int} {table_a : Option Addr} {table_c : Nat} {table : List Int} {F : FS} (h_plots : RowR 1 (iE .i64) F plots_a plots_c plots) (h_table : RowR 1 (iE .i64) F table_a table_c table) {r : Bool} (hr : oyezlaw01_HearNeeds wide plots wind stand plot table = some r) :
    SpecV Try.prog 3 #[.agg #[.int .i64 wide, .slice plots_a plots.length plots_c], .int .i64 wind, .int .i64 stand, .int .i64 plot, .slice table_a table.length table_c] F (.bool r) := by
  refine spec_of_shW (args := [.agg #[.int .i64 wide, .slice plots_a plots.length plots_c], .int .i64 wind, .int .i64 stand, .int .i64 plot, .slice table_a table.length table_c]) Try.func3 rfl Try.ntmps3 (Nat.le_of_ble_eq_true rfl) ?_
  intro K _ _; rw [oyezlaw01_HearNeeds] at hr
  refine shW_seq ?_
  refine shW_region ?_
  refine o_box rfl rfl ?_; intro b1 hb1
  refine ov (v_assign rfl) rfl ?_
  refine shO_nil ?_
  refine shW_seq ?_
  obtain ⟨k, h2, r3⟩ := b1_ok hr; clear hr
  refine shW_join (fun e1 F1 L1 => F = F1 ∧ L1 = [(b1, .cells #[.int .i64 wide, .slice plots_a plots.length plots_c] 24 (0, 0))] ∧ e1.sub [(1, .int .i64 wind), (2, .int .i64 stand), (3, .int .i64 plot), (4, .slice table_a table.length table_c), (5, .pointer (some ⟨b1, 0, none⟩)), (28, .bool k)]) ?_ ?_
  · clear r3
    refine shW_region ?_
    refine ov (v_loadA (cs := #[.int .i64 wide, .slice plots_a plots.length plots_c]) Try.isAgg24 Try.sizeOf24 rfl (Has.own 0 rfl) (Nat.le_of_ble_eq_true rfl) rfl) rfl ?_
    obtain ⟨ok, h4, r5⟩ := b1_ok h2; clear h2
    refine o_callV rfl Try.call14 rfl rfl rfl (oyezlaw01_great_w h_plots h4) ?_
    refine ov (v_move rfl) rfl ?_
    rcases bool_two ok with c6 | c6
    · have r7 := bt r5 c6; clear r5
      refine shO_off (b' := true) 24 rfl (EnvB rfl c6) rfl rfl ?_
      refine shO_off (b' := true) 24 rfl (EnvB rfl c6) rfl rfl ?_
      refine shO_off (b' := true) 24 rfl (EnvB rfl c6) rfl rfl ?_
      refine ov (v_pick_t (evB rfl c6) rfl) rfl ?_
      refine shO_nil ?_
      obtain rfl := inj1 r7
      refine meet_i (L2 := [(b1, .cells #[.int .i64 wide, .slice plots_a plots.length plots_c] 24 (0, 0))]) (L3 := [(b1, .cells #[.int .i64 wide, .slice plots_a plots.length plots_c] 24 (0, 0))]) (List.Perm.refl _) (List.Sublist.refl _) ?_
      exact ⟨rfl, rfl, (sc rfl (sc rfl (sc rfl (sc rfl (sc rfl (sc rfl (sn _)))))))⟩
    · have r8 := bf r5 c6; clear r5
      refine shO_on (b := false) 24 rfl (EnvB rfl c6) ?_
      refine ov (v_move rfl) rfl ?_
      refine shO_on (b := false) 24 rfl (EnvB rfl c6) ?_
      refine ov (v_lenS Try.underlying26 rfl) rfl ?_
      refine shO_on (b := false) 24 rfl (EnvB rfl c6) ?_
      refine ov (v_gtrK rfl rfl) rfl ?_
      refine ov (v_pick_f (evB rfl c6) rfl) rfl ?_
      refine shO_nil ?_
      obtain rfl := inj1 r8
      refine meet_i (L2 := [(b1, .cells #[.int .i64 wide, .slice plots_a plots.length plots_c] 24 (0, 0))]) (L3 := [(b1, .cells #[.int .i64 wide, .slice plots_a plots.length plots_c] 24 (0, 0))]) (List.Perm.refl _) (List.Sublist.refl _) ?_
      exact ⟨rfl, rfl, (sc rfl (sc rfl (sc rfl (sc rfl (sc rfl (sc rfl (sn _)))))))⟩
  · rintro e1 _ _ ⟨rfl, rfl, he9⟩
    refine shW_env _ he9 ?_; clear he9
    refine shW_cond rfl (fun c10 => ?_) (fun c10 => ?_)
    · have r11 := bt r3 c10; clear r3
      refine shW_seq ?_
      refine shW_region ?_
      obtain ⟨ok2, h12, r13⟩ := b1_ok r11; clear r11
      refine o_callV rfl Try.call15 rfl rfl rfl (oyezlaw01_awake_w h12) ?_
      refine ov (v_assign rfl) rfl ?_
      refine shO_nil ?_
      refine shW_drop (L' := []) ((List.Sublist.cons _ (List.Sublist.refl _))) ?_
      refine shW_ret ?_
      refine andThen_ret ?_
      refine q_res1 Try.results3 (res_tmp rfl) (List.Sublist.refl _) ?_
      obtain rfl := inj1 r13
      exact rfl
    · have r14 := bf r3 c10; clear r3
      refine shW_skip ?_
      refine shW_seq ?_
      refine shW_drawM [(.still, 0), (.still, 2), (.still, 4), (.seq, 1), (.seq, 3), (.seq, 5), (.alloc 24 (.agg #[.int .i64 0, .slice none 0 0]), 6), (.alloc 32 (.agg #[.int .i64 0, .slice none 0 0]), 7), (.seq, 8), (.still, 9), (.seq, 10)] (by kernel_rfl) (by kernel_rfl) (⟨⟨_, _, _, _, rfl, rfl, Try.zeroValue24⟩, ⟨⟨_, _, _, _, rfl, rfl, Try.zeroValue32⟩, trivial⟩⟩) (by rfl) ?_
      refine shM_v (v := .agg #[.int .i64 wide, .slice plots_a plots.length plots_c]) (ek := [(5, .pointer (some ⟨b1, 0, none⟩))]) (Ls := [(b1, .cells #[.int .i64 wide, .slice plots_a plots.length plots_c] 24 (0, 0))]) rfl rfl rfl rfl ((sc rfl (sn _))) (by kernel_rfl) (fun p hp => (List.Sublist.refl _).subset hp) (fun H F' L' hF' hL' => v_loadA (cs := #[.int .i64 wide, .slice plots_a plots.length plots_c]) Try.isAgg24 Try.sizeOf24 rfl ((Has.own 0 rfl).ext hF' hL') (Nat.le_of_ble_eq_true rfl) rfl) ?_
      refine shM_v (v := .slice table_a table.length table_c) (ek := [(4, .slice table_a table.length table_c)]) (Ls := []) rfl rfl rfl rfl ((sc rfl (sn _))) (by kernel_rfl) (fun p hp => ((List.Sublist.cons _ (List.Sublist.refl _))).subset hp) (fun H F' L' hF' hL' => v_move rfl) ?_
      refine shM_v (v := .agg #[.int .i64 wide, .slice plots_a plots.length plots_c]) (ek := [(5, .pointer (some ⟨b1, 0, none⟩))]) (Ls := [(b1, .cells #[.int .i64 wide, .slice plots_a plots.length plots_c] 24 (0, 0))]) rfl rfl rfl rfl ((sc rfl (sn _))) (by kernel_rfl) (fun p hp => (List.Sublist.refl _).subset hp) (fun H F' L' hF' hL' => v_loadA (cs := #[.int .i64 wide, .slice plots_a plots.length plots_c]) Try.isAgg24 Try.sizeOf24 rfl ((Has.own 0 rfl).ext hF' hL') (Nat.le_of_ble_eq_true rfl) rfl) ?_
      refine ⟨_, [(30, .agg #[.int .i64 wide, .slice plots_a plots.length plots_c])], rfl, rfl, (sc rfl (sn _)), by kernel_rfl, ?_⟩; intro H
      obtain ⟨n, l, h15, r16⟩ := b2_ok r14; clear r14
      refine o_call0 rfl Try.call16 rfl rfl rfl (oyezlaw01_Own_w h_plots h15) ?_; rintro _ F17 _ hF18 hn19 ⟨a21, n25, c22, Lb23, rfl, rfl, hz24⟩
      replace h_plots := h_plots.mono (iE_ok _) hF18
      replace h_table := h_table.mono (iE_ok _) hF18
      replace hz24 := hz24.new fun p hp => hn19 p (by simp [hp])
      refine shO_L (L' := Lb23 ++ ((b1, .cells #[.int .i64 wide, .slice plots_a plots.length plots_c] 24 (0, 0)) :: [])) (by simp only [List.nil_append, List.cons_append, List.append_assoc, List.append_nil] <;> rfl) ?_
      refine shO_perm (L' := (b1, .cells #[.int .i64 wide, .slice plots_a plots.length plots_c] 24 (0, 0)) :: (Lb23 ++ [])) (((frontS (frO)).trans (List.Perm.cons _ (List.Perm.refl _)))) ?_
      refine shO_nil ⟨_, rfl, hF18, [4, 2], by kernel_rfl, .inr (fun d h => by cases h; rfl), (List.forall_mem_cons.2 ⟨fun p hp => ((List.Sublist.cons_cons _ (((List.Sublist.refl _).trans (List.sublist_append_right _ _))))).subset hp, (List.forall_mem_cons.2 ⟨fun p hp => ((List.Sublist.cons _ (((List.Sublist.refl _).trans (List.sublist_append_right _ _))))).subset hp, (fun _ h => absurd h List.not_mem_nil)⟩)⟩), ?_⟩
      refine ⟨_, [(32, .slice table_a table.length table_c)], rfl, rfl, (sc rfl (sn _)), by kernel_rfl, ?_⟩; intro H
      obtain ⟨l2, h27, r28⟩ := b1_ok r16; clear r16
      refine o_call0 rfl Try.call17 rfl rfl rfl (oyezkit_Copy_int_w h_table h27) ?_; rintro _ F29 _ hF30 hn31 ⟨a33, n37, c34, Lb35, rfl, rfl, hz36⟩
      replace h_plots := h_plots.mono (iE_ok _) hF30
      replace h_table := h_table.mono (iE_ok _) hF30
      replace hz24 := hz24.mono (iE_ok _) hF30
      replace hz36 := hz36.new fun p hp => hn31 p (by simp [hp])
      refine shO_L (L' := Lb35 ++ ((b1, .cells #[.int .i64 wide, .slice plots_a plots.length plots_c] 24 (0, 0)) :: (Lb23 ++ []))) (by simp only [List.nil_append, List.cons_append, List.append_assoc, List.append_nil] <;> rfl) ?_
      refine shO_perm (L' := (b1, .cells #[.int .i64 wide, .slice plots_a plots.length plots_c] 24 (0, 0)) :: (Lb35 ++ (Lb23 ++ []))) (((frontS (frO)).trans (List.Perm.cons _ (List.Perm.refl _)))) ?_
      refine shO_nil ⟨_, rfl, hF30, [4], by kernel_rfl, .inr (fun d h => by cases h; rfl), (List.forall_mem_cons.2 ⟨fun p hp => ((List.Sublist.cons_cons _ (((((List.Sublist.refl _).trans (List.sublist_append_right _ _))).trans (List.sublist_append_right _ _))))).subset hp, (fun _ h => absurd h List.not_mem_nil)⟩), ?_⟩
      refine ⟨_, [(34, .agg #[.int .i64 wide, .slice plots_a plots.length plots_c])], rfl, rfl, (sc rfl (sn _)), by kernel_rfl, ?_⟩; intro H
      obtain ⟨n2, l3, h39, r40⟩ := b2_ok r28; clear r28
      refine o_call0 rfl Try.call18 rfl rfl rfl (oyezlaw01_theirs_w h_plots h39) ?_; rintro _ F41 _ hF42 hn43 ⟨a45, n49, c46, Lb47, rfl, rfl, hz48⟩
      replace h_plots := h_plots.mono (iE_ok _) hF42
      replace h_table := h_table.mono (iE_ok _) hF42
      replace hz24 := hz24.mono (iE_ok _) hF42
      replace hz36 := hz36.mono (iE_ok _) hF42
      replace hz48 := hz48.new fun p hp => hn43 p (by simp [hp])
      refine shO_L (L' := Lb47 ++ ((b1, .cells #[.int .i64 wide, .slice plots_a plots.length plots_c] 24 (0, 0)) :: (Lb35 ++ (Lb23 ++ [])))) (by simp only [List.nil_append, List.cons_append, List.append_assoc, List.append_nil] <;> rfl) ?_
      refine shO_perm (L' := (b1, .cells #[.int .i64 wide, .slice plots_a plots.length plots_c] 24 (0, 0)) :: (Lb47 ++ (Lb35 ++ (Lb23 ++ [])))) (((frontS (frO)).trans (List.Perm.cons _ (List.Perm.refl _)))) ?_
      refine shO_nil ⟨_, rfl, hF42, [], by kernel_rfl, .inl rfl, (fun _ h => absurd h List.not_mem_nil), ?_⟩
      refine ⟨_, rfl, ?_⟩; intro b51 hb51
      refine shM_L (L' := (b51, .cells #[.int .i64 0, .slice none 0 0] 24 (0, 0)) :: ((b1, .cells #[.int .i64 wide, .slice plots_a plots.length plots_c] 24 (0, 0)) :: (Lb47 ++ (Lb35 ++ (Lb23 ++ []))))) rfl ?_
      refine ⟨_, rfl, ?_⟩; intro b52 hb52
      refine shM_L (L' := (b52, .cells #[.int .i64 0, .slice none 0 0] 32 (0, 0)) :: ((b51, .cells #[.int .i64 0, .slice none 0 0] 24 (0, 0)) :: ((b1, .cells #[.int .i64 wide, .slice plots_a plots.length plots_c] 24 (0, 0)) :: (Lb47 ++ (Lb35 ++ (Lb23 ++ [])))))) rfl ?_
      refine ⟨_, [(11, .pointer (some ⟨b51, 0, none⟩)), (31, .agg #[.int .i64 n, .slice a21 n25 c22])], rfl, rfl, (sc rfl (sc rfl (sn _))), by kernel_rfl, ?_⟩; intro H
      refine o_storeA (i := 1) Try.sizeOf24 rfl rfl rfl (by simp [Value.oneCell']) rfl (Nat.le_of_ble_eq_true rfl) ?_
      refine shO_L (L' := (b52, .cells #[.int .i64 0, .slice none 0 0] 32 (0, 0)) :: ((b51, .cells #[.int .i64 n, .slice a21 n25 c22] 24 (0, 0)) :: ((b1, .cells #[.int .i64 wide, .slice plots_a plots.length plots_c] 24 (0, 0)) :: (Lb47 ++ (Lb35 ++ (Lb23 ++ [])))))) rfl ?_
      refine shO_nil ⟨undef, rfl, FExt.refl _, [], by kernel_rfl, .inl rfl, (fun _ h => absurd h List.not_mem_nil), ?_⟩
      refine shM_v (v := .slice a33 n37 c34) (ek := [(33, .slice a33 n37 c34)]) (Ls := []) rfl rfl rfl rfl ((sc rfl (sn _))) (by kernel_rfl) (fun p hp => ((List.Sublist.cons _ ((List.Sublist.cons _ ((List.Sublist.cons _ (((((((List.Sublist.refl _).trans (List.sublist_append_right _ _))).trans (List.sublist_append_right _ _))).trans (List.sublist_append_right _ _))))))))).subset hp) (fun H F' L' hF' hL' => v_assign rfl) ?_
      refine ⟨_, [(13, .pointer (some ⟨b52, 0, none⟩)), (35, .agg #[.int .i64 n2, .slice a45 n49 c46])], rfl, rfl, (sc rfl (sc rfl (sn _))), by kernel_rfl, ?_⟩; intro H
      refine o_storeA (i := 0) Try.sizeOf32 rfl rfl rfl (by simp [Value.oneCell']) rfl (Nat.le_of_ble_eq_true rfl) ?_
      refine shO_L (L' := (b52, .cells #[.int .i64 n2, .slice a45 n49 c46] 32 (0, 0)) :: ((b51, .cells #[.int .i64 n, .slice a21 n25 c22] 24 (0, 0)) :: ((b1, .cells #[.int .i64 wide, .slice plots_a plots.length plots_c] 24 (0, 0)) :: (Lb47 ++ (Lb35 ++ (Lb23 ++ [])))))) rfl ?_
      refine shO_nil ⟨undef, rfl, FExt.refl _, [], by kernel_rfl, .inl rfl, (fun _ h => absurd h List.not_mem_nil), ?_⟩
      refine shM_nil ?_
      refine shW_seq ?_
      refine shW_region ?_
      refine ov (v_loadA (cs := #[.int .i64 n, .slice a21 n25 c22]) Try.isAgg24 Try.sizeOf24 rfl (Has.own 1 rfl) (Nat.le_of_ble_eq_true rfl) rfl) rfl ?_
      refine ov (v_move rfl) rfl ?_
      refine ov (v_move rfl) rfl ?_
      refine ov (v_move rfl) rfl ?_
      obtain ⟨n3, n4, h53, r54⟩ := b2_ok r40; clear r40
      refine o_callT (Lt := Lb23 ++ []) (Lr := (b52, .cells #[.int .i64 n2, .slice a45 n49 c46] 32 (0, 0)) :: ((b51, .cells #[.int .i64 n, .slice a21 n25 c22] 24 (0, 0)) :: ((b1, .cells #[.int .i64 wide, .slice plots_a plots.length plots_c] 24 (0, 0)) :: (Lb47 ++ (Lb35 ++ []))))) rfl Try.call19 rfl rfl rfl ((((frontC (frontC (frontC (frontS (frontS (List.Perm.refl _)))))).trans (List.Perm.append_left _ (List.Perm.refl _)))).trans (List.Perm.of_eq (by simp only [List.nil_append, List.cons_append, List.append_assoc, List.append_nil]))) (fun F2 h2 h3 => by have q := hear_Need_w (hz24.row (iE_ok _) h2 (fun p hp => h3 p (List.mem_append_left _ hp))) h53; rw [← (SlR.caps hz24).1] at q; exact q) ?_
      refine ov (v_move rfl) rfl ?_
      refine ov (v_extract rfl rfl) rfl ?_
      refine ov (v_extract rfl rfl) rfl ?_
      refine ov (v_assign rfl) rfl ?_
      refine ov (v_assign rfl) rfl ?_
      refine shO_nil ?_
      refine shW_seq ?_
      refine shW_region ?_
      refine ov (v_loadA (cs := #[.int .i64 n2, .slice a45 n49 c46]) Try.isAgg32 Try.sizeOf32 rfl (Has.own 0 rfl) (Nat.le_of_ble_eq_true rfl) rfl) rfl ?_
      refine ov (v_move rfl) rfl ?_
      refine ov (v_move rfl) rfl ?_
      refine ov (v_move rfl) rfl ?_
      obtain ⟨n5, n6, h55, r56⟩ := b2_ok r54; clear r54
      refine o_callT (Lt := Lb47 ++ []) (Lr := (b52, .cells #[.int .i64 n2, .slice a45 n49 c46] 32 (0, 0)) :: ((b51, .cells #[.int .i64 n, .slice a21 n25 c22] 24 (0, 0)) :: ((b1, .cells #[.int .i64 wide, .slice plots_a plots.length plots_c] 24 (0, 0)) :: (Lb35 ++ (Lb23 ++ []))))) rfl Try.call20 rfl rfl rfl ((((frontC (frontC (frontC (List.Perm.refl _)))).trans (List.Perm.append_left _ (List.Perm.refl _)))).trans (List.Perm.of_eq (by simp only [List.nil_append, List.cons_append, List.append_assoc, List.append_nil]))) (fun F2 h2 h3 => by have q := oyezref01_Need_w (hz48.row (iE_ok _) h2 (fun p hp => h3 p (List.mem_append_left _ hp))) h55; rw [← (SlR.caps hz48).1] at q; exact q) ?_
      refine ov (v_move rfl) rfl ?_
      refine ov (v_extract rfl rfl) rfl ?_
      refine ov (v_extract rfl rfl) rfl ?_
      refine ov (v_assign rfl) rfl ?_
      refine ov (v_assign rfl) rfl ?_
      refine shO_nil ?_
      refine shW_seq ?_
      obtain ⟨k2, h57, r58⟩ := b1_ok r56; clear r56
      refine shW_join (fun e1 F1 L1 => F41 = F1 ∧ L1 = ((b52, .cells #[.int .i64 n2, .slice a45 n49 c46] 32 (0, 0)) :: ((b51, .cells #[.int .i64 n, .slice a21 n25 c22] 24 (0, 0)) :: ((b1, .cells #[.int .i64 wide, .slice plots_a plots.length plots_c] 24 (0, 0)) :: (Lb23 ++ (Lb35 ++ (Lb47 ++ [])))))) ∧ e1.sub [(1, .int .i64 wind), (2, .int .i64 stand), (4, .slice table_a table.length table_c), (5, .pointer (some ⟨b1, 0, none⟩)), (11, .pointer (some ⟨b51, 0, none⟩)), (12, .slice a33 n37 c34), (13, .pointer (some ⟨b52, 0, none⟩)), (59, .bool k2)]) ?_ ?_
      · clear r58
        refine shW_region ?_
        refine ov (v_move rfl) rfl ?_
        refine ov (v_move rfl) rfl ?_
        refine ov (v_neq rfl rfl) rfl ?_
        refine ov (v_move rfl) rfl ?_
        by_cases c59 : n3 ≠ n5
        · have r60 := ite_t h57 c59; clear h57
          refine shO_off (b' := true) 55 rfl (Env.isT rfl c59) rfl rfl ?_
          refine shO_off (b' := true) 55 rfl (Env.isT rfl c59) rfl rfl ?_
          refine shO_off (b' := true) 55 rfl (Env.isT rfl c59) rfl rfl ?_
          refine ov (v_pick_t (evD_true rfl c59) rfl) rfl ?_
          refine shO_nil ?_
          obtain rfl := inj1 r60
          refine meet_i (L2 := (b52, .cells #[.int .i64 n2, .slice a45 n49 c46] 32 (0, 0)) :: ((b51, .cells #[.int .i64 n, .slice a21 n25 c22] 24 (0, 0)) :: ((b1, .cells #[.int .i64 wide, .slice plots_a plots.length plots_c] 24 (0, 0)) :: (Lb23 ++ (Lb35 ++ (Lb47 ++ [])))))) (L3 := (b52, .cells #[.int .i64 n2, .slice a45 n49 c46] 32 (0, 0)) :: ((b51, .cells #[.int .i64 n, .slice a21 n25 c22] 24 (0, 0)) :: ((b1, .cells #[.int .i64 wide, .slice plots_a plots.length plots_c] 24 (0, 0)) :: (Lb23 ++ (Lb35 ++ (Lb47 ++ [])))))) (List.Perm.cons _ (List.Perm.cons _ (List.Perm.cons _ (((frontS (frontS (List.Perm.refl _))).trans (List.Perm.append_left _ (((frontS (List.Perm.refl _)).trans (List.Perm.append_left _ (List.Perm.refl _)))))))))) (List.Sublist.refl _) ?_
          exact ⟨rfl, rfl, (sc rfl (sc rfl (sc rfl (sc rfl (sc rfl (sc rfl (sc rfl (sc rfl (sn _)))))))))⟩
        · have r61 := ite_f h57 c59; clear h57
          refine shO_on (b := false) 55 rfl (Env.isF rfl c59) ?_
          refine ov (v_move rfl) rfl ?_
          refine shO_on (b := false) 55 rfl (Env.isF rfl c59) ?_
          refine ov (v_move rfl) rfl ?_
          refine shO_on (b := false) 55 rfl (Env.isF rfl c59) ?_
          refine ov (v_neq rfl rfl) rfl ?_
          refine ov (v_pick_f (evD_false rfl c59) rfl) rfl ?_
          refine shO_nil ?_
          obtain rfl := inj1 r61
          refine meet_i (L2 := (b52, .cells #[.int .i64 n2, .slice a45 n49 c46] 32 (0, 0)) :: ((b51, .cells #[.int .i64 n, .slice a21 n25 c22] 24 (0, 0)) :: ((b1, .cells #[.int .i64 wide, .slice plots_a plots.length plots_c] 24 (0, 0)) :: (Lb23 ++ (Lb35 ++ (Lb47 ++ [])))))) (L3 := (b52, .cells #[.int .i64 n2, .slice a45 n49 c46] 32 (0, 0)) :: ((b51, .cells #[.int .i64 n, .slice a21 n25 c22] 24 (0, 0)) :: ((b1, .cells #[.int .i64 wide, .slice plots_a plots.length plots_c] 24 (0, 0)) :: (Lb23 ++ (Lb35 ++ (Lb47 ++ [])))))) (List.Perm.cons _ (List.Perm.cons _ (List.Perm.cons _ (((frontS (frontS (List.Perm.refl _))).trans (List.Perm.append_left _ (((frontS (List.Perm.refl _)).trans (List.Perm.append_left _ (List.Perm.refl _)))))))))) (List.Sublist.refl _) ?_
          exact ⟨rfl, rfl, (sc rfl (sc rfl (sc rfl (sc rfl (sc rfl (sc rfl (sc rfl (sc rfl (sn _)))))))))⟩
      · rintro e1 _ _ ⟨rfl, rfl, he62⟩
        refine shW_env _ he62 ?_; clear he62
        refine shW_cond rfl (fun c63 => ?_) (fun c63 => ?_)
        · have r64 := bt r58 c63; clear r58
          refine shW_seq ?_
          refine shW_region ?_
          refine ov (v_assign rfl) rfl ?_
          refine shO_nil ?_
          refine shW_drop (L' := []) ((List.Sublist.cons _ ((List.Sublist.cons _ ((List.Sublist.cons _ (((((((List.Sublist.refl _).trans (List.sublist_append_right _ _))).trans (List.sublist_append_right _ _))).trans (List.sublist_append_right _ _))))))))) ?_
          refine shW_ret ?_
          refine andThen_ret ?_
          refine q_res1 Try.results3 (res_tmp rfl) (List.Sublist.refl _) ?_
          obtain rfl := inj1 r64
          exact rfl
        · have r65 := bf r58 c63; clear r58
          refine shW_skip ?_
          refine shW_seq ?_
          refine shW_region ?_
          refine ov (v_loadA (cs := #[.int .i64 n, .slice a21 n25 c22]) Try.isAgg24 Try.sizeOf24 rfl (Has.own 1 rfl) (Nat.le_of_ble_eq_true rfl) rfl) rfl ?_
          refine ov (v_move rfl) rfl ?_
          refine ov (v_move rfl) rfl ?_
          obtain rfl := (SlR.caps hz24).1
          refine shO_freezeR (Nat.le_refl _) (iE_ok _) (frontC (frontC (frontC (List.Perm.refl _)))) hz24 ?_; intro F66 hF67 h68
          replace h_plots := h_plots.mono (iE_ok _) hF67
          replace h_table := h_table.mono (iE_ok _) hF67
          replace hz36 := hz36.mono (iE_ok _) hF67
          replace hz48 := hz48.mono (iE_ok _) hF67
          obtain ⟨l4, n7, h69, r70⟩ := b2_ok r65; clear r65
          refine o_call0 rfl Try.call21 rfl rfl rfl (hear_Needs_w h68 h69) ?_; rintro _ F71 _ hF72 hn73 ⟨a75, n79, c76, Lb77, rfl, rfl, hz78⟩
          replace h_plots := h_plots.mono (iE_ok _) hF72
          replace h_table := h_table.mono (iE_ok _) hF72
          replace h68 := h68.mono (iE_ok _) hF72
          replace hz36 := hz36.mono (iE_ok _) hF72
          replace hz48 := hz48.mono (iE_ok _) hF72
          replace hz78 := hz78.new fun p hp => hn73 p (by simp [hp])
          refine shO_L (L' := Lb77 ++ ((b52, .cells #[.int .i64 n2, .slice a45 n49 c46] 32 (0, 0)) :: ((b51, .cells #[.int .i64 n, .slice a21 l.length c22] 24 (0, 0)) :: ((b1, .cells #[.int .i64 wide, .slice plots_a plots.length plots_c] 24 (0, 0)) :: (Lb35 ++ (Lb47 ++ [])))))) (by simp only [List.nil_append, List.cons_append, List.append_assoc, List.append_nil] <;> rfl) ?_
          refine shO_perm (L' := (b52, .cells #[.int .i64 n2, .slice a45 n49 c46] 32 (0, 0)) :: ((b51, .cells #[.int .i64 n, .slice a21 l.length c22] 24 (0, 0)) :: ((b1, .cells #[.int .i64 wide, .slice plots_a plots.length plots_c] 24 (0, 0)) :: (Lb77 ++ (Lb35 ++ (Lb47 ++ [])))))) (((frontS (frO)).trans (List.Perm.cons _ (((frontS (frO)).trans (List.Perm.cons _ (((frontS (frO)).trans (List.Perm.cons _ (List.Perm.refl _)))))))))) ?_
          refine ov (v_move rfl) rfl ?_
          refine ov (v_extract rfl rfl) rfl ?_
          refine ov (v_extract rfl rfl) rfl ?_
          refine ov (v_assign rfl) rfl ?_
          refine ov (v_assign rfl) rfl ?_
          refine shO_nil ?_
          refine shW_seq ?_
          refine shW_region ?_
          refine ov (v_loadA (cs := #[.int .i64 n2, .slice a45 n49 c46]) Try.isAgg32 Try.sizeOf32 rfl (Has.own 0 rfl) (Nat.le_of_ble_eq_true rfl) rfl) rfl ?_
          refine ov (v_move rfl) rfl ?_
          refine ov (v_move rfl) rfl ?_
          obtain rfl := (SlR.caps hz48).1
          refine shO_freezeR (Nat.le_refl _) (iE_ok _) (frontC (frontC (frontC (frontS (frontS (List.Perm.refl _)))))) hz48 ?_; intro F81 hF82 h83
          replace h_plots := h_plots.mono (iE_ok _) hF82
          replace h_table := h_table.mono (iE_ok _) hF82
          replace h68 := h68.mono (iE_ok _) hF82
          replace hz36 := hz36.mono (iE_ok _) hF82
          replace hz78 := hz78.mono (iE_ok _) hF82
          obtain ⟨l5, n8, h84, r85⟩ := b2_ok r70; clear r70
          refine o_call0 rfl Try.call22 rfl rfl rfl (oyezref01_Needs_w h83 h84) ?_; rintro _ F86 _ hF87 hn88 ⟨a90, n94, c91, Lb92, rfl, rfl, hz93⟩
          replace h_plots := h_plots.mono (iE_ok _) hF87
          replace h_table := h_table.mono (iE_ok _) hF87
          replace h68 := h68.mono (iE_ok _) hF87
          replace h83 := h83.mono (iE_ok _) hF87
          replace hz36 := hz36.mono (iE_ok _) hF87
          replace hz78 := hz78.mono (iE_ok _) hF87
          replace hz93 := hz93.new fun p hp => hn88 p (by simp [hp])
          refine shO_L (L' := Lb92 ++ ((b52, .cells #[.int .i64 n2, .slice a45 l3.length c46] 32 (0, 0)) :: ((b51, .cells #[.int .i64 n, .slice a21 l.length c22] 24 (0, 0)) :: ((b1, .cells #[.int .i64 wide, .slice plots_a plots.length plots_c] 24 (0, 0)) :: (Lb77 ++ (Lb35 ++ [])))))) (by simp only [List.nil_append, List.cons_append, List.append_assoc, List.append_nil] <;> rfl) ?_
          refine shO_perm (L' := (b52, .cells #[.int .i64 n2, .slice a45 l3.length c46] 32 (0, 0)) :: ((b51, .cells #[.int .i64 n, .slice a21 l.length c22] 24 (0, 0)) :: ((b1, .cells #[.int .i64 wide, .slice plots_a plots.length plots_c] 24 (0, 0)) :: (Lb92 ++ (Lb77 ++ (Lb35 ++ [])))))) (((frontS (frO)).trans (List.Perm.cons _ (((frontS (frO)).trans (List.Perm.cons _ (((frontS (frO)).trans (List.Perm.cons _ (List.Perm.refl _)))))))))) ?_
          refine ov (v_move rfl) rfl ?_
          refine ov (v_extract rfl rfl) rfl ?_
          refine ov (v_extract rfl rfl) rfl ?_
          refine ov (v_assign rfl) rfl ?_
          refine ov (v_assign rfl) rfl ?_
          refine shO_nil ?_
          refine shW_seq ?_
          obtain ⟨k3, h96, r97⟩ := b1_ok r85; clear r85
          refine shW_join (fun e1 F1 L1 => F86 = F1 ∧ L1 = ((b52, .cells #[.int .i64 n2, .slice a45 l3.length c46] 32 (0, 0)) :: ((b51, .cells #[.int .i64 n, .slice a21 l.length c22] 24 (0, 0)) :: ((b1, .cells #[.int .i64 wide, .slice plots_a plots.length plots_c] 24 (0, 0)) :: (Lb35 ++ [])))) ∧ e1.sub [(1, .int .i64 wind), (2, .int .i64 stand), (4, .slice table_a table.length table_c), (5, .pointer (some ⟨b1, 0, none⟩)), (11, .pointer (some ⟨b51, 0, none⟩)), (12, .slice a33 n37 c34), (13, .pointer (some ⟨b52, 0, none⟩)), (82, .bool k3)]) ?_ ?_
          · clear r97
            refine shW_region ?_
            refine ov (v_move rfl) rfl ?_
            refine ov (v_move rfl) rfl ?_
            refine ov (v_neq rfl rfl) rfl ?_
            refine ov (v_move rfl) rfl ?_
            by_cases c98 : n7 ≠ n8
            · have r99 := ite_t h96 c98; clear h96
              refine shO_off (b' := true) 77 rfl (Env.isT rfl c98) rfl rfl ?_
              refine shO_off (b' := true) 77 rfl (Env.isT rfl c98) rfl rfl ?_
              refine shO_off (b' := true) 77 rfl (Env.isT rfl c98) rfl rfl ?_
              refine shO_off (b' := true) 77 rfl (Env.isT rfl c98) rfl rfl ?_
              refine ov (v_pick_t (evD_true rfl c98) rfl) rfl ?_
              refine shO_nil ?_
              obtain rfl := inj1 r99
              refine meet_i (L2 := (b52, .cells #[.int .i64 n2, .slice a45 l3.length c46] 32 (0, 0)) :: ((b51, .cells #[.int .i64 n, .slice a21 l.length c22] 24 (0, 0)) :: ((b1, .cells #[.int .i64 wide, .slice plots_a plots.length plots_c] 24 (0, 0)) :: (Lb35 ++ [])))) (L3 := (b52, .cells #[.int .i64 n2, .slice a45 l3.length c46] 32 (0, 0)) :: ((b51, .cells #[.int .i64 n, .slice a21 l.length c22] 24 (0, 0)) :: ((b1, .cells #[.int .i64 wide, .slice plots_a plots.length plots_c] 24 (0, 0)) :: (Lb35 ++ (Lb92 ++ (Lb77 ++ [])))))) (List.Perm.cons _ (List.Perm.cons _ (List.Perm.cons _ (((frontS (frontS (List.Perm.refl _))).trans (List.Perm.append_left _ (List.Perm.refl _))))))) ((List.Sublist.cons_cons _ ((List.Sublist.cons_cons _ ((List.Sublist.cons_cons _ ((List.Sublist.append (List.Sublist.refl _) (((((List.Sublist.refl _).trans (List.sublist_append_right _ _))).trans (List.sublist_append_right _ _))))))))))) ?_
              exact ⟨rfl, rfl, (sc rfl (sc rfl (sc rfl (sc rfl (sc rfl (sc rfl (sc rfl (sc rfl (sn _)))))))))⟩
            · have r100 := ite_f h96 c98; clear h96
              refine shO_on (b := false) 77 rfl (Env.isF rfl c98) ?_
              refine ov (v_move rfl) rfl ?_
              refine shO_on (b := false) 77 rfl (Env.isF rfl c98) ?_
              refine ov (v_move rfl) rfl ?_
              refine shO_on (b := false) 77 rfl (Env.isF rfl c98) ?_
              obtain ⟨ok3, h101, r102⟩ := b1_ok r100; clear r100
              refine o_callT (Lt := Lb77 ++ (Lb92 ++ [])) (Lr := (b52, .cells #[.int .i64 n2, .slice a45 l3.length c46] 32 (0, 0)) :: ((b51, .cells #[.int .i64 n, .slice a21 l.length c22] 24 (0, 0)) :: ((b1, .cells #[.int .i64 wide, .slice plots_a plots.length plots_c] 24 (0, 0)) :: (Lb35 ++ [])))) rfl Try.call23 rfl rfl rfl ((((frontC (frontC (frontC (frontS (List.Perm.refl _))))).trans (List.Perm.append_left _ (((frontC (frontC (frontC (List.Perm.refl _)))).trans (List.Perm.append_left _ (List.Perm.refl _))))))).trans (List.Perm.of_eq (by simp only [List.nil_append, List.cons_append, List.append_assoc, List.append_nil]))) (fun F2 h2 h3 => by have q := oyezkit_Like_int_w (hz78.row (iE_ok _) h2 (fun p hp => h3 p (List.mem_append_left _ hp))) (hz93.row (iE_ok _) h2 (fun p hp => h3 p (List.mem_append_right _ (List.mem_append_left _ hp)))) h101; rw [← (SlR.caps hz78).1] at q; rw [← (SlR.caps hz93).1] at q; exact q) ?_
              refine shO_on (b := false) 77 rfl (Env.isF rfl c98) ?_
              refine ov (v_notB rfl) rfl ?_
              refine ov (v_pick_f (evD_false rfl c98) rfl) rfl ?_
              refine shO_nil ?_
              obtain rfl := inj1 r102
              refine meet_i (L2 := (b52, .cells #[.int .i64 n2, .slice a45 l3.length c46] 32 (0, 0)) :: ((b51, .cells #[.int .i64 n, .slice a21 l.length c22] 24 (0, 0)) :: ((b1, .cells #[.int .i64 wide, .slice plots_a plots.length plots_c] 24 (0, 0)) :: (Lb35 ++ [])))) (L3 := (b52, .cells #[.int .i64 n2, .slice a45 l3.length c46] 32 (0, 0)) :: ((b51, .cells #[.int .i64 n, .slice a21 l.length c22] 24 (0, 0)) :: ((b1, .cells #[.int .i64 wide, .slice plots_a plots.length plots_c] 24 (0, 0)) :: (Lb35 ++ (Lb92 ++ (Lb77 ++ [])))))) (List.Perm.cons _ (List.Perm.cons _ (List.Perm.cons _ (((frontS (frontS (List.Perm.refl _))).trans (List.Perm.append_left _ (List.Perm.refl _))))))) ((List.Sublist.cons_cons _ ((List.Sublist.cons_cons _ ((List.Sublist.cons_cons _ ((List.Sublist.append (List.Sublist.refl _) (((((List.Sublist.refl _).trans (List.sublist_append_right _ _))).trans (List.sublist_append_right _ _))))))))))) ?_
              exact ⟨rfl, rfl, (sc rfl (sc rfl (sc rfl (sc rfl (sc rfl (sc rfl (sc rfl (sc rfl (sn _)))))))))⟩
          · rintro e1 _ _ ⟨rfl, rfl, he103⟩
            refine shW_env _ he103 ?_; clear he103
            refine shW_cond rfl (fun c104 => ?_) (fun c104 => ?_)
            · have r105 := bt r97 c104; clear r97
              refine shW_seq ?_
              refine shW_region ?_
              refine ov (v_assign rfl) rfl ?_
              refine shO_nil ?_
              refine shW_drop (L' := []) ((List.Sublist.cons _ ((List.Sublist.cons _ ((List.Sublist.cons _ (((List.Sublist.refl _).trans (List.sublist_append_right _ _))))))))) ?_
              refine shW_ret ?_
              refine andThen_ret ?_
              refine q_res1 Try.results3 (res_tmp rfl) (List.Sublist.refl _) ?_
              obtain rfl := inj1 r105
              exact rfl
            · have r106 := bf r97 c104; clear r97
              refine shW_skip ?_
              refine shW_seq ?_
              refine shW_region ?_
              refine ov (v_loadA (cs := #[.int .i64 n, .slice a21 l.length c22]) Try.isAgg24 Try.sizeOf24 rfl (Has.own 1 rfl) (Nat.le_of_ble_eq_true rfl) rfl) rfl ?_
              refine ov (v_move rfl) rfl ?_
              refine ov (v_move rfl) rfl ?_
              refine ov (v_move rfl) rfl ?_
              obtain ⟨ok4, n9, h107, r108⟩ := b2_ok r106; clear r106
              refine o_callT (Lt := Lb35 ++ []) (Lr := [(b52, .cells #[.int .i64 n2, .slice a45 l3.length c46] 32 (0, 0)), (b51, .cells #[.int .i64 n, .slice a21 l.length c22] 24 (0, 0)), (b1, .cells #[.int .i64 wide, .slice plots_a plots.length plots_c] 24 (0, 0))]) rfl Try.call24 rfl rfl rfl ((((frontC (frontC (frontC (List.Perm.refl _)))).trans (List.Perm.append_left _ (List.Perm.refl _)))).trans (List.Perm.of_eq (by simp only [List.nil_append, List.cons_append, List.append_assoc, List.append_nil]))) (fun F2 h2 h3 => by have q := hear_Holds_w (h68.mono (iE_ok _) h2) (hz36.row (iE_ok _) h2 (fun p hp => h3 p (List.mem_append_left _ hp))) h107; rw [← (SlR.caps hz36).1] at q; exact q) ?_
              refine ov (v_move rfl) rfl ?_
              refine ov (v_extract rfl rfl) rfl ?_
              refine ov (v_extract rfl rfl) rfl ?_
              refine ov (v_assign rfl) rfl ?_
              refine ov (v_assign rfl) rfl ?_
              refine shO_nil ?_
              refine shW_seq ?_
              refine shW_region ?_
              refine ov (v_loadA (cs := #[.int .i64 n2, .slice a45 l3.length c46]) Try.isAgg32 Try.sizeOf32 rfl (Has.own 0 rfl) (Nat.le_of_ble_eq_true rfl) rfl) rfl ?_
              refine ov (v_move rfl) rfl ?_
              refine ov (v_move rfl) rfl ?_
              refine ov (v_move rfl) rfl ?_
              obtain ⟨ok5, n10, h109, r110⟩ := b2_ok r108; clear r108
              refine o_callV rfl Try.call25 rfl rfl rfl (oyezref01_Holds_w h83 h_table h109) ?_
              refine ov (v_move rfl) rfl ?_
              refine ov (v_extract rfl rfl) rfl ?_
              refine ov (v_extract rfl rfl) rfl ?_
              refine ov (v_assign rfl) rfl ?_
              refine ov (v_assign rfl) rfl ?_
              refine shO_nil ?_
              refine shW_seq ?_
              refine shW_region ?_
              refine ov (v_move rfl) rfl ?_
              refine ov (v_move rfl) rfl ?_
              refine ov (v_eqlB Try.underlying4 rfl rfl) rfl ?_
              refine ov (v_move rfl) rfl ?_
              by_cases c111 : ok4 = ok5
              · have r112 := ite_t r110 c111; clear r110
                refine shO_on (b := true) 102 rfl (Env.isT rfl c111) ?_
                refine ov (v_move rfl) rfl ?_
                refine shO_on (b := true) 102 rfl (Env.isT rfl c111) ?_
                refine ov (v_move rfl) rfl ?_
                refine shO_on (b := true) 102 rfl (Env.isT rfl c111) ?_
                refine ov (v_eql rfl rfl) rfl ?_
                refine ov (v_pick_t (evD_true rfl c111) rfl) rfl ?_
                refine ov (v_move rfl) rfl ?_
                by_cases c113 : n9 = n10
                · have r114 := ite_t r112 c113; clear r112
                  refine shO_on (b := true) 107 rfl (Env.isT rfl c113) ?_
                  refine ov (v_loadA (cs := #[.int .i64 n, .slice a21 l.length c22]) Try.isAgg24 Try.sizeOf24 rfl (Has.own 1 rfl) (Nat.le_of_ble_eq_true rfl) rfl) rfl ?_
                  refine shO_on (b := true) 107 rfl (Env.isT rfl c113) ?_
                  refine ov (v_loadA (cs := #[.int .i64 wide, .slice plots_a plots.length plots_c]) Try.isAgg24 Try.sizeOf24 rfl (Has.own 2 rfl) (Nat.le_of_ble_eq_true rfl) rfl) rfl ?_
                  refine shO_on (b := true) 107 rfl (Env.isT rfl c113) ?_
                  obtain ⟨ok6, h115, r116⟩ := b1_ok r114; clear r114
                  refine o_callV rfl Try.call26 rfl rfl rfl (oyezlaw01_same_w h68 h_plots h115) ?_
                  refine ov (v_pick_t (evD_true rfl c113) rfl) rfl ?_
                  refine ov (v_move rfl) rfl ?_
                  rcases bool_two ok6 with c117 | c117
                  · have r118 := bt r116 c117; clear r116
                    refine shO_on (b := true) 112 rfl (EnvB rfl c117) ?_
                    refine ov (v_move rfl) rfl ?_
                    refine shO_on (b := true) 112 rfl (EnvB rfl c117) ?_
                    refine ov (v_move rfl) rfl ?_
                    refine shO_on (b := true) 112 rfl (EnvB rfl c117) ?_
                    obtain ⟨ok7, h119, r120⟩ := b1_ok r118; clear r118
                    refine o_callT (Lt := Lb35 ++ []) (Lr := [(b52, .cells #[.int .i64 n2, .slice a45 l3.length c46] 32 (0, 0)), (b51, .cells #[.int .i64 n, .slice a21 l.length c22] 24 (0, 0)), (b1, .cells #[.int .i64 wide, .slice plots_a plots.length plots_c] 24 (0, 0))]) rfl Try.call23 rfl rfl rfl ((((frontC (frontC (frontC (List.Perm.refl _)))).trans (List.Perm.append_left _ (List.Perm.refl _)))).trans (List.Perm.of_eq (by simp only [List.nil_append, List.cons_append, List.append_assoc, List.append_nil]))) (fun F2 h2 h3 => by have q := oyezkit_Like_int_w (hz36.row (iE_ok _) h2 (fun p hp => h3 p (List.mem_append_left _ hp))) (h_table.mono (iE_ok _) h2) h119; rw [← (SlR.caps hz36).1] at q; exact q) ?_
                    refine ov (v_pick_t (evB rfl c117) rfl) rfl ?_
                    refine ov (v_move rfl) rfl ?_
                    rcases bool_two ok7 with c121 | c121
                    · have r122 := bt r120 c121; clear r120
                      refine shO_on (b := true) 117 rfl (EnvB rfl c121) ?_
                      obtain ⟨ok8, h123, r124⟩ := b1_ok r122; clear r122
                      refine o_callV rfl Try.call15 rfl rfl rfl (oyezlaw01_awake_w h123) ?_
                      refine ov (v_pick_t (evB rfl c121) rfl) rfl ?_
                      refine ov (v_assign rfl) rfl ?_
                      refine shO_nil ?_
                      refine shW_drop (L' := []) ((List.Sublist.cons _ ((List.Sublist.cons _ ((List.Sublist.cons _ (((List.Sublist.refl _).trans (List.sublist_append_right _ _))))))))) ?_
                      refine shW_ret ?_
                      refine q_res1 Try.results3 (res_tmp rfl) (List.Sublist.refl _) ?_
                      obtain rfl := inj1 r124
                      exact rfl
                    · have r125 := bf r120 c121; clear r120
                      refine shO_off (b' := false) 117 rfl (EnvB rfl c121) rfl rfl ?_
                      refine ov (v_pick_f (evB rfl c121) rfl) rfl ?_
                      refine ov (v_assign rfl) rfl ?_
                      refine shO_nil ?_
                      refine shW_drop (L' := []) ((List.Sublist.cons _ ((List.Sublist.cons _ ((List.Sublist.cons _ (((List.Sublist.refl _).trans (List.sublist_append_right _ _))))))))) ?_
                      refine shW_ret ?_
                      refine q_res1 Try.results3 (res_tmp rfl) (List.Sublist.refl _) ?_
                      obtain rfl := inj1 r125
                      exact rfl
                  · have r126 := bf r116 c117; clear r116
                    refine shO_off (b' := false) 112 rfl (EnvB rfl c117) rfl rfl ?_
                    refine shO_off (b' := false) 112 rfl (EnvB rfl c117) rfl rfl ?_
                    refine shO_off (b' := false) 112 rfl (EnvB rfl c117) rfl rfl ?_
                    refine ov (v_pick_f (evB rfl c117) rfl) rfl ?_
                    refine ov (v_move rfl) rfl ?_
                    refine shO_off (b' := false) 117 rfl rfl rfl rfl ?_
                    refine ov (v_pick_f rfl rfl) rfl ?_
                    refine ov (v_assign rfl) rfl ?_
                    refine shO_nil ?_
                    refine shW_drop (L' := []) ((List.Sublist.cons _ ((List.Sublist.cons _ ((List.Sublist.cons _ (((List.Sublist.refl _).trans (List.sublist_append_right _ _))))))))) ?_
                    refine shW_ret ?_
                    refine q_res1 Try.results3 (res_tmp rfl) (List.Sublist.refl _) ?_
                    obtain rfl := inj1 r126
                    exact rfl
                · have r127 := ite_f r112 c113; clear r112
                  refine shO_off (b' := false) 107 rfl (Env.isF rfl c113) rfl rfl ?_
                  refine shO_off (b' := false) 107 rfl (Env.isF rfl c113) rfl rfl ?_
                  refine shO_off (b' := false) 107 rfl (Env.isF rfl c113) rfl rfl ?_
                  refine ov (v_pick_f (evD_false rfl c113) rfl) rfl ?_
                  refine ov (v_move rfl) rfl ?_
                  refine shO_off (b' := false) 112 rfl rfl rfl rfl ?_
                  refine shO_off (b' := false) 112 rfl rfl rfl rfl ?_
                  refine shO_off (b' := false) 112 rfl rfl rfl rfl ?_
                  refine ov (v_pick_f rfl rfl) rfl ?_
                  refine ov (v_move rfl) rfl ?_
                  refine shO_off (b' := false) 117 rfl rfl rfl rfl ?_
                  refine ov (v_pick_f rfl rfl) rfl ?_
                  refine ov (v_assign rfl) rfl ?_
                  refine shO_nil ?_
                  refine shW_drop (L' := []) ((List.Sublist.cons _ ((List.Sublist.cons _ ((List.Sublist.cons _ (((List.Sublist.refl _).trans (List.sublist_append_right _ _))))))))) ?_
                  refine shW_ret ?_
                  refine q_res1 Try.results3 (res_tmp rfl) (List.Sublist.refl _) ?_
                  obtain rfl := inj1 r127
                  exact rfl
              · have r128 := ite_f r110 c111; clear r110
                refine shO_off (b' := false) 102 rfl (Env.isF rfl c111) rfl rfl ?_
                refine shO_off (b' := false) 102 rfl (Env.isF rfl c111) rfl rfl ?_
                refine shO_off (b' := false) 102 rfl (Env.isF rfl c111) rfl rfl ?_
                refine ov (v_pick_f (evD_false rfl c111) rfl) rfl ?_
                refine ov (v_move rfl) rfl ?_
                refine shO_off (b' := false) 107 rfl rfl rfl rfl ?_
                refine shO_off (b' := false) 107 rfl rfl rfl rfl ?_
                refine shO_off (b' := false) 107 rfl rfl rfl rfl ?_
                refine ov (v_pick_f rfl rfl) rfl ?_
                refine ov (v_move rfl) rfl ?_
                refine shO_off (b' := false) 112 rfl rfl rfl rfl ?_
                refine shO_off (b' := false) 112 rfl rfl rfl rfl ?_
                refine shO_off (b' := false) 112 rfl rfl rfl rfl ?_
                refine ov (v_pick_f rfl rfl) rfl ?_
                refine ov (v_move rfl) rfl ?_
                refine shO_off (b' := false) 117 rfl rfl rfl rfl ?_
                refine ov (v_pick_f rfl rfl) rfl ?_
                refine ov (v_assign rfl) rfl ?_
                refine shO_nil ?_
                refine shW_drop (L' := []) ((List.Sublist.cons _ ((List.Sublist.cons _ ((List.Sublist.cons _ (((List.Sublist.refl _).trans (List.sublist_append_right _ _))))))))) ?_
                refine shW_ret ?_
                refine q_res1 Try.results3 (res_tmp rfl) (List.Sublist.refl _) ?_
                obtain rfl := inj1 r128
                exact rfl


end Go.Proofs.Ytdnmaodkdhdacaa
