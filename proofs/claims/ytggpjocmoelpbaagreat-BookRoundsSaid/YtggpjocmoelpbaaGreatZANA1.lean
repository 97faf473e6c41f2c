/- The walks that this claim needs, printed by a program of mine; part 1. -/
import Derived.Test.YtggpjocmoelpbaaGreatZAShX
import Derived.Test.YtggpjocmoelpbaaGreatZATf
import Derived.Test.YtggpjocmoelpbaaGreatZATd
namespace Go.Proofs.YtggpjocmoelpbaaGreat
open Go.SH Go.PL
open Tryz 
variable {f so : (List Int) → Option Bool} {f_1 f_2 seq_1 seq_2 so_1 so_2 : Array Value} {F : FS} {f_f seq_f so_f : FuncId} {a at_ b hi houses last lo n set_ start turn v : Int} {s__L : LH} {pairs : List (Int × Int)} {walks : List (List Int)} {hit metal seq walks2 : List Int} {b_b b_c b_c_ hears_c l_c metal_c notices_c pairs_c s__c s__n s__nb walks_c : Nat} {mb_c mb_c_ : Nat × Nat} {hears_a l_a metal_a notices_a pairs_a s__a walks_a : Option Addr}
set_option maxHeartbeats 1000000 in
theorem oyezkit_Bell_ring_w (h_metal : RowR 1 (iE .u8) F metal_a metal_c metal) {r r2 r3 : Int} (hr : oyezkit_Bell_ring metal at_ turn = some (r, r2, r3)) :
    SH.Spec Tryz.prog 38 #[.pointer (some ⟨b_b, 0, none⟩)] F [(b_b, ce #[.slice metal_a metal.length metal_c, .int .i64 at_, .int .u32 turn] 68)] fun _ L' v => v = .int .i64 r ∧ L' = [(b_b, ce #[.slice metal_a metal.length metal_c, .int .i64 r2, .int .u32 r3] 68)] := by
 refine sp func38 ntmps38 fun K _ _ => ?_
 rw [oyezkit_Bell_ring] at hr
 refine wsr (ua (shO_nil ?_))
 obtain ⟨b_at, b_turn, h1, r4⟩ := b2_ok hr
 refine jE ([(b_b, ce #[.slice metal_a metal.length metal_c, .int .i64 b_at, .int .u32 b_turn] 68)]) [(0, .pointer (some ⟨b_b, 0, none⟩))] ?_ ?_
 ·clear r4
  refine dW (wm (wv (v_nilCheck rfl) (wv (v_fieldAddr fa_68_1 rfl) (wv (v_load isAgg3 rfl (Has.own 0 rfl) rfl) (wm (wv (v_nilCheck rfl) (wv (v_fieldAddr fa_68_0 rfl) ?_)))))))
  refine wv (v_load isAgg22 rfl (Has.own 0 rfl) rfl) (wv (v_lenS underlying22 rfl) (wv (v_eql rfl rfl) (shQ_nil ?_)))
  refine cQ (fun c5 => ?_) fun c5 => ?_
  ·have r6 := ite_t h1 c5
   refine shW_region (um (um (um ?_)))
   refine uv (v_nilCheck rfl) (uv (v_fieldAddr fa_68_2 rfl) (uv (v_load isAgg66 rfl (Has.own 0 rfl) rfl) (uv (u_add rfl rfl rfl) (uv (v_nilCheck rfl) (uv (v_fieldAddr fa_68_1 rfl) (o_store (i := 0) sizeOf3 rfl rfl rfl rfl (nbL rfl) (shO_L rfl ?_)))))))
   refine uv (v_nilCheck rfl) (uv (v_fieldAddr fa_68_2 rfl) (o_store (i := 0) sizeOf66 rfl rfl rfl rfl (nbL rfl) (shO_L rfl (shO_nil ?_))))
   obtain ⟨rfl, rfl⟩ := inj2 r6
   exact mi kr ⟨rfl, rfl, z1⟩
  have r7 := ite_f h1 c5
  refine shW_skip ?_
  obtain ⟨rfl, rfl⟩ := inj2 r7
  exact mi kr ⟨rfl, rfl, z1⟩
 refine wsr (um ?_)
 refine uv (v_nilCheck rfl) (uv (v_fieldAddr fa_68_2 rfl) (uv (v_load isAgg66 rfl (Has.own 0 rfl) rfl) (uv (u_mul rfl rfl rfl) ?_)))
 obtain ⟨n, h9, r10⟩ := bv_ok r4
 refine uv ((v_assign rfl).i h9) (shO_nil ?_)
 obtain ⟨n2, b_at2, h11, r12⟩ := b2_ok r10
 refine jE ([(b_b, ce #[.slice metal_a metal.length metal_c, .int .i64 b_at2, .int .u32 b_turn] 68)]) [(3, .int .u32 n2)] ?_ ?_
 ·clear r12
  refine wsr (um ?_)
  refine uv (v_nilCheck rfl) (uv (v_fieldAddr fa_68_0 rfl) (uv (v_load isAgg22 rfl (Has.own 0 rfl) rfl) (uv (v_lenS underlying22 rfl) (uv (v_gtrK rfl rfl) (shO_nil ?_)))))
  refine cQ (fun c13 => ?_) fun c13 => ?_
  ·have r14 := ite_t h11 c13
   refine dW ?_
   refine wm (wm ?_)
   refine wv (v_nilCheck rfl) (wv (v_fieldAddr fa_68_0 rfl) (wv (v_load isAgg22 rfl (Has.own 0 rfl) rfl) (wm (wv (v_nilCheck rfl) (wv (v_fieldAddr fa_68_1 rfl) (wv (v_load isAgg3 rfl (Has.own 0 rfl) rfl) ?_))))))
   obtain ⟨x, g15, hx16, r17⟩ := ix_ok r14
   obtain ⟨b18, o19, c20, vs21, ha22, hs23, hle24, rfl, hl25, hc26⟩ := RowR.at (iE_ok _) h_metal ([(b_b, ce #[.slice metal_a metal.length metal_c, .int .i64 b_at, .int .u32 b_turn] 68)]) g15.1 hx16
   refine wv (v_indexO underlying22 sizeOf5 rfl ha22 rfl g15) (wv (v_load isAgg5 rfl hs23 (hc26 0 (by decide))) (wv (u_conv rfl underlying5 underlying66 rfl) (wv (u_mul rfl rfl rfl) (wv (u_add rfl rfl rfl) ?_))))
   obtain ⟨n3, h27, r28⟩ := bv_ok r17
   refine wv ((v_assign rfl).i h27) ?_
   refine shQ_nil (shW_region (um ?_))
   refine uv (v_nilCheck rfl) (uv (v_fieldAddr fa_68_1 rfl) (uv (v_load isAgg3 rfl (Has.own 0 rfl) rfl) ?_))
   obtain ⟨g29, r30⟩ := gd_ok r28
   refine uv (v_add rfl rfl g29) (uv (v_nilCheck rfl) (uv (v_fieldAddr fa_68_1 rfl) (o_store (i := 0) sizeOf3 rfl rfl rfl rfl (nbL rfl) (shO_L rfl (shO_nil ?_)))))
   obtain ⟨rfl, rfl⟩ := inj2 r30
   exact mi kr ⟨rfl, rfl, z1⟩
  have r31 := ite_f h11 c13
  refine shW_skip ?_
  obtain ⟨rfl, rfl⟩ := inj2 r31
  exact mi kr ⟨rfl, rfl, z1⟩
 refine wsr (um (um ?_))
 refine uv (v_shr rfl rfl (by decide)) (uv (u_xor rfl rfl rfl) (uv (u_and rfl rfl rfl) ?_))
 obtain ⟨g33, r34⟩ := gd_ok r12
 refine uv (i_conv underlying66 underlying3 rfl g33) ?_
 refine ua (shO_nil (shW_ret ?_))
 refine qR1 results38 ?_
 obtain ⟨rfl, rfl, rfl⟩ := inj3 r34
 exact ⟨rfl, rfl⟩
theorem oyezkit_Bell_Stroke_w (h_metal : RowR 1 (iE .u8) F metal_a metal_c metal) {r r2 r3 : Int} (hr : oyezkit_Bell_Stroke metal at_ turn n = some (r, r2, r3)) :
    SH.Spec Tryz.prog 17 #[.pointer (some ⟨b_b, 0, none⟩), .int .i64 n] F [(b_b, ce #[.slice metal_a metal.length metal_c, .int .i64 at_, .int .u32 turn] 68)] fun _ L' v => v = .int .i64 r ∧ L' = [(b_b, ce #[.slice metal_a metal.length metal_c, .int .i64 r2, .int .u32 r3] 68)] := by
 refine sp func17 ntmps17 fun K _ _ => ?_
 rw [oyezkit_Bell_Stroke] at hr
 refine wsr (ua (nsr (um ?_)))
 obtain ⟨n2, at_2, turn2, h1, r4⟩ := b3_ok hr
 refine cG call38 (oyezkit_Bell_ring_w h_metal h1) ?_; rintro _ F5 _ hF6 hd8 hn7 ⟨rfl, rfl⟩
 refine shO_L (lb (ln rfl)) (um ?_)
 obtain ⟨g9, r10⟩ := gd_ok r4
 refine uv (v_add rfl rfl g9) (uv (v_max2 rfl rfl) ?_)
 obtain ⟨g11, r12⟩ := gd_ok r10
 refine uv (v_remT rfl rfl g11) ?_
 refine ua (shO_nil (shW_ret ?_))
 refine qR1 results17 ?_
 obtain ⟨rfl, rfl, rfl⟩ := inj3 r12
 exact ⟨rfl, rfl⟩
theorem oyezkit_Bell_Strike_w (h_metal : RowR 1 (iE .u8) F metal_a metal_c metal) {r r2 r3 : Int} (hr : oyezkit_Bell_Strike metal at_ turn lo hi = some (r, r2, r3)) :
    SH.Spec Tryz.prog 11 #[.pointer (some ⟨b_b, 0, none⟩), .int .i64 lo, .int .i64 hi] F [(b_b, ce #[.slice metal_a metal.length metal_c, .int .i64 at_, .int .u32 turn] 68)] fun _ L' v => v = .int .i64 r ∧ L' = [(b_b, ce #[.slice metal_a metal.length metal_c, .int .i64 r2, .int .u32 r3] 68)] := by
 refine sp func11 ntmps11 fun K _ _ => ?_
 rw [oyezkit_Bell_Strike] at hr
 refine wsr (ua (nsr (um (um (um (um ?_))))))
 obtain ⟨g1, r4⟩ := gd_ok hr
 refine uv (v_sub rfl rfl g1) ?_
 obtain ⟨n, at_2, turn2, h5, r6⟩ := b3_ok r4
 refine cG call17 (oyezkit_Bell_Stroke_w h_metal h5) ?_; rintro _ F7 _ hF8 hd10 hn9 ⟨rfl, rfl⟩
 refine shO_L (lb (ln rfl)) ?_
 obtain ⟨g11, r12⟩ := gd_ok r6
 refine uv (v_add rfl rfl g11) ?_
 refine ua (shO_nil (shW_ret ?_))
 refine qR1 results11 ?_
 obtain ⟨rfl, rfl, rfl⟩ := inj3 r12
 exact ⟨rfl, rfl⟩
theorem oyezkit_Bell_Seldom_w (h_metal : RowR 1 (iE .u8) F metal_a metal_c metal) {r : Bool} {r2 r3 : Int} (hr : oyezkit_Bell_Seldom metal at_ turn n = some (r, r2, r3)) :
    SH.Spec Tryz.prog 15 #[.pointer (some ⟨b_b, 0, none⟩), .int .i64 n] F [(b_b, ce #[.slice metal_a metal.length metal_c, .int .i64 at_, .int .u32 turn] 68)] fun _ L' v => v = .bool r ∧ L' = [(b_b, ce #[.slice metal_a metal.length metal_c, .int .i64 r2, .int .u32 r3] 68)] := by
 refine sp func15 ntmps15 fun K _ _ => ?_
 rw [oyezkit_Bell_Seldom] at hr
 refine wsr (ua (nsr (um (um ?_))))
 obtain ⟨g1, r4⟩ := gd_ok hr
 refine uv (v_sub rfl rfl g1) ?_
 obtain ⟨n2, at_2, turn2, h5, r6⟩ := b3_ok r4
 refine cG call17 (oyezkit_Bell_Stroke_w h_metal h5) ?_; rintro _ F7 _ hF8 hd10 hn9 ⟨rfl, rfl⟩
 refine shO_L (lb (ln rfl)) (uv (v_eql rfl rfl) ?_)
 refine ua (shO_nil (shW_ret ?_))
 refine qR1 results15 ?_
 obtain ⟨rfl, rfl, rfl⟩ := inj3 r6
 exact ⟨rfl, rfl⟩
set_option maxHeartbeats 1000000 in
theorem oyezkit_Bell_Rung_w (h_metal : RowR 1 (iE .u8) F metal_a metal_c metal) {r : List Int} {r2 r3 : Int} (hr : oyezkit_Bell_Rung metal at_ turn n = some (r, r2, r3)) :
    SH.Spec Tryz.prog 16 #[.pointer (some ⟨b_b, 0, none⟩), .int .i64 n] F [(b_b, ce #[.slice metal_a metal.length metal_c, .int .i64 at_, .int .u32 turn] 68)] fun F' L' v => ∃ (ra : Option Addr) (rn : Nat) (rc : Nat) (rL : LH), v = .slice ra rn rc ∧ L' = (b_b, ce #[.slice metal_a metal.length metal_c, .int .i64 r2, .int .u32 r3] 68) :: (rL ++ []) ∧ SlR 0 3 1 (iE .i64) F' ra rn rc r rL := by
 refine sp func16 ntmps16 fun K _ _ => ?_
 rw [oyezkit_Bell_Rung] at hr
 refine wsr (ua (nsr (ua (shO_nil ?_))))
 obtain ⟨out, b_at, b_turn, h7, r8⟩ := b3_ok hr
 refine shW_join (fun e1 F1 L1 => ∃ (a1 : Option Addr) (n5 : Nat) (c2 : Nat) (Lb3 : LH), FExt F F1 ∧ L1 = ((b_b, ce #[.slice metal_a metal.length metal_c, .int .i64 b_at, .int .u32 b_turn] 68) :: (Lb3 ++ [])) ∧ e1.sub [(5, .slice a1 n5 c2)] ∧ SlR K.w0.heap.size 3 1 (iE .i64) F1 a1 n5 c2 out Lb3) ?_ ?_
 ·clear r8
  refine wsr (um ?_)
  refine uv (v_max2 rfl rfl) ?_
  refine um (shO_nil ?_)
  refine shW_block ?_
  obtain ⟨g15, r16⟩ := gd_ok h7
  refine shW_lp (fun fu1 e1 F1 L1 => ∃ (k : Int), Ctr 0 (if n > 0 then n else 0) k fu1 ∧ ∃ (b_at2 : Int) (b_turn2 : Int) (out2 : List Int) (a9 : Option Addr) (n13 : Nat) (c10 : Nat) (Lb11 : LH), oyezkit_Bell_Rung_l1 metal fu1 k b_at2 b_turn2 out2 = some (out, b_at, b_turn) ∧ FExt F F1 ∧ L1 = ((b_b, ce #[.slice metal_a metal.length metal_c, .int .i64 b_at2, .int .u32 b_turn2] 68) :: (Lb11 ++ [])) ∧ e1.sub [(0, .pointer (some ⟨b_b, 0, none⟩)), (5, .slice a9 n13 c10), (9, .int .i64 (if n > 0 then n else 0)), (10, .int .i64 k)] ∧ SlR K.w0.heap.size 3 1 (iE .i64) F1 a9 n13 c10 out2 Lb11) _ (m0 (kc (ke kr)) ⟨_, Ctr.start _ _, at_, turn, [], none, 0, 0, [], r16, FExt.refl _, rfl, z4, SlR.nil _ _ _ _ _⟩) ?_
  rintro fu1 e1 F21 _ ⟨k, hk17, b_at2, b_turn2, out2, a9, n13, c10, Lb11, r19, hF22, rfl, he20, hz12⟩
  refine shW_env _ he20 ?_
  replace h_metal := h_metal.mono (iE_ok _) hF22
  refine wsr (uv (v_lssK rfl rfl) ?_)
  refine shO_nil (shW_seq ?_)
  refine cQ (fun c24 => ?_) fun c24 => ?_
  ·obtain ⟨fu1, rfl, hk25⟩ := Ctr.succ hk17 c24
   rw [oyezkit_Bell_Rung_l1] at r19
   refine shW_skip (shW_seq ?_)
   refine shW_block ?_
   refine wsr (um (ua (nsr (um (um ?_)))))
   obtain ⟨n2, at_2, turn2, h26, r27⟩ := b3_ok r19
   refine cG call17 (oyezkit_Bell_Stroke_w h_metal h26) ?_; rintro _ F28 _ hF29 hd31 hn30 ⟨rfl, rfl⟩
   replace hz12 := hz12.mono (iE_ok _) hF29
   refine shO_L (lb (ln rfl)) ?_
   refine ua (nsr (um (um ?_)))
   refine bA (cs := #[.int .i64 k]) slt_35 [.int .i64 k] ?_; intro b32 hb32
   obtain ⟨out3, h33, g34, r35⟩ := ap_ok r27
   refine o_appZ (xs := out2) (ys := [k]) (zs := out3) rfl slt_35 rfl rfl (Nat.le_refl _) (fun _ => .c (.c .h)) hz12 (SrcR.box (vss := [[.int .i64 k]]) (ys := [k]) 0 rfl (iE_ok _) (.cons rfl .nil) rfl rfl) h33 g34 (by decide) ?_; intro a36 n40 c37 Lb38 hz39
   refine kO (kd kr) ?_
   refine ua (shO_nil ?_)
   refine shW_drawM [(.still, 0), (.still, 1), (.still, 2), (.still, 3), (.still, 4), (.still, 5), (.still, 6), (.still, 7), (.still, 8), (.still, 9), (.still, 10), (.still, 11), (.still, 12), (.seq, 13), (.still, 14), (.seq, 15)] (by kernel_rfl) (by kernel_rfl) (trivial) (by rfl) (by kernel_rfl) (mS [5] rfl (v_move rfl) (mS [7] rfl (v_move rfl) (mS [5] rfl (v_move rfl) (mS [6] rfl (v_move rfl) (mS [5] rfl (v_move rfl) (mS [6] rfl (v_move rfl) ?_))))))
   obtain ⟨x, g42, hx43, r44⟩ := ix_ok r35
   obtain ⟨b45, o46, c47, vs48, ha49, hs50, hle51, rfl, hl52, hc53⟩ := SlR.at (iE_ok _) hz39 (L := Lb38 ++ []) fP g42.1 hx43
   refine mS [24, 25] rfl (v_indexO underlying35 sizeOf3 rfl ha49 rfl (SlR.idx hz39 g42)) (mL [26] (Lb38 ++ []) rfl (s0 (s1 (s4 sr))) (fun H F' L' hF' hL' => v_load isAgg3 rfl (hs50.ext hF' hL') (hc53 0 (by decide))) (mS [5] rfl (v_move rfl) (mS [7] rfl (v_move rfl) ?_)))
   obtain ⟨x2, g54, hx55, r56⟩ := ix_ok r44
   obtain ⟨b57, o58, c59, vs60, ha61, hs62, hle63, rfl, hl64, hc65⟩ := SlR.at (iE_ok _) hz39 (L := Lb38 ++ []) fP g54.1 hx55
   refine mS [28, 29] rfl (v_indexO underlying35 sizeOf3 rfl ha61 rfl (SlR.idx hz39 g54)) (mL [30] (Lb38 ++ []) rfl (s0 (s1 (s4 sr))) (fun H F' L' hF' hL' => v_load isAgg3 rfl (hs62.ext hF' hL') (hc65 0 (by decide))) ?_)
   obtain ⟨b66, o67, c68, vs69, ha70, hs71, hle72, rfl, hl73, hc74⟩ := SlR.at (iE_ok _) hz39 (L := Lb38 ++ []) fP g54.1 hx55
   refine mS [20, 21] rfl (v_indexO underlying35 sizeOf3 rfl ha70 rfl (SlR.idx hz39 g54)) ?_
   refine ⟨_, [(27, .int .i64 x), (32, .pointer (some ⟨b66, o67 + (n2 : Int).toNat * 1, none⟩))], rfl, rfl, z2, by kernel_rfl, ?_⟩; intro H
   obtain ⟨l, h75, r76⟩ := bv_ok r56
   refine o_storeZ (u := x) sizeOf3 (iE_ok _) rfl ha70 rfl rfl (fun _ => .c .h) hz39 h75 g54 ?_; intro Lb77 hz78
   refine shO_nil ⟨undef, rfl, FExt.refl _, [3, 2], by kernel_rfl, .inl (.inr (fun d h => by cases h)), (fc sm (fc sm nm)), ?_⟩
   obtain ⟨x3, g79, hx80, r81⟩ := ix_ok r76
   obtain ⟨b82, o83, c84, vs85, ha86, hs87, hle88, rfl, hl89, hc90⟩ := SlR.at (iE_ok _) hz78 (L := Lb77 ++ []) fP g79.1 hx80
   refine mS [22, 23] rfl (v_indexO underlying35 sizeOf3 rfl ha86 rfl (SlR.idx hz78 g79)) ?_
   refine ⟨_, [(31, .int .i64 x2), (33, .pointer (some ⟨b82, o83 + (k : Int).toNat * 1, none⟩))], rfl, rfl, z2, by kernel_rfl, ?_⟩; intro H
   obtain ⟨l2, h91, r92⟩ := bv_ok r81
   refine o_storeZ (u := x2) sizeOf3 (iE_ok _) rfl ha86 rfl rfl (fun _ => .c .h) hz78 h91 g79 ?_; intro Lb93 hz94
   refine shO_nil ⟨undef, rfl, FExt.refl _, [], by kernel_rfl, .inl (.inl rfl), nm, ?_⟩
   refine shM_nil ?_
   refine inBlock_n (id := 1) (shW_region ?_)
   refine uv (v_add rfl rfl (Ctr.r64 hk17 c24 g15)) ?_
   refine um (shO_nil ?_)
   exact le kr ⟨_, hk25, at_2, turn2, l2, a36, n40, c37, Lb93, r92, (hF22.trans hF29), rfl, z4, hz94⟩
  obtain rfl := Ctr.zero hk17 c24
  rw [oyezkit_Bell_Rung_l1] at r19
  refine shW_exit (andThen_exit (andThen_exit ?_))
  refine inBlock_exit ?_
  obtain ⟨rfl, rfl, rfl⟩ := inj3 r19
  exact mi kr ⟨a9, n13, c10, Lb11, hF22, rfl, z1, hz12⟩
 rintro e1 F96 _ ⟨a1, n5, c2, Lb3, hF97, rfl, he95, hz4⟩
 refine shW_env _ he95 ?_
 refine wsr (um (ua (shO_nil (shW_ret ?_))))
 refine qR1 results16 ?_
 obtain ⟨rfl, rfl, rfl⟩ := inj3 r8
 exact ⟨_, _, _, _, rfl, rfl, hz4.any⟩
set_option maxHeartbeats 1000000 in
theorem oyezlaw03_Made_w {stands notices : Int} (h_metal : RowR 1 (iE .u8) F metal_a metal_c metal) {r r2 : List (List Int)} {r3 r4 : Int} {r5 : List ((List Int) × Int × Int)} {r6 r7 : Int} (hr : oyezlaw03_Made metal at_ turn stands houses notices = some (r, r2, r3, r4, r5, r6, r7)) :
    SH.Spec Tryz.prog 4 #[.pointer (some ⟨b_b, 0, none⟩), .int .i64 stands, .int .i64 houses, .int .i64 notices] F [(b_b, ce #[.slice metal_a metal.length metal_c, .int .i64 at_, .int .u32 turn] 68)] fun F' L' v => ∃ (ra : Option Addr) (rc : Nat) (r2a : Option Addr) (r2c : Nat) (r5a : Option Addr) (r5n : Nat) (r5c : Nat) (r5L : LH), v = .agg #[.slice ra r.length rc, .slice r2a r2.length r2c, .int .i64 r3, .int .i64 r4, .slice r5a r5n r5c] ∧ L' = (b_b, ce #[.slice metal_a metal.length metal_c, .int .i64 r6, .int .u32 r7] 68) :: (r5L ++ []) ∧ RowR 1 (slE 1 (iE .i64)) F' ra rc r ∧ RowR 1 (slE 1 (iE .i64)) F' r2a r2c r2 ∧ SlR 0 61 3 (prE (slE 1 (iE .i64)) (prE (iE .i64) (iE .i64))) F' r5a r5n r5c r5 r5L := by
 refine sp func4 ntmps4 fun K _ _ => ?_
 rw [oyezlaw03_Made] at hr
 refine wsr ?_
 refine o_alloc rfl zeroValue26 ?_; intro b1 hb1
 refine nsr (um (um ?_))
 obtain ⟨n, at_2, turn2, h2, r8⟩ := b3_ok hr
 refine o_callG (Lb := [(b_b, ce #[.slice metal_a metal.length metal_c, .int .i64 at_, .int .u32 turn] 68)]) (Lr := [(b1, ce #[.slice none 0 0, .slice none 0 0, .int .i64 0, .int .i64 0, .slice none 0 0] 26)]) rfl call11 rfl rfl rfl (((fC fO).trans (pC pR))) (oyezkit_Bell_Strike_w h_metal h2) ?_; rintro _ F9 _ hF10 hd12 hn11 ⟨rfl, rfl⟩
 replace h_metal := h_metal.mono (iE_ok _) hF10
 refine shO_L (lb (ln rfl)) ?_
 refine uv (v_build (v := .agg #[.slice none 0 0, .slice none 0 0, .int .i64 n, .int .i64 0, .slice none 0 0]) rfl (by intro w; kernel_rfl)) ?_
 refine o_alloc rfl zeroValue26 ?_; intro b13 hb13
 refine o_storeA (i := 0) sizeOf26 rfl rfl rfl (by simp [Value.oneCell']) rfl (nbL rfl) (shO_L rfl ?_)
 refine nsr (um (um ?_))
 obtain ⟨n2, at_3, turn3, h14, r15⟩ := b3_ok r8
 refine o_callG (Lb := [(b_b, ce #[.slice metal_a metal.length metal_c, .int .i64 at_2, .int .u32 turn2] 68)]) (Lr := [(b13, ce #[.slice none 0 0, .slice none 0 0, .int .i64 n, .int .i64 0, .slice none 0 0] 26), (b1, ce #[.slice none 0 0, .slice none 0 0, .int .i64 0, .int .i64 0, .slice none 0 0] 26)]) rfl call11 rfl rfl rfl (((fC fO).trans (pC pR))) (oyezkit_Bell_Strike_w h_metal h14) ?_; rintro _ F16 _ hF17 hd19 hn18 ⟨rfl, rfl⟩
 replace h_metal := h_metal.mono (iE_ok _) hF17
 refine shO_L (lb (ln rfl)) ?_
 refine ua (shO_nil ?_)
 obtain ⟨b_at, b_turn, t_walks, t_hears, h32, r33⟩ := b4_ok r15
 refine shW_join (fun e1 F1 L1 => ∃ (a20 : Option Addr) (n24 : Nat) (c21 : Nat) (Lb22 : LH) (a26 : Option Addr) (n30 : Nat) (c27 : Nat) (Lb28 : LH), FExt F16 F1 ∧ L1 = ((b_b, ce #[.slice metal_a metal.length metal_c, .int .i64 b_at, .int .u32 b_turn] 68) :: ((b13, ce #[.slice a20 n24 c21, .slice a26 n30 c27, .int .i64 n, .int .i64 0, .slice none 0 0] 26) :: ((b1, ce #[.slice none 0 0, .slice none 0 0, .int .i64 0, .int .i64 0, .slice none 0 0] 26) :: (Lb22 ++ (Lb28 ++ []))))) ∧ e1.sub [(0, .pointer (some ⟨b_b, 0, none⟩)), (3, .int .i64 notices), (8, .pointer (some ⟨b1, 0, none⟩)), (9, .pointer (some ⟨b13, 0, none⟩)), (10, .int .i64 n2)] ∧ NlR K.w0.heap.size 35 3 1 (iE .i64) F1 a20 n24 c21 t_walks Lb22 ∧ NlR K.w0.heap.size 35 3 1 (iE .i64) F1 a26 n30 c27 t_hears Lb28) ?_ ?_
 ·clear r33
  refine wsr (um (um (shO_nil ?_)))
  refine shW_block ?_
  obtain ⟨g46, r47⟩ := gd_ok h32
  refine shW_lp (fun fu1 e1 F1 L1 => ∃ (k : Int), Ctr 0 n2 k fu1 ∧ ∃ (b_at2 : Int) (b_turn2 : Int) (t_walks2 : List (List Int)) (t_hears2 : List (List Int)) (a34 : Option Addr) (n38 : Nat) (c35 : Nat) (Lb36 : LH) (a40 : Option Addr) (n44 : Nat) (c41 : Nat) (Lb42 : LH), oyezlaw03_Made_l1 metal n n2 fu1 k b_at2 b_turn2 t_walks2 t_hears2 = some (b_at, b_turn, t_walks, t_hears) ∧ FExt F16 F1 ∧ L1 = ((b_b, ce #[.slice metal_a metal.length metal_c, .int .i64 b_at2, .int .u32 b_turn2] 68) :: ((b13, ce #[.slice a34 n38 c35, .slice a40 n44 c41, .int .i64 n, .int .i64 0, .slice none 0 0] 26) :: ((b1, ce #[.slice none 0 0, .slice none 0 0, .int .i64 0, .int .i64 0, .slice none 0 0] 26) :: (Lb36 ++ (Lb42 ++ []))))) ∧ e1.sub [(0, .pointer (some ⟨b_b, 0, none⟩)), (3, .int .i64 notices), (8, .pointer (some ⟨b1, 0, none⟩)), (9, .pointer (some ⟨b13, 0, none⟩)), (10, .int .i64 n2), (24, .int .i64 n2), (25, .int .i64 k)] ∧ NlR K.w0.heap.size 35 3 1 (iE .i64) F1 a34 n38 c35 t_walks2 Lb36 ∧ NlR K.w0.heap.size 35 3 1 (iE .i64) F1 a40 n44 c41 t_hears2 Lb42) _ (m0 (kc (kc (kc (ke (ke kr))))) ⟨_, Ctr.start _ _, at_3, turn3, [], [], none, 0, 0, [], none, 0, 0, [], r47, FExt.refl _, rfl, z7, NlR.nil _ _ _ _ _ _, NlR.nil _ _ _ _ _ _⟩) ?_
  rintro fu1 e1 F52 _ ⟨k, hk48, b_at2, b_turn2, t_walks2, t_hears2, a34, n38, c35, Lb36, a40, n44, c41, Lb42, r50, hF53, rfl, he51, hz37, hz43⟩
  refine shW_env _ he51 ?_
  replace h_metal := h_metal.mono (iE_ok _) hF53
  refine wsr (uv (v_lssK rfl rfl) ?_)
  refine shO_nil (shW_seq ?_)
  refine cQ (fun c55 => ?_) fun c55 => ?_
  ·obtain ⟨fu1, rfl, hk56⟩ := Ctr.succ hk48 c55
   rw [oyezlaw03_Made_l1] at r50
   refine shW_skip ?_
   obtain ⟨b_at3, b_turn3, t_walks3, t_hears3, h69, r70⟩ := b4_ok r50
   refine shW_join (fun e1 F1 L1 => ∃ (a57 : Option Addr) (n61 : Nat) (c58 : Nat) (Lb59 : LH) (a63 : Option Addr) (n67 : Nat) (c64 : Nat) (Lb65 : LH), FExt F52 F1 ∧ L1 = ((b_b, ce #[.slice metal_a metal.length metal_c, .int .i64 b_at3, .int .u32 b_turn3] 68) :: ((b13, ce #[.slice a57 n61 c58, .slice a63 n67 c64, .int .i64 n, .int .i64 0, .slice none 0 0] 26) :: ((b1, ce #[.slice none 0 0, .slice none 0 0, .int .i64 0, .int .i64 0, .slice none 0 0] 26) :: (Lb59 ++ (Lb65 ++ []))))) ∧ e1.sub [(0, .pointer (some ⟨b_b, 0, none⟩)), (3, .int .i64 notices), (8, .pointer (some ⟨b1, 0, none⟩)), (9, .pointer (some ⟨b13, 0, none⟩)), (10, .int .i64 n2), (24, .int .i64 n2), (25, .int .i64 k)] ∧ NlR K.w0.heap.size 35 3 1 (iE .i64) F1 a57 n61 c58 t_walks3 Lb59 ∧ NlR K.w0.heap.size 35 3 1 (iE .i64) F1 a63 n67 c64 t_hears3 Lb65) ?_ ?_
   ·clear r70
    refine shW_block ?_
    refine wsr (um (ua (nsr ?_)))
    refine uv (v_fieldAddr fa_26_0 rfl) (uv (v_load isAgg23 rfl (Has.own 1 rfl) rfl) ?_)
    refine bA (cs := #[.slice none 0 0]) slt_23 [.slice none 0 0] ?_; intro b71 hb71
    obtain ⟨t, h72, g73, r74⟩ := ap_ok h69
    refine shO_split (fC (fC (fC (fC fP)))) hz37 ?_; intro hs77 Lo78 Lc79 hO75 hI76
    refine kO (kf (fS (fS fO)) (kf (fS (fS fO)) (kf (fS (fS fO)) (kf (fS (fS fO)) kr)))) ?_
    refine o_appZ (xs := hs77) (ys := [(none, 0, 0)]) (zs := hs77 ++ [(none, 0, 0)]) rfl slt_23 rfl rfl (Nat.le_refl _) (fun _ => .c (.c (.c (.c .h)))) hO75 (SrcR.box (vss := [[.slice none 0 0]]) (ys := [(none, 0, 0)]) 0 rfl hdE_ok (.cons rfl .nil) rfl rfl) rfl (lenH hI76 h72 g73) (by decide) ?_; intro a80 n81 c82 Lo83 hO84
    refine kO (kd kr) ?_
    refine shO_fold (p := fun X => NlR K.w0.heap.size 35 3 1 (iE .i64) F52 a80 n81 c82 t X) (InP.push0 hI76 rfl hO84 h72) (pT ((fC (fC (fC fP))).trans (pA ((fC (fC (fC fP))).trans (pA pR)))) (lp (lp (ln rfl)))) ?_; intro Lb86 hz87
    refine kO (kf (fS fO) (kf (fS fO) (kf (fS fO) kr))) (uv (v_fieldAddr fa_26_0 rfl) (o_store (i := 1) sizeOf23 rfl rfl rfl rfl (nbL rfl) (shO_L rfl (shO_nil ?_))))
    obtain ⟨b_at4, b_turn4, t_walks4, h90, r91⟩ := b3_ok r74
    refine shW_join (fun e1 F1 L1 => ∃ (Lb88 : LH), FExt F52 F1 ∧ L1 = ((b_b, ce #[.slice metal_a metal.length metal_c, .int .i64 b_at4, .int .u32 b_turn4] 68) :: ((b13, ce #[.slice a80 n81 c82, .slice a40 n44 c41, .int .i64 n, .int .i64 0, .slice none 0 0] 26) :: ((b1, ce #[.slice none 0 0, .slice none 0 0, .int .i64 0, .int .i64 0, .slice none 0 0] 26) :: (Lb88 ++ (Lb42 ++ []))))) ∧ e1.sub [(0, .pointer (some ⟨b_b, 0, none⟩)), (3, .int .i64 notices), (8, .pointer (some ⟨b1, 0, none⟩)), (9, .pointer (some ⟨b13, 0, none⟩)), (10, .int .i64 n2), (24, .int .i64 n2), (25, .int .i64 k)] ∧ NlR K.w0.heap.size 35 3 1 (iE .i64) F1 a80 n81 c82 t_walks4 Lb88) ?_ ?_
    ·clear r91
     refine wsr (um (um (shO_nil ?_)))
     refine shW_block ?_
     obtain ⟨g94, r95⟩ := gd_ok h90
     refine shW_lp (fun fu2 e1 F1 L1 => ∃ (k2 : Int), Ctr 0 n2 k2 fu2 ∧ ∃ (b_at5 : Int) (b_turn5 : Int) (t_walks5 : List (List Int)) (Lb92 : LH), oyezlaw03_Made_l2 metal k fu2 k2 b_at5 b_turn5 t_walks5 = some (b_at4, b_turn4, t_walks4) ∧ FExt F52 F1 ∧ L1 = ((b_b, ce #[.slice metal_a metal.length metal_c, .int .i64 b_at5, .int .u32 b_turn5] 68) :: ((b13, ce #[.slice a80 n81 c82, .slice a40 n44 c41, .int .i64 n, .int .i64 0, .slice none 0 0] 26) :: ((b1, ce #[.slice none 0 0, .slice none 0 0, .int .i64 0, .int .i64 0, .slice none 0 0] 26) :: (Lb92 ++ (Lb42 ++ []))))) ∧ e1.sub [(0, .pointer (some ⟨b_b, 0, none⟩)), (3, .int .i64 notices), (8, .pointer (some ⟨b1, 0, none⟩)), (9, .pointer (some ⟨b13, 0, none⟩)), (10, .int .i64 n2), (11, .int .i64 k), (24, .int .i64 n2), (25, .int .i64 k), (33, .int .i64 n2), (34, .int .i64 k2)] ∧ NlR K.w0.heap.size 35 3 1 (iE .i64) F1 a80 n81 c82 t_walks5 Lb92) _ (m0 kr ⟨_, Ctr.start _ _, b_at2, b_turn2, t, Lb86, r95, FExt.refl _, rfl, (sc rfl (sc rfl z8)), hz87⟩) ?_
     rintro fu2 e1 F100 _ ⟨k2, hk96, b_at5, b_turn5, t_walks5, Lb92, r98, hF101, rfl, he99, hz93⟩
     refine shW_env _ he99 ?_
     replace h_metal := h_metal.mono (iE_ok _) hF101
     refine wsr (uv (v_lssK rfl rfl) ?_)
     refine shO_nil (shW_seq ?_)
     refine cQ (fun c103 => ?_) fun c103 => ?_
     ·obtain ⟨fu2, rfl, hk104⟩ := Ctr.succ hk96 c103
      rw [oyezlaw03_Made_l2] at r98
      refine shW_skip (shW_seq ?_)
      refine shW_block ?_
      refine wsr (um (ua (nsr (um ?_))))
      obtain ⟨n3, at_4, turn4, h105, r106⟩ := b3_ok r98
      refine cG call11 (oyezkit_Bell_Strike_w h_metal h105) ?_; rintro _ F107 _ hF108 hd110 hn109 ⟨rfl, rfl⟩
      replace h_metal := h_metal.mono (iE_ok _) hF108
      replace hz93 := hz93.mono (iE_ok _) hF108
      refine shO_L (lb (ln rfl)) ?_
      refine ua (shO_nil ?_)
      obtain ⟨b_at6, b_turn6, w, h111, r112⟩ := b3_ok r106
      refine jF (((b_b, ce #[.slice metal_a metal.length metal_c, .int .i64 b_at6, .int .u32 b_turn6] 68) :: ((b13, ce #[.slice a80 n81 c82, .slice a40 n44 c41, .int .i64 n, .int .i64 0, .slice none 0 0] 26) :: ((b1, ce #[.slice none 0 0, .slice none 0 0, .int .i64 0, .int .i64 0, .slice none 0 0] 26) :: (Lb92 ++ (Lb42 ++ [])))))) [(0, .pointer (some ⟨b_b, 0, none⟩)), (3, .int .i64 notices), (8, .pointer (some ⟨b1, 0, none⟩)), (9, .pointer (some ⟨b13, 0, none⟩)), (10, .int .i64 n2), (11, .int .i64 k), (13, .int .i64 w), (24, .int .i64 n2), (25, .int .i64 k), (33, .int .i64 n2), (34, .int .i64 k2)] ?_ fun F126 hF127 => ?_
      ·clear r112
       refine wsr (um (um ?_))
       refine uv (v_eql rfl rfl) (shO_nil ?_)
       refine cQ (fun c113 => ?_) fun c113 => ?_
       ·have r114 := ite_t h111 c113
        refine shW_region (ua (shO_nil ?_))
        obtain ⟨rfl, rfl, rfl⟩ := inj3 r114
        exact mi kr ⟨FExt.refl _, rfl, (sc rfl (sc rfl (sc rfl z8)))⟩
       have r115 := ite_f h111 c113
       refine wsr (um ?_)
       obtain ⟨ok, at_5, turn5, h116, r117⟩ := b3_ok r115
       refine cG call15 (oyezkit_Bell_Seldom_w h_metal h116) ?_; rintro _ F118 _ hF119 hd121 hn120 ⟨rfl, rfl⟩
       refine shO_L (lb (ln rfl)) (shO_nil ?_)
       refine shW_cond rfl (fun c122 => ?_) (fun c122 => ?_)
       ·have r123 := bt r117 c122
        refine shW_region (ua (shO_nil ?_))
        obtain ⟨rfl, rfl, rfl⟩ := inj3 r123
        exact mi kr ⟨hF119, rfl, (sc rfl (sc rfl (sc rfl z8)))⟩
       have r124 := bf r117 c122
       refine shW_skip ?_
       obtain ⟨rfl, rfl, rfl⟩ := inj3 r124
       exact mi kr ⟨hF119, rfl, (sc rfl (sc rfl (sc rfl z8)))⟩
      replace hz93 := hz93.mono (iE_ok _) hF127
      obtain ⟨x, g128, hx129, r130⟩ := ix_ok r112
      have hn142 := (NlR.caps hz93).1
      refine shW_open (fC (fC (fC fP))) hz93 hx129 ?_; intro hs131 Lo132 Lc133 a134 n135 c136 Lb137 hh138 hO139 hz140 hI141
      refine kW (kf (fS (fS (fS fO))) (kf (fS (fS (fS fO))) (kf (fS (fS (fS fO))) kr))) (shW_drawM [(.still, 0), (.still, 1), (.still, 2), (.still, 3), (.still, 4), (.still, 5), (.still, 6), (.still, 7), (.still, 8), (.seq, 9), (.seq, 10), (.still, 11), (.seq, 12)] (by kernel_rfl) (by kernel_rfl) (trivial) (by rfl) (by kernel_rfl) (mS [9] rfl (v_fieldAddr fa_26_0 rfl) (mL [44] ([(b13, ce #[.slice a80 n81 c82, .slice a40 n44 c41, .int .i64 n, .int .i64 0, .slice none 0 0] 26)]) rfl (s0 (s1 (s2 (s1 (s3 (s3 (s3 (s3 sr)))))))) (fun H F' L' hF' hL' => v_load isAgg23 rfl ((Has.own 0 rfl).ext hF' hL') rfl) (mS [11] rfl (v_move rfl) (mS [9] rfl (v_fieldAddr fa_26_0 rfl) (mL [47] ([(b13, ce #[.slice a80 n81 c82, .slice a40 n44 c41, .int .i64 n, .int .i64 0, .slice none 0 0] 26)]) rfl (s0 (s1 (s2 (s1 (s3 (s3 (s3 (s3 sr)))))))) (fun H F' L' hF' hL' => v_load isAgg23 rfl ((Has.own 0 rfl).ext hF' hL') rfl) (mS [11] rfl (v_move rfl) ?_)))))))
      obtain ⟨b144, o145, c146, vs147, ha148, hs149, hle150, rfl, hl151, hc152⟩ := SlR.at hdE_ok hO139 (L := Lo132 ++ []) fP g128.1 hh138
      refine mS [48, 49] rfl (v_indexO underlying23 sizeOf35 rfl ha148 rfl (idxN hn142 g128)) (mL [50] (Lo132 ++ []) rfl (s0 (s1 (s1 (s1 (s4 (s3 (s3 (s3 sr)))))))) (fun H F' L' hF' hL' => v_load isAgg35 rfl (hs149.ext hF' hL') (hc152 0 (by decide))) (mS [13] rfl (v_move rfl) ?_))
      refine ⟨_, [(52, .int .i64 w)], rfl, rfl, z1, by kernel_rfl, ?_⟩; intro H
      refine bA (cs := #[.int .i64 w]) slt_35 [.int .i64 w] ?_; intro b153 hb153
      refine shO_nil ⟨_, rfl, FExt.refl _, [7, 6, 5, 4, 3, 2, 1, 0], by kernel_rfl, .inl (.inr (fun d h => by cases h; rfl)), (fc (s0 (s1 (s1 (s1 (s1 (s4 (s3 (s3 (s3 sr))))))))) (fc sm (fc sm (fc (s0 (s1 (s1 (s2 (s1 (s3 (s3 (s3 (s3 sr))))))))) (fc sm (fc sm (fc (s0 (s1 (s1 (s2 (s1 (s3 (s3 (s3 (s3 sr))))))))) (fc sm nm)))))))), ?_⟩
      refine ⟨_, [(51, .slice a134 n135 c136), (53, .slice (some ⟨b153, 0, none⟩) 1 1)], rfl, rfl, z2, by kernel_rfl, ?_⟩; intro H
      obtain ⟨l, h154, g155, r156⟩ := ap_ok r130
      refine o_appZ (xs := x) (ys := [w]) (zs := l) rfl slt_35 rfl rfl (Nat.le_refl _) (fun _ => .c (.c (.c (.c (.s .h))))) hz140 (SrcR.box (vss := [[.int .i64 w]]) (ys := [w]) 0 rfl (iE_ok _) (.cons rfl .nil) rfl rfl) h154 g155 (by decide) ?_; intro a157 n161 c158 Lb159 hz160
      refine kO (kd kr) ?_
      refine shO_nil ⟨_, rfl, FExt.refl _, [2, 1, 0], by kernel_rfl, .inl (.inr (fun d h => by cases h; rfl)), (fc sm (fc (s0 (s1 (s2 (s1 (s3 (s3 (s3 (s3 sr)))))))) (fc sm nm))), ?_⟩
      obtain ⟨b163, o164, c165, vs166, ha167, hs168, hle169, rfl, hl170, hc171⟩ := SlR.at hdE_ok hO139 (L := Lo132 ++ []) fP g128.1 hh138
      refine mS [45, 46] rfl (v_indexO underlying23 sizeOf35 rfl ha167 rfl (idxN hn142 g128)) ?_
      refine ⟨_, [(54, .slice a157 n161 c158), (55, .pointer (some ⟨b163, o164 + (k : Int).toNat * 1, none⟩))], rfl, rfl, z2, by kernel_rfl, ?_⟩; intro H
      refine o_storeZ (zs := hs131.set (k : Int).toNat (a157, n161, c158)) (u := (a157, n161, c158)) sizeOf35 hdE_ok rfl ha167 rfl rfl (fun _ => .c (.c (.c .h))) hO139 rfl (idxH hn142 hO139 g128) ?_; intro Lo172 hO173
      obtain ⟨l2, h174, r175⟩ := bv_ok r156
      refine shO_fold (p := fun X => NlR K.w0.heap.size 35 3 1 (iE .i64) F126 a80 n81 c82 l2 X) (InH.back hI141 hO173 hz160 h174) (pT ((fC (fC (fC fP))).trans (pA ((fC (fC (fC fP))).trans (pA ((fC (fC (fC fP))).trans (pA pR)))))) (lp (lp (lp (ln rfl))))) ?_; intro Lb176 hz177
      refine kO (kf (fS fO) (kf (fS fO) (kf (fS fO) kr))) ?_
      refine shO_nil ⟨undef, rfl, FExt.refl _, [], by kernel_rfl, .inl (.inl rfl), nm, ?_⟩
      refine shM_nil ?_
      refine inBlock_n (id := 3) (shW_region ?_)
      refine uv (v_add rfl rfl (Ctr.r64 hk96 c103 g94)) ?_
      refine um (shO_nil ?_)
      exact le kr ⟨_, hk104, b_at6, b_turn6, l2, Lb176, r175, ((hF101.trans hF108).trans hF127), rfl, (sc rfl (sc rfl z8)), hz177⟩
     obtain rfl := Ctr.zero hk96 c103
     rw [oyezlaw03_Made_l2] at r98
     refine shW_exit (andThen_exit (andThen_exit ?_))
     refine inBlock_exit ?_
     obtain ⟨rfl, rfl, rfl⟩ := inj3 r98
     exact mi kr ⟨Lb92, hF101, rfl, z7, hz93⟩
    rintro e1 F179 _ ⟨Lb88, hF180, rfl, he178, hz89⟩
    refine shW_env _ he178 ?_
    replace h_metal := h_metal.mono (iE_ok _) hF180
    replace hz43 := hz43.mono (iE_ok _) hF180
    refine wsr (um ?_)
    refine uv (v_fieldAddr fa_26_2 rfl) (uv (v_load isAgg3 rfl (Has.own 1 rfl) rfl) ?_)
    obtain ⟨l3, at_6, turn6, h181, r182⟩ := b3_ok r91
    refine cG call16 (oyezkit_Bell_Rung_w h_metal h181) ?_; rintro _ F183 _ hF184 hd186 hn185 ⟨a187, n191, c188, Lb189, rfl, rfl, hz190⟩
    replace h_metal := h_metal.mono (iE_ok _) hF184
    replace hz43 := hz43.mono (iE_ok _) hF184
    replace hz89 := hz89.mono (iE_ok _) hF184
    have hn193 := newp (Lb' := [(b_b, ce #[.slice metal_a metal.length metal_c, .int .i64 at_6, .int .u32 turn6] 68)]) (by rfl) hd186 hn185
    replace hz190 := hz190.new fun p hp => hn193 p (by simp [hp])
    refine shO_L (lb (lp (ln rfl))) (kO (kc (kf (fS fO) (kf (fS fO) kr))) ?_)
    refine ua (shO_nil ?_)
    refine shW_drawM [(.still, 0), (.still, 1), (.still, 2), (.still, 3), (.still, 4), (.still, 5), (.seq, 6), (.seq, 7), (.seq, 8), (.seq, 9), (.still, 10), (.seq, 11)] (by kernel_rfl) (by kernel_rfl) (trivial) (by rfl) (by kernel_rfl) (mS [9] rfl (v_fieldAddr fa_26_1 rfl) (mL [61] ([(b13, ce #[.slice a80 n81 c82, .slice a40 n44 c41, .int .i64 n, .int .i64 0, .slice none 0 0] 26)]) rfl (s0 (s1 (s2 (s1 (s3 (s3 (s3 sr))))))) (fun H F' L' hF' hL' => v_load isAgg23 rfl ((Has.own 0 rfl).ext hF' hL') rfl) (mS [14] rfl (v_move rfl) (mS [0] rfl (v_move rfl) (mS [14] rfl (v_move rfl) (mS [65] rfl ((v_lenS underlying35 rfl).i (SlR.lenI hz190)) ?_))))))
    refine ⟨_, [(64, .pointer (some ⟨b_b, 0, none⟩)), (66, .int .i64 (l3.length : Int))], rfl, rfl, z2, by kernel_rfl, ?_⟩; intro H
    obtain ⟨n4, at_7, turn7, h194, r195⟩ := b3_ok r182
    refine cG call17 (oyezkit_Bell_Stroke_w h_metal h194) ?_; rintro _ F196 _ hF197 hd199 hn198 ⟨rfl, rfl⟩
    replace hz43 := hz43.mono (iE_ok _) hF197
    replace hz89 := hz89.mono (iE_ok _) hF197
    replace hz190 := hz190.mono (iE_ok _) hF197
    refine shO_L (lb (ln rfl)) ?_
    refine shO_nil ⟨_, rfl, hF197, [2, 1, 0], by kernel_rfl, .inl (.inr (fun d h => by cases h; rfl)), (fc sm (fc (s0 (s1 (s2 (s1 (s3 (s3 (s3 sr))))))) (fc sm nm))), ?_⟩
    refine ⟨_, [(63, .slice a187 n191 c188), (67, .int .i64 n4)], rfl, rfl, z2, by kernel_rfl, ?_⟩; intro H
    obtain ⟨g200, r201⟩ := gd_ok r195
    obtain ⟨l4, h202, r203⟩ := bv_ok r201
    refine o_sliceZ (l := 0) (h := n4) (zs := l4) rfl slt_35 (iE_ok _) rfl (.inl ⟨rfl, rfl⟩) (.inr ⟨_, rfl, rfl⟩) (fun _ => .c (.c (.c .h))) hz190 g200 h202 ?_; intro a204 n207 c205 Lb208 h206
    refine shO_nil ⟨_, rfl, FExt.refl _, [1, 0], by kernel_rfl, .inl (.inr (fun d h => by cases h; rfl)), (fc (s0 (s1 (s2 (s1 (s3 (s3 (s3 sr))))))) (fc sm nm)), ?_⟩
    refine ⟨_, [(68, .slice a204 n207 c205)], rfl, rfl, z1, by kernel_rfl, ?_⟩; intro H
    refine bA (cs := #[.slice a204 n207 c205]) slt_23 [.slice a204 n207 c205] ?_; intro b210 hb210
    refine shO_nil ⟨_, rfl, FExt.refl _, [1, 0], by kernel_rfl, .inl (.inr (fun d h => by cases h; rfl)), (fc (s0 (s1 (s1 (s2 (s1 (s3 (s3 (s3 sr)))))))) (fc sm nm)), ?_⟩
    refine ⟨_, [(62, .slice a40 n44 c41), (69, .slice (some ⟨b210, 0, none⟩) 1 1)], rfl, rfl, z2, by kernel_rfl, ?_⟩; intro H
    obtain ⟨l5, h211, g212, r213⟩ := ap_ok r203
    refine shO_split (fC (fC (fC (fC (fS (fS fP)))))) hz43 ?_; intro hs216 Lo217 Lc218 hO214 hI215
    refine kO (kf (fS (fS fO)) (kf (fS (fS fO)) (kf (fS (fS fO)) (kf (fS (fS fO)) kr)))) ?_
    refine o_appZ (xs := hs216) (ys := [(a204, n207, c205)]) (zs := hs216 ++ [(a204, n207, c205)]) rfl slt_23 rfl rfl (Nat.le_refl _) (fun _ => .c (.c (.c (.c .h)))) hO214 (SrcR.box (vss := [[.slice a204 n207 c205]]) (ys := [(a204, n207, c205)]) 0 rfl hdE_ok (.cons rfl .nil) rfl rfl) rfl (lenH hI215 h211 g212) (by decide) ?_; intro a219 n220 c221 Lo222 hO223
    refine kO (kd kr) ?_
    refine shO_fold (p := fun X => NlR K.w0.heap.size 35 3 1 (iE .i64) F196 a219 n220 c221 l5 X) (InP.push hI215 rfl hO223 h206 h211) (pT ((fC (fC (fC fP))).trans (pA ((fC (fC (fC (fS fP)))).trans (pA ((fC (fC (fC fP))).trans (pA pR)))))) (lp (lp (lp (ln rfl))))) ?_; intro Lb225 hz226
    refine kO (kf (fS fO) (kf (fS fO) (kf (fS fO) kr))) ?_
    refine shO_nil ⟨_, rfl, FExt.refl _, [], by kernel_rfl, .inl (.inl rfl), nm, ?_⟩
    refine mS [9] rfl (v_fieldAddr fa_26_1 rfl) ?_
    refine ⟨_, [(70, .slice a219 n220 c221), (71, .pointer (some ⟨b13, 1, none⟩))], rfl, rfl, z2, by kernel_rfl, ?_⟩; intro H
    refine o_store (i := 1) sizeOf23 rfl rfl rfl rfl (nbL rfl) (shO_L rfl ?_)
    refine shO_nil ⟨undef, rfl, FExt.refl _, [], by kernel_rfl, .inl (.inl rfl), nm, ?_⟩
    refine shM_nil (inBlock_n (id := 1) ?_)
    obtain ⟨rfl, rfl, rfl, rfl⟩ := inj4 r213
    exact mi (kc (kc (kc (kg (fS fP) kr)))) ⟨a80, n81, c82, Lb88, a219, n220, c221, Lb225, ((hF180.trans hF184).trans hF197), rfl, z7, hz89, hz226⟩
   rintro e1 F228 _ ⟨a57, n61, c58, Lb59, a63, n67, c64, Lb65, hF229, rfl, he227, hz60, hz66⟩
   refine shW_env _ he227 (shW_region (uv (v_add rfl rfl (Ctr.r64 hk48 c55 g46)) ?_))
   refine um (shO_nil ?_)
   exact le kr ⟨_, hk56, b_at3, b_turn3, t_walks3, t_hears3, a57, n61, c58, Lb59, a63, n67, c64, Lb65, r70, (hF53.trans hF229), rfl, z7, hz60, hz66⟩
  obtain rfl := Ctr.zero hk48 c55
  rw [oyezlaw03_Made_l1] at r50
  refine shW_exit (andThen_exit (andThen_exit ?_))
  refine inBlock_exit ?_
  obtain ⟨rfl, rfl, rfl, rfl⟩ := inj4 r50
  exact mi kr ⟨a34, n38, c35, Lb36, a40, n44, c41, Lb42, hF53, rfl, z5, hz37, hz43⟩
 rintro e1 F231 _ ⟨a20, n24, c21, Lb22, a26, n30, c27, Lb28, hF232, rfl, he230, hz23, hz29⟩
 refine shW_env _ he230 ?_
 replace h_metal := h_metal.mono (iE_ok _) hF232
 refine wsr (um (um ?_))
 obtain ⟨g233, r234⟩ := gd_ok r33
 refine uv (v_sub rfl rfl g233) ?_
 obtain ⟨n5, at_8, turn8, h235, r236⟩ := b3_ok r234
 refine cG call17 (oyezkit_Bell_Stroke_w h_metal h235) ?_; rintro _ F237 _ hF238 hd240 hn239 ⟨rfl, rfl⟩
 replace h_metal := h_metal.mono (iE_ok _) hF238
 replace hz29 := hz29.mono (iE_ok _) hF238
 replace hz23 := hz23.mono (iE_ok _) hF238
 refine shO_L (lb (ln rfl)) (uv (v_fieldAddr fa_26_3 rfl) (o_store (i := 1) sizeOf3 rfl rfl rfl rfl (nbL rfl) (shO_L rfl ?_)))
 refine nsr (ua (shO_nil ?_))
 obtain ⟨t_notices, b_at7, b_turn7, h247, r248⟩ := b3_ok r236
 refine shW_join (fun e1 F1 L1 => ∃ (a241 : Option Addr) (n245 : Nat) (c242 : Nat) (Lb243 : LH), FExt F237 F1 ∧ L1 = ((b_b, ce #[.slice metal_a metal.length metal_c, .int .i64 b_at7, .int .u32 b_turn7] 68) :: ((b13, ce #[.slice a20 n24 c21, .slice a26 n30 c27, .int .i64 n, .int .i64 n5, .slice a241 n245 c242] 26) :: ((b1, ce #[.slice none 0 0, .slice none 0 0, .int .i64 0, .int .i64 0, .slice none 0 0] 26) :: (Lb22 ++ (Lb28 ++ (Lb243 ++ [])))))) ∧ e1.sub [(8, .pointer (some ⟨b1, 0, none⟩)), (9, .pointer (some ⟨b13, 0, none⟩))] ∧ SlR K.w0.heap.size 61 3 (prE (slE 1 (iE .i64)) (prE (iE .i64) (iE .i64))) F1 a241 n245 c242 t_notices Lb243) ?_ ?_
 ·clear r248
  refine wsr (um (um ?_))
  obtain ⟨n6, at_9, turn9, h249, r250⟩ := b3_ok h247
  refine cG call17 (oyezkit_Bell_Stroke_w h_metal h249) ?_; rintro _ F251 _ hF252 hd254 hn253 ⟨rfl, rfl⟩
  replace h_metal := h_metal.mono (iE_ok _) hF252
  refine shO_L (lb (ln rfl)) ?_
  refine um (shO_nil ?_)
  refine shW_block ?_
  obtain ⟨g261, r262⟩ := gd_ok r250
  refine shW_lp (fun fu3 e1 F1 L1 => ∃ (k3 : Int), Ctr 0 n6 k3 fu3 ∧ ∃ (b_at8 : Int) (b_turn8 : Int) (t_notices2 : List ((List Int) × Int × Int)) (left_ : Int) (a255 : Option Addr) (n259 : Nat) (c256 : Nat) (Lb257 : LH), oyezlaw03_Made_l3 metal n fu3 b_at8 b_turn8 t_notices2 left_ = some (t_notices, b_at7, b_turn7) ∧ FExt F251 F1 ∧ L1 = ((b_b, ce #[.slice metal_a metal.length metal_c, .int .i64 b_at8, .int .u32 b_turn8] 68) :: ((b13, ce #[.slice a20 n24 c21, .slice a26 n30 c27, .int .i64 n, .int .i64 n5, .slice a255 n259 c256] 26) :: ((b1, ce #[.slice none 0 0, .slice none 0 0, .int .i64 0, .int .i64 0, .slice none 0 0] 26) :: (Lb22 ++ (Lb28 ++ (Lb257 ++ [])))))) ∧ e1.sub [(0, .pointer (some ⟨b_b, 0, none⟩)), (8, .pointer (some ⟨b1, 0, none⟩)), (9, .pointer (some ⟨b13, 0, none⟩)), (15, .int .i64 left_), (80, .int .i64 n6), (81, .int .i64 k3)] ∧ SlR K.w0.heap.size 61 3 (prE (slE 1 (iE .i64)) (prE (iE .i64) (iE .i64))) F1 a255 n259 c256 t_notices2 Lb257) _ (m0 (kc (kc (kc (ka (ka (ke kr)))))) ⟨_, Ctr.start _ _, at_9, turn9, [], 9, none, 0, 0, [], r262, FExt.refl _, rfl, z6, SlR.nil _ _ _ _ _⟩) ?_
  rintro fu3 e1 F267 _ ⟨k3, hk263, b_at8, b_turn8, t_notices2, left_, a255, n259, c256, Lb257, r265, hF268, rfl, he266, hz258⟩
  refine shW_env _ he266 ?_
  replace h_metal := h_metal.mono (iE_ok _) hF268
  refine wsr (uv (v_lssK rfl rfl) ?_)
  refine shO_nil (shW_seq ?_)
  refine cQ (fun c270 => ?_) fun c270 => ?_
  ·obtain ⟨fu3, rfl, hk271⟩ := Ctr.succ hk263 c270
   rw [oyezlaw03_Made_l3] at r265
   refine shW_skip (shW_seq ?_)
   refine shW_block ?_
   refine wsr (um ?_)
   refine uv (v_fieldAddr fa_26_2 rfl) (uv (v_load isAgg3 rfl (Has.own 1 rfl) rfl) ?_)
   obtain ⟨l6, at_10, turn10, h272, r273⟩ := b3_ok r265
   refine cG call16 (oyezkit_Bell_Rung_w h_metal h272) ?_; rintro _ F274 _ hF275 hd277 hn276 ⟨a278, n282, c279, Lb280, rfl, rfl, hz281⟩
   replace h_metal := h_metal.mono (iE_ok _) hF275
   replace hz258 := hz258.mono (prE_ok (slE_ok (iE_ok _)) (prE_ok (iE_ok _) (iE_ok _))) hF275
   have hn284 := newp (Lb' := [(b_b, ce #[.slice metal_a metal.length metal_c, .int .i64 at_10, .int .u32 turn10] 68)]) (by rfl) hd277 hn276
   replace hz281 := hz281.new fun p hp => hn284 p (by simp [hp])
   refine shO_L (lb (lp (ln rfl))) (kO (kc (kf (fS fO) (kf (fS fO) kr))) ?_)
   refine ua (nsr (um (um (um (um ?_)))))
   refine uv ((v_lenS underlying35 rfl).i (SlR.lenI hz281)) ?_
   obtain ⟨n7, at_11, turn11, h285, r286⟩ := b3_ok r273
   refine cG call11 (oyezkit_Bell_Strike_w h_metal h285) ?_; rintro _ F287 _ hF288 hd290 hn289 ⟨rfl, rfl⟩
   replace h_metal := h_metal.mono (iE_ok _) hF288
   replace hz258 := hz258.mono (prE_ok (slE_ok (iE_ok _)) (prE_ok (iE_ok _) (iE_ok _))) hF288
   replace hz281 := hz281.mono (iE_ok _) hF288
   refine shO_L (lb (ln rfl)) (uv (v_min2 rfl rfl) ?_)
   obtain ⟨g291, r292⟩ := gd_ok r286
   obtain ⟨l7, h293, r294⟩ := bv_ok r292
   refine o_sliceZ (l := 0) (h := if n7 < left_ then n7 else left_) (zs := l7) rfl slt_35 (iE_ok _) rfl (.inl ⟨rfl, rfl⟩) (.inr ⟨_, rfl, rfl⟩) (fun _ => .c (.c (.c .h))) hz281 g291 h293 ?_; intro a295 n298 c296 Lb299 h297
   refine ua (nsr (um (um ?_)))
   refine uv ((v_lenS underlying35 rfl).i (SlR.lenI h297)) ?_
   obtain ⟨g301, r302⟩ := gd_ok r294
   refine uv (v_sub rfl rfl g301) ?_
   refine ua (nsr (um ?_))
   refine uv ((v_lenS underlying35 rfl).i (SlR.lenI h297)) (uv (v_gtrK rfl rfl) (shO_nil ?_))
   refine cQ (fun c303 => ?_) fun c303 => ?_
   ·have r304 := ite_t r302 c303
    refine shW_drawM [(.still, 0), (.still, 1), (.still, 2), (.still, 3), (.still, 5), (.seq, 4), (.seq, 6), (.still, 7), (.seq, 8), (.seq, 9), (.still, 10), (.seq, 11)] (by kernel_rfl) (by kernel_rfl) (trivial) (by rfl) (by kernel_rfl) (mS [9] rfl (v_fieldAddr fa_26_4 rfl) (mL [102] ([(b13, ce #[.slice a20 n24 c21, .slice a26 n30 c27, .int .i64 n, .int .i64 n5, .slice a255 n259 c256] 26)]) rfl (s0 (s1 (s2 (s1 (s3 (s3 (s3 (s3 sr)))))))) (fun H F' L' hF' hL' => v_load isAgg24 rfl ((Has.own 0 rfl).ext hF' hL') rfl) (mS [16] rfl (v_move rfl) (mS [0] rfl (v_move rfl) (mS [0] rfl (v_move rfl) ?_)))))
    refine ⟨_, [(105, .pointer (some ⟨b_b, 0, none⟩))], rfl, rfl, z1, by kernel_rfl, ?_⟩; intro H
    obtain ⟨n8, at_12, turn12, h305, r306⟩ := b3_ok r304
    refine cG call11 (oyezkit_Bell_Strike_w h_metal h305) ?_; rintro _ F307 _ hF308 hd310 hn309 ⟨rfl, rfl⟩
    replace h_metal := h_metal.mono (iE_ok _) hF308
    replace hz258 := hz258.mono (prE_ok (slE_ok (iE_ok _)) (prE_ok (iE_ok _) (iE_ok _))) hF308
    replace h297 := h297.mono (iE_ok _) hF308
    refine shO_L (lb (ln rfl)) ?_
    refine shO_nil ⟨_, rfl, hF308, [5, 2, 1, 0], by kernel_rfl, .inl (.inr (fun d h => by cases h; rfl)), (fc sm (fc sm (fc (s0 (s1 (s2 (s1 (s3 (s3 (s3 (s3 sr)))))))) (fc sm nm)))), ?_⟩
    refine ⟨_, [(107, .pointer (some ⟨b_b, 0, none⟩))], rfl, rfl, z1, by kernel_rfl, ?_⟩; intro H
    obtain ⟨n9, at_13, turn13, h311, r312⟩ := b3_ok r306
    refine cG call11 (oyezkit_Bell_Strike_w h_metal h311) ?_; rintro _ F313 _ hF314 hd316 hn315 ⟨rfl, rfl⟩
    replace hz258 := hz258.mono (prE_ok (slE_ok (iE_ok _)) (prE_ok (iE_ok _) (iE_ok _))) hF314
    replace h297 := h297.mono (iE_ok _) hF314
    refine shO_L (lb (ln rfl)) ?_
    refine shO_nil ⟨_, rfl, hF314, [2, 1, 0], by kernel_rfl, .inl (.inr (fun d h => by cases h; rfl)), (fc sm (fc (s0 (s1 (s2 (s1 (s3 (s3 (s3 (s3 sr)))))))) (fc sm nm))), ?_⟩
    refine mS (v := .agg #[.slice a295 n298 c296, .int .i64 n8, .int .i64 n9]) [104, 106, 108] rfl (v_build (v := .agg #[.slice a295 n298 c296, .int .i64 n8, .int .i64 n9]) rfl (by intro w; kernel_rfl)) ?_
    refine ⟨_, [(109, .agg #[.slice a295 n298 c296, .int .i64 n8, .int .i64 n9])], rfl, rfl, z1, by kernel_rfl, ?_⟩; intro H
    refine bA (cs := #[.slice a295 n298 c296, .int .i64 n8, .int .i64 n9]) slt_24 [.agg #[.slice a295 n298 c296, .int .i64 n8, .int .i64 n9]] ?_; intro b317 hb317
    refine shO_nil ⟨_, rfl, FExt.refl _, [1, 0], by kernel_rfl, .inl (.inr (fun d h => by cases h; rfl)), (fc (s0 (s1 (s1 (s2 (s1 (s3 (s3 (s3 (s3 sr))))))))) (fc sm nm)), ?_⟩
    refine ⟨_, [(103, .slice a255 n259 c256), (110, .slice (some ⟨b317, 0, none⟩) 1 1)], rfl, rfl, z2, by kernel_rfl, ?_⟩; intro H
    obtain rfl := (SlR.caps h297).1
    refine shO_freezeR (Nat.le_refl _) (iE_ok _) (fC (fC (fC (fC fP)))) h297 ?_; intro F318 hF319 h320
    replace hz258 := hz258.mono (prE_ok (slE_ok (iE_ok _)) (prE_ok (iE_ok _) (iE_ok _))) hF319
    obtain ⟨l8, h321, g322, r323⟩ := ap_ok r312
    refine o_appZ (xs := t_notices2) (ys := [(l7, n8, n9)]) (zs := l8) rfl slt_24 rfl rfl (Nat.le_refl _) (fun _ => .c (.c (.c (.c (.s (.s .h)))))) hz258 (SrcR.box (vss := [[.slice a295 l7.length c296, .int .i64 n8, .int .i64 n9]]) (ys := [(l7, n8, n9)]) 0 rfl (prE_ok (slE_ok (iE_ok _)) (prE_ok (iE_ok _) (iE_ok _))) (.cons ⟨_, _, rfl, ⟨_, _, rfl, h320⟩, ⟨_, _, rfl, rfl, rfl⟩⟩ .nil) rfl rfl) h321 g322 (by decide) ?_; intro a324 n328 c325 Lb326 hz327
    refine kO (kd kr) ?_
    refine shO_nil ⟨_, rfl, hF319, [], by kernel_rfl, .inl (.inl rfl), nm, ?_⟩
    refine mS [9] rfl (v_fieldAddr fa_26_4 rfl) ?_
    refine ⟨_, [(111, .slice a324 n328 c325), (112, .pointer (some ⟨b13, 4, none⟩))], rfl, rfl, z2, by kernel_rfl, ?_⟩; intro H
    refine o_store (i := 1) sizeOf24 rfl rfl rfl rfl (nbL rfl) (shO_L rfl ?_)
    refine shO_nil ⟨undef, rfl, FExt.refl _, [], by kernel_rfl, .inl (.inl rfl), nm, ?_⟩
    refine shM_nil ?_
    refine inBlock_n (id := 5) (shW_region ?_)
    refine uv (v_add rfl rfl (Ctr.r64 hk263 c270 g261)) ?_
    refine um (shO_nil ?_)
    exact le kr ⟨_, hk271, at_13, turn13, l8, left_ - (l7.length : Int), a324, n328, c325, Lb326, r323, (((((hF268.trans hF275).trans hF288).trans hF308).trans hF314).trans hF319), rfl, z6, hz327⟩
   have r330 := ite_f r302 c303
   refine shW_skip (inBlock_n (id := 5) (shW_region ?_))
   refine uv (v_add rfl rfl (Ctr.r64 hk263 c270 g261)) ?_
   refine um (shO_nil ?_)
   exact le (kc (kc (kc (kx kr)))) ⟨_, hk271, at_11, turn11, t_notices2, left_ - (l7.length : Int), a255, n259, c256, Lb257, r330, ((hF268.trans hF275).trans hF288), rfl, z6, hz258⟩
  obtain rfl := Ctr.zero hk263 c270
  rw [oyezlaw03_Made_l3] at r265
  refine shW_exit (andThen_exit (andThen_exit ?_))
  refine inBlock_exit ?_
  obtain ⟨rfl, rfl, rfl⟩ := inj3 r265
  exact mi kr ⟨a255, n259, c256, Lb257, (hF252.trans hF268), rfl, z2, hz258⟩
 rintro e1 F332 _ ⟨a241, n245, c242, Lb243, hF333, rfl, he331, hz244⟩
 refine shW_env _ he331 ?_
 replace hz23 := hz23.mono (iE_ok _) hF333
 replace hz29 := hz29.mono (iE_ok _) hF333
 refine wsr (uv (v_loadA isAgg26 sizeOf26 rfl (Has.own 1 rfl) (nbL rfl) rfl) (o_storeA (i := 2) sizeOf26 rfl rfl rfl (by simp [Value.oneCell']) rfl (nbL rfl) (shO_L rfl (shO_nil ?_))))
 obtain rfl := (NlR.caps hz23).1
 refine shW_freezeN (Nat.le_refl _) (iE_ok _) (fC (fC (fC fP))) hz23 ?_; intro F334 hF335 h336
 replace hz29 := hz29.mono (iE_ok _) hF335
 replace hz244 := hz244.mono (prE_ok (slE_ok (iE_ok _)) (prE_ok (iE_ok _) (iE_ok _))) hF335
 obtain rfl := (NlR.caps hz29).1
 refine shW_freezeN (Nat.le_refl _) (iE_ok _) (fC (fC (fC fP))) hz29 ?_; intro F337 hF338 h339
 replace h336 := h336.mono (slE_ok (iE_ok _)) hF338
 replace hz244 := hz244.mono (prE_ok (slE_ok (iE_ok _)) (prE_ok (iE_ok _) (iE_ok _))) hF338
 refine kW (kf (fC (fC fO)) (kc (kd kr))) (shW_ret (q_res1 results4 (res_cellA (cs := #[.slice a20 t_walks.length c21, .slice a26 t_hears.length c27, .int .i64 n, .int .i64 n5, .slice a241 n245 c242]) isAgg26 sizeOf26 rfl (Has.own 0 rfl) (nbL rfl) rfl) (s1 (s2 (s4 sr))) ?_))
 obtain ⟨rfl, rfl, rfl, rfl, rfl, rfl, rfl⟩ := inj7 r248
 exact ⟨_, _, _, _, _, _, _, _, rfl, rfl, h336, h339, hz244.any⟩
theorem oyezkit_Hang_w (h_metal : RowR 1 (iE .u8) F metal_a metal_c metal) {r : List Int} {r2 r3 : Int} (hr : oyezkit_Hang metal = some (r, r2, r3)) :
    SH.Spec Tryz.prog 5 #[.slice metal_a metal.length metal_c] F [] fun F' L' v => ∃ (rb : Nat) (ra : Option Addr) (rc : Nat), v = .pointer (some ⟨rb, 0, none⟩) ∧ L' = [(rb, ce #[.slice ra r.length rc, .int .i64 r2, .int .u32 r3] 68)] ∧ RowR 1 (iE .u8) F' ra rc r := by
 refine sp func5 ntmps5 fun K _ _ => ?_
 rw [oyezkit_Hang] at hr
 refine wsr (ua (nsr (um ?_)))
 refine uv (v_build (v := .agg #[.slice metal_a metal.length metal_c, .int .i64 0, .int .u32 0]) rfl (by intro w; kernel_rfl)) ?_
 refine o_box rfl rfl ?_; intro b1 hb1
 refine ua (shO_nil (shW_ret ?_))
 refine qR1 results5 ?_
 obtain ⟨rfl, rfl, rfl⟩ := inj3 hr
 exact ⟨_, _, _, rfl, rfl, h_metal⟩
theorem slices_Index_int_int_w {s_ : List Int} (h_s_ : RowR 1 (iE .i64) F s__a s__c s_) {r : Int} (hr : slices_Index_int_int s_ v = some r) :
    SpecV Tryz.prog 37 #[.slice s__a s_.length s__c, .int .i64 v] F (.int .i64 r) := by
 refine sp func37 ntmps37 fun K _ _ => ?_
 rw [slices_Index_int_int] at hr
 refine wsr (ua (shO_nil ?_))
 refine shW_join (fun e1 F1 L1 => slices_Index_int_int_j1 = some r ∧ F = F1 ∧ L1 = [] ∧ e1.sub []) ?_ ?_
 ·refine wsr (um ?_)
  refine uv (v_lenS underlying35 rfl) ?_
  refine um (shO_nil ?_)
  refine shW_block ?_
  refine shW_lp (fun fu2 e1 F1 L1 => LA s_ fu2 fun tl k => slices_Index_int_int_l2 v tl k = some r ∧ F = F1 ∧ L1 = [] ∧ e1.sub [(0, .slice s__a s_.length s__c), (1, .int .i64 v), (7, .int .i64 (s_.length : Int)), (8, .int .i64 k)]) _ (m0 kr ⟨_, _, rfl, Lst.start _, hr, rfl, rfl, z4⟩) ?_
  rintro fu2 e1 _ _ ⟨tl, k, hn2, hk1, r3, rfl, rfl, he4⟩
  refine shW_env _ he4 (wsr (uv (v_lssK rfl rfl) ?_))
  refine shO_nil (shW_seq ?_)
  refine cQ (fun c6 => ?_) fun c6 => ?_
  ·obtain ⟨x, tl2, rfl, hx8, g9, hk7⟩ := Lst.succ hk1 c6
   rw [slices_Index_int_int_l2] at r3
   refine shW_skip (shW_seq ?_)
   refine shW_block ?_
   refine wsr (um (ua (nsr (um (um (um ?_))))))
   obtain ⟨b10, o11, c12, vs13, ha14, hs15, hle16, rfl, hl17, hc18⟩ := RowR.at (iE_ok _) h_s_ ([]) g9.1 hx8
   refine uv (v_indexO underlying35 sizeOf3 rfl ha14 rfl g9) (uv (v_load isAgg3 rfl hs15 (hc18 0 (by decide))) (uv (v_eql rfl rfl) (shO_nil ?_)))
   refine cQ (fun c19 => ?_) fun c19 => ?_
   ·have r20 := ite_t r3 c19
    refine wsr (um (ua (shO_nil (shW_ret (inBlock_ret (andThen_ret (andThen_ret (inBlock_ret (andThen_ret ?_)))))))))
    refine qR1 results37 ?_
    obtain rfl := inj1 r20
    exact rfl
   have r21 := ite_f r3 c19
   refine shW_skip (inBlock_n (id := 1) (shW_region ?_))
   refine uv (v_add rfl rfl (Lst.r64 hk1 c6 (RowR.lt h_s_))) ?_
   refine um (shO_nil ?_)
   subst hn2; exact le kr ⟨_, _, rfl, hk7, r21, rfl, rfl, z4⟩
  obtain rfl := Lst.zero hk1 c6
  rw [slices_Index_int_int_l2] at r3
  refine shW_exit (andThen_exit (andThen_exit ?_))
  refine inBlock_exit ?_
  exact mi kr ⟨r3, rfl, rfl, (sn _)⟩
 rintro e1 _ _ ⟨r22, rfl, rfl, he23⟩
 refine shW_env _ he23 ?_
 rw [slices_Index_int_int_j1] at r22
 refine wsr (ua (shO_nil (shW_ret ?_)))
 refine qR1 results37 ?_
 obtain rfl := inj1 r22
 exact rfl
theorem slices_Contains_int_int_w {s_ : List Int} (h_s_ : RowR 1 (iE .i64) F s__a s__c s_) {r : Bool} (hr : slices_Contains_int_int s_ v = some r) :
    SpecV Tryz.prog 14 #[.slice s__a s_.length s__c, .int .i64 v] F (.bool r) := by
 refine sp func14 ntmps14 fun K _ _ => ?_
 rw [slices_Contains_int_int] at hr
 refine wsr (ua (nsr (um (um ?_))))
 obtain ⟨n, h1, r2⟩ := b1_ok hr
 refine cV call37 (slices_Index_int_int_w h_s_ h1) (uv (v_geqK rfl rfl) ?_)
 refine ua (shO_nil (shW_ret ?_))
 refine qR1 results14 ?_
 obtain rfl := inj1 r2
 exact rfl
theorem round_in_w {r : Bool} (hr : round_in n lo hi = some r) :
    SpecV Tryz.prog 103 #[.int .i64 n, .int .i64 lo, .int .i64 hi] F (.bool r) := by
 refine sp func103 ntmps103 fun K _ _ => ?_
 rw [round_in] at hr
 refine wsr (ua (nsr (um (um ?_))))
 refine uv (v_geqK rfl rfl) (um ?_)
 by_cases c1 : lo ≤ n
 ·have r2 := ite_t hr c1
  refine nT c1 (um (nT c1 (um (nT c1 ?_))))
  refine uv (v_leqK rfl rfl) (uv (v_pick_t (evD_true rfl c1) rfl) ?_)
  refine ua (shO_nil (shW_ret ?_))
  refine qR1 results103 ?_
  obtain rfl := inj1 r2
  exact rfl
 have r3 := ite_f hr c1
 refine fF c1 (fF c1 (fF c1 ?_))
 refine uv (v_pick_f (evD_false rfl c1) rfl) ?_
 refine ua (shO_nil (shW_ret ?_))
 refine qR1 results103 ?_
 obtain rfl := inj1 r3
 exact rfl
theorem round_Beat_stand_w {hears : List (List Int)} {notices : List ((List Int) × Int × Int)} {s_ : Int} (_h_walks : RowR 1 (slE 1 (iE .i64)) F walks_a walks_c walks) (_h_hears : RowR 1 (slE 1 (iE .i64)) F hears_a hears_c hears) (_h_notices : RowR 3 (prE (slE 1 (iE .i64)) (prE (iE .i64) (iE .i64))) F notices_a notices_c notices) {r : Bool} (hr : round_Beat_stand walks hears houses start notices s_ = some r) :
    SpecV Tryz.prog 69 #[.agg #[.slice walks_a walks.length walks_c, .slice hears_a hears.length hears_c, .int .i64 houses, .int .i64 start, .slice notices_a notices.length notices_c], .int .i64 s_] F (.bool r) := by
 refine sp func69 ntmps69 fun K _ _ => ?_
 rw [round_Beat_stand] at hr
 refine wsr ?_
 refine o_box rfl rfl ?_; intro b1 hb1
 refine ua (nsr (um ?_))
 refine uv (v_fieldAddr fa_26_1 rfl) (uv (v_load isAgg23 rfl (Has.own 0 rfl) rfl) (uv (v_lenS underlying23 rfl) ?_))
 obtain ⟨g2, r3⟩ := gd_ok hr
 refine uv (v_sub rfl rfl g2) ?_
 obtain ⟨ok, h4, r5⟩ := b1_ok r3
 refine cV call103 (round_in_w h4) ?_
 refine ua (shO_nil ?_)
 refine kW kn (shW_ret (qR1 results69 ?_))
 obtain rfl := inj1 r5
 exact rfl
set_option maxHeartbeats 1000000 in
theorem slices_IndexFunc_int_int_w {s_ : List (List Int)} (h_s_ : RowR 1 (slE 1 (iE .i64)) F s__a s__c s_) (h_f : FnR Tryz.prog F f_f f_1 f_2 (slE 1 (iE .i64)) Value.bool f) {r : Int} (hr : slices_IndexFunc_int_int s_ f = some r) :
    SpecV Tryz.prog 134 #[.slice s__a s_.length s__c, .func (.func f_f) f_1 f_2] F (.int .i64 r) := by
 refine sp func134 ntmps134 fun K _ _ => ?_
 rw [slices_IndexFunc_int_int] at hr
 refine wsr (ua (shO_nil ?_))
 refine shW_join (fun e1 F1 L1 => slices_IndexFunc_int_int_j1 = some r ∧ F = F1 ∧ L1 = [] ∧ e1.sub []) ?_ ?_
 ·refine wsr (um ?_)
  refine uv (v_lenS underlying23 rfl) ?_
  refine um (shO_nil ?_)
  refine shW_block ?_
  refine shW_lp (fun fu2 e1 F1 L1 => LA s_ fu2 fun tl k => slices_IndexFunc_int_int_l2 f tl k = some r ∧ F = F1 ∧ L1 = [] ∧ e1.sub [(0, .slice s__a s_.length s__c), (1, .func (.func f_f) f_1 f_2), (7, .int .i64 (s_.length : Int)), (8, .int .i64 k)]) _ (m0 kr ⟨_, _, rfl, Lst.start _, hr, rfl, rfl, z4⟩) ?_
  rintro fu2 e1 _ _ ⟨tl, k, hn2, hk1, r3, rfl, rfl, he4⟩
  refine shW_env _ he4 (wsr (uv (v_lssK rfl rfl) ?_))
  refine shO_nil (shW_seq ?_)
  refine cQ (fun c6 => ?_) fun c6 => ?_
  ·obtain ⟨x, tl2, rfl, hx8, g9, hk7⟩ := Lst.succ hk1 c6
   rw [slices_IndexFunc_int_int_l2] at r3
   refine shW_skip (shW_seq ?_)
   refine shW_block ?_
   refine wsr (um (ua (nsr (um (um (um ?_))))))
   obtain ⟨b10, o11, c12, vs13, ha14, hs15, hle16, ⟨a19, c20, rfl, h21⟩, hl17, hc18⟩ := RowR.at (slE_ok (iE_ok _)) h_s_ ([]) g9.1 hx8
   refine uv (v_indexO underlying23 sizeOf35 rfl ha14 rfl g9) (uv (v_load isAgg35 rfl hs15 (hc18 0 (by decide))) ?_)
   obtain ⟨ok, h22, r23⟩ := b1_ok r3
   refine o_callV rfl h_f.1 rfl rfl rfl (h_f.2 _ (FExt.refl _) _ _ _ ⟨_, _, rfl, h21⟩ h22) (shO_nil ?_)
   refine shW_cond rfl (fun c24 => ?_) (fun c24 => ?_)
   ·have r25 := bt r23 c24
    refine wsr (um (ua (shO_nil (shW_ret (inBlock_ret (andThen_ret (andThen_ret (inBlock_ret (andThen_ret ?_)))))))))
    refine qR1 results134 ?_
    obtain rfl := inj1 r25
    exact rfl
   have r26 := bf r23 c24
   refine shW_skip (inBlock_n (id := 1) (shW_region ?_))
   refine uv (v_add rfl rfl (Lst.r64 hk1 c6 (RowR.lt h_s_))) ?_
   refine um (shO_nil ?_)
   subst hn2; exact le kr ⟨_, _, rfl, hk7, r26, rfl, rfl, z4⟩
  obtain rfl := Lst.zero hk1 c6
  rw [slices_IndexFunc_int_int_l2] at r3
  refine shW_exit (andThen_exit (andThen_exit ?_))
  refine inBlock_exit ?_
  exact mi kr ⟨r3, rfl, rfl, (sn _)⟩
 rintro e1 _ _ ⟨r27, rfl, rfl, he28⟩
 refine shW_env _ he28 ?_
 rw [slices_IndexFunc_int_int_j1] at r27
 refine wsr (ua (shO_nil (shW_ret ?_)))
 refine qR1 results134 ?_
 obtain rfl := inj1 r27
 exact rfl
theorem slices_ContainsFunc_int_int_w {s_ : List (List Int)} (h_s_ : RowR 1 (slE 1 (iE .i64)) F s__a s__c s_) (h_f : FnR Tryz.prog F f_f f_1 f_2 (slE 1 (iE .i64)) Value.bool f) {r : Bool} (hr : slices_ContainsFunc_int_int s_ f = some r) :
    SpecV Tryz.prog 118 #[.slice s__a s_.length s__c, .func (.func f_f) f_1 f_2] F (.bool r) := by
 refine sp func118 ntmps118 fun K _ _ => ?_
 rw [slices_ContainsFunc_int_int] at hr
 refine wsr (ua (nsr (um (um ?_))))
 obtain ⟨n, h1, r2⟩ := b1_ok hr
 refine cV call134 (slices_IndexFunc_int_int_w h_s_ h_f h1) (uv (v_geqK rfl rfl) ?_)
 refine ua (shO_nil (shW_ret ?_))
 refine qR1 results118 ?_
 obtain rfl := inj1 r2
 exact rfl
theorem round_every_int_1_w {x_a : Option Addr} {x_c : Nat} {x : List Int} {b_so : Nat} {mb_so : Nat × Nat} (h_x : RowR 1 (iE .i64) F x_a x_c x) (hb_so : F b_so = some (.cells #[.func (.func so_f) so_1 so_2] 186 mb_so)) (h_so : FnR Tryz.prog F so_f so_1 so_2 (slE 1 (iE .i64)) Value.bool so) {r : Bool} (hr : round_every_int_1 x so = some r) :
    SpecV Tryz.prog 119 #[.slice x_a x.length x_c, .pointer (some ⟨b_so, 0, none⟩)] F (.bool r) := by
 refine sp func119 ntmps119 fun K _ _ => ?_
 rw [round_every_int_1] at hr
 refine wsr (ua (nsr ?_))
 refine uv (v_load isAgg186 rfl (Has.frozen hb_so) rfl) (um ?_)
 obtain ⟨ok, h1, r2⟩ := b1_ok hr
 refine o_callV rfl h_so.1 rfl rfl rfl (h_so.2 _ (FExt.refl _) _ _ _ ⟨_, _, rfl, h_x⟩ h1) (uv (v_notB rfl) ?_)
 refine ua (shO_nil (shW_ret ?_))
 refine qR1 results119 ?_
 obtain rfl := inj1 r2
 exact rfl
theorem round_every_int_w {l : List (List Int)} (h_l : RowR 1 (slE 1 (iE .i64)) F l_a l_c l) (h_so : FnR Tryz.prog F so_f so_1 so_2 (slE 1 (iE .i64)) Value.bool so) {r : Bool} (hr : round_every_int l so = some r) :
    SpecV Tryz.prog 104 #[.slice l_a l.length l_c, .func (.func so_f) so_1 so_2] F (.bool r) := by
 refine sp func104 ntmps104 fun K _ _ => ?_
 rw [round_every_int] at hr
 refine wsr ?_
 refine o_box rfl rfl ?_; intro b1 hb1
 refine ua (nsr (um ?_))
 refine uv (v_makeFunc rfl rfl) ?_
 refine shO_freeze 0 rfl hb1 ?_; intro F2 hF3 hz4
 refine shO_L rfl ?_
 replace h_l := h_l.mono (slE_ok (iE_ok _)) hF3
 replace h_so := h_so.mono hF3
 have hn8 : FnR Tryz.prog F2 119 #[] #[.pointer (some ⟨b1, 0, none⟩)] (slE 1 (iE .i64)) Value.bool (fun xx_ : (List Int) => round_every_int_1 xx_ so) := ⟨call119, fun F2 h2 vs xx_ r ha hr => by obtain ⟨a5, c6, rfl, h7⟩ := ha; exact round_every_int_1_w h7 (h2 _ _ hz4) (h_so.mono h2) hr⟩
 obtain ⟨ok, h9, r10⟩ := b1_ok hr
 refine cV call118 (slices_ContainsFunc_int_int_w h_l hn8 h9) (uv (v_notB rfl) ?_)
 refine ua (shO_nil (shW_ret ?_))
 refine qR1 results104 ?_
 obtain rfl := inj1 r10
 exact rfl
theorem round_Beat_counted_1_w {l : List Int} {b_n : Nat} {mb_n : Nat × Nat} (_h_l : RowR 1 (iE .i64) F l_a l_c l) (hb_n : F b_n = some (.cells #[.int .i64 n] 3 mb_n)) {r : Bool} (hr : round_Beat_counted_1 l n = some r) :
    SpecV Tryz.prog 105 #[.slice l_a l.length l_c, .pointer (some ⟨b_n, 0, none⟩)] F (.bool r) := by
 refine sp func105 ntmps105 fun K _ _ => ?_
 rw [round_Beat_counted_1] at hr
 refine wsr (ua (nsr (um ?_)))
 refine uv (v_lenS underlying35 rfl) (uv (v_load isAgg3 rfl (Has.frozen hb_n) rfl) (uv (v_eql rfl rfl) ?_))
 refine ua (shO_nil (shW_ret ?_))
 refine qR1 results105 ?_
 obtain rfl := inj1 hr
 exact rfl
set_option maxHeartbeats 1000000 in
theorem round_Beat_counted_w {hears : List (List Int)} {notices : List ((List Int) × Int × Int)} (h_walks : RowR 1 (slE 1 (iE .i64)) F walks_a walks_c walks) (_h_hears : RowR 1 (slE 1 (iE .i64)) F hears_a hears_c hears) (_h_notices : RowR 3 (prE (slE 1 (iE .i64)) (prE (iE .i64) (iE .i64))) F notices_a notices_c notices) {r : Bool} (hr : round_Beat_counted walks hears houses start notices = some r) :
    SpecV Tryz.prog 73 #[.agg #[.slice walks_a walks.length walks_c, .slice hears_a hears.length hears_c, .int .i64 houses, .int .i64 start, .slice notices_a notices.length notices_c]] F (.bool r) := by
 refine sp func73 ntmps73 fun K _ _ => ?_
 rw [round_Beat_counted] at hr
 refine wsr ?_
 refine o_box rfl rfl ?_; intro b1 hb1
 refine ua (nsr ?_)
 refine uv (v_fieldAddr fa_26_1 rfl) (uv (v_load isAgg23 rfl (Has.own 0 rfl) rfl) (uv (v_lenS underlying23 rfl) ?_))
 refine o_alloc rfl zeroValue3 ?_; intro b2 hb2
 refine o_store (i := 0) sizeOf3 rfl rfl rfl rfl (nbL rfl) (shO_L rfl (nsr (uv (v_load isAgg3 rfl (Has.own 0 rfl) rfl) ?_)))
 obtain ⟨ok, h3, r4⟩ := b1_ok hr
 refine cV call103 (round_in_w h3) (um ?_)
 rcases bool_two ok with c5 | c5
 ·have r6 := bt r4 c5
  refine nB c5 (uv (v_fieldAddr fa_26_2 rfl) (nB c5 (uv (v_load isAgg3 rfl (Has.own 1 rfl) rfl) (nB c5 ?_))))
  obtain ⟨ok2, h7, r8⟩ := b1_ok r6
  refine cV call103 (round_in_w h7) (uv (v_pick_t (evB rfl c5) rfl) (um ?_))
  rcases bool_two ok2 with c9 | c9
  ·have r10 := bt r8 c9
   refine nB c9 (uv (v_fieldAddr fa_26_4 rfl) (nB c9 (uv (v_load isAgg24 rfl (Has.own 1 rfl) rfl) (nB c9 (uv (v_lenS underlying24 rfl) (nB c9 (uv (v_leqK rfl rfl) ?_)))))))
   refine uv (v_pick_t (evB rfl c9) rfl) (um ?_)
   by_cases c11 : (notices.length : Int) ≤ 3
   ·have r12 := ite_t r10 c11
    refine nT c11 (uv (v_fieldAddr fa_26_0 rfl) (nT c11 (uv (v_load isAgg23 rfl (Has.own 1 rfl) rfl) (nT c11 (uv (v_lenS underlying23 rfl) (nT c11 (uv (v_load isAgg3 rfl (Has.own 0 rfl) rfl) ?_)))))))
    refine nT c11 (uv (v_eql rfl rfl) (uv (v_pick_t (evD_true rfl c11) rfl) (um ?_)))
    by_cases c13 : (walks.length : Int) = (hears.length : Int)
    ·have r14 := ite_t r12 c13
     refine nT c13 (uv (v_fieldAddr fa_26_0 rfl) (nT c13 (uv (v_load isAgg23 rfl (Has.own 1 rfl) rfl) (nT c13 (uv (v_makeFunc rfl rfl) (nT c13 ?_))))))
     refine shO_freeze 0 rfl hb2 ?_; intro F15 hF16 hz17
     refine shO_L rfl ?_
     replace h_walks := h_walks.mono (slE_ok (iE_ok _)) hF16
     have hn21 : FnR Tryz.prog F15 105 #[] #[.pointer (some ⟨b2, 0, none⟩)] (slE 1 (iE .i64)) Value.bool (fun xx_ : (List Int) => round_Beat_counted_1 xx_ (hears.length : Int)) := ⟨call105, fun F2 h2 vs xx_ r ha hr => by obtain ⟨a18, c19, rfl, h20⟩ := ha; exact round_Beat_counted_1_w h20 (h2 _ _ hz17) hr⟩
     obtain ⟨ok3, h22, r23⟩ := b1_ok r14
     refine cV call104 (round_every_int_w h_walks hn21 h22) (uv (v_pick_t (evD_true rfl c13) rfl) ?_)
     refine ua (shO_nil ?_)
     refine kW kn (shW_ret (qR1 results73 ?_))
     obtain rfl := inj1 r23
     exact rfl
    have r24 := ite_f r12 c13
    refine fF c13 (fF c13 (fF c13 (fF c13 ?_)))
    refine uv (v_pick_f (evD_false rfl c13) rfl) ?_
    refine ua (shO_nil ?_)
    refine kW kn (shW_ret (qR1 results73 ?_))
    obtain rfl := inj1 r24
    exact rfl
   have r25 := ite_f r10 c11
   refine fF c11 (fF c11 (fF c11 (fF c11 (fF c11 ?_))))
   refine uv (v_pick_f (evD_false rfl c11) rfl) ?_
   refine um (shO_off (b' := false) 27 rfl rfl rfl rfl (shO_off (b' := false) 27 rfl rfl rfl rfl (shO_off (b' := false) 27 rfl rfl rfl rfl (shO_off (b' := false) 27 rfl rfl rfl rfl ?_))))
   refine uv (v_pick_f rfl rfl) ?_
   refine ua (shO_nil ?_)
   refine kW kn (shW_ret (qR1 results73 ?_))
   obtain rfl := inj1 r25
   exact rfl
  have r26 := bf r8 c9
  refine fB c9 (fB c9 (fB c9 (fB c9 ?_)))
  refine uv (v_pick_f (evB rfl c9) rfl) ?_
  refine um (shO_off (b' := false) 20 rfl rfl rfl rfl (shO_off (b' := false) 20 rfl rfl rfl rfl (shO_off (b' := false) 20 rfl rfl rfl rfl (shO_off (b' := false) 20 rfl rfl rfl rfl (shO_off (b' := false) 20 rfl rfl rfl rfl ?_)))))
  refine uv (v_pick_f rfl rfl) ?_
  refine um (shO_off (b' := false) 27 rfl rfl rfl rfl (shO_off (b' := false) 27 rfl rfl rfl rfl (shO_off (b' := false) 27 rfl rfl rfl rfl (shO_off (b' := false) 27 rfl rfl rfl rfl ?_))))
  refine uv (v_pick_f rfl rfl) ?_
  refine ua (shO_nil ?_)
  refine kW kn (shW_ret (qR1 results73 ?_))
  obtain rfl := inj1 r26
  exact rfl
 have r27 := bf r4 c5
 refine fB c5 (fB c5 (fB c5 ?_))
 refine uv (v_pick_f (evB rfl c5) rfl) ?_
 refine um (shO_off (b' := false) 14 rfl rfl rfl rfl (shO_off (b' := false) 14 rfl rfl rfl rfl (shO_off (b' := false) 14 rfl rfl rfl rfl (shO_off (b' := false) 14 rfl rfl rfl rfl ?_))))
 refine uv (v_pick_f rfl rfl) ?_
 refine um (shO_off (b' := false) 20 rfl rfl rfl rfl (shO_off (b' := false) 20 rfl rfl rfl rfl (shO_off (b' := false) 20 rfl rfl rfl rfl (shO_off (b' := false) 20 rfl rfl rfl rfl (shO_off (b' := false) 20 rfl rfl rfl rfl ?_)))))
 refine uv (v_pick_f rfl rfl) ?_
 refine um (shO_off (b' := false) 27 rfl rfl rfl rfl (shO_off (b' := false) 27 rfl rfl rfl rfl (shO_off (b' := false) 27 rfl rfl rfl rfl (shO_off (b' := false) 27 rfl rfl rfl rfl ?_))))
 refine uv (v_pick_f rfl rfl) ?_
 refine ua (shO_nil ?_)
 refine kW kn (shW_ret (qR1 results73 ?_))
 obtain rfl := inj1 r27
 exact rfl
set_option maxHeartbeats 1000000 in
theorem round_Beat_walkable_w {hears : List (List Int)} {notices : List ((List Int) × Int × Int)} (h_walks : RowR 1 (slE 1 (iE .i64)) F walks_a walks_c walks) (_h_hears : RowR 1 (slE 1 (iE .i64)) F hears_a hears_c hears) (_h_notices : RowR 3 (prE (slE 1 (iE .i64)) (prE (iE .i64) (iE .i64))) F notices_a notices_c notices) {r : Bool} (hr : round_Beat_walkable walks hears houses start notices = some r) :
    SpecV Tryz.prog 74 #[.agg #[.slice walks_a walks.length walks_c, .slice hears_a hears.length hears_c, .int .i64 houses, .int .i64 start, .slice notices_a notices.length notices_c]] F (.bool r) := by
 refine sp func74 ntmps74 fun K _ _ => ?_
 rw [round_Beat_walkable] at hr
 refine wsr ?_
 refine o_box rfl rfl ?_; intro b1 hb1
 refine ua (shO_nil ?_)
 refine shW_join (fun e1 F1 L1 => round_Beat_walkable_j1 = some r ∧ F = F1 ∧ L1 = [] ∧ e1.sub []) ?_ ?_
 ·refine wsr (uv (v_fieldAddr fa_26_0 rfl) (uv (v_load isAgg23 rfl (Has.own 0 rfl) rfl) (uv (v_lenS underlying23 rfl) ?_)))
  refine um (shO_nil ?_)
  refine shW_block (kW kn ?_)
  refine shW_lp (fun fu2 e1 F1 L1 => LA walks fu2 fun tl k => round_Beat_walkable_l2 tl k = some r ∧ F = F1 ∧ L1 = [] ∧ e1.sub [(8, .slice walks_a walks.length walks_c), (9, .int .i64 (walks.length : Int)), (10, .int .i64 k)]) _ (m0 kr ⟨_, _, rfl, Lst.start _, hr, rfl, rfl, z3⟩) ?_
  rintro fu2 e1 _ _ ⟨tl, k, hn3, hk2, r4, rfl, rfl, he5⟩
  refine shW_env _ he5 (wsr (uv (v_lssK rfl rfl) ?_))
  refine shO_nil (shW_seq ?_)
  refine cQ (fun c7 => ?_) fun c7 => ?_
  ·obtain ⟨x, tl2, rfl, hx9, g10, hk8⟩ := Lst.succ hk2 c7
   rw [round_Beat_walkable_l2] at r4
   refine shW_skip ?_
   refine shW_join (fun e1 F1 L1 => round_Beat_walkable_j3 k (round_Beat_walkable_l2 tl2) = some r ∧ F = F1 ∧ L1 = [] ∧ e1.sub [(8, .slice walks_a walks.length walks_c), (9, .int .i64 (walks.length : Int)), (10, .int .i64 k)]) ?_ ?_
   ·refine shW_block ?_
    refine wsr (um ?_)
    obtain ⟨b11, o12, c13, vs14, ha15, hs16, hle17, ⟨a20, c21, rfl, h22⟩, hl18, hc19⟩ := RowR.at (slE_ok (iE_ok _)) h_walks ([]) g10.1 hx9
    refine uv (v_indexO underlying23 sizeOf35 rfl ha15 rfl g10) (uv (v_load isAgg35 rfl hs16 (hc19 0 (by decide))) ?_)
    refine ua (ua (nsr (um ?_)))
    refine uv (v_lenS underlying35 rfl) ?_
    refine um (shO_nil ?_)
    refine shW_block ?_
    refine shW_lp (fun fu4 e1 F1 L1 => LA x fu4 fun tl3 k2 => round_Beat_walkable_l4 k (round_Beat_walkable_l2 tl2) tl3 k2 = some r ∧ F = F1 ∧ L1 = [] ∧ e1.sub [(3, .int .i64 k), (8, .slice walks_a walks.length walks_c), (9, .int .i64 (walks.length : Int)), (10, .int .i64 k), (15, .slice a20 x.length c21), (16, .int .i64 (x.length : Int)), (17, .int .i64 k2)]) _ (m0 kr ⟨_, _, rfl, Lst.start _, r4, rfl, rfl, z7⟩) ?_
    rintro fu4 e1 _ _ ⟨tl3, k2, hn24, hk23, r25, rfl, rfl, he26⟩
    refine shW_env _ he26 (wsr (uv (v_lssK rfl rfl) ?_))
    refine shO_nil (shW_seq ?_)
    refine cQ (fun c28 => ?_) fun c28 => ?_
    ·obtain ⟨x2, tl4, rfl, hx30, g31, hk29⟩ := Lst.succ hk23 c28
     rw [round_Beat_walkable_l4] at r25
     refine shW_skip (shW_seq ?_)
     refine shW_block ?_
     refine wsr (um ?_)
     obtain ⟨b32, o33, c34, vs35, ha36, hs37, hle38, rfl, hl39, hc40⟩ := RowR.at (iE_ok _) h22 ([]) g31.1 hx30
     refine uv (v_indexO underlying35 sizeOf3 rfl ha36 rfl g31) (uv (v_load isAgg3 rfl hs37 (hc40 0 (by decide))) ?_)
     refine ua (ua (shO_nil ?_))
     obtain ⟨k3, h41, r42⟩ := b1_ok r25
     refine jE ([]) [(3, .int .i64 k), (8, .slice walks_a walks.length walks_c), (9, .int .i64 (walks.length : Int)), (10, .int .i64 k), (15, .slice a20 x.length c21), (16, .int .i64 (x.length : Int)), (17, .int .i64 k2), (42, .bool k3)] ?_ ?_
     ·clear r42
      refine shW_region (um (um ?_))
      refine uv (v_eql rfl rfl) (um ?_)
      by_cases c43 : k = k2
      ·have r44 := ite_t h41 c43
       refine nT c43 (um (nT c43 ?_))
       refine uv (v_neq rfl rfl) (uv (v_pick_t (evD_true rfl c43) rfl) (um ?_))
       by_cases c45 : x2 ≠ 0
       ·have r46 := ite_t r44 c45
        refine fT c45 (fT c45 (fT c45 (fT c45 (fU (fU (fT c45 (fT c45 (fU (fU ?_)))))))))
        refine fU (fT c45 ?_)
        refine uv (v_pick_t (evD_true rfl c45) rfl) (shO_nil ?_)
        obtain rfl := inj1 r46
        exact mi kr ⟨rfl, rfl, z8⟩
       have r47 := ite_f r44 c45
       refine nF c45 (um (nF c45 (um (nF c45 ?_))))
       refine uv (v_neq rfl rfl) ?_
       refine nF c45 (um ?_)
       by_cases c48 : k ≠ k2
       ·have r49 := ite_t r47 c48
        refine nT c48 (um (nT c48 ?_))
        refine uv (v_neq rfl rfl) (nF c45 (uv (v_pick_t (evD_true rfl c48) rfl) ?_))
        refine nF c45 (um ?_)
        by_cases c50 : x2 ≠ (-1)
        ·have r51 := ite_t r49 c50
         refine nT c50 (um (nT c50 ?_))
         obtain ⟨ok, h52, r53⟩ := b1_ok r51
         refine cV call103 (round_in_w h52) (nT c50 (uv (v_notB rfl) (nF c45 (uv (v_pick_t (evD_true rfl c50) rfl) (uv (v_pick_f (evD_false rfl c45) rfl) (shO_nil ?_))))))
         obtain rfl := inj1 r53
         exact mi kr ⟨rfl, rfl, z8⟩
        have r54 := ite_f r49 c50
        refine fF c50 (fF c50 (fF c50 (nF c45 ?_)))
        refine uv (v_pick_f (evD_false rfl c50) rfl) (uv (v_pick_f (evD_false rfl c45) rfl) (shO_nil ?_))
        obtain rfl := inj1 r54
        exact mi kr ⟨rfl, rfl, z8⟩
       have r55 := ite_f r47 c48
       refine fF c48 (fF c48 (nF c45 ?_))
       refine uv (v_pick_f (evD_false rfl c48) rfl) ?_
       refine nF c45 (um (shO_off (b' := false) 37 rfl rfl rfl rfl (shO_off (b' := false) 37 rfl rfl rfl rfl (shO_off (b' := false) 37 rfl rfl rfl rfl (nF c45 ?_)))))
       refine uv (v_pick_f rfl rfl) (uv (v_pick_f (evD_false rfl c45) rfl) (shO_nil ?_))
       obtain rfl := inj1 r55
       exact mi kr ⟨rfl, rfl, z8⟩
      have r56 := ite_f h41 c43
      refine fF c43 (fF c43 ?_)
      refine uv (v_pick_f (evD_false rfl c43) rfl) ?_
      refine um (shO_on (b := false) 29 rfl rfl (um (shO_on (b := false) 29 rfl rfl (um (shO_on (b := false) 29 rfl rfl ?_)))))
      refine uv (v_neq rfl rfl) ?_
      refine shO_on (b := false) 29 rfl rfl (um ?_)
      by_cases c57 : k ≠ k2
      ·have r58 := ite_t r56 c57
       refine nT c57 (um (nT c57 ?_))
       refine uv (v_neq rfl rfl) (shO_on (b := false) 29 rfl rfl (uv (v_pick_t (evD_true rfl c57) rfl) ?_))
       refine shO_on (b := false) 29 rfl rfl (um ?_)
       by_cases c59 : x2 ≠ (-1)
       ·have r60 := ite_t r58 c59
        refine nT c59 (um (nT c59 ?_))
        obtain ⟨ok2, h61, r62⟩ := b1_ok r60
        refine cV call103 (round_in_w h61) (nT c59 (uv (v_notB rfl) (shO_on (b := false) 29 rfl rfl (uv (v_pick_t (evD_true rfl c59) rfl) (uv (v_pick_f rfl rfl) (shO_nil ?_))))))
        obtain rfl := inj1 r62
        exact mi kr ⟨rfl, rfl, z8⟩
       have r63 := ite_f r58 c59
       refine fF c59 (fF c59 (fF c59 (shO_on (b := false) 29 rfl rfl ?_)))
       refine uv (v_pick_f (evD_false rfl c59) rfl) (uv (v_pick_f rfl rfl) (shO_nil ?_))
       obtain rfl := inj1 r63
       exact mi kr ⟨rfl, rfl, z8⟩
      have r64 := ite_f r56 c57
      refine fF c57 (fF c57 (shO_on (b := false) 29 rfl rfl ?_))
      refine uv (v_pick_f (evD_false rfl c57) rfl) ?_
      refine shO_on (b := false) 29 rfl rfl (um (shO_off (b' := false) 37 rfl rfl rfl rfl (shO_off (b' := false) 37 rfl rfl rfl rfl (shO_off (b' := false) 37 rfl rfl rfl rfl (shO_on (b := false) 29 rfl rfl ?_)))))
      refine uv (v_pick_f rfl rfl) (uv (v_pick_f rfl rfl) (shO_nil ?_))
      obtain rfl := inj1 r64
      exact mi kr ⟨rfl, rfl, z8⟩
     refine shW_cond rfl (fun c66 => ?_) (fun c66 => ?_)
     ·have r67 := bt r42 c66
      refine wsr (ua (shO_nil (shW_ret (inBlock_ret (andThen_ret (andThen_ret (inBlock_ret (inBlock_ret (andThen_ret ?_)))))))))
      refine andThen_ret (inBlock_ret (andThen_ret ?_))
      refine qR1 results74 ?_
      obtain rfl := inj1 r67
      exact rfl
     have r68 := bf r42 c66
     refine shW_skip (inBlock_n (id := 3) (shW_region ?_))
     refine uv (v_add rfl rfl (Lst.r64 hk23 c28 (RowR.lt h22))) ?_
     refine um (shO_nil ?_)
     subst hn24; exact le kr ⟨_, _, rfl, hk29, r68, rfl, rfl, z7⟩
    obtain rfl := Lst.zero hk23 c28
    rw [round_Beat_walkable_l4] at r25
    refine shW_exit (andThen_exit (andThen_exit ?_))
    refine inBlock_exit (inBlock_n (id := 1) ?_)
    exact mi kr ⟨r25, rfl, rfl, z3⟩
   rintro e1 _ _ ⟨r69, rfl, rfl, he70⟩
   refine shW_env _ he70 ?_
   rw [round_Beat_walkable_j3] at r69
   refine shW_region (uv (v_add rfl rfl (Lst.r64 hk2 c7 (RowR.lt h_walks))) ?_)
   refine um (shO_nil ?_)
   subst hn3; exact le kr ⟨_, _, rfl, hk8, r69, rfl, rfl, z3⟩
  obtain rfl := Lst.zero hk2 c7
  rw [round_Beat_walkable_l2] at r4
  refine shW_exit (andThen_exit (andThen_exit ?_))
  refine inBlock_exit ?_
  exact mi kr ⟨r4, rfl, rfl, (sn _)⟩
 rintro e1 _ _ ⟨r71, rfl, rfl, he72⟩
 refine shW_env _ he72 ?_
 rw [round_Beat_walkable_j1] at r71
 refine wsr (ua (shO_nil (shW_ret ?_)))
 refine qR1 results74 ?_
 obtain rfl := inj1 r71
 exact rfl
set_option maxHeartbeats 1000000 in
theorem round_Beat_listed_w {hears : List (List Int)} {notices : List ((List Int) × Int × Int)} {l : List Int} (_h_walks : RowR 1 (slE 1 (iE .i64)) F walks_a walks_c walks) (_h_hears : RowR 1 (slE 1 (iE .i64)) F hears_a hears_c hears) (_h_notices : RowR 3 (prE (slE 1 (iE .i64)) (prE (iE .i64) (iE .i64))) F notices_a notices_c notices) (h_l : RowR 1 (iE .i64) F l_a l_c l) {r : Int} (hr : round_Beat_listed walks hears houses start notices l = some r) :
    SpecV Tryz.prog 75 #[.agg #[.slice walks_a walks.length walks_c, .slice hears_a hears.length hears_c, .int .i64 houses, .int .i64 start, .slice notices_a notices.length notices_c], .slice l_a l.length l_c] F (.int .i64 r) := by
 refine sp func75 ntmps75 fun K _ _ => ?_
 rw [round_Beat_listed] at hr
 refine wsr ?_
 refine o_box rfl rfl ?_; intro b1 hb1
 refine ua (shO_nil ?_)
 refine shW_join (fun e1 F1 L1 => round_Beat_listed_j1 = some r ∧ F = F1 ∧ L1 = [] ∧ e1.sub []) ?_ ?_
 ·refine wsr (um ?_)
  refine uv (v_lenS underlying35 rfl) ?_
  refine um (shO_nil ?_)
  refine shW_block ?_
  refine shW_lp (fun fu2 e1 F1 L1 => LA l fu2 fun tl k => round_Beat_listed_l2 houses l tl k = some r ∧ F = F1 ∧ L1 = [(b1, ce #[.slice walks_a walks.length walks_c, .slice hears_a hears.length hears_c, .int .i64 houses, .int .i64 start, .slice notices_a notices.length notices_c] 26)] ∧ e1.sub [(1, .slice l_a l.length l_c), (2, .pointer (some ⟨b1, 0, none⟩)), (7, .slice l_a l.length l_c), (8, .int .i64 (l.length : Int)), (9, .int .i64 k)]) _ (m0 kr ⟨_, _, rfl, Lst.start _, hr, rfl, rfl, z5⟩) ?_
  rintro fu2 e1 _ _ ⟨tl, k, hn3, hk2, r4, rfl, rfl, he5⟩
  refine shW_env _ he5 (wsr (uv (v_lssK rfl rfl) ?_))
  refine shO_nil (shW_seq ?_)
  refine cQ (fun c7 => ?_) fun c7 => ?_
  ·obtain ⟨x, tl2, rfl, hx9, g10, hk8⟩ := Lst.succ hk2 c7
   rw [round_Beat_listed_l2] at r4
   refine shW_skip (shW_seq ?_)
   refine shW_block ?_
   refine wsr (um ?_)
   obtain ⟨b11, o12, c13, vs14, ha15, hs16, hle17, rfl, hl18, hc19⟩ := RowR.at (iE_ok _) h_l ([(b1, ce #[.slice walks_a walks.length walks_c, .slice hears_a hears.length hears_c, .int .i64 houses, .int .i64 start, .slice notices_a notices.length notices_c] 26)]) g10.1 hx9
   refine uv (v_indexO underlying35 sizeOf3 rfl ha15 rfl g10) (uv (v_load isAgg3 rfl hs16 (hc19 0 (by decide))) ?_)
   refine ua (ua (shO_nil (shW_seq (wsr (um ?_)))))
   refine uv (v_fieldAddr fa_26_2 rfl) (uv (v_load isAgg3 rfl (Has.own 0 rfl) rfl) ?_)
   obtain ⟨g20, r21⟩ := gd_ok r4
   refine uv (v_sub rfl rfl g20) ?_
   obtain ⟨ok, h22, r23⟩ := b1_ok r21
   refine cV call103 (round_in_w h22) (uv (v_notB rfl) (shO_nil ?_))
   refine shW_cond rfl (fun c24 => ?_) (fun c24 => ?_)
   ·have r25 := bt r23 c24
    refine wsr (ua (shO_nil ?_))
    refine kW kn ?_
    refine shW_ret (andThen_ret (inBlock_ret (andThen_ret (andThen_ret (inBlock_ret (andThen_ret ?_))))))
    refine qR1 results75 ?_
    obtain rfl := inj1 r25
    exact rfl
   have r26 := bf r23 c24
   refine shW_skip (wsr (um (um ?_)))
   obtain ⟨g27, r28⟩ := gd_ok r26
   obtain ⟨l2, h29, r30⟩ := bv_ok r28
   obtain ⟨a31, c32, h33, hvh33⟩ := RowR.slice (iE_ok _) h_l g27 h29
   refine uv ((v_slice (l := 0) (h := k) underlying35 sizeOf3 rfl (.inl ⟨rfl, rfl⟩) (.inr ⟨_, rfl, rfl⟩) hvh33.1).eq hvh33.2) (um ?_)
   obtain ⟨ok2, h35, r36⟩ := b1_ok r30
   refine cV call14 (slices_Contains_int_int_w h33 h35) (shO_nil ?_)
   refine shW_cond rfl (fun c37 => ?_) (fun c37 => ?_)
   ·have r38 := bt r36 c37
    refine wsr (ua (shO_nil ?_))
    refine kW kn ?_
    refine shW_ret (inBlock_ret (andThen_ret (andThen_ret (inBlock_ret (andThen_ret ?_)))))
    refine qR1 results75 ?_
    obtain rfl := inj1 r38
    exact rfl
   have r39 := bf r36 c37
   refine shW_skip (inBlock_n (id := 1) (shW_region ?_))
   refine uv (v_add rfl rfl (Lst.r64 hk2 c7 (RowR.lt h_l))) ?_
   refine um (shO_nil ?_)
   subst hn3; exact le kr ⟨_, _, rfl, hk8, r39, rfl, rfl, z5⟩
  obtain rfl := Lst.zero hk2 c7
  rw [round_Beat_listed_l2] at r4
  refine shW_exit (andThen_exit (andThen_exit ?_))
  refine inBlock_exit ?_
  exact mi kn ⟨r4, rfl, rfl, (sn _)⟩
 rintro e1 _ _ ⟨r40, rfl, rfl, he41⟩
 refine shW_env _ he41 ?_
 rw [round_Beat_listed_j1] at r40
 refine wsr (ua (shO_nil (shW_ret ?_)))
 refine qR1 results75 ?_
 obtain rfl := inj1 r40
 exact rfl
set_option maxHeartbeats 1000000 in
theorem round_Beat_check_w {hears : List (List Int)} {notices : List ((List Int) × Int × Int)} {quarter_a : Option Addr} {quarter_c : Nat} {quarter : List Int} {words hour : Int} (h_walks : RowR 1 (slE 1 (iE .i64)) F walks_a walks_c walks) (h_hears : RowR 1 (slE 1 (iE .i64)) F hears_a hears_c hears) (h_notices : RowR 3 (prE (slE 1 (iE .i64)) (prE (iE .i64) (iE .i64))) F notices_a notices_c notices) (h_quarter : RowR 1 (iE .i64) F quarter_a quarter_c quarter) {r : Int} (hr : round_Beat_check walks hears houses start notices quarter words hour = some r) :
    SpecV Tryz.prog 76 #[.agg #[.slice walks_a walks.length walks_c, .slice hears_a hears.length hears_c, .int .i64 houses, .int .i64 start, .slice notices_a notices.length notices_c], .agg #[.slice quarter_a quarter.length quarter_c, .int .i64 words, .int .i64 hour]] F (.int .i64 r) := by
 refine sp func76 ntmps76 fun K _ _ => ?_
 rw [round_Beat_check] at hr
 refine wsr ?_
 refine o_box rfl rfl ?_; intro b1 hb1
 refine o_box rfl rfl ?_; intro b2 hb2
 refine ua (shO_nil (shW_seq (wsr ?_)))
 refine uv (v_fieldAddr fa_61_0 rfl) (uv (v_load isAgg35 rfl (Has.own 0 rfl) rfl) (uv (v_lenS underlying35 rfl) (uv (v_eql rfl rfl) (shO_nil ?_))))
 refine cQ (fun c3 => ?_) fun c3 => ?_
 ·have r4 := ite_t hr c3
  refine wsr (ua (shO_nil ?_))
  refine kW kn ?_
  refine shW_ret (andThen_ret ?_)
  refine qR1 results76 ?_
  obtain rfl := inj1 r4
  exact rfl
 have r5 := ite_f hr c3
 refine shW_skip (shW_seq (wsr ?_))
 refine uv (v_loadA isAgg26 sizeOf26 rfl (Has.own 1 rfl) (nbL rfl) rfl) (uv (v_fieldAddr fa_61_0 rfl) (uv (v_load isAgg35 rfl (Has.own 0 rfl) rfl) ?_))
 obtain ⟨n, h6, r7⟩ := b1_ok r5
 refine cV call75 (round_Beat_listed_w h_walks h_hears h_notices h_quarter h6) ?_
 refine ua (nsr (um ?_))
 refine uv (v_neq rfl rfl) (shO_nil ?_)
 refine cQ (fun c8 => ?_) fun c8 => ?_
 ·have r9 := ite_t r7 c8
  refine wsr (um (ua (shO_nil ?_)))
  refine kW kn ?_
  refine shW_ret (andThen_ret ?_)
  refine qR1 results76 ?_
  obtain rfl := inj1 r9
  exact rfl
 have r10 := ite_f r7 c8
 refine shW_skip (shW_seq ?_)
 obtain ⟨k, h11, r12⟩ := b1_ok r10
 refine jE ([]) [(26, .bool k)] ?_ ?_
 ·clear r12
  refine shW_region (uv (v_fieldAddr fa_61_1 rfl) (uv (v_load isAgg3 rfl (Has.own 0 rfl) rfl) ?_))
  obtain ⟨ok, h13, r14⟩ := b1_ok h11
  refine cV call103 (round_in_w h13) (uv (v_notB rfl) (um ?_))
  rcases bool_two (!ok) with c15 | c15
  ·have r16 := bt r14 c15
   refine fB c15 (fB c15 (fB c15 (fB c15 ?_)))
   refine uv (v_pick_t (evB rfl c15) rfl) (shO_nil ?_)
   obtain rfl := inj1 r16
   exact mi kn ⟨rfl, rfl, z1⟩
  have r17 := bf r14 c15
  refine nB c15 (uv (v_fieldAddr fa_61_2 rfl) (nB c15 (uv (v_load isAgg3 rfl (Has.own 0 rfl) rfl) (nB c15 ?_))))
  obtain ⟨ok2, h18, r19⟩ := b1_ok r17
  refine cV call103 (round_in_w h18) (nB c15 (uv (v_notB rfl) (uv (v_pick_f (evB rfl c15) rfl) (shO_nil ?_))))
  obtain rfl := inj1 r19
  exact mi kn ⟨rfl, rfl, z1⟩
 refine shW_cond rfl (fun c21 => ?_) (fun c21 => ?_)
 ·have r22 := bt r12 c21
  refine wsr (ua (shO_nil (shW_ret (andThen_ret ?_))))
  refine qR1 results76 ?_
  obtain rfl := inj1 r22
  exact rfl
 have r23 := bf r12 c21
 refine shW_skip (wsr (ua (shO_nil (shW_ret ?_))))
 refine qR1 results76 ?_
 obtain rfl := inj1 r23
 exact rfl
set_option maxHeartbeats 1000000 in
theorem round_Check_w {hears : List (List Int)} {notices : List ((List Int) × Int × Int)} (h_walks : RowR 1 (slE 1 (iE .i64)) F walks_a walks_c walks) (h_hears : RowR 1 (slE 1 (iE .i64)) F hears_a hears_c hears) (h_notices : RowR 3 (prE (slE 1 (iE .i64)) (prE (iE .i64) (iE .i64))) F notices_a notices_c notices) {r : Int} (hr : round_Check walks hears houses start notices = some r) :
    SpecV Tryz.prog 39 #[.agg #[.slice walks_a walks.length walks_c, .slice hears_a hears.length hears_c, .int .i64 houses, .int .i64 start, .slice notices_a notices.length notices_c]] F (.int .i64 r) := by
 refine sp func39 ntmps39 fun K _ _ => ?_
 rw [round_Check] at hr
 refine wsr ?_
 refine o_box rfl rfl ?_; intro b1 hb1
 refine ua (shO_nil (shW_seq ?_))
 refine shW_block (wsr (uv (v_loadA isAgg26 sizeOf26 rfl (Has.own 0 rfl) (nbL rfl) rfl) ?_))
 obtain ⟨ok, h2, r3⟩ := b1_ok hr
 refine cV call73 (round_Beat_counted_w h_walks h_hears h_notices h2) (uv (v_notB rfl) ?_)
 refine ua (shO_nil ?_)
 refine shW_cond rfl (fun c4 => ?_) (fun c4 => ?_)
 ·have r5 := bt r3 c4
  refine wsr (ua (shO_nil ?_))
  refine kW kn ?_
  refine shW_ret (inBlock_ret (andThen_ret ?_))
  refine qR1 results39 ?_
  obtain rfl := inj1 r5
  exact rfl
 have r6 := bf r3 c4
 refine wsr (uv (v_loadA isAgg26 sizeOf26 rfl (Has.own 0 rfl) (nbL rfl) rfl) (uv (v_fieldAddr fa_26_3 rfl) (uv (v_load isAgg3 rfl (Has.own 0 rfl) rfl) ?_)))
 obtain ⟨ok2, h7, r8⟩ := b1_ok r6
 refine cV call69 (round_Beat_stand_w h_walks h_hears h_notices h7) (uv (v_notB rfl) ?_)
 refine ua (shO_nil ?_)
 refine shW_cond rfl (fun c9 => ?_) (fun c9 => ?_)
 ·have r10 := bt r8 c9
  refine wsr (ua (shO_nil ?_))
  refine kW kn ?_
  refine shW_ret (inBlock_ret (andThen_ret ?_))
  refine qR1 results39 ?_
  obtain rfl := inj1 r10
  exact rfl
 have r11 := bf r8 c9
 refine wsr (uv (v_loadA isAgg26 sizeOf26 rfl (Has.own 0 rfl) (nbL rfl) rfl) ?_)
 obtain ⟨ok3, h12, r13⟩ := b1_ok r11
 refine cV call74 (round_Beat_walkable_w h_walks h_hears h_notices h12) (uv (v_notB rfl) ?_)
 refine ua (shO_nil ?_)
 refine shW_cond rfl (fun c14 => ?_) (fun c14 => ?_)
 ·have r15 := bt r13 c14
  refine wsr (ua (shO_nil ?_))
  refine kW kn ?_
  refine shW_ret (inBlock_ret (andThen_ret ?_))
  refine qR1 results39 ?_
  obtain rfl := inj1 r15
  exact rfl
 have r16 := bf r13 c14
 refine shW_skip (inBlock_n (id := 0) ?_)
 refine shW_join (fun e1 F1 L1 => round_Check_j1 walks hears houses start notices = some r ∧ F = F1 ∧ L1 = [(b1, ce #[.slice walks_a walks.length walks_c, .slice hears_a hears.length hears_c, .int .i64 houses, .int .i64 start, .slice notices_a notices.length notices_c] 26)] ∧ e1.sub [(1, .pointer (some ⟨b1, 0, none⟩))]) ?_ ?_
 ·refine wsr (uv (v_fieldAddr fa_26_1 rfl) (uv (v_load isAgg23 rfl (Has.own 0 rfl) rfl) (uv (v_lenS underlying23 rfl) ?_)))
  refine um (shO_nil ?_)
  refine shW_block ?_
  refine shW_lp (fun fu2 e1 F1 L1 => LA hears fu2 fun tl k => round_Check_l2 walks hears houses start notices tl = some r ∧ F = F1 ∧ L1 = [(b1, ce #[.slice walks_a walks.length walks_c, .slice hears_a hears.length hears_c, .int .i64 houses, .int .i64 start, .slice notices_a notices.length notices_c] 26)] ∧ e1.sub [(1, .pointer (some ⟨b1, 0, none⟩)), (25, .slice hears_a hears.length hears_c), (26, .int .i64 (hears.length : Int)), (27, .int .i64 k)]) _ (m0 kr ⟨_, _, rfl, Lst.start _, r16, rfl, rfl, z4⟩) ?_
  rintro fu2 e1 _ _ ⟨tl, k, hn18, hk17, r19, rfl, rfl, he20⟩
  refine shW_env _ he20 (wsr (uv (v_lssK rfl rfl) ?_))
  refine shO_nil (shW_seq ?_)
  refine cQ (fun c22 => ?_) fun c22 => ?_
  ·obtain ⟨x, tl2, rfl, hx24, g25, hk23⟩ := Lst.succ hk17 c22
   rw [round_Check_l2] at r19
   refine shW_skip (shW_seq ?_)
   refine shW_block (wsr ?_)
   obtain ⟨b26, o27, c28, vs29, ha30, hs31, hle32, ⟨a35, c36, rfl, h37⟩, hl33, hc34⟩ := RowR.at (slE_ok (iE_ok _)) h_hears ([(b1, ce #[.slice walks_a walks.length walks_c, .slice hears_a hears.length hears_c, .int .i64 houses, .int .i64 start, .slice notices_a notices.length notices_c] 26)]) g25.1 hx24
   refine uv (v_indexO underlying23 sizeOf35 rfl ha30 rfl g25) (uv (v_load isAgg35 rfl hs31 (hc34 0 (by decide))) ?_)
   refine ua (nsr ?_)
   refine uv (v_loadA isAgg26 sizeOf26 rfl (Has.own 0 rfl) (nbL rfl) rfl) (um ?_)
   obtain ⟨n, h38, r39⟩ := b1_ok r19
   refine cV call75 (round_Beat_listed_w h_walks h_hears h_notices h37 h38) ?_
   refine ua (nsr (um ?_))
   refine uv (v_neq rfl rfl) (shO_nil ?_)
   refine cQ (fun c40 => ?_) fun c40 => ?_
   ·have r41 := ite_t r39 c40
    refine wsr (um (ua (shO_nil ?_)))
    refine kW kn ?_
    refine shW_ret (inBlock_ret (andThen_ret (andThen_ret (inBlock_ret (andThen_ret ?_)))))
    refine qR1 results39 ?_
    obtain rfl := inj1 r41
    exact rfl
   have r42 := ite_f r39 c40
   refine shW_skip (inBlock_n (id := 2) (shW_region ?_))
   refine uv (v_add rfl rfl (Lst.r64 hk17 c22 (RowR.lt h_hears))) ?_
   refine um (shO_nil ?_)
   subst hn18; exact le kr ⟨_, _, rfl, hk23, r42, rfl, rfl, z4⟩
  obtain rfl := Lst.zero hk17 c22
  rw [round_Check_l2] at r19
  refine shW_exit (andThen_exit (andThen_exit ?_))
  refine inBlock_exit ?_
  exact mi kr ⟨r19, rfl, rfl, z1⟩
 rintro e1 _ _ ⟨r43, rfl, rfl, he44⟩
 refine shW_env _ he44 ?_
 rw [round_Check_j1] at r43
 refine wsr (ua (shO_nil ?_))
 refine shW_join (fun e1 F1 L1 => ∃ (pairs : Int), round_Check_j3 pairs = some r ∧ F = F1 ∧ L1 = [] ∧ e1.sub [(6, .int .i64 pairs)]) ?_ ?_
 ·refine wsr (uv (v_fieldAddr fa_26_4 rfl) (uv (v_load isAgg24 rfl (Has.own 0 rfl) rfl) (uv (v_lenS underlying24 rfl) ?_)))
  refine um (shO_nil ?_)
  refine shW_block ?_
  refine shW_lp (fun fu4 e1 F1 L1 => LA notices fu4 fun tl3 k2 => ∃ (pairs2 : Int), round_Check_l4 walks hears houses start notices tl3 pairs2 = some r ∧ F = F1 ∧ L1 = [(b1, ce #[.slice walks_a walks.length walks_c, .slice hears_a hears.length hears_c, .int .i64 houses, .int .i64 start, .slice notices_a notices.length notices_c] 26)] ∧ e1.sub [(1, .pointer (some ⟨b1, 0, none⟩)), (6, .int .i64 pairs2), (39, .slice notices_a notices.length notices_c), (40, .int .i64 (notices.length : Int)), (41, .int .i64 k2)]) _ (m0 kr ⟨_, _, rfl, Lst.start _, 0, r43, rfl, rfl, z5⟩) ?_
  rintro fu4 e1 _ _ ⟨tl3, k2, hn46, hk45, pairs2, r47, rfl, rfl, he48⟩
  refine shW_env _ he48 (wsr (uv (v_lssK rfl rfl) ?_))
  refine shO_nil (shW_seq ?_)
  refine cQ (fun c50 => ?_) fun c50 => ?_
  ·obtain ⟨x2, tl4, rfl, hx52, g53, hk51⟩ := Lst.succ hk45 c50
   rw [round_Check_l4] at r47
   refine shW_skip (shW_seq ?_)
   refine shW_block (wsr ?_)
   obtain ⟨b54, o55, c56, vs57, ha58, hs59, hle60, ⟨_, _, rfl, ⟨a63, c64, rfl, h65⟩, ⟨_, _, rfl, rfl, rfl⟩⟩, hl61, hc62⟩ := RowR.at (prE_ok (slE_ok (iE_ok _)) (prE_ok (iE_ok _) (iE_ok _))) h_notices ([(b1, ce #[.slice walks_a walks.length walks_c, .slice hears_a hears.length hears_c, .int .i64 houses, .int .i64 start, .slice notices_a notices.length notices_c] 26)]) g53.1 hx52
   refine uv (v_indexO underlying24 sizeOf61 rfl ha58 rfl g53) (uv (v_loadA isAgg61 sizeOf61 rfl hs59 hle60 (extract_cells hle60 hl61 hc62)) ?_)
   refine o_alloc rfl zeroValue61 ?_; intro b66 hb66
   refine o_storeA (i := 0) sizeOf61 rfl rfl rfl (by simp [Value.oneCell']) rfl (nbL rfl) (shO_L rfl ?_)
   refine shO_nil (shW_seq (wsr ?_))
   refine uv (v_loadA isAgg26 sizeOf26 rfl (Has.own 1 rfl) (nbL rfl) rfl) (uv (v_loadA isAgg61 sizeOf61 rfl (Has.own 0 rfl) (nbL rfl) rfl) ?_)
   obtain ⟨n2, h67, r68⟩ := b1_ok r47
   refine cV call76 (round_Beat_check_w h_walks h_hears h_notices h65 h67) ?_
   refine ua (nsr (um ?_))
   refine uv (v_neq rfl rfl) (shO_nil ?_)
   refine cQ (fun c69 => ?_) fun c69 => ?_
   ·have r70 := ite_t r68 c69
    refine wsr (um (ua (shO_nil ?_)))
    refine kW kn ?_
    refine shW_ret (andThen_ret (inBlock_ret (andThen_ret (andThen_ret (inBlock_ret (andThen_ret ?_))))))
    refine qR1 results39 ?_
    obtain rfl := inj1 r70
    exact rfl
   have r71 := ite_f r68 c69
   refine shW_skip (shW_region (um ?_))
   refine uv (v_fieldAddr fa_61_0 rfl) (uv (v_load isAgg35 rfl (Has.own 0 rfl) rfl) (uv (v_lenS underlying35 rfl) ?_))
   obtain ⟨g72, r73⟩ := gd_ok r71
   refine uv (v_add rfl rfl g72) ?_
   refine ua (shO_nil (inBlock_n (id := 4) (shW_region ?_)))
   refine uv (v_add rfl rfl (Lst.r64 hk45 c50 (RowR.lt h_notices))) ?_
   refine um (shO_nil ?_)
   subst hn46; exact le (kd kr) ⟨_, _, rfl, hk51, pairs2 + (x2.1.length : Int), r73, rfl, rfl, z5⟩
  obtain rfl := Lst.zero hk45 c50
  rw [round_Check_l4] at r47
  refine shW_exit (andThen_exit (andThen_exit ?_))
  refine inBlock_exit ?_
  exact mi kn ⟨pairs2, r47, rfl, rfl, z1⟩
 rintro e1 _ _ ⟨pairs, r74, rfl, rfl, he75⟩
 refine shW_env _ he75 ?_
 rw [round_Check_j3] at r74
 refine shW_seq (wsr (um ?_))
 refine uv (v_gtrK rfl rfl) (shO_nil ?_)
 refine cQ (fun c76 => ?_) fun c76 => ?_
 ·have r77 := ite_t r74 c76
  refine wsr (ua (shO_nil (shW_ret (andThen_ret ?_))))
  refine qR1 results39 ?_
  obtain rfl := inj1 r77
  exact rfl
 have r78 := ite_f r74 c76
 refine shW_skip (wsr (ua (shO_nil (shW_ret ?_))))
 refine qR1 results39 ?_
 obtain rfl := inj1 r78
 exact rfl
set_option maxHeartbeats 1000000 in
theorem round_soonest_w {l : List Int} (h_l : RowR 1 (iE .i64) F l_a l_c l) {r : Int} (hr : round_soonest l = some r) :
    SpecV Tryz.prog 34 #[.slice l_a l.length l_c] F (.int .i64 r) := by
 refine sp func34 ntmps34 fun K _ _ => ?_
 rw [round_soonest] at hr
 refine wsr (ua (nsr (ua (shO_nil ?_))))
 obtain ⟨out, h1, r2⟩ := b1_ok hr
 refine jE ([]) [(3, .int .i64 out)] ?_ ?_
 ·clear r2
  refine wsr (um ?_)
  refine uv (v_lenS underlying35 rfl) ?_
  refine um (shO_nil ?_)
  refine shW_block ?_
  refine shW_lp (fun fu1 e1 F1 L1 => LA l fu1 fun tl k => ∃ (out2 : Int), round_soonest_l1 tl out2 = some out ∧ F = F1 ∧ L1 = [] ∧ e1.sub [(3, .int .i64 out2), (6, .slice l_a l.length l_c), (7, .int .i64 (l.length : Int)), (8, .int .i64 k)]) _ (m0 kr ⟨_, _, rfl, Lst.start _, -1, h1, rfl, rfl, z4⟩) ?_
  rintro fu1 e1 _ _ ⟨tl, k, hn4, hk3, out2, r5, rfl, rfl, he6⟩
  refine shW_env _ he6 (wsr (uv (v_lssK rfl rfl) ?_))
  refine shO_nil (shW_seq ?_)
  refine cQ (fun c8 => ?_) fun c8 => ?_
  ·obtain ⟨x, tl2, rfl, hx10, g11, hk9⟩ := Lst.succ hk3 c8
   rw [round_soonest_l1] at r5
   refine shW_skip (shW_seq ?_)
   refine shW_block (wsr ?_)
   obtain ⟨b12, o13, c14, vs15, ha16, hs17, hle18, rfl, hl19, hc20⟩ := RowR.at (iE_ok _) h_l ([]) g11.1 hx10
   refine uv (v_indexO underlying35 sizeOf3 rfl ha16 rfl g11) (uv (v_load isAgg3 rfl hs17 (hc20 0 (by decide))) ?_)
   refine ua (shO_nil ?_)
   obtain ⟨k2, h21, r22⟩ := b1_ok r5
   refine jE ([]) [(3, .int .i64 out2), (5, .int .i64 x), (6, .slice l_a l.length l_c), (7, .int .i64 (l.length : Int)), (8, .int .i64 k), (22, .bool k2)] ?_ ?_
   ·clear r22
    refine shW_region (um ?_)
    refine uv (v_neq rfl rfl) (um ?_)
    by_cases c23 : x ≠ (-1)
    ·have r24 := ite_t h21 c23
     refine nT c23 (um (nT c23 ?_))
     refine uv (v_eql rfl rfl) ?_
     refine nT c23 (um ?_)
     by_cases c25 : out2 = (-1)
     ·have r26 := ite_t r24 c25
      refine fT c25 (fT c25 (fT c25 (nT c23 ?_)))
      refine uv (v_pick_t (evD_true rfl c25) rfl) (uv (v_pick_t (evD_true rfl c23) rfl) (shO_nil ?_))
      obtain rfl := inj1 r26
      exact mi kr ⟨rfl, rfl, z6⟩
     have r27 := ite_f r24 c25
     refine nF c25 (um (nF c25 (um (nF c25 ?_))))
     refine uv (v_lssK rfl rfl) (nT c23 (uv (v_pick_f (evD_false rfl c25) rfl) (uv (v_pick_t (evD_true rfl c23) rfl) (shO_nil ?_))))
     obtain rfl := inj1 r27
     exact mi kr ⟨rfl, rfl, z6⟩
    have r28 := ite_f h21 c23
    refine fF c23 (fF c23 (fF c23 (fU (fU (fU (fF c23 ?_))))))
    refine uv (v_pick_f (evD_false rfl c23) rfl) (shO_nil ?_)
    obtain rfl := inj1 r28
    exact mi kr ⟨rfl, rfl, z6⟩
   refine shW_cond rfl (fun c30 => ?_) (fun c30 => ?_)
   ·have r31 := bt r22 c30
    refine shW_region (um (ua (shO_nil (inBlock_n (id := 1) (shW_region ?_)))))
    refine uv (v_add rfl rfl (Lst.r64 hk3 c8 (RowR.lt h_l))) ?_
    refine um (shO_nil ?_)
    subst hn4; exact le kr ⟨_, _, rfl, hk9, x, r31, rfl, rfl, z4⟩
   have r32 := bf r22 c30
   refine shW_skip (inBlock_n (id := 1) (shW_region ?_))
   refine uv (v_add rfl rfl (Lst.r64 hk3 c8 (RowR.lt h_l))) ?_
   refine um (shO_nil ?_)
   subst hn4; exact le kr ⟨_, _, rfl, hk9, out2, r32, rfl, rfl, z4⟩
  obtain rfl := Lst.zero hk3 c8
  rw [round_soonest_l1] at r5
  refine shW_exit (andThen_exit (andThen_exit ?_))
  refine inBlock_exit ?_
  obtain rfl := inj1 r5
  exact mi kr ⟨rfl, rfl, z1⟩
 refine wsr (um (ua (shO_nil (shW_ret ?_))))
 refine qR1 results34 ?_
 obtain rfl := inj1 r2
 exact rfl
set_option maxHeartbeats 1000000 in
theorem round_walks_through_w {w : List Int} (h_w : w.length = 25) {r : List Int} (hr : round_walks_through w = some r) :
    SH.Spec Tryz.prog 40 #[.agg (arr (cI .i64) w)] F [] fun _ L' v => v = .agg (arr (cI .i64) r) ∧ L' = [] ∧ r.length = 25 := by
 refine sp func40 ntmps40 fun K _ _ => ?_
 rw [round_walks_through] at hr
 refine wsr ?_
 refine o_box rfl rfl ?_; intro b1 hb1
 refine o_alloc rfl zeroValue111 ?_; intro b2 hb2
 refine shO_L (L' := [(b2, ce (arr (cI .i64) (List.replicate 25 0)) 111), (b1, ce (arr (cI .i64) w) 111)]) rfl (nsr (uv (v_loadW isAgg111 sizeOf111 rfl (Has.own 1 rfl) (arr_sz (cI_ok .i64) h_w)) ?_))
 refine o_alloc rfl zeroValue111 ?_; intro b3 hb3
 refine shO_L (L' := [(b3, ce (arr (cI .i64) (List.replicate 25 0)) 111), (b2, ce (arr (cI .i64) (List.replicate 25 0)) 111), (b1, ce (arr (cI .i64) w) 111)]) rfl (o_storeW (i := 0) sizeOf111 rfl rfl rfl (arr_sz (cI_ok .i64) List.length_replicate) (arr_sz (cI_ok .i64) h_w) (arr_one (cI_ok .i64)) (shO_L (L' := [(b3, ce (arr (cI .i64) w) 111), (b2, ce (arr (cI .i64) (List.replicate 25 0)) 111), (b1, ce (arr (cI .i64) w) 111)]) rfl (shO_nil ?_)))
 obtain ⟨out, h5, r6⟩ := b1_ok hr
 refine shW_join (fun e1 F1 L1 => FExt F F1 ∧ L1 = [(b3, ce (arr (cI .i64) out) 111), (b2, ce (arr (cI .i64) (List.replicate 25 0)) 111)] ∧ e1.sub [(2, .pointer (some ⟨b2, 0, none⟩)), (3, .pointer (some ⟨b3, 0, none⟩))] ∧ out.length = 25) ?_ ?_
 ·clear r6
  refine wsr (um (shO_nil ?_))
  refine shW_block ?_
  obtain ⟨g8, r9⟩ := gd_ok h5
  refine shW_lp (fun fu1 e1 F1 L1 => ∃ (k : Int), Ctr 0 5 k fu1 ∧ ∃ (out2 : List Int), round_walks_through_l1 w fu1 k out2 = some out ∧ FExt F F1 ∧ L1 = [(b3, ce (arr (cI .i64) out2) 111), (b2, ce (arr (cI .i64) (List.replicate 25 0)) 111), (b1, ce (arr (cI .i64) w) 111)] ∧ e1.sub [(1, .pointer (some ⟨b1, 0, none⟩)), (2, .pointer (some ⟨b2, 0, none⟩)), (3, .pointer (some ⟨b3, 0, none⟩)), (8, .int .i64 k)] ∧ out2.length = 25) _ (m0 kr ⟨_, Ctr.start _ _, w, r9, FExt.refl _, rfl, z4, h_w⟩) ?_
  rintro fu1 e1 F14 _ ⟨k, hk10, out2, r12, hF15, rfl, he13, h7⟩
  refine shW_env _ he13 (wsr (uv (v_lssK rfl rfl) ?_))
  refine shO_nil (shW_seq ?_)
  refine cQ (fun c17 => ?_) fun c17 => ?_
  ·obtain ⟨fu1, rfl, hk18⟩ := Ctr.succ hk10 c17
   rw [round_walks_through_l1] at r12
   refine shW_skip ?_
   obtain ⟨out3, h20, r21⟩ := b1_ok r12
   refine shW_join (fun e1 F1 L1 => FExt F14 F1 ∧ L1 = [(b3, ce (arr (cI .i64) out3) 111), (b2, ce (arr (cI .i64) (List.replicate 25 0)) 111), (b1, ce (arr (cI .i64) w) 111)] ∧ e1.sub [(1, .pointer (some ⟨b1, 0, none⟩)), (2, .pointer (some ⟨b2, 0, none⟩)), (3, .pointer (some ⟨b3, 0, none⟩)), (8, .int .i64 k)] ∧ out3.length = 25) ?_ ?_
   ·clear r21
    refine shW_block ?_
    refine wsr (um (ua (nsr (um (shO_nil ?_)))))
    refine shW_block ?_
    obtain ⟨g23, r24⟩ := gd_ok h20
    refine shW_lp (fun fu2 e1 F1 L1 => ∃ (k2 : Int), Ctr 0 5 k2 fu2 ∧ ∃ (out4 : List Int), round_walks_through_l2 w k fu2 k2 out4 = some out3 ∧ FExt F14 F1 ∧ L1 = [(b3, ce (arr (cI .i64) out4) 111), (b2, ce (arr (cI .i64) (List.replicate 25 0)) 111), (b1, ce (arr (cI .i64) w) 111)] ∧ e1.sub [(1, .pointer (some ⟨b1, 0, none⟩)), (2, .pointer (some ⟨b2, 0, none⟩)), (3, .pointer (some ⟨b3, 0, none⟩)), (4, .int .i64 k), (8, .int .i64 k), (11, .int .i64 k2)] ∧ out4.length = 25) _ (m0 kr ⟨_, Ctr.start _ _, out2, r24, FExt.refl _, rfl, z6, h7⟩) ?_
    rintro fu2 e1 F29 _ ⟨k2, hk25, out4, r27, hF30, rfl, he28, h22⟩
    refine shW_env _ he28 (wsr (uv (v_lssK rfl rfl) ?_))
    refine shO_nil (shW_seq ?_)
    refine cQ (fun c32 => ?_) fun c32 => ?_
    ·obtain ⟨fu2, rfl, hk33⟩ := Ctr.succ hk25 c32
     rw [round_walks_through_l2] at r27
     refine shW_skip ?_
     obtain ⟨out5, h35, r36⟩ := b1_ok r27
     refine shW_join (fun e1 F1 L1 => FExt F29 F1 ∧ L1 = [(b3, ce (arr (cI .i64) out5) 111), (b2, ce (arr (cI .i64) (List.replicate 25 0)) 111), (b1, ce (arr (cI .i64) w) 111)] ∧ e1.sub [(1, .pointer (some ⟨b1, 0, none⟩)), (2, .pointer (some ⟨b2, 0, none⟩)), (3, .pointer (some ⟨b3, 0, none⟩)), (4, .int .i64 k), (8, .int .i64 k), (11, .int .i64 k2)] ∧ out5.length = 25) ?_ ?_
     ·clear r36
      refine shW_block ?_
      refine wsr (um (ua (nsr (um (shO_nil ?_)))))
      refine shW_block ?_
      obtain ⟨g38, r39⟩ := gd_ok h35
      refine shW_lp (fun fu3 e1 F1 L1 => ∃ (k3 : Int), Ctr 0 5 k3 fu3 ∧ ∃ (out6 : List Int), round_walks_through_l3 w k k2 fu3 k3 out6 = some out5 ∧ FExt F29 F1 ∧ L1 = [(b3, ce (arr (cI .i64) out6) 111), (b2, ce (arr (cI .i64) (List.replicate 25 0)) 111), (b1, ce (arr (cI .i64) w) 111)] ∧ e1.sub [(1, .pointer (some ⟨b1, 0, none⟩)), (2, .pointer (some ⟨b2, 0, none⟩)), (3, .pointer (some ⟨b3, 0, none⟩)), (4, .int .i64 k), (5, .int .i64 k2), (8, .int .i64 k), (11, .int .i64 k2), (14, .int .i64 k3)] ∧ out6.length = 25) _ (m0 kr ⟨_, Ctr.start _ _, out4, r39, FExt.refl _, rfl, z8, h22⟩) ?_
      rintro fu3 e1 F44 _ ⟨k3, hk40, out6, r42, hF45, rfl, he43, h37⟩
      refine shW_env _ he43 (wsr (uv (v_lssK rfl rfl) ?_))
      refine shO_nil (shW_seq ?_)
      refine cQ (fun c47 => ?_) fun c47 => ?_
      ·obtain ⟨fu3, rfl, hk48⟩ := Ctr.succ hk40 c47
       rw [round_walks_through_l3] at r42
       refine shW_skip (shW_seq ?_)
       refine shW_block ?_
       refine wsr (um (ua (shO_nil ?_)))
       obtain ⟨k4, h49, r50⟩ := b1_ok r42
       refine jE ([(b3, ce (arr (cI .i64) out6) 111), (b2, ce (arr (cI .i64) (List.replicate 25 0)) 111), (b1, ce (arr (cI .i64) w) 111)]) [(1, .pointer (some ⟨b1, 0, none⟩)), (2, .pointer (some ⟨b2, 0, none⟩)), (3, .pointer (some ⟨b3, 0, none⟩)), (4, .int .i64 k), (5, .int .i64 k2), (6, .int .i64 k3), (8, .int .i64 k), (11, .int .i64 k2), (14, .int .i64 k3), (30, .bool k4)] ?_ ?_
       ·clear r50
        refine shW_region (um (um ?_))
        obtain ⟨g51, r52⟩ := gd_ok h49
        refine uv (v_indexA underlying111 sizeOf109 rfl rfl g51) ?_
        obtain ⟨g53, r54⟩ := gd_ok r52
        obtain ⟨x, g55, hx56, r57⟩ := ix_ok r54
        have hq59 : (k * 5 + k3 : Int).toNat = (k : Int).toNat * 5 + (k3 : Int).toNat := by have := g51; have := g53; omega
        have hc58 := el_at2 (cI_ok .i64) h_w hq59 hx56 (li_arr (li_end (lfl (cI_ok .i64) h_w))) (li_le (li_end (lfl (cI_ok .i64) h_w)))
        refine uv (v_indexA underlying109 sizeOf3 rfl rfl g53) (uv (v_load isAgg3 rfl (Has.own 2 rfl) ((hc58).2.2 0 (by decide))) (uv (v_neq rfl rfl) (um ?_)))
        by_cases c60 : x ≠ (-1)
        ·have r61 := ite_t r57 c60
         refine nT c60 (um (nT c60 (um (nT c60 ?_))))
         obtain ⟨g62, r63⟩ := gd_ok r61
         refine uv (v_indexA underlying111 sizeOf109 rfl rfl g62) (nT c60 ?_)
         obtain ⟨g64, r65⟩ := gd_ok r63
         obtain ⟨x2, g66, hx67, r68⟩ := ix_ok r65
         have hq70 : (k3 * 5 + k2 : Int).toNat = (k3 : Int).toNat * 5 + (k2 : Int).toNat := by have := g62; have := g64; omega
         have hc69 := el_at2 (cI_ok .i64) h_w hq70 hx67 (li_arr (li_end (lfl (cI_ok .i64) h_w))) (li_le (li_end (lfl (cI_ok .i64) h_w)))
         refine uv (v_indexA underlying109 sizeOf3 rfl rfl g64) (nT c60 (uv (v_load isAgg3 rfl (Has.own 2 rfl) ((hc69).2.2 0 (by decide))) (nT c60 (uv (v_neq rfl rfl) (uv (v_pick_t (evD_true rfl c60) rfl) (shO_nil ?_))))))
         obtain rfl := inj1 r68
         exact mi kr ⟨rfl, rfl, (sc rfl (sc rfl z8))⟩
        have r71 := ite_f r57 c60
        refine fF c60 (fF c60 (fF c60 (fF c60 (fF c60 (fF c60 ?_)))))
        refine uv (v_pick_f (evD_false rfl c60) rfl) (shO_nil ?_)
        obtain rfl := inj1 r71
        exact mi kr ⟨rfl, rfl, (sc rfl (sc rfl z8))⟩
       refine shW_cond rfl (fun c73 => ?_) (fun c73 => ?_)
       ·have r74 := bt r50 c73
        refine shW_drawM [(.still, 0), (.still, 1), (.still, 2), (.still, 3), (.still, 4), (.still, 5), (.still, 6), (.still, 7), (.still, 8), (.still, 9), (.still, 10), (.still, 11), (.still, 12), (.still, 13), (.still, 14), (.still, 15), (.still, 16), (.still, 17), (.still, 20), (.seq, 18), (.seq, 19), (.still, 21), (.seq, 22)] (by kernel_rfl) (by kernel_rfl) (trivial) (by rfl) (by kernel_rfl) (mS [4] rfl (v_move rfl) (mS [5] rfl (v_move rfl) (mS [4] rfl (v_move rfl) (mS [5] rfl (v_move rfl) ?_))))
        obtain ⟨g75, r76⟩ := gd_ok r74
        refine mS [3, 33] rfl (v_indexA underlying111 sizeOf109 rfl rfl g75) ?_
        obtain ⟨g77, r78⟩ := gd_ok r76
        obtain ⟨x3, g79, hx80, r81⟩ := ix_ok r78
        have hq83 : (k * 5 + k2 : Int).toNat = (k : Int).toNat * 5 + (k2 : Int).toNat := by have := g75; have := g77; omega
        have hc82 := el_at2 (cI_ok .i64) h37 hq83 hx80 (li_arr (li_end (lfl (cI_ok .i64) h37))) (li_le (li_end (lfl (cI_ok .i64) h37)))
        refine mS [34, 35] rfl (v_indexA underlying109 sizeOf3 rfl rfl g77) (mL [36] ([(b3, ce (arr (cI .i64) out6) 111)]) rfl (s0 (s2 (s1 (s1 sr)))) (fun H F' L' hF' hL' => v_load isAgg3 rfl ((Has.own 0 rfl).ext hF' hL') ((hc82).2.2 0 (by decide))) (mS [4] rfl (v_move rfl) (mS [6] rfl (v_move rfl) ?_)))
        obtain ⟨g84, r85⟩ := gd_ok r81
        refine mS [1, 38] rfl (v_indexA underlying111 sizeOf109 rfl rfl g84) ?_
        obtain ⟨g86, r87⟩ := gd_ok r85
        obtain ⟨x4, g88, hx89, r90⟩ := ix_ok r87
        have hq92 : (k * 5 + k3 : Int).toNat = (k : Int).toNat * 5 + (k3 : Int).toNat := by have := g84; have := g86; omega
        have hc91 := el_at2 (cI_ok .i64) h_w hq92 hx89 (li_arr (li_end (lfl (cI_ok .i64) h_w))) (li_le (li_end (lfl (cI_ok .i64) h_w)))
        refine mS [39, 40] rfl (v_indexA underlying109 sizeOf3 rfl rfl g86) (mL [41] ([(b1, ce (arr (cI .i64) w) 111)]) rfl (s0 (s1 (s1 (s2 sr)))) (fun H F' L' hF' hL' => v_load isAgg3 rfl ((Has.own 0 rfl).ext hF' hL') ((hc91).2.2 0 (by decide))) (mS [6] rfl (v_move rfl) (mS [5] rfl (v_move rfl) ?_)))
        obtain ⟨g93, r94⟩ := gd_ok r90
        refine mS [1, 43] rfl (v_indexA underlying111 sizeOf109 rfl rfl g93) ?_
        obtain ⟨g95, r96⟩ := gd_ok r94
        obtain ⟨x5, g97, hx98, r99⟩ := ix_ok r96
        have hq101 : (k3 * 5 + k2 : Int).toNat = (k3 : Int).toNat * 5 + (k2 : Int).toNat := by have := g93; have := g95; omega
        have hc100 := el_at2 (cI_ok .i64) h_w hq101 hx98 (li_arr (li_end (lfl (cI_ok .i64) h_w))) (li_le (li_end (lfl (cI_ok .i64) h_w)))
        refine mS [44, 45] rfl (v_indexA underlying109 sizeOf3 rfl rfl g95) (mL [46] ([(b1, ce (arr (cI .i64) w) 111)]) rfl (s0 (s1 (s1 (s2 sr)))) (fun H F' L' hF' hL' => v_load isAgg3 rfl ((Has.own 0 rfl).ext hF' hL') ((hc100).2.2 0 (by decide))) ?_)
        obtain ⟨g102, r103⟩ := gd_ok r99
        refine mS (v := .int .i64 (x4 + x5)) [42, 47] rfl (v_add rfl rfl g102) ?_
        obtain ⟨g104, r105⟩ := gd_ok r103
        refine mS [3, 31] rfl (v_indexA underlying111 sizeOf109 rfl rfl g104) ?_
        refine ⟨_, [(37, .int .i64 x3), (48, .int .i64 (x4 + x5))], rfl, rfl, z2, by kernel_rfl, ?_⟩; intro H
        refine bA (cs := #[.int .i64 x3, .int .i64 (x4 + x5)]) slt_35 [.int .i64 x3, .int .i64 (x4 + x5)] ?_; intro b106 hb106
        refine shO_nil ⟨_, rfl, FExt.refl _, [20, 1, 0], by kernel_rfl, .inl (.inr (fun d h => by cases h; rfl)), (fc sm (fc sm (fc sm nm))), ?_⟩
        refine ⟨_, [(49, .slice (some ⟨b106, 0, none⟩) 2 2)], rfl, rfl, z1, by kernel_rfl, ?_⟩; intro H
        refine shO_freeze 0 rfl hb106 ?_; intro F107 hF108 hz109
        refine shO_L (L' := [(b3, ce (arr (cI .i64) out6) 111), (b2, ce (arr (cI .i64) (List.replicate 25 0)) 111), (b1, ce (arr (cI .i64) w) 111)]) rfl ?_
        have h110 : RowR 1 (iE .i64) F107 (some ⟨b106, 0, none⟩) 2 [x3, x4 + x5] := RowR.of_block (iE_ok _) (vss := [[.int .i64 x3], [.int .i64 (x4 + x5)]]) (xs := [x3, x4 + x5]) hz109 (.cons rfl (.cons rfl .nil)) rfl (by simp [maxLen])
        obtain ⟨n, h111, r112⟩ := b1_ok r105
        refine cV call34 (round_soonest_w h110 h111) ?_
        refine shO_nil ⟨_, rfl, hF108, [20, 1, 0], by kernel_rfl, .inl (.inr (fun d h => by cases h; rfl)), (fc sm (fc sm (fc sm nm))), ?_⟩
        obtain ⟨g113, r114⟩ := gd_ok r112
        have hq116 : (k * 5 + k2 : Int).toNat = (k : Int).toNat * 5 + (k2 : Int).toNat := by have := g104; have := g113; omega
        refine mS [32, 51] rfl (v_indexA underlying109 sizeOf3 rfl rfl g113) ?_
        refine ⟨_, [(50, .int .i64 n), (52, .pointer (some ⟨b3, 0 + (k : Int).toNat * 5 + (k2 : Int).toNat * 1, none⟩))], rfl, rfl, z2, by kernel_rfl, ?_⟩; intro H
        obtain ⟨l, h117, r118⟩ := bv_ok r114
        have h119 : l.length = 25 := by rw [h117, List.length_set]; exact h37
        refine o_storeArr2 (i := 0) sizeOf3 (cI_ok .i64) rfl rfl rfl rfl hq116 (by have := g79; have := h37; omega) h37 ?_
        refine shO_L (L' := [(b3, ce (arr (cI .i64) l) 111), (b2, ce (arr (cI .i64) (List.replicate 25 0)) 111), (b1, ce (arr (cI .i64) w) 111)]) (by rw [h117]; rfl) ?_
        refine shO_nil ⟨undef, rfl, FExt.refl _, [], by kernel_rfl, .inl (.inl rfl), nm, ?_⟩
        refine shM_nil ?_
        refine inBlock_n (id := 5) (shW_region ?_)
        refine uv (v_add rfl rfl (Ctr.r64 hk40 c47 g38)) ?_
        refine um (shO_nil ?_)
        exact le kr ⟨_, hk48, l, r118, (hF45.trans hF108), rfl, z8, h119⟩
       have r120 := bf r50 c73
       refine shW_skip (inBlock_n (id := 5) (shW_region ?_))
       refine uv (v_add rfl rfl (Ctr.r64 hk40 c47 g38)) ?_
       refine um (shO_nil ?_)
       exact le kr ⟨_, hk48, out6, r120, hF45, rfl, z8, h37⟩
      obtain rfl := Ctr.zero hk40 c47
      rw [round_walks_through_l3] at r42
      refine shW_exit (andThen_exit (andThen_exit ?_))
      refine inBlock_exit (inBlock_n (id := 3) ?_)
      obtain rfl := inj1 r42
      exact mi kr ⟨hF45, rfl, z6, h37⟩
     rintro e1 F122 _ ⟨hF123, rfl, he121, h34⟩
     refine shW_env _ he121 (shW_region (uv (v_add rfl rfl (Ctr.r64 hk25 c32 g23)) ?_))
     refine um (shO_nil ?_)
     exact le kr ⟨_, hk33, out5, r36, (hF30.trans hF123), rfl, z6, h34⟩
    obtain rfl := Ctr.zero hk25 c32
    rw [round_walks_through_l2] at r27
    refine shW_exit (andThen_exit (andThen_exit ?_))
    refine inBlock_exit (inBlock_n (id := 1) ?_)
    obtain rfl := inj1 r27
    exact mi kr ⟨hF30, rfl, z4, h22⟩
   rintro e1 F125 _ ⟨hF126, rfl, he124, h19⟩
   refine shW_env _ he124 (shW_region (uv (v_add rfl rfl (Ctr.r64 hk10 c17 g8)) ?_))
   refine um (shO_nil ?_)
   exact le kr ⟨_, hk18, out3, r21, (hF15.trans hF126), rfl, z4, h19⟩
  obtain rfl := Ctr.zero hk10 c17
  rw [round_walks_through_l1] at r12
  refine shW_exit (andThen_exit (andThen_exit ?_))
  refine inBlock_exit ?_
  obtain rfl := inj1 r12
  exact mi (kc (kc kn)) ⟨hF15, rfl, z2, h7⟩
 rintro e1 F128 _ ⟨hF129, rfl, he127, h4⟩
 refine shW_env _ he127 (wsr (uv (v_loadW isAgg111 sizeOf111 rfl (Has.own 0 rfl) (arr_sz (cI_ok .i64) h4)) (o_storeW (i := 1) sizeOf111 rfl rfl rfl (arr_sz (cI_ok .i64) List.length_replicate) (arr_sz (cI_ok .i64) h4) (arr_one (cI_ok .i64)) (shO_L (L' := [(b3, ce (arr (cI .i64) out) 111), (b2, ce (arr (cI .i64) out) 111)]) rfl (shO_nil (kW (kd kr) (shW_ret ?_)))))))
 refine q_res1 results40 (res_cellA (cs := arr (cI .i64) out) isAgg111 sizeOf111 rfl (Has.own 0 rfl) (li_le (li_end (lfl (cI_ok .i64) h4))) (li_ext (lfl (cI_ok .i64) h4) (li_end (lfl (cI_ok .i64) h4)))) (s1 sr) ?_
 obtain rfl := inj1 r6
 exact ⟨rfl, rfl, h4⟩
set_option maxHeartbeats 1000000 in
theorem slices_AppendSeq_int_int_w {s_ : List Int} (h_s_ : SlR 0 3 1 (iE .i64) F s__a s__n s__c s_ s__L) (hc_seq : ∀ args w, (callFunc seq_f args).run Tryz.prog w = .ok (.enter seq_f args) w) (h_seq : IterOK Tryz.prog seq_f seq_1 seq_2 F (fun x : Int => #[.int .i64 x]) seq) {r : List Int} (hr : slices_AppendSeq_int_int s_ seq = some r) :
    SH.Spec Tryz.prog 106 #[.slice s__a s__n s__c, .func (.func seq_f) seq_1 seq_2] F (s__L ++ []) fun F' L' v => ∃ (ra : Option Addr) (rn : Nat) (rc : Nat) (rL : LH), v = .slice ra rn rc ∧ L' = rL ++ [] ∧ SlR 0 3 1 (iE .i64) F' ra rn rc r rL := by
 refine sp func106 ntmps106 fun K _ _ => ?_
 rw [slices_AppendSeq_int_int] at hr
 refine shW_L (L' := s__L ++ []) (by simp) (wsr ?_)
 refine o_box rfl rfl ?_; intro b1 hb1
 refine ua (shO_nil ?_)
 obtain ⟨s_2, h8, r9⟩ := b1_ok hr
 refine shW_join (fun e1 F1 L1 => ∃ (a2 : Option Addr) (n6 : Nat) (c3 : Nat) (Lb4 : LH), FExt F F1 ∧ L1 = ((b1, ce #[.slice a2 n6 c3] 35) :: (Lb4 ++ [])) ∧ e1.sub [(2, .pointer (some ⟨b1, 0, none⟩))] ∧ SlR 0 3 1 (iE .i64) F1 a2 n6 c3 s_2 Lb4) ?_ ?_
 ·clear r9
  refine wsr (um (shO_nil ?_))
  refine shW_block ?_
  refine shW_rangeFunc (encs := (fun x : Int => #[.int .i64 x])) (xs := seq) rfl hc_seq rfl (fun _ => rfl) h_seq (fun pre F1 L1 => ∃ (tl : List Int) (s_3 : List Int) (a10 : Option Addr) (n14 : Nat) (c11 : Nat) (Lb12 : LH), seq = pre ++ tl ∧ slices_AppendSeq_int_int_l1 tl s_3 = some s_2 ∧ L1 = ((b1, ce #[.slice a10 n14 c11] 35) :: (Lb12 ++ [])) ∧ SlR 0 3 1 (iE .i64) F1 a10 n14 c11 s_3 Lb12) (fun _ _ _ => False) ?_ ?_ ?_ ?_ ?_ ?_
  ·rintro pre F1 F2 L1 ⟨tl, s_3, a10, n14, c11, Lb12, hs16, r17, rfl, hz13⟩ hx; exact ⟨tl, s_3, a10, n14, c11, Lb12, hs16, r17, rfl, hz13.mono (iE_ok _) hx⟩
  ·intro c F1 F2 L1 h hx; exact h
  ·exact ⟨_, s_, s__a, s__n, s__c, s__L, rfl, h8, rfl, h_s_⟩
  ·rintro l18 wr19 Fr20 Xr21 Ha22 Hb23 hnb24 hH28 pre x tl2 hxs27 F25 _ hF26 ⟨tl, s_3, a10, n14, c11, Lb12, hs16, r29, rfl, hz13⟩
   obtain rfl := rest_head hs16 hxs27
   rw [slices_AppendSeq_int_int_l1] at r29
   refine shW_env [(2, .pointer (some ⟨b1, 0, none⟩)), (6, .func (.func seq_f) seq_1 seq_2), (7, .int .i64 x)] (by exact z3) ?_
   refine shW_region (ua (shO_nil ?_))
   refine ⟨rfl, ?_⟩
   refine shW_block (shW_region (uv (v_load isAgg35 rfl (Has.own 0 rfl) rfl) (um ?_)))
   refine bA (cs := #[.int .i64 x]) slt_35 [.int .i64 x] ?_; intro b30 hb30
   obtain ⟨s_4, h31, g32, r33⟩ := ap_ok r29
   refine o_appZ (xs := s_3) (ys := [x]) (zs := s_4) rfl slt_35 rfl rfl (Nat.zero_le _) (fun _ => .c (.c .h)) hz13 (SrcR.box (vss := [[.int .i64 x]]) (ys := [x]) 0 rfl (iE_ok _) (.cons rfl .nil) rfl rfl) h31 g32 (by decide) ?_; intro a34 n38 c35 Lb36 hz37
   refine kO (kd kr) (o_store (i := 0) sizeOf35 rfl rfl rfl rfl (nbL rfl) (shO_L rfl ?_))
   refine shO_nil (inBlock_n (id := 1) ?_)
   refine ⟨(b1, ce #[.slice a34 n38 c35] 35) :: (Lb36 ++ []), ⟨_, .refl _, sr⟩, ?_⟩; exact ⟨_, s_4, a34, n38, c35, Lb36, (by rw [hxs27]; simp), r33, rfl, hz37⟩
  ·rintro F40 _ hF41 ⟨tl, s_3, a10, n14, c11, Lb12, hs16, r42, rfl, hz13⟩
   obtain rfl := rest_nil hs16; rw [slices_AppendSeq_int_int_l1] at r42
   refine inBlock_n (id := 0) ?_
   obtain rfl := inj1 r42
   exact mi kr ⟨a10, n14, c11, Lb12, hF41, rfl, z1, hz13⟩
  intro c F1 L1 hx h; exact h.elim
 rintro e1 F44 _ ⟨a2, n6, c3, Lb4, hF45, rfl, he43, hz5⟩
 refine shW_env _ he43 (wsr (uv (v_load isAgg35 rfl (Has.own 0 rfl) rfl) ?_))
 refine ua (shO_nil ?_)
 refine kW (kd kr) (shW_ret (qR1 results106 ?_))
 obtain rfl := inj1 r9
 exact ⟨_, _, _, _, rfl, rfl, hz5⟩
theorem slices_Collect_int_w (hc_seq : ∀ args w, (callFunc seq_f args).run Tryz.prog w = .ok (.enter seq_f args) w) (h_seq : IterOK Tryz.prog seq_f seq_1 seq_2 F (fun x : Int => #[.int .i64 x]) seq) {r : List Int} (hr : slices_Collect_int seq = some r) :
    SH.Spec Tryz.prog 77 #[.func (.func seq_f) seq_1 seq_2] F [] fun F' L' v => ∃ (ra : Option Addr) (rn : Nat) (rc : Nat) (rL : LH), v = .slice ra rn rc ∧ L' = rL ++ [] ∧ SlR 0 3 1 (iE .i64) F' ra rn rc r rL := by
 refine sp func77 ntmps77 fun K _ _ => ?_
 rw [slices_Collect_int] at hr
 refine wsr (ua (nsr (um ?_)))
 obtain ⟨l, h1, r2⟩ := b1_ok hr
 refine c0 call106 (slices_AppendSeq_int_int_w (SlR.nil 0 _ _ _ _) hc_seq h_seq h1) ?_; rintro _ F3 _ hF4 hn5 ⟨a7, n11, c8, Lb9, rfl, rfl, hz10⟩
 refine shO_L (lp (ln rfl)) ?_
 refine ua (shO_nil (shW_ret ?_))
 refine qR1 results77 ?_
 obtain rfl := inj1 r2
 exact ⟨_, _, _, _, rfl, rfl, hz10.any⟩
theorem cmp_isNaN_int_w {x : Int} {r : Bool} (hr : cmp_isNaN_int x = some r) :
    SpecV Tryz.prog 110 #[.int .i64 x] F (.bool r) := by
 refine sp func110 ntmps110 fun K _ _ => ?_
 rw [cmp_isNaN_int] at hr
 refine wsr (ua (nsr (um (um ?_))))
 refine uv (v_neq rfl rfl) ?_
 refine ua (shO_nil (shW_ret ?_))
 refine qR1 results110 ?_
 obtain rfl := inj1 hr
 exact rfl
theorem cmp_Less_int_w {x y : Int} {r : Bool} (hr : cmp_Less_int x y = some r) :
    SpecV Tryz.prog 126 #[.int .i64 x, .int .i64 y] F (.bool r) := by
 refine sp func126 ntmps126 fun K _ _ => ?_
 rw [cmp_Less_int] at hr
 refine wsr (ua (nsr (um ?_)))
 obtain ⟨ok, h1, r2⟩ := b1_ok hr
 refine cV call110 (cmp_isNaN_int_w h1) (um ?_)
 rcases bool_two ok with c3 | c3
 ·have r4 := bt r2 c3
  refine nB c3 (um (nB c3 ?_))
  obtain ⟨ok2, h5, r6⟩ := b1_ok r4
  refine cV call110 (cmp_isNaN_int_w h5) (nB c3 (uv (v_notB rfl) (uv (v_pick_t (evB rfl c3) rfl) (um ?_))))
  rcases bool_two (!ok2) with c7 | c7
  ·have r8 := bt r6 c7
   refine fB c7 (fB c7 (fB c7 ?_))
   refine uv (v_pick_t (evB rfl c7) rfl) ?_
   refine ua (shO_nil (shW_ret ?_))
   refine qR1 results126 ?_
   obtain rfl := inj1 r8
   exact rfl
  have r9 := bf r6 c7
  refine nB c7 (um (nB c7 (um (nB c7 ?_))))
  refine uv (v_lssK rfl rfl) (uv (v_pick_f (evB rfl c7) rfl) ?_)
  refine ua (shO_nil (shW_ret ?_))
  refine qR1 results126 ?_
  obtain rfl := inj1 r9
  exact rfl
 have r10 := bf r2 c3
 refine fB c3 (fB c3 (fB c3 ?_))
 refine uv (v_pick_f (evB rfl c3) rfl) ?_
 refine um (shO_on (b := false) 12 rfl rfl (um (shO_on (b := false) 12 rfl rfl (um (shO_on (b := false) 12 rfl rfl ?_)))))
 refine uv (v_lssK rfl rfl) (uv (v_pick_f rfl rfl) ?_)
 refine ua (shO_nil (shW_ret ?_))
 refine qR1 results126 ?_
 obtain rfl := inj1 r10
 exact rfl
set_option maxHeartbeats 1000000 in
theorem slices_insertionSortOrdered_int_w {s_ : List Int} (h_s_ : SlR s__nb 3 1 (iE .i64) F s__a s__n s__c s_ s__L) {r : List Int} (hr : slices_insertionSortOrdered_int s_ a b = some r) :
    SH.Spec Tryz.prog 120 #[.slice s__a s__n s__c, .int .i64 a, .int .i64 b] F (s__L ++ []) fun F' L' v => ∃ (rL : LH), v = .tuple #[] ∧ L' = rL ++ [] ∧ SlR s__nb 3 1 (iE .i64) F' s__a s__n s__c r rL := by
 refine sp func120 ntmps120 fun K _ _ => ?_
 rw [slices_insertionSortOrdered_int] at hr
 refine shW_L (L' := s__L ++ []) (by simp) ?_
 refine wsr (um ?_)
 obtain ⟨g1, r2⟩ := gd_ok hr
 refine uv (v_add rfl rfl g1) ?_
 refine ua (shO_nil ?_)
 refine shW_block ?_
 obtain ⟨g5, r6⟩ := gd_ok r2
 refine shW_lp (fun fu1 e1 F1 L1 => ∃ (i : Int), Ctr (a + 1) b i fu1 ∧ ∃ (data : List Int) (Lb3 : LH), slices_insertionSortOrdered_int_l1 a fu1 i data = some r ∧ F = F1 ∧ L1 = (Lb3 ++ []) ∧ e1.sub [(0, .slice s__a s__n s__c), (1, .int .i64 a), (2, .int .i64 b), (6, .int .i64 i)] ∧ SlR s__nb 3 1 (iE .i64) F1 s__a s__n s__c data Lb3) _ (m0 kr ⟨_, Ctr.start _ _, s_, s__L, r6, rfl, rfl, z4, h_s_⟩) ?_
 rintro fu1 e1 _ _ ⟨i, hk7, data, Lb3, r9, rfl, rfl, he10, hz4⟩
 refine shW_env _ he10 ?_
 refine shW_seq (wsr (um (um ?_)))
 refine uv (v_lssK rfl rfl) (shO_nil ?_)
 refine cQ (fun c12 => ?_) fun c12 => ?_
 ·obtain ⟨fu1, rfl, hk13⟩ := Ctr.succ hk7 c12
  rw [slices_insertionSortOrdered_int_l1] at r9
  refine shW_skip ?_
  obtain ⟨data2, h16, r17⟩ := b1_ok r9
  refine shW_join (fun e1 F1 L1 => ∃ (Lb14 : LH), F = F1 ∧ L1 = (Lb14 ++ []) ∧ e1.sub [(0, .slice s__a s__n s__c), (1, .int .i64 a), (2, .int .i64 b), (6, .int .i64 i)] ∧ SlR s__nb 3 1 (iE .i64) F1 s__a s__n s__c data2 Lb14) ?_ ?_
  ·clear r17
   refine shW_block ?_
   refine wsr (um (ua (shO_nil ?_)))
   refine shW_block ?_
   refine shW_lp (fun fu2 e1 F1 L1 => ∃ (data3 : List Int) (j : Int) (Lb18 : LH), slices_insertionSortOrdered_int_l2 a fu2 data3 j = some data2 ∧ F = F1 ∧ L1 = (Lb18 ++ []) ∧ e1.sub [(0, .slice s__a s__n s__c), (1, .int .i64 a), (2, .int .i64 b), (6, .int .i64 i), (7, .int .i64 j)] ∧ SlR s__nb 3 1 (iE .i64) F1 s__a s__n s__c data3 Lb18) FU (m0 kr ⟨data, i, Lb3, h16, rfl, rfl, z5, hz4⟩) ?_
   rintro fu2 e1 _ _ ⟨data3, j, Lb18, r22, rfl, rfl, he23, hz19⟩
   refine shW_env _ he23 ?_
   rcases fu2 with _ | fu2
   ·rw [slices_insertionSortOrdered_int_l2] at r22; cases r22
   rw [slices_insertionSortOrdered_int_l2] at r22
   refine shW_seq ?_
   obtain ⟨k, h24, r25⟩ := b1_ok r22
   refine jE ((Lb18 ++ [])) [(0, .slice s__a s__n s__c), (1, .int .i64 a), (2, .int .i64 b), (6, .int .i64 i), (7, .int .i64 j), (30, .bool k)] ?_ ?_
   ·clear r25
    refine shW_draw (by kernel_rfl) (by kernel_rfl) (by kernel_rfl) ?_
    refine wm (wm ?_)
    refine wv (v_gtrK rfl rfl) (wm ?_)
    by_cases c26 : a < j
    ·have r27 := ite_t h24 c26
     refine shQ_on (b := true) 19 rfl (Env.isT rfl c26) (wm (shQ_on (b := true) 19 rfl (Env.isT rfl c26) (wm (shQ_on (b := true) 19 rfl (Env.isT rfl c26) ?_))))
     obtain ⟨x, g28, hx29, r30⟩ := ix_ok r27
     obtain ⟨b31, o32, c33, vs34, ha35, hs36, hle37, rfl, hl38, hc39⟩ := SlR.at (iE_ok _) hz19 (L := Lb18 ++ []) fP g28.1 hx29
     refine wv (v_indexO underlying35 sizeOf3 rfl ha35 rfl (SlR.idx hz19 g28)) (shQ_on (b := true) 19 rfl (Env.isT rfl c26) (wv (v_load isAgg3 rfl hs36 (hc39 0 (by decide))) ?_))
     refine shQ_on (b := true) 19 rfl (Env.isT rfl c26) (wm (shQ_on (b := true) 19 rfl (Env.isT rfl c26) (wm (shQ_on (b := true) 19 rfl (Env.isT rfl c26) ?_))))
     obtain ⟨g40, r41⟩ := gd_ok r30
     refine wv (v_sub rfl rfl g40) (shQ_on (b := true) 19 rfl (Env.isT rfl c26) ?_)
     obtain ⟨x2, g42, hx43, r44⟩ := ix_ok r41
     obtain ⟨b45, o46, c47, vs48, ha49, hs50, hle51, rfl, hl52, hc53⟩ := SlR.at (iE_ok _) hz19 (L := Lb18 ++ []) fP g42.1 hx43
     refine wv (v_indexO underlying35 sizeOf3 rfl ha49 rfl (SlR.idx hz19 g42)) (shQ_on (b := true) 19 rfl (Env.isT rfl c26) (wv (v_load isAgg3 rfl hs50 (hc53 0 (by decide))) (shQ_on (b := true) 19 rfl (Env.isT rfl c26) ?_)))
     obtain ⟨ok, h54, r55⟩ := b1_ok r44
     refine shQ_callV rfl call126 rfl rfl rfl (cmp_Less_int_w h54) (wv (v_pick_t (evD_true rfl c26) rfl) (shQ_nil ?_))
     obtain rfl := inj1 r55
     exact mi kr ⟨rfl, rfl, z6⟩
    have r56 := ite_f h24 c26
    refine shQ_off (b' := false) 19 rfl (Env.isF rfl c26) rfl rfl (shQ_off (b' := false) 19 rfl (Env.isF rfl c26) rfl rfl (shQ_off (b' := false) 19 rfl (Env.isF rfl c26) rfl rfl (shQ_off (b' := false) 19 rfl (Env.isF rfl c26) rfl rfl (shQ_off (b' := false) 19 rfl (Env.isF rfl c26) rfl rfl (shQ_off (b' := false) 19 rfl (Env.isF rfl c26) rfl rfl (shQ_off (b' := false) 19 rfl (Env.isF rfl c26) rfl rfl (shQ_off (b' := false) 19 rfl (Env.isF rfl c26) rfl rfl (shQ_off (b' := false) 19 rfl (Env.isF rfl c26) rfl rfl (shQ_off (b' := false) 19 rfl (Env.isF rfl c26) rfl rfl ?_)))))))))
    refine wv (v_pick_f (evD_false rfl c26) rfl) (shQ_nil ?_)
    obtain rfl := inj1 r56
    exact mi kr ⟨rfl, rfl, z6⟩
   refine shW_cond rfl (fun c58 => ?_) (fun c58 => ?_)
   ·have r59 := bt r25 c58
    refine shW_skip (shW_seq ?_)
    refine shW_block (shW_drawM [(.still, 0), (.still, 1), (.still, 2), (.still, 3), (.still, 4), (.still, 5), (.still, 6), (.still, 7), (.still, 8), (.still, 9), (.still, 10), (.still, 11), (.still, 12), (.still, 13), (.still, 14), (.seq, 15), (.still, 16), (.seq, 17)] (by kernel_rfl) (by kernel_rfl) (trivial) (by rfl) (by kernel_rfl) (mS [0] rfl (v_move rfl) (mS [7] rfl (v_move rfl) (mS [0] rfl (v_move rfl) (mS [7] rfl (v_move rfl) ?_)))))
    obtain ⟨g60, r61⟩ := gd_ok r59
    refine mS (v := .int .i64 (j - 1)) [36] rfl (v_sub rfl rfl g60) (mS [0] rfl (v_move rfl) (mS [7] rfl (v_move rfl) ?_))
    obtain ⟨g62, r63⟩ := gd_ok r61
    refine mS (v := .int .i64 (j - 1)) [39] rfl (v_sub rfl rfl g62) ?_
    obtain ⟨x3, g64, hx65, r66⟩ := ix_ok r63
    obtain ⟨b67, o68, c69, vs70, ha71, hs72, hle73, rfl, hl74, hc75⟩ := SlR.at (iE_ok _) hz19 (L := Lb18 ++ []) fP g64.1 hx65
    refine mS [38, 40] rfl (v_indexO underlying35 sizeOf3 rfl ha71 rfl (SlR.idx hz19 g64)) (mL [41] (Lb18 ++ []) rfl (s0 sr) (fun H F' L' hF' hL' => v_load isAgg3 rfl (hs72.ext hF' hL') (hc75 0 (by decide))) (mS [0] rfl (v_move rfl) (mS [7] rfl (v_move rfl) ?_)))
    obtain ⟨x4, g76, hx77, r78⟩ := ix_ok r66
    obtain ⟨b79, o80, c81, vs82, ha83, hs84, hle85, rfl, hl86, hc87⟩ := SlR.at (iE_ok _) hz19 (L := Lb18 ++ []) fP g76.1 hx77
    refine mS [43, 44] rfl (v_indexO underlying35 sizeOf3 rfl ha83 rfl (SlR.idx hz19 g76)) (mL [45] (Lb18 ++ []) rfl (s0 sr) (fun H F' L' hF' hL' => v_load isAgg3 rfl (hs84.ext hF' hL') (hc87 0 (by decide))) ?_)
    obtain ⟨b88, o89, c90, vs91, ha92, hs93, hle94, rfl, hl95, hc96⟩ := SlR.at (iE_ok _) hz19 (L := Lb18 ++ []) fP g76.1 hx77
    refine mS [33, 34] rfl (v_indexO underlying35 sizeOf3 rfl ha92 rfl (SlR.idx hz19 g76)) ?_
    refine ⟨_, [(42, .int .i64 x3), (47, .pointer (some ⟨b88, o89 + (j : Int).toNat * 1, none⟩))], rfl, rfl, z2, by kernel_rfl, ?_⟩; intro H
    obtain ⟨l, h97, r98⟩ := bv_ok r78
    refine o_storeZ (u := x3) sizeOf3 (iE_ok _) rfl ha92 rfl rfl (fun _ => .h) hz19 h97 g76 ?_; intro Lb99 hz100
    refine shO_nil ⟨undef, rfl, FExt.refl _, [4, 3, 2], by kernel_rfl, .inl (.inr (fun d h => by cases h)), (fc sm (fc sm (fc sm nm))), ?_⟩
    obtain ⟨x5, g101, hx102, r103⟩ := ix_ok r98
    obtain ⟨b104, o105, c106, vs107, ha108, hs109, hle110, rfl, hl111, hc112⟩ := SlR.at (iE_ok _) hz100 (L := Lb99 ++ []) fP g101.1 hx102
    refine mS [35, 37] rfl (v_indexO underlying35 sizeOf3 rfl ha108 rfl (SlR.idx hz100 g101)) ?_
    refine ⟨_, [(46, .int .i64 x4), (48, .pointer (some ⟨b104, o105 + (j - 1 : Int).toNat * 1, none⟩))], rfl, rfl, z2, by kernel_rfl, ?_⟩; intro H
    obtain ⟨l2, h113, r114⟩ := bv_ok r103
    refine o_storeZ (u := x4) sizeOf3 (iE_ok _) rfl ha108 rfl rfl (fun _ => .h) hz100 h113 g101 ?_; intro Lb115 hz116
    refine shO_nil ⟨undef, rfl, FExt.refl _, [], by kernel_rfl, .inl (.inl rfl), nm, ?_⟩
    refine shM_nil ?_
    refine inBlock_n (id := 3) (shW_region (um ?_))
    obtain ⟨g117, r118⟩ := gd_ok r114
    refine uv (v_sub rfl rfl g117) ?_
    refine ua (shO_nil ?_)
    exact le kr ⟨l2, j - 1, Lb115, r118, rfl, rfl, z5, hz116⟩
   have r119 := bf r25 c58
   refine shW_exit (andThen_exit (andThen_exit ?_))
   refine inBlock_exit (inBlock_n (id := 1) ?_)
   obtain rfl := inj1 r119
   exact mi kr ⟨Lb18, rfl, rfl, z4, hz19⟩
  rintro e1 _ _ ⟨Lb14, rfl, rfl, he120, hz15⟩
  refine shW_env _ he120 ?_
  refine shW_region (um ?_)
  refine uv (v_add rfl rfl (Ctr.r64 hk7 c12 g5)) ?_
  refine ua (shO_nil ?_)
  exact le kr ⟨_, hk13, data2, Lb14, r17, rfl, rfl, z4, hz15⟩
 obtain rfl := Ctr.zero hk7 c12
 rw [slices_insertionSortOrdered_int_l1] at r9
 refine shW_exit (andThen_exit (andThen_exit ?_))
 refine inBlock_exit (q_end0 (.inr rfl) results120 ?_)
 obtain rfl := inj1 r9
 exact ⟨_, rfl, rfl, hz4⟩
set_option maxHeartbeats 1000000 in
theorem math_bits_Len64_w {x r : Int} (hr : math_bits_Len64 x = some r) :
    SpecV Tryz.prog 130 #[.int .u64 x] F (.int .i64 r) := by
 refine sp func130 ntmps130 fun K _ _ => ?_
 rw [math_bits_Len64] at hr
 refine wsr (ua (shO_nil ?_))
 obtain ⟨x2, n, h1, r2⟩ := b2_ok hr
 refine jE ([]) [(0, .int .u64 x2), (2, .int .i64 n)] ?_ ?_
 ·clear r2
  refine wsr (um ?_)
  refine uv (v_geqK rfl rfl) (shO_nil ?_)
  refine cQ (fun c3 => ?_) fun c3 => ?_
  ·have r4 := ite_t h1 c3
   refine wsr (um ?_)
   refine uv (v_shr rfl rfl (by decide)) ?_
   refine ua (shO_nil (shW_region (ua (shO_nil ?_))))
   obtain ⟨rfl, rfl⟩ := inj2 r4
   exact mi kr ⟨rfl, rfl, z2⟩
  have r5 := ite_f h1 c3
  refine shW_skip ?_
  obtain ⟨rfl, rfl⟩ := inj2 r5
  exact mi kr ⟨rfl, rfl, z2⟩
 obtain ⟨x3, n2, h7, r8⟩ := b2_ok r2
 refine jE ([]) [(0, .int .u64 x3), (2, .int .i64 n2)] ?_ ?_
 ·clear r8
  refine wsr (um ?_)
  refine uv (v_geqK rfl rfl) (shO_nil ?_)
  refine cQ (fun c9 => ?_) fun c9 => ?_
  ·have r10 := ite_t h7 c9
   refine wsr (um ?_)
   refine uv (v_shr rfl rfl (by decide)) ?_
   refine ua (shO_nil (shW_region (um ?_)))
   obtain ⟨g11, r12⟩ := gd_ok r10
   refine uv (v_add rfl rfl g11) ?_
   refine ua (shO_nil ?_)
   obtain ⟨rfl, rfl⟩ := inj2 r12
   exact mi kr ⟨rfl, rfl, z2⟩
  have r13 := ite_f h7 c9
  refine shW_skip ?_
  obtain ⟨rfl, rfl⟩ := inj2 r13
  exact mi kr ⟨rfl, rfl, z2⟩
 obtain ⟨x4, n3, h15, r16⟩ := b2_ok r8
 refine jE ([]) [(0, .int .u64 x4), (2, .int .i64 n3)] ?_ ?_
 ·clear r16
  refine wsr (um ?_)
  refine uv (v_geqK rfl rfl) (shO_nil ?_)
  refine cQ (fun c17 => ?_) fun c17 => ?_
  ·have r18 := ite_t h15 c17
   refine wsr (um ?_)
   refine uv (v_shr rfl rfl (by decide)) ?_
   refine ua (shO_nil (shW_region (um ?_)))
   obtain ⟨g19, r20⟩ := gd_ok r18
   refine uv (v_add rfl rfl g19) ?_
   refine ua (shO_nil ?_)
   obtain ⟨rfl, rfl⟩ := inj2 r20
   exact mi kr ⟨rfl, rfl, z2⟩
  have r21 := ite_f h15 c17
  refine shW_skip ?_
  obtain ⟨rfl, rfl⟩ := inj2 r21
  exact mi kr ⟨rfl, rfl, z2⟩
 refine wsr (um (um ?_))
 refine uv (u_conv rfl underlying163 underlying5 rfl) ?_
 obtain ⟨x5, g23, hx24, r25⟩ := ix_ok r16
 refine uv (v_indexStr underlying9 (congrArg (fun s => some (Value.string s)) strc_strt_0) rfl g23.1 hx24 (strr_strt_0 _ (List.mem_of_getElem? hx24))) ?_
 obtain ⟨g26, r27⟩ := gd_ok r25
 refine uv (i_conv underlying5 underlying3 rfl g26) ?_
 obtain ⟨g28, r29⟩ := gd_ok r27
 refine uv (v_add rfl rfl g28) ?_
 refine ua (shO_nil (shW_ret ?_))
 refine qR1 results130 ?_
 obtain rfl := inj1 r29
 exact rfl
theorem math_bits_Len_w {x r : Int} (hr : math_bits_Len x = some r) :
    SpecV Tryz.prog 108 #[.int .u64 x] F (.int .i64 r) := by
 refine sp func108 ntmps108 fun K _ _ => ?_
 rw [math_bits_Len] at hr
 refine wsr (ua (shO_nil (shW_seq ?_)))
 refine shW_cond rfl (fun c1 => nomatch c1) (fun c1 => ?_)
 refine shW_skip (wsr (um ?_))
 obtain ⟨n, h2, r3⟩ := b1_ok hr
 refine cV call130 (math_bits_Len64_w h2) ?_
 refine ua (shO_nil (shW_ret ?_))
 refine qR1 results108 ?_
 obtain rfl := inj1 r3
 exact rfl
theorem slices_pdqsortOrdered_intB_w {rec_ : (List Int) → Int → Int → Int → Option ((List Int))} (_hrec : ∀ {s__a : Option Addr} {s__n s__c : Nat} {s__L : LH} {s_ : List Int} {s__nb : Nat} {a b limit : Int} {F : FS} (_ : SlR s__nb 3 1 (iE .i64) F s__a s__n s__c s_ s__L) {r : List Int} , rec_ s_ a b limit = some r → SH.Spec Tryz.prog 107 #[.slice s__a s__n s__c, .int .i64 a, .int .i64 b, .int .i64 limit] F (s__L ++ []) fun F' L' v => ∃ (rL : LH), v = .tuple #[] ∧ L' = rL ++ [] ∧ SlR s__nb 3 1 (iE .i64) F' s__a s__n s__c r rL) {s_ : List Int} {limit : Int} (h_s_ : SlR s__nb 3 1 (iE .i64) F s__a s__n s__c s_ s__L) {r : List Int} (hr : slices_pdqsortOrdered_intB rec_ s_ a b limit = some r) :
    SH.Spec Tryz.prog 107 #[.slice s__a s__n s__c, .int .i64 a, .int .i64 b, .int .i64 limit] F (s__L ++ []) fun F' L' v => ∃ (rL : LH), v = .tuple #[] ∧ L' = rL ++ [] ∧ SlR s__nb 3 1 (iE .i64) F' s__a s__n s__c r rL := by
 refine sp func107 ntmps107 fun K _ _ => ?_
 rw [slices_pdqsortOrdered_intB] at hr
 refine shW_L (L' := s__L ++ []) (by simp) ?_
 refine wsr (ua (nsr (ua (shO_nil ?_))))
 refine shW_block ?_
 refine shW_lp (fun fu1 e1 F1 L1 => slices_pdqsortOrdered_intB_l1 s_ a b fu1 = some r ∧ F = F1 ∧ L1 = (s__L ++ []) ∧ e1.sub [(0, .slice s__a s__n s__c), (1, .int .i64 a), (2, .int .i64 b), (3, .int .i64 limit), (8, .bool true), (9, .bool true)]) FU (m0 kr ⟨hr, rfl, rfl, z6⟩) ?_
 rintro fu1 e1 _ _ ⟨r3, rfl, rfl, he4⟩
 refine shW_env _ he4 ?_
 rcases fu1 with _ | fu1
 ·rw [slices_pdqsortOrdered_intB_l1] at r3; cases r3
 rw [slices_pdqsortOrdered_intB_l1] at r3
 refine shW_block ?_
 refine wsr (um (um ?_))
 obtain ⟨g5, r6⟩ := gd_ok r3
 refine uv (v_sub rfl rfl g5) ?_
 refine ua (shO_nil (shW_seq (wsr (um ?_))))
 refine uv (v_leqK rfl rfl) (shO_nil ?_)
 obtain ⟨g8, r9⟩ := gd_ok r6
 refine shW_condP rfl (fun c7 => ?_) (fun c7 => absurd g8 c7)
 refine wsr (um (um (um ?_)))
 obtain ⟨s_2, h10, r11⟩ := b1_ok r9
 refine o_callG (Lb := s__L ++ []) (Lr := []) rfl call120 rfl rfl rfl (pT pR (lp (ln rfl))) (slices_insertionSortOrdered_int_w h_s_ h10) ?_; rintro _ F12 _ hF13 hd15 hn14 ⟨Lb16, rfl, rfl, hz17⟩
 refine shO_L (lp (ln rfl)) ?_
 refine shO_nil (shW_ret (andThen_ret (inBlock_ret (andThen_ret (inBlock_ret ?_)))))
 refine q_end0 (.inl rfl) results107 ?_
 obtain rfl := inj1 r11
 exact ⟨_, rfl, rfl, hz17⟩
theorem slices_pdqsortOrdered_int_w : ∀ (fu : Nat) {s__a : Option Addr} {s__n s__c : Nat} {s__L : LH} {s_ : List Int} {s__nb : Nat} {a b limit : Int} {F : FS} (_ : SlR s__nb 3 1 (iE .i64) F s__a s__n s__c s_ s__L) {r : List Int} , slices_pdqsortOrdered_int fu s_ a b limit = some r → SH.Spec Tryz.prog 107 #[.slice s__a s__n s__c, .int .i64 a, .int .i64 b, .int .i64 limit] F (s__L ++ []) fun F' L' v => ∃ (rL : LH), v = .tuple #[] ∧ L' = rL ++ [] ∧ SlR s__nb 3 1 (iE .i64) F' s__a s__n s__c r rL := by
  intro fu
  induction fu with
  | zero => intros; rename_i hr; rw [slices_pdqsortOrdered_int] at hr; cases hr
  | succ fu ih => intros; rename_i hr; rw [slices_pdqsortOrdered_int] at hr; exact slices_pdqsortOrdered_intB_w ih (by assumption) hr
theorem slices_Sort_int_int_w {s_ : List Int} (h_s_ : SlR s__nb 3 1 (iE .i64) F s__a s__n s__c s_ s__L) {r : List Int} (hr : slices_Sort_int_int s_ = some r) :
    SH.Spec Tryz.prog 78 #[.slice s__a s__n s__c] F (s__L ++ []) fun F' L' v => ∃ (rL : LH), v = .tuple #[] ∧ L' = rL ++ [] ∧ SlR s__nb 3 1 (iE .i64) F' s__a s__n s__c r rL := by
 refine sp func78 ntmps78 fun K _ _ => ?_
 rw [slices_Sort_int_int] at hr
 refine shW_L (L' := s__L ++ []) (by simp) ?_
 refine wsr (um ?_)
 refine uv ((v_lenS underlying35 rfl).i (SlR.lenI h_s_)) ?_
 refine ua (shO_nil (shW_region (um (um (um ?_)))))
 refine uv (u_conv rfl underlying3 underlying95 rfl) ?_
 obtain ⟨n, h1, r2⟩ := b1_ok hr
 refine cV call108 (math_bits_Len_w h1) ?_
 obtain ⟨s_2, h3, r4⟩ := b1_ok r2
 refine o_callG (Lb := s__L ++ []) (Lr := []) rfl call107 rfl rfl rfl (pT pR (lp (ln rfl))) ((slices_pdqsortOrdered_int_w FU) h_s_ h3) ?_; rintro _ F5 _ hF6 hd8 hn7 ⟨Lb9, rfl, rfl, hz10⟩
 refine shO_L (lp (ln rfl)) (shO_nil (q_end0 (.inr rfl) results78 ?_))
 obtain rfl := inj1 r4
 exact ⟨_, rfl, rfl, hz10⟩
theorem slices_Sorted_int_w (hc_seq : ∀ args w, (callFunc seq_f args).run Tryz.prog w = .ok (.enter seq_f args) w) (h_seq : IterOK Tryz.prog seq_f seq_1 seq_2 F (fun x : Int => #[.int .i64 x]) seq) {r : List Int} (hr : slices_Sorted_int seq = some r) :
    SH.Spec Tryz.prog 41 #[.func (.func seq_f) seq_1 seq_2] F [] fun F' L' v => ∃ (ra : Option Addr) (rn : Nat) (rc : Nat) (rL : LH), v = .slice ra rn rc ∧ L' = rL ++ [] ∧ SlR 0 3 1 (iE .i64) F' ra rn rc r rL := by
 refine sp func41 ntmps41 fun K _ _ => ?_
 rw [slices_Sorted_int] at hr
 refine wsr (ua (nsr (um ?_)))
 obtain ⟨l, h1, r2⟩ := b1_ok hr
 refine c0 call77 (slices_Collect_int_w hc_seq h_seq h1) ?_; rintro _ F3 _ hF4 hn5 ⟨a7, n11, c8, Lb9, rfl, rfl, hz10⟩
 replace hz10 := hz10.new fun p hp => hn5 p (by simp [hp])
 refine shO_L (lp (ln rfl)) ?_
 refine ua (nsr (um ?_))
 obtain ⟨s_, h13, r14⟩ := b1_ok r2
 refine o_callG (Lb := Lb9 ++ []) (Lr := []) rfl call78 rfl rfl rfl (pT pR (lp (ln rfl))) (slices_Sort_int_int_w hz10 h13) ?_; rintro _ F15 _ hF16 hd18 hn17 ⟨Lb19, rfl, rfl, hz20⟩
 refine shO_L (lp (ln rfl)) ?_
 refine nsr (um (ua (shO_nil (shW_ret ?_))))
 refine qR1 results41 ?_
 obtain rfl := inj1 r14
 exact ⟨_, _, _, _, rfl, rfl, hz20.any⟩
set_option maxHeartbeats 1000000 in
theorem slices_Values_int_int_1_w {b_s_ : Nat} {s_ : List Int} {mb_s_ : Nat × Nat} (hb_s_ : F b_s_ = some (.cells #[.slice s__a s_.length s__c] 35 mb_s_)) (h_s_ : RowR 1 (iE .i64) F s__a s__c s_) {xs : List Int} (hr : slices_Values_int_int_1 s_ = some xs) :
    IterOK Tryz.prog 79 #[] #[.pointer (some ⟨b_s_, 0, none⟩)] F (fun x : Int => #[.int .i64 x]) xs := by
 intro G0 hG0 yv J Jx hJm hJxm hy Fc L0 hG hJ0
 replace hb_s_ := (hG0.trans hG) _ _ hb_s_
 replace h_s_ := h_s_.mono (iE_ok _) (hG0.trans hG)
 have hfull0 : xs = [] ++ xs := rfl
 show SH.Spec Tryz.prog 79 #[yv, .pointer (some ⟨b_s_, 0, none⟩)] Fc L0 _
 refine sp func79 ntmps79 fun K _ _ => ?_
 rw [slices_Values_int_int_1] at hr; refine shW_L (L' := L0 ++ []) (by simp) ?_
 refine wsr (uv (v_load isAgg35 rfl (Has.frozen hb_s_) rfl) (uv (v_lenS underlying35 rfl) ?_))
 refine um (shO_nil ?_)
 refine shW_block ?_
 refine shW_lp (fun fu1 e1 F1 L1 => LA s_ fu1 fun tl k => ∃ (pre1 : List Int) (rem2 : List Int) (Lj3 : LH), slices_Values_int_int_1_l1 tl = some rem2 ∧ FExt Fc F1 ∧ L1 = (Lj3 ++ []) ∧ e1.sub [(0, yv), (5, .slice s__a s_.length s__c), (6, .int .i64 (s_.length : Int)), (7, .int .i64 k)] ∧ xs = pre1 ++ rem2 ∧ J pre1 F1 Lj3 ∧ FExt G0 F1) _ (m0 kr ⟨_, _, rfl, Lst.start _, [], xs, L0, hr, FExt.refl _, rfl, z4, hfull0, hJ0, hG⟩) ?_
 rintro fu1 e1 F10 _ ⟨tl, k, hn7, hk6, pre1, rem2, Lj3, r8, hF11, rfl, he9, hfull5, hJ4, hG⟩
 refine shW_env _ he9 ?_
 replace h_s_ := h_s_.mono (iE_ok _) hF11
 refine wsr (uv (v_lssK rfl rfl) ?_)
 refine shO_nil (shW_seq ?_)
 refine cQ (fun c13 => ?_) fun c13 => ?_
 ·obtain ⟨x, tl2, rfl, hx15, g16, hk14⟩ := Lst.succ hk6 c13
  rw [slices_Values_int_int_1_l1] at r8
  refine shW_skip (shW_seq ?_)
  refine shW_block (wsr ?_)
  obtain ⟨b17, o18, c19, vs20, ha21, hs22, hle23, rfl, hl24, hc25⟩ := RowR.at (iE_ok _) h_s_ (Lj3 ++ []) g16.1 hx15
  refine uv (v_indexO underlying35 sizeOf3 rfl ha21 rfl g16) (uv (v_load isAgg3 rfl hs22 (hc25 0 (by decide))) ?_)
  refine ua (nsr (um (um ?_)))
  obtain ⟨tl26, r28, hx27⟩ := yl_ok r8
  refine o_callC (Lb := Lj3) (Lr := []) (vs := [.int .i64 x]) rfl rfl rfl fP (hy pre1 x tl26 (by rw [hfull5, hx27]) _ _ hG hJ4) ?_
  rintro v36 F29 Lj30 hF31 hz32; obtain ⟨yb33, rfl, hbt34, hbf35⟩ := yield_bool hz32
  replace h_s_ := h_s_.mono (iE_ok _) hF31
  replace hG := hG.trans hF31
  refine uv (v_notB rfl) (shO_nil ?_)
  refine shW_cond rfl (fun c37 => ?_) (fun c37 => ?_)
  ·have hJ38 := hbf35 (by simpa using c37)
   refine shW_ret (inBlock_ret (andThen_ret (andThen_ret (inBlock_ret ?_))))
   refine q_end0s (.inl rfl) results79 (sr) ?_
   exact .inr (by rw [List.append_nil]; exact hJ38)
  have hJ39 := hbt34 (by simpa using c37)
  have hfull40 : xs = (pre1 ++ [x]) ++ tl26 := by rw [hfull5, hx27]; simp
  refine shW_skip (inBlock_n (id := 1) (shW_region ?_))
  refine uv (v_add rfl rfl (Lst.r64 hk6 c13 (RowR.lt h_s_))) ?_
  refine um (shO_nil ?_)
  subst hn7; exact le kr ⟨_, _, rfl, hk14, pre1 ++ [x], tl26, Lj30, r28, (hF11.trans hF31), rfl, z4, hfull40, hJ39, hG⟩
 obtain rfl := Lst.zero hk6 c13
 rw [slices_Values_int_int_1_l1] at r8
 refine shW_exit (andThen_exit (andThen_exit ?_))
 refine inBlock_exit (q_end0s (.inr rfl) results79 (sr) ?_)
 obtain rfl := inj1 r8
 exact .inl (by have e1 := hfull5; rw [List.append_nil] at e1; rw [List.append_nil, e1]; exact hJ4)
theorem slices_Values_int_int_w {s_ : List Int} (h_s_ : RowR 1 (iE .i64) F s__a s__c s_) {r : List Int} (hr : slices_Values_int_int s_ = some r) :
    SH.Spec Tryz.prog 42 #[.slice s__a s_.length s__c] F [] fun F' L' v => ∃ (rcp : Array Value), v = .func (.func 79) #[] rcp ∧ L' = [] ∧ IterOK Tryz.prog 79 #[] rcp F' (fun x : Int => #[.int .i64 x]) r := by
 refine sp func42 ntmps42 fun K _ _ => ?_
 rw [slices_Values_int_int] at hr
 refine wsr ?_
 refine o_box rfl rfl ?_; intro b1 hb1
 refine ua (nsr ?_)
 refine uv (v_makeFunc rfl rfl) ?_
 refine ua (shO_nil ?_)
 refine shW_freeze 0 rfl hb1 ?_; intro F2 hF3 hz4
 refine shW_L (L' := []) rfl ?_
 replace h_s_ := h_s_.mono (iE_ok _) hF3
 obtain ⟨l, h5, r7⟩ := b1_ok hr
 have hit6 : IterOK Tryz.prog 79 #[] #[.pointer (some ⟨b1, 0, none⟩)] F2 (fun x : Int => #[.int .i64 x]) l := slices_Values_int_int_1_w hz4 h_s_ h5
 refine shW_ret (qR1 results42 ?_)
 obtain rfl := inj1 r7
 exact ⟨_, rfl, rfl, hit6⟩
set_option maxHeartbeats 1000000 in
theorem round_opened_w {hears : List (List Int)} {notices : List ((List Int) × Int × Int)} (h_walks : RowR 1 (slE 1 (iE .i64)) F walks_a walks_c walks) (h_hears : RowR 1 (slE 1 (iE .i64)) F hears_a hears_c hears) (h_notices : RowR 3 (prE (slE 1 (iE .i64)) (prE (iE .i64) (iE .i64))) F notices_a notices_c notices) {r : Option ((List (List Int)) × (List (List Int)) × Int × Int × (List ((List Int) × Int × Int)) × (List Int) × (List (Int × Int)) × (List Int))} {r2 : Int} (hr : round_opened walks hears houses start notices = some (r, r2)) :
    SH.Spec Tryz.prog 18 #[.agg #[.slice walks_a walks.length walks_c, .slice hears_a hears.length hears_c, .int .i64 houses, .int .i64 start, .slice notices_a notices.length notices_c]] F [] fun F' L' v => ∃ (rv : Value), v = .tuple #[rv, .int .i64 r2] ∧ L' = [] ∧ PtrR 116 (prE (slE 1 (slE 1 (iE .i64))) (prE (slE 1 (slE 1 (iE .i64))) (prE (iE .i64) (prE (iE .i64) (prE (slE 3 (prE (slE 1 (iE .i64)) (prE (iE .i64) (iE .i64)))) (prE (arE 25 (cI .i64)) (prE (slE 2 (prE (iE .i64) (iE .i64))) (arE 15 (cI .i64))))))))) F' rv r := by
 refine sp func18 ntmps18 fun K _ _ => ?_
 rw [round_opened] at hr
 refine wsr ?_
 refine o_box rfl rfl ?_; intro b1 hb1
 refine ua (ua (shO_nil (shW_seq (wsr ?_))))
 refine uv (v_loadA isAgg26 sizeOf26 rfl (Has.own 0 rfl) (nbL rfl) rfl) ?_
 obtain ⟨n, h2, r3⟩ := b1_ok hr
 refine cV call39 (round_Check_w h_walks h_hears h_notices h2) ?_
 refine ua (nsr (um ?_))
 refine uv (v_neq rfl rfl) (shO_nil ?_)
 refine cQ (fun c4 => ?_) fun c4 => ?_
 ·have r5 := ite_t r3 c4
  refine wsr (um (ua (ua (shO_nil ?_))))
  refine kW kn ?_
  refine shW_ret (andThen_ret ?_)
  refine q_res2 results18 (res_tmp rfl) (res_tmp rfl) (sr) ?_
  obtain ⟨rfl, rfl⟩ := inj2 r5
  exact ⟨_, rfl, rfl, rfl⟩
 have r6 := ite_f r3 c4
 refine shW_skip (wsr ?_)
 refine uv (v_loadA isAgg26 sizeOf26 rfl (Has.own 0 rfl) (nbL rfl) rfl) ?_
 refine uv (v_build (v := .agg ((([.slice walks_a walks.length walks_c] : List Value) ++ (([.slice hears_a hears.length hears_c] : List Value) ++ (([.int .i64 houses] : List Value) ++ (([.int .i64 start] : List Value) ++ (([.slice notices_a notices.length notices_c] : List Value) ++ ((List.replicate 25 0).flatMap (cI .i64) ++ (([.slice none 0 0] : List Value) ++ ((List.replicate 15 0).flatMap (cI .i64))))))))).toArray)) rfl (by intro w; kernel_rfl)) ?_
 refine o_box rfl rfl ?_; intro b7 hb7
 refine ua (shO_nil ?_)
 obtain ⟨c_walks, h9, r10⟩ := b1_ok r6
 refine shW_join (fun e1 F1 L1 => F = F1 ∧ L1 = [(b7, ce ((([.slice walks_a walks.length walks_c] : List Value) ++ (([.slice hears_a hears.length hears_c] : List Value) ++ (([.int .i64 houses] : List Value) ++ (([.int .i64 start] : List Value) ++ (([.slice notices_a notices.length notices_c] : List Value) ++ (c_walks.flatMap (cI .i64) ++ (([.slice none 0 0] : List Value) ++ ((List.replicate 15 0).flatMap (cI .i64))))))))).toArray) 116), (b1, ce #[.slice walks_a walks.length walks_c, .slice hears_a hears.length hears_c, .int .i64 houses, .int .i64 start, .slice notices_a notices.length notices_c] 26)] ∧ e1.sub [(1, .pointer (some ⟨b1, 0, none⟩)), (5, .pointer (some ⟨b7, 0, none⟩))] ∧ c_walks.length = 25) ?_ ?_
 ·clear r10
  refine wsr (um (shO_nil ?_))
  refine shW_block ?_
  obtain ⟨g12, r13⟩ := gd_ok h9
  refine shW_lp (fun fu1 e1 F1 L1 => ∃ (k : Int), Ctr 0 5 k fu1 ∧ ∃ (c_walks2 : List Int), round_opened_l1 walks fu1 k c_walks2 = some c_walks ∧ F = F1 ∧ L1 = [(b7, ce ((([.slice walks_a walks.length walks_c] : List Value) ++ (([.slice hears_a hears.length hears_c] : List Value) ++ (([.int .i64 houses] : List Value) ++ (([.int .i64 start] : List Value) ++ (([.slice notices_a notices.length notices_c] : List Value) ++ (c_walks2.flatMap (cI .i64) ++ (([.slice none 0 0] : List Value) ++ ((List.replicate 15 0).flatMap (cI .i64))))))))).toArray) 116), (b1, ce #[.slice walks_a walks.length walks_c, .slice hears_a hears.length hears_c, .int .i64 houses, .int .i64 start, .slice notices_a notices.length notices_c] 26)] ∧ e1.sub [(1, .pointer (some ⟨b1, 0, none⟩)), (5, .pointer (some ⟨b7, 0, none⟩)), (23, .int .i64 k)] ∧ c_walks2.length = 25) _ (m0 kr ⟨_, Ctr.start _ _, List.replicate 25 0, r13, rfl, rfl, z3, List.length_replicate⟩) ?_
  rintro fu1 e1 _ _ ⟨k, hk14, c_walks2, r16, rfl, rfl, he17, h11⟩
  refine shW_env _ he17 (wsr (uv (v_lssK rfl rfl) ?_))
  refine shO_nil (shW_seq ?_)
  refine cQ (fun c19 => ?_) fun c19 => ?_
  ·obtain ⟨fu1, rfl, hk20⟩ := Ctr.succ hk14 c19
   rw [round_opened_l1] at r16
   refine shW_skip ?_
   obtain ⟨c_walks3, h22, r23⟩ := b1_ok r16
   refine shW_join (fun e1 F1 L1 => F = F1 ∧ L1 = [(b7, ce ((([.slice walks_a walks.length walks_c] : List Value) ++ (([.slice hears_a hears.length hears_c] : List Value) ++ (([.int .i64 houses] : List Value) ++ (([.int .i64 start] : List Value) ++ (([.slice notices_a notices.length notices_c] : List Value) ++ (c_walks3.flatMap (cI .i64) ++ (([.slice none 0 0] : List Value) ++ ((List.replicate 15 0).flatMap (cI .i64))))))))).toArray) 116), (b1, ce #[.slice walks_a walks.length walks_c, .slice hears_a hears.length hears_c, .int .i64 houses, .int .i64 start, .slice notices_a notices.length notices_c] 26)] ∧ e1.sub [(1, .pointer (some ⟨b1, 0, none⟩)), (5, .pointer (some ⟨b7, 0, none⟩)), (23, .int .i64 k)] ∧ c_walks3.length = 25) ?_ ?_
   ·clear r23
    refine shW_block ?_
    refine wsr (um (ua (nsr (um (shO_nil ?_)))))
    refine shW_block ?_
    obtain ⟨g25, r26⟩ := gd_ok h22
    refine shW_lp (fun fu2 e1 F1 L1 => ∃ (k2 : Int), Ctr 0 5 k2 fu2 ∧ ∃ (c_walks4 : List Int), round_opened_l2 walks k fu2 k2 c_walks4 = some c_walks3 ∧ F = F1 ∧ L1 = [(b7, ce ((([.slice walks_a walks.length walks_c] : List Value) ++ (([.slice hears_a hears.length hears_c] : List Value) ++ (([.int .i64 houses] : List Value) ++ (([.int .i64 start] : List Value) ++ (([.slice notices_a notices.length notices_c] : List Value) ++ (c_walks4.flatMap (cI .i64) ++ (([.slice none 0 0] : List Value) ++ ((List.replicate 15 0).flatMap (cI .i64))))))))).toArray) 116), (b1, ce #[.slice walks_a walks.length walks_c, .slice hears_a hears.length hears_c, .int .i64 houses, .int .i64 start, .slice notices_a notices.length notices_c] 26)] ∧ e1.sub [(1, .pointer (some ⟨b1, 0, none⟩)), (5, .pointer (some ⟨b7, 0, none⟩)), (6, .int .i64 k), (23, .int .i64 k), (26, .int .i64 k2)] ∧ c_walks4.length = 25) _ (m0 kr ⟨_, Ctr.start _ _, c_walks2, r26, rfl, rfl, z5, h11⟩) ?_
    rintro fu2 e1 _ _ ⟨k2, hk27, c_walks4, r29, rfl, rfl, he30, h24⟩
    refine shW_env _ he30 (wsr (uv (v_lssK rfl rfl) ?_))
    refine shO_nil (shW_seq ?_)
    refine cQ (fun c32 => ?_) fun c32 => ?_
    ·obtain ⟨fu2, rfl, hk33⟩ := Ctr.succ hk27 c32
     rw [round_opened_l2] at r29
     refine shW_skip (shW_seq ?_)
     refine shW_block ?_
     refine wsr (um (ua (nsr (um (um (um ?_))))))
     refine uv (v_nilCheck rfl) (uv (v_fieldAddr fa_116_1 rfl) ?_)
     obtain ⟨g34, r35⟩ := gd_ok r29
     refine uv (v_indexA underlying111 sizeOf109 rfl rfl g34) ?_
     obtain ⟨g36, r37⟩ := gd_ok r35
     obtain ⟨x, g38, hx39, r40⟩ := ix_ok r37
     have hq42 : (k * 5 + k2 : Int).toNat = (k : Int).toNat * 5 + (k2 : Int).toNat := by have := g34; have := g36; omega
     refine uv (v_indexA underlying109 sizeOf3 rfl rfl g36) ?_
     obtain ⟨ws, h43, r44⟩ := bv_ok r40
     have h45 : ws.length = 25 := by rw [h43, List.length_set]; exact h24
     refine o_storeSeg (i := 0) sizeOf3 rfl (by have := hq42; omega) rfl rfl rfl (st_skip (A := ([.slice walks_a walks.length walks_c] : List Value)) (k := 1) rfl (st_skip (A := ([.slice hears_a hears.length hears_c] : List Value)) (k := 1) rfl (st_skip (A := ([.int .i64 houses] : List Value)) (k := 1) rfl (st_skip (A := ([.int .i64 start] : List Value)) (k := 1) rfl (st_skip (A := ([.slice notices_a notices.length notices_c] : List Value)) (k := 1) rfl (st_here (B := ([.slice none 0 0] : List Value) ++ ((List.replicate 15 0).flatMap (cI .i64))) (st_arr (p := (k * 5 + k2 : Int).toNat) (cI_ok .i64) (u := -1) rfl h24 (by have := g38; have := h24; omega) F))))))) ?_
     refine shO_L (L' := [(b7, ce ((([.slice walks_a walks.length walks_c] : List Value) ++ (([.slice hears_a hears.length hears_c] : List Value) ++ (([.int .i64 houses] : List Value) ++ (([.int .i64 start] : List Value) ++ (([.slice notices_a notices.length notices_c] : List Value) ++ (ws.flatMap (cI .i64) ++ (([.slice none 0 0] : List Value) ++ ((List.replicate 15 0).flatMap (cI .i64))))))))).toArray) 116), (b1, ce #[.slice walks_a walks.length walks_c, .slice hears_a hears.length hears_c, .int .i64 houses, .int .i64 start, .slice notices_a notices.length notices_c] 26)]) (by rw [h43]; rfl) ?_
     refine shO_nil ?_
     obtain ⟨k3, h46, r47⟩ := b1_ok r44
     refine jE ([(b7, ce ((([.slice walks_a walks.length walks_c] : List Value) ++ (([.slice hears_a hears.length hears_c] : List Value) ++ (([.int .i64 houses] : List Value) ++ (([.int .i64 start] : List Value) ++ (([.slice notices_a notices.length notices_c] : List Value) ++ (ws.flatMap (cI .i64) ++ (([.slice none 0 0] : List Value) ++ ((List.replicate 15 0).flatMap (cI .i64))))))))).toArray) 116), (b1, ce #[.slice walks_a walks.length walks_c, .slice hears_a hears.length hears_c, .int .i64 houses, .int .i64 start, .slice notices_a notices.length notices_c] 26)]) [(1, .pointer (some ⟨b1, 0, none⟩)), (5, .pointer (some ⟨b7, 0, none⟩)), (6, .int .i64 k), (7, .int .i64 k2), (23, .int .i64 k), (26, .int .i64 k2), (47, .bool k3)] ?_ ?_
     ·clear r47
      refine shW_region (um ?_)
      refine uv (v_fieldAddr fa_26_0 rfl) (uv (v_load isAgg23 rfl (Has.own 1 rfl) rfl) (uv (v_lenS underlying23 rfl) (uv (v_lssK rfl rfl) (um ?_))))
      by_cases c48 : k < (walks.length : Int)
      ·have r49 := ite_t h46 c48
       refine nT c48 (um (nT c48 ?_))
       refine uv (v_fieldAddr fa_26_0 rfl) (nT c48 (uv (v_load isAgg23 rfl (Has.own 1 rfl) rfl) (nT c48 (uv (v_lenS underlying23 rfl) (nT c48 (uv (v_lssK rfl rfl) (uv (v_pick_t (evD_true rfl c48) rfl) ?_)))))))
       refine shO_nil ?_
       obtain rfl := inj1 r49
       exact mi kr ⟨rfl, rfl, z7⟩
      have r50 := ite_f h46 c48
      refine fF c48 (fF c48 (fF c48 (fF c48 (fF c48 ?_))))
      refine uv (v_pick_f (evD_false rfl c48) rfl) (shO_nil ?_)
      obtain rfl := inj1 r50
      exact mi kr ⟨rfl, rfl, z7⟩
     refine shW_cond rfl (fun c52 => ?_) (fun c52 => ?_)
     ·have r53 := bt r47 c52
      refine shW_drawM [(.still, 0), (.still, 1), (.still, 2), (.still, 3), (.still, 4), (.still, 5), (.still, 6), (.still, 7), (.still, 8), (.still, 9), (.still, 10), (.still, 11), (.still, 12), (.still, 13), (.still, 14), (.seq, 15)] (by kernel_rfl) (by kernel_rfl) (trivial) (by rfl) (by kernel_rfl) (mS [5] rfl (v_move rfl) (mS [6] rfl (v_move rfl) (mS [7] rfl (v_move rfl) (mS [1] rfl (v_fieldAddr fa_26_0 rfl) (mL [51] ([(b1, ce #[.slice walks_a walks.length walks_c, .slice hears_a hears.length hears_c, .int .i64 houses, .int .i64 start, .slice notices_a notices.length notices_c] 26)]) rfl (s0 (s1 (s2 sr))) (fun H F' L' hF' hL' => v_load isAgg23 rfl ((Has.own 0 rfl).ext hF' hL') rfl) (mS [6] rfl (v_move rfl) ?_))))))
      obtain ⟨x2, g54, hx55, r56⟩ := ix_ok r53
      obtain ⟨b57, o58, c59, vs60, ha61, hs62, hle63, ⟨a66, c67, rfl, h68⟩, hl64, hc65⟩ := RowR.at (slE_ok (iE_ok _)) h_walks ([]) g54.1 hx55
      refine mS [52, 53] rfl (v_indexO underlying23 sizeOf35 rfl ha61 rfl g54) (mL [54] ([]) rfl sm (fun H F' L' hF' hL' => v_load isAgg35 rfl (hs62.ext hF' hL') (hc65 0 (by decide))) (mS [7] rfl (v_move rfl) ?_))
      obtain ⟨x3, g69, hx70, r71⟩ := ix_ok r56
      obtain ⟨b72, o73, c74, vs75, ha76, hs77, hle78, rfl, hl79, hc80⟩ := RowR.at (iE_ok _) h68 ([]) g69.1 hx70
      refine mS [55, 56] rfl (v_indexO underlying35 sizeOf3 rfl ha76 rfl g69) (mL [57] ([]) rfl sm (fun H F' L' hF' hL' => v_load isAgg3 rfl (hs77.ext hF' hL') (hc80 0 (by decide))) (mS [48] rfl (v_nilCheck rfl) (mS [59] rfl (v_fieldAddr fa_116_1 rfl) ?_)))
      obtain ⟨g81, r82⟩ := gd_ok r71
      refine mS [49, 60] rfl (v_indexA underlying111 sizeOf109 rfl rfl g81) ?_
      obtain ⟨g83, r84⟩ := gd_ok r82
      obtain ⟨x4, g85, hx86, r87⟩ := ix_ok r84
      have hq89 : (k * 5 + k2 : Int).toNat = (k : Int).toNat * 5 + (k2 : Int).toNat := by have := g81; have := g83; omega
      refine mS [50, 61] rfl (v_indexA underlying109 sizeOf3 rfl rfl g83) ?_
      refine ⟨_, [(58, .int .i64 x3), (62, .pointer (some ⟨b7, 5 + (k : Int).toNat * 5 + (k2 : Int).toNat * 1, none⟩))], rfl, rfl, z2, by kernel_rfl, ?_⟩; intro H
      obtain ⟨ws2, h90, r91⟩ := bv_ok r87
      have h92 : ws2.length = 25 := by rw [h90, List.length_set]; exact h45
      refine o_storeSeg (i := 0) sizeOf3 rfl (by have := hq89; omega) rfl rfl rfl (st_skip (A := ([.slice walks_a walks.length walks_c] : List Value)) (k := 1) rfl (st_skip (A := ([.slice hears_a hears.length hears_c] : List Value)) (k := 1) rfl (st_skip (A := ([.int .i64 houses] : List Value)) (k := 1) rfl (st_skip (A := ([.int .i64 start] : List Value)) (k := 1) rfl (st_skip (A := ([.slice notices_a notices.length notices_c] : List Value)) (k := 1) rfl (st_here (B := ([.slice none 0 0] : List Value) ++ ((List.replicate 15 0).flatMap (cI .i64))) (st_arr (p := (k * 5 + k2 : Int).toNat) (cI_ok .i64) (u := x3) rfl h45 (by have := g85; have := h45; omega) F))))))) ?_
      refine shO_L (L' := [(b7, ce ((([.slice walks_a walks.length walks_c] : List Value) ++ (([.slice hears_a hears.length hears_c] : List Value) ++ (([.int .i64 houses] : List Value) ++ (([.int .i64 start] : List Value) ++ (([.slice notices_a notices.length notices_c] : List Value) ++ (ws2.flatMap (cI .i64) ++ (([.slice none 0 0] : List Value) ++ ((List.replicate 15 0).flatMap (cI .i64))))))))).toArray) 116), (b1, ce #[.slice walks_a walks.length walks_c, .slice hears_a hears.length hears_c, .int .i64 houses, .int .i64 start, .slice notices_a notices.length notices_c] 26)]) (by rw [h90]; rfl) ?_
      refine shO_nil ⟨undef, rfl, FExt.refl _, [], by kernel_rfl, .inl (.inl rfl), nm, ?_⟩
      refine shM_nil ?_
      refine inBlock_n (id := 3) (shW_region ?_)
      refine uv (v_add rfl rfl (Ctr.r64 hk27 c32 g25)) ?_
      refine um (shO_nil ?_)
      exact le kr ⟨_, hk33, ws2, r91, rfl, rfl, z5, h92⟩
     have r93 := bf r47 c52
     refine shW_skip (inBlock_n (id := 3) (shW_region ?_))
     refine uv (v_add rfl rfl (Ctr.r64 hk27 c32 g25)) ?_
     refine um (shO_nil ?_)
     exact le kr ⟨_, hk33, ws, r93, rfl, rfl, z5, h45⟩
    obtain rfl := Ctr.zero hk27 c32
    rw [round_opened_l2] at r29
    refine shW_exit (andThen_exit (andThen_exit ?_))
    refine inBlock_exit (inBlock_n (id := 1) ?_)
    obtain rfl := inj1 r29
    exact mi kr ⟨rfl, rfl, z3, h24⟩
   rintro e1 _ _ ⟨rfl, rfl, he94, h21⟩
   refine shW_env _ he94 (shW_region (uv (v_add rfl rfl (Ctr.r64 hk14 c19 g12)) ?_))
   refine um (shO_nil ?_)
   exact le kr ⟨_, hk20, c_walks3, r23, rfl, rfl, z3, h21⟩
  obtain rfl := Ctr.zero hk14 c19
  rw [round_opened_l1] at r16
  refine shW_exit (andThen_exit (andThen_exit ?_))
  refine inBlock_exit ?_
  obtain rfl := inj1 r16
  exact mi kr ⟨rfl, rfl, z2, h11⟩
 rintro e1 _ _ ⟨rfl, rfl, he95, h8⟩
 refine shW_env _ he95 ?_
 obtain ⟨c_walks5, h97, r98⟩ := b1_ok r10
 refine shW_join (fun e1 F1 L1 => FExt F F1 ∧ L1 = [(b7, ce ((([.slice walks_a walks.length walks_c] : List Value) ++ (([.slice hears_a hears.length hears_c] : List Value) ++ (([.int .i64 houses] : List Value) ++ (([.int .i64 start] : List Value) ++ (([.slice notices_a notices.length notices_c] : List Value) ++ (c_walks5.flatMap (cI .i64) ++ (([.slice none 0 0] : List Value) ++ ((List.replicate 15 0).flatMap (cI .i64))))))))).toArray) 116), (b1, ce #[.slice walks_a walks.length walks_c, .slice hears_a hears.length hears_c, .int .i64 houses, .int .i64 start, .slice notices_a notices.length notices_c] 26)] ∧ e1.sub [(1, .pointer (some ⟨b1, 0, none⟩)), (5, .pointer (some ⟨b7, 0, none⟩))] ∧ c_walks5.length = 25) ?_ ?_
 ·clear r98
  refine wsr (um ?_)
  refine uv (v_nilCheck rfl) (uv (v_fieldAddr fa_116_1 rfl) (uv (v_loadA isAgg111 sizeOf111 rfl (Has.own 0 rfl) (li_le (li_skip (A := ([.slice walks_a walks.length walks_c] : List Value)) (k := 1) (o := 4) rfl (li_skip (A := ([.slice hears_a hears.length hears_c] : List Value)) (k := 1) (o := 3) rfl (li_skip (A := ([.int .i64 houses] : List Value)) (k := 1) (o := 2) rfl (li_skip (A := ([.int .i64 start] : List Value)) (k := 1) (o := 1) rfl (li_skip (A := ([.slice notices_a notices.length notices_c] : List Value)) (k := 1) (o := 0) rfl (li_here (lfl (cI_ok .i64) h8)))))))) (li_ext (lfl (cI_ok .i64) h8) (li_skip (A := ([.slice walks_a walks.length walks_c] : List Value)) (k := 1) (o := 4) rfl (li_skip (A := ([.slice hears_a hears.length hears_c] : List Value)) (k := 1) (o := 3) rfl (li_skip (A := ([.int .i64 houses] : List Value)) (k := 1) (o := 2) rfl (li_skip (A := ([.int .i64 start] : List Value)) (k := 1) (o := 1) rfl (li_skip (A := ([.slice notices_a notices.length notices_c] : List Value)) (k := 1) (o := 0) rfl (li_here (lfl (cI_ok .i64) h8))))))))) ?_))
  obtain ⟨a, h99, r100⟩ := b1_ok h97
  refine c0 call40 (round_walks_through_w h8 h99) ?_; rintro _ F101 _ hF102 hn103 ⟨rfl, rfl, h105⟩
  refine shO_L (ln rfl) ?_
  refine o_alloc rfl zeroValue111 ?_; intro b106 hb106
  refine shO_L (L' := [(b106, ce (arr (cI .i64) (List.replicate 25 0)) 111), (b7, ce ((([.slice walks_a walks.length walks_c] : List Value) ++ (([.slice hears_a hears.length hears_c] : List Value) ++ (([.int .i64 houses] : List Value) ++ (([.int .i64 start] : List Value) ++ (([.slice notices_a notices.length notices_c] : List Value) ++ (c_walks.flatMap (cI .i64) ++ (([.slice none 0 0] : List Value) ++ ((List.replicate 15 0).flatMap (cI .i64))))))))).toArray) 116), (b1, ce #[.slice walks_a walks.length walks_c, .slice hears_a hears.length hears_c, .int .i64 houses, .int .i64 start, .slice notices_a notices.length notices_c] 26)]) rfl (o_storeW (i := 0) sizeOf111 rfl rfl rfl (arr_sz (cI_ok .i64) List.length_replicate) (arr_sz (cI_ok .i64) h105) (arr_one (cI_ok .i64)) (shO_L (L' := [(b106, ce (arr (cI .i64) a) 111), (b7, ce ((([.slice walks_a walks.length walks_c] : List Value) ++ (([.slice hears_a hears.length hears_c] : List Value) ++ (([.int .i64 houses] : List Value) ++ (([.int .i64 start] : List Value) ++ (([.slice notices_a notices.length notices_c] : List Value) ++ (c_walks.flatMap (cI .i64) ++ (([.slice none 0 0] : List Value) ++ ((List.replicate 15 0).flatMap (cI .i64))))))))).toArray) 116), (b1, ce #[.slice walks_a walks.length walks_c, .slice hears_a hears.length hears_c, .int .i64 houses, .int .i64 start, .slice notices_a notices.length notices_c] 26)]) rfl (shO_nil (shW_block ?_))))
  refine shW_lp (fun fu3 e1 F1 L1 => ∃ (c_walks6 : List Int) (next_ : List Int) (b108 : Nat), round_opened_l3 fu3 c_walks6 next_ = some c_walks5 ∧ FExt F101 F1 ∧ L1 = [(b108, ce (arr (cI .i64) next_) 111), (b7, ce ((([.slice walks_a walks.length walks_c] : List Value) ++ (([.slice hears_a hears.length hears_c] : List Value) ++ (([.int .i64 houses] : List Value) ++ (([.int .i64 start] : List Value) ++ (([.slice notices_a notices.length notices_c] : List Value) ++ (c_walks6.flatMap (cI .i64) ++ (([.slice none 0 0] : List Value) ++ ((List.replicate 15 0).flatMap (cI .i64))))))))).toArray) 116), (b1, ce #[.slice walks_a walks.length walks_c, .slice hears_a hears.length hears_c, .int .i64 houses, .int .i64 start, .slice notices_a notices.length notices_c] 26)] ∧ e1.sub [(1, .pointer (some ⟨b1, 0, none⟩)), (5, .pointer (some ⟨b7, 0, none⟩)), (8, .pointer (some ⟨b108, 0, none⟩))] ∧ c_walks6.length = 25 ∧ K.w0.heap.size ≤ b108 ∧ next_.length = 25) FU (m0 kr ⟨c_walks, a, b106, r100, FExt.refl _, rfl, z3, h8, hb106, h105⟩) ?_
  rintro fu3 e1 F115 _ ⟨c_walks6, next_, b108, r113, hF116, rfl, he114, h107, hb109, h110⟩
  refine shW_env _ he114 ?_
  rcases fu3 with _ | fu3
  ·rw [round_opened_l3] at r113; cases r113
  rw [round_opened_l3] at r113
  refine shW_seq (dW (wv (v_loadW isAgg111 sizeOf111 rfl (Has.own 0 rfl) (arr_sz (cI_ok .i64) h110)) (wm (wv (v_nilCheck rfl) (wv (v_fieldAddr fa_116_1 rfl) (wv (v_loadA isAgg111 sizeOf111 rfl (Has.own 1 rfl) (li_le (li_skip (A := ([.slice walks_a walks.length walks_c] : List Value)) (k := 1) (o := 4) rfl (li_skip (A := ([.slice hears_a hears.length hears_c] : List Value)) (k := 1) (o := 3) rfl (li_skip (A := ([.int .i64 houses] : List Value)) (k := 1) (o := 2) rfl (li_skip (A := ([.int .i64 start] : List Value)) (k := 1) (o := 1) rfl (li_skip (A := ([.slice notices_a notices.length notices_c] : List Value)) (k := 1) (o := 0) rfl (li_here (lfl (cI_ok .i64) h107)))))))) (li_ext (lfl (cI_ok .i64) h107) (li_skip (A := ([.slice walks_a walks.length walks_c] : List Value)) (k := 1) (o := 4) rfl (li_skip (A := ([.slice hears_a hears.length hears_c] : List Value)) (k := 1) (o := 3) rfl (li_skip (A := ([.int .i64 houses] : List Value)) (k := 1) (o := 2) rfl (li_skip (A := ([.int .i64 start] : List Value)) (k := 1) (o := 1) rfl (li_skip (A := ([.slice notices_a notices.length notices_c] : List Value)) (k := 1) (o := 0) rfl (li_here (lfl (cI_ok .i64) h107))))))))) ?_))))))
  obtain ⟨g117, r118⟩ := gd_ok r113
  obtain ⟨g119, r120⟩ := gd_ok r118
  refine wv (v_neA (eqgn_111 _ _ _ _) (fun w => neb_deep (eqd_111 next_ c_walks6 ⟨h110, g117⟩ ⟨h107, g119⟩ w)) rfl rfl) (shQ_nil ?_)
  refine cQ (fun c121 => ?_) fun c121 => ?_
  ·have r122 := ite_t r120 c121
   refine shW_skip (shW_seq ?_)
   refine shW_block ?_
   refine shW_region (um ?_)
   refine uv (v_loadW isAgg111 sizeOf111 rfl (Has.own 0 rfl) (arr_sz (cI_ok .i64) h110)) (uv (v_nilCheck rfl) (uv (v_fieldAddr fa_116_1 rfl) (o_storePart (i := 1) sizeOf111 rfl rfl (lz (lfl (cI_ok .i64) h110)) (flat_one (cI_ok .i64) _) rfl (pt_skip (A := ([.slice walks_a walks.length walks_c] : List Value)) (k := 1) (o := 4) rfl (pt_skip (A := ([.slice hears_a hears.length hears_c] : List Value)) (k := 1) (o := 3) rfl (pt_skip (A := ([.int .i64 houses] : List Value)) (k := 1) (o := 2) rfl (pt_skip (A := ([.int .i64 start] : List Value)) (k := 1) (o := 1) rfl (pt_skip (A := ([.slice notices_a notices.length notices_c] : List Value)) (k := 1) (o := 0) rfl (pt_here (B := ([.slice none 0 0] : List Value) ++ ((List.replicate 15 0).flatMap (cI .i64))) (lfl (cI_ok .i64) h107))))))) (shO_L (L' := [(b108, ce (arr (cI .i64) next_) 111), (b7, ce ((([.slice walks_a walks.length walks_c] : List Value) ++ (([.slice hears_a hears.length hears_c] : List Value) ++ (([.int .i64 houses] : List Value) ++ (([.int .i64 start] : List Value) ++ (([.slice notices_a notices.length notices_c] : List Value) ++ (next_.flatMap (cI .i64) ++ (([.slice none 0 0] : List Value) ++ ((List.replicate 15 0).flatMap (cI .i64))))))))).toArray) 116), (b1, ce #[.slice walks_a walks.length walks_c, .slice hears_a hears.length hears_c, .int .i64 houses, .int .i64 start, .slice notices_a notices.length notices_c] 26)]) rfl ?_))))
   refine shO_nil (inBlock_n (id := 5) (shW_seq (wsr ?_)))
   refine uv (v_loadW isAgg111 sizeOf111 rfl (Has.own 0 rfl) (arr_sz (cI_ok .i64) h110)) ?_
   refine shO_nil (shW_region ?_)
   refine o_alloc rfl zeroValue111 ?_; intro b123 hb123
   refine shO_L (L' := [(b123, ce (arr (cI .i64) (List.replicate 25 0)) 111), (b108, ce (arr (cI .i64) next_) 111), (b7, ce ((([.slice walks_a walks.length walks_c] : List Value) ++ (([.slice hears_a hears.length hears_c] : List Value) ++ (([.int .i64 houses] : List Value) ++ (([.int .i64 start] : List Value) ++ (([.slice notices_a notices.length notices_c] : List Value) ++ (next_.flatMap (cI .i64) ++ (([.slice none 0 0] : List Value) ++ ((List.replicate 15 0).flatMap (cI .i64))))))))).toArray) 116), (b1, ce #[.slice walks_a walks.length walks_c, .slice hears_a hears.length hears_c, .int .i64 houses, .int .i64 start, .slice notices_a notices.length notices_c] 26)]) rfl (o_storeW (i := 0) sizeOf111 rfl rfl rfl (arr_sz (cI_ok .i64) List.length_replicate) (arr_sz (cI_ok .i64) h110) (arr_one (cI_ok .i64)) (shO_L (L' := [(b123, ce (arr (cI .i64) next_) 111), (b108, ce (arr (cI .i64) next_) 111), (b7, ce ((([.slice walks_a walks.length walks_c] : List Value) ++ (([.slice hears_a hears.length hears_c] : List Value) ++ (([.int .i64 houses] : List Value) ++ (([.int .i64 start] : List Value) ++ (([.slice notices_a notices.length notices_c] : List Value) ++ (next_.flatMap (cI .i64) ++ (([.slice none 0 0] : List Value) ++ ((List.replicate 15 0).flatMap (cI .i64))))))))).toArray) 116), (b1, ce #[.slice walks_a walks.length walks_c, .slice hears_a hears.length hears_c, .int .i64 houses, .int .i64 start, .slice notices_a notices.length notices_c] 26)]) rfl ?_))
   refine shO_nil (shW_region ?_)
   refine uv (v_loadW isAgg111 sizeOf111 rfl (Has.own 0 rfl) (arr_sz (cI_ok .i64) h110)) ?_
   obtain ⟨a2, h124, r125⟩ := b1_ok r122
   refine c0 call40 (round_walks_through_w h110 h124) ?_; rintro _ F126 _ hF127 hn128 ⟨rfl, rfl, h130⟩
   refine shO_L (ln rfl) (o_storeW (i := 0) sizeOf111 rfl rfl rfl (arr_sz (cI_ok .i64) h110) (arr_sz (cI_ok .i64) h130) (arr_one (cI_ok .i64)) (shO_L (L' := [(b123, ce (arr (cI .i64) a2) 111), (b108, ce (arr (cI .i64) next_) 111), (b7, ce ((([.slice walks_a walks.length walks_c] : List Value) ++ (([.slice hears_a hears.length hears_c] : List Value) ++ (([.int .i64 houses] : List Value) ++ (([.int .i64 start] : List Value) ++ (([.slice notices_a notices.length notices_c] : List Value) ++ (next_.flatMap (cI .i64) ++ (([.slice none 0 0] : List Value) ++ ((List.replicate 15 0).flatMap (cI .i64))))))))).toArray) 116), (b1, ce #[.slice walks_a walks.length walks_c, .slice hears_a hears.length hears_c, .int .i64 houses, .int .i64 start, .slice notices_a notices.length notices_c] 26)]) rfl (shO_nil ?_)))
   exact le (kc (kd kr)) ⟨next_, a2, b123, r125, (hF116.trans hF127), rfl, z3, h110, hb123, h130⟩
  have r131 := ite_f r120 c121
  refine shW_exit (andThen_exit (andThen_exit ?_))
  refine inBlock_exit ?_
  obtain rfl := inj1 r131
  exact mi (kd kr) ⟨(hF102.trans hF116), rfl, z2, h107⟩
 rintro e1 F133 _ ⟨hF134, rfl, he132, h96⟩
 refine shW_env _ he132 ?_
 replace h_walks := h_walks.mono (slE_ok (iE_ok _)) hF134
 replace h_hears := h_hears.mono (slE_ok (iE_ok _)) hF134
 replace h_notices := h_notices.mono (prE_ok (slE_ok (iE_ok _)) (prE_ok (iE_ok _) (iE_ok _))) hF134
 obtain ⟨c_pairs, c_hit, h142, r143⟩ := b2_ok r98
 refine shW_join (fun e1 F1 L1 => ∃ (a135 : Option Addr) (n139 : Nat) (c136 : Nat) (Lb137 : LH), FExt F133 F1 ∧ L1 = ((b7, ce ((([.slice walks_a walks.length walks_c] : List Value) ++ (([.slice hears_a hears.length hears_c] : List Value) ++ (([.int .i64 houses] : List Value) ++ (([.int .i64 start] : List Value) ++ (([.slice notices_a notices.length notices_c] : List Value) ++ (c_walks5.flatMap (cI .i64) ++ (([.slice a135 n139 c136] : List Value) ++ (c_hit.flatMap (cI .i64))))))))).toArray) 116) :: (Lb137 ++ [])) ∧ e1.sub [(5, .pointer (some ⟨b7, 0, none⟩))] ∧ SlR K.w0.heap.size 123 2 (prE (iE .i64) (iE .i64)) F1 a135 n139 c136 c_pairs Lb137 ∧ c_hit.length = 15) ?_ ?_
 ·clear r143
  refine wsr (uv (v_fieldAddr fa_26_4 rfl) (uv (v_load isAgg24 rfl (Has.own 1 rfl) rfl) (uv (v_lenS underlying24 rfl) ?_)))
  refine um (shO_nil ?_)
  refine shW_block ?_
  refine shW_lp (fun fu4 e1 F1 L1 => LA notices fu4 fun tl k4 => ∃ (c_pairs2 : List (Int × Int)) (c_hit2 : List Int) (a144 : Option Addr) (n148 : Nat) (c145 : Nat) (Lb146 : LH), round_opened_l4 hears tl k4 c_pairs2 c_hit2 = some (c_pairs, c_hit) ∧ FExt F133 F1 ∧ L1 = ((b7, ce ((([.slice walks_a walks.length walks_c] : List Value) ++ (([.slice hears_a hears.length hears_c] : List Value) ++ (([.int .i64 houses] : List Value) ++ (([.int .i64 start] : List Value) ++ (([.slice notices_a notices.length notices_c] : List Value) ++ (c_walks5.flatMap (cI .i64) ++ (([.slice a144 n148 c145] : List Value) ++ (c_hit2.flatMap (cI .i64))))))))).toArray) 116) :: ((b1, ce #[.slice walks_a walks.length walks_c, .slice hears_a hears.length hears_c, .int .i64 houses, .int .i64 start, .slice notices_a notices.length notices_c] 26) :: (Lb146 ++ []))) ∧ e1.sub [(1, .pointer (some ⟨b1, 0, none⟩)), (5, .pointer (some ⟨b7, 0, none⟩)), (84, .slice notices_a notices.length notices_c), (85, .int .i64 (notices.length : Int)), (86, .int .i64 k4)] ∧ SlR K.w0.heap.size 123 2 (prE (iE .i64) (iE .i64)) F1 a144 n148 c145 c_pairs2 Lb146 ∧ c_hit2.length = 15) _ (m0 (kc (kc (ke kr))) ⟨_, _, rfl, Lst.start _, [], List.replicate 15 0, none, 0, 0, [], h142, FExt.refl _, rfl, z5, SlR.nil _ _ _ _ _, List.length_replicate⟩) ?_
  rintro fu4 e1 F155 _ ⟨tl, k4, hn152, hk151, c_pairs2, c_hit2, a144, n148, c145, Lb146, r153, hF156, rfl, he154, hz147, h150⟩
  refine shW_env _ he154 ?_
  replace h_hears := h_hears.mono (slE_ok (iE_ok _)) hF156
  replace h_notices := h_notices.mono (prE_ok (slE_ok (iE_ok _)) (prE_ok (iE_ok _) (iE_ok _))) hF156
  refine wsr (uv (v_lssK rfl rfl) ?_)
  refine shO_nil (shW_seq ?_)
  refine cQ (fun c158 => ?_) fun c158 => ?_
  ·obtain ⟨x5, tl2, rfl, hx160, g161, hk159⟩ := Lst.succ hk151 c158
   rw [round_opened_l4] at r153
   refine shW_skip ?_
   obtain ⟨c_pairs3, c_hit3, h169, r170⟩ := b2_ok r153
   refine shW_join (fun e1 F1 L1 => ∃ (a162 : Option Addr) (n166 : Nat) (c163 : Nat) (Lb164 : LH), FExt F155 F1 ∧ L1 = ((b7, ce ((([.slice walks_a walks.length walks_c] : List Value) ++ (([.slice hears_a hears.length hears_c] : List Value) ++ (([.int .i64 houses] : List Value) ++ (([.int .i64 start] : List Value) ++ (([.slice notices_a notices.length notices_c] : List Value) ++ (c_walks5.flatMap (cI .i64) ++ (([.slice a162 n166 c163] : List Value) ++ (c_hit3.flatMap (cI .i64))))))))).toArray) 116) :: ((b1, ce #[.slice walks_a walks.length walks_c, .slice hears_a hears.length hears_c, .int .i64 houses, .int .i64 start, .slice notices_a notices.length notices_c] 26) :: (Lb164 ++ []))) ∧ e1.sub [(1, .pointer (some ⟨b1, 0, none⟩)), (5, .pointer (some ⟨b7, 0, none⟩)), (84, .slice notices_a notices.length notices_c), (85, .int .i64 (notices.length : Int)), (86, .int .i64 k4)] ∧ SlR K.w0.heap.size 123 2 (prE (iE .i64) (iE .i64)) F1 a162 n166 c163 c_pairs3 Lb164 ∧ c_hit3.length = 15) ?_ ?_
   ·clear r170
    refine shW_block ?_
    refine wsr (um ?_)
    obtain ⟨b171, o172, c173, vs174, ha175, hs176, hle177, ⟨_, _, rfl, ⟨a180, c181, rfl, h182⟩, ⟨_, _, rfl, rfl, rfl⟩⟩, hl178, hc179⟩ := RowR.at (prE_ok (slE_ok (iE_ok _)) (prE_ok (iE_ok _) (iE_ok _))) h_notices ((b7, ce ((([.slice walks_a walks.length walks_c] : List Value) ++ (([.slice hears_a hears.length hears_c] : List Value) ++ (([.int .i64 houses] : List Value) ++ (([.int .i64 start] : List Value) ++ (([.slice notices_a notices.length notices_c] : List Value) ++ (c_walks5.flatMap (cI .i64) ++ (([.slice a144 n148 c145] : List Value) ++ (c_hit2.flatMap (cI .i64))))))))).toArray) 116) :: ((b1, ce #[.slice walks_a walks.length walks_c, .slice hears_a hears.length hears_c, .int .i64 houses, .int .i64 start, .slice notices_a notices.length notices_c] 26) :: (Lb146 ++ []))) g161.1 hx160
    refine uv (v_indexO underlying24 sizeOf61 rfl ha175 rfl g161) (uv (v_loadA isAgg61 sizeOf61 rfl hs176 hle177 (extract_cells hle177 hl178 hc179)) ?_)
    refine o_alloc rfl zeroValue61 ?_; intro b183 hb183
    refine ua (o_storeA (i := 0) sizeOf61 rfl rfl rfl (by simp [Value.oneCell']) rfl (nbL rfl) (shO_L (L' := (b183, ce #[.slice a180 x5.1.length c181, .int .i64 x5.2.1, .int .i64 x5.2.2] 61) :: ((b7, ce ((([.slice walks_a walks.length walks_c] : List Value) ++ (([.slice hears_a hears.length hears_c] : List Value) ++ (([.int .i64 houses] : List Value) ++ (([.int .i64 start] : List Value) ++ (([.slice notices_a notices.length notices_c] : List Value) ++ (c_walks5.flatMap (cI .i64) ++ (([.slice a144 n148 c145] : List Value) ++ (c_hit2.flatMap (cI .i64))))))))).toArray) 116) :: ((b1, ce #[.slice walks_a walks.length walks_c, .slice hears_a hears.length hears_c, .int .i64 houses, .int .i64 start, .slice notices_a notices.length notices_c] 26) :: (Lb146 ++ [])))) rfl (nsr (uv (v_fieldAddr fa_61_0 rfl) (uv (v_load isAgg35 rfl (Has.own 0 rfl) rfl) ?_)))))
    obtain ⟨y, h184, r185⟩ := b1_ok h169
    refine c0 call42 (slices_Values_int_int_w h182 h184) ?_; rintro _ F186 _ hF187 hn188 ⟨cp190, rfl, rfl, hit191⟩
    replace h_hears := h_hears.mono (slE_ok (iE_ok _)) hF187
    replace hz147 := hz147.mono (prE_ok (iE_ok _) (iE_ok _)) hF187
    refine shO_L (ln rfl) ?_
    obtain ⟨l, h192, r193⟩ := b1_ok r185
    refine c0 call41 (slices_Sorted_int_w call79 hit191 h192) ?_; rintro _ F194 _ hF195 hn196 ⟨a198, n202, c199, Lb200, rfl, rfl, hz201⟩
    replace h_hears := h_hears.mono (slE_ok (iE_ok _)) hF195
    replace hz147 := hz147.mono (prE_ok (iE_ok _) (iE_ok _)) hF195
    replace hz201 := hz201.new fun p hp => hn196 p (by simp [hp])
    refine shO_L (lp (ln rfl)) (kO (kf (fS fO) (kf (fS fO) (kf (fS fO) kr))) (uv ((v_lenS underlying35 rfl).i (SlR.lenI hz201)) ?_))
    refine um (shO_nil ?_)
    refine shW_block (kW (kd kr) ?_)
    refine shW_lp (fun fu5 e1 F1 L1 => LA l fu5 fun tl3 k5 => ∃ (c_pairs4 : List (Int × Int)) (c_hit4 : List Int) (a204 : Option Addr) (n208 : Nat) (c205 : Nat) (Lb206 : LH), round_opened_l5 hears k4 tl3 c_pairs4 c_hit4 = some (c_pairs3, c_hit3) ∧ F194 = F1 ∧ L1 = ((b7, ce ((([.slice walks_a walks.length walks_c] : List Value) ++ (([.slice hears_a hears.length hears_c] : List Value) ++ (([.int .i64 houses] : List Value) ++ (([.int .i64 start] : List Value) ++ (([.slice notices_a notices.length notices_c] : List Value) ++ (c_walks5.flatMap (cI .i64) ++ (([.slice a204 n208 c205] : List Value) ++ (c_hit4.flatMap (cI .i64))))))))).toArray) 116) :: ((b1, ce #[.slice walks_a walks.length walks_c, .slice hears_a hears.length hears_c, .int .i64 houses, .int .i64 start, .slice notices_a notices.length notices_c] 26) :: (Lb206 ++ (Lb200 ++ [])))) ∧ e1.sub [(1, .pointer (some ⟨b1, 0, none⟩)), (5, .pointer (some ⟨b7, 0, none⟩)), (9, .int .i64 k4), (84, .slice notices_a notices.length notices_c), (85, .int .i64 (notices.length : Int)), (86, .int .i64 k4), (94, .slice a198 n202 c199), (95, .int .i64 (l.length : Int)), (96, .int .i64 k5)] ∧ SlR K.w0.heap.size 123 2 (prE (iE .i64) (iE .i64)) F1 a204 n208 c205 c_pairs4 Lb206 ∧ c_hit4.length = 15) _ (m0 (kc (kc (kg (fS fP) kr))) ⟨_, _, rfl, Lst.start _, c_pairs2, c_hit2, a144, n148, c145, Lb146, r193, rfl, rfl, (sc rfl z8), hz147, h150⟩) ?_
    rintro fu5 e1 _ _ ⟨tl3, k5, hn212, hk211, c_pairs4, c_hit4, a204, n208, c205, Lb206, r213, rfl, rfl, he214, hz207, h210⟩
    refine shW_env _ he214 (wsr (uv (v_lssK rfl rfl) ?_))
    refine shO_nil (shW_seq ?_)
    refine cQ (fun c216 => ?_) fun c216 => ?_
    ·obtain ⟨x6, tl4, rfl, hx218, g219, hk217⟩ := Lst.succ hk211 c216
     rw [round_opened_l5] at r213
     refine shW_skip ?_
     obtain ⟨c_pairs5, c_hit5, h227, r228⟩ := b2_ok r213
     refine shW_join (fun e1 F1 L1 => ∃ (a220 : Option Addr) (n224 : Nat) (c221 : Nat) (Lb222 : LH), F194 = F1 ∧ L1 = ((b7, ce ((([.slice walks_a walks.length walks_c] : List Value) ++ (([.slice hears_a hears.length hears_c] : List Value) ++ (([.int .i64 houses] : List Value) ++ (([.int .i64 start] : List Value) ++ (([.slice notices_a notices.length notices_c] : List Value) ++ (c_walks5.flatMap (cI .i64) ++ (([.slice a220 n224 c221] : List Value) ++ (c_hit5.flatMap (cI .i64))))))))).toArray) 116) :: ((b1, ce #[.slice walks_a walks.length walks_c, .slice hears_a hears.length hears_c, .int .i64 houses, .int .i64 start, .slice notices_a notices.length notices_c] 26) :: (Lb222 ++ (Lb200 ++ [])))) ∧ e1.sub [(1, .pointer (some ⟨b1, 0, none⟩)), (5, .pointer (some ⟨b7, 0, none⟩)), (9, .int .i64 k4), (84, .slice notices_a notices.length notices_c), (85, .int .i64 (notices.length : Int)), (86, .int .i64 k4), (94, .slice a198 n202 c199), (95, .int .i64 (l.length : Int)), (96, .int .i64 k5)] ∧ SlR K.w0.heap.size 123 2 (prE (iE .i64) (iE .i64)) F1 a220 n224 c221 c_pairs5 Lb222 ∧ c_hit5.length = 15) ?_ ?_
     ·clear r228
      refine shW_block (wsr ?_)
      obtain ⟨b229, o230, c231, vs232, ha233, hs234, hle235, rfl, hl236, hc237⟩ := SlR.at (iE_ok _) hz201 (L := (b7, ce ((([.slice walks_a walks.length walks_c] : List Value) ++ (([.slice hears_a hears.length hears_c] : List Value) ++ (([.int .i64 houses] : List Value) ++ (([.int .i64 start] : List Value) ++ (([.slice notices_a notices.length notices_c] : List Value) ++ (c_walks5.flatMap (cI .i64) ++ (([.slice a204 n208 c205] : List Value) ++ (c_hit4.flatMap (cI .i64))))))))).toArray) 116) :: ((b1, ce #[.slice walks_a walks.length walks_c, .slice hears_a hears.length hears_c, .int .i64 houses, .int .i64 start, .slice notices_a notices.length notices_c] 26) :: (Lb206 ++ (Lb200 ++ [])))) (fC (fC (fS fP))) g219.1 hx218
      refine uv (v_indexO underlying35 sizeOf3 rfl ha233 rfl (SlR.idx hz201 g219)) (uv (v_load isAgg3 rfl hs234 (hc237 0 (by decide))) ?_)
      refine ua (shO_nil ?_)
      obtain ⟨c_hit6, h239, r240⟩ := b1_ok h227
      refine shW_join (fun e1 F1 L1 => F194 = F1 ∧ L1 = ((b7, ce ((([.slice walks_a walks.length walks_c] : List Value) ++ (([.slice hears_a hears.length hears_c] : List Value) ++ (([.int .i64 houses] : List Value) ++ (([.int .i64 start] : List Value) ++ (([.slice notices_a notices.length notices_c] : List Value) ++ (c_walks5.flatMap (cI .i64) ++ (([.slice a204 n208 c205] : List Value) ++ (c_hit6.flatMap (cI .i64))))))))).toArray) 116) :: ((b1, ce #[.slice walks_a walks.length walks_c, .slice hears_a hears.length hears_c, .int .i64 houses, .int .i64 start, .slice notices_a notices.length notices_c] 26) :: (Lb206 ++ (Lb200 ++ [])))) ∧ e1.sub [(1, .pointer (some ⟨b1, 0, none⟩)), (5, .pointer (some ⟨b7, 0, none⟩)), (9, .int .i64 k4), (12, .int .i64 x6), (84, .slice notices_a notices.length notices_c), (85, .int .i64 (notices.length : Int)), (86, .int .i64 k4), (94, .slice a198 n202 c199), (95, .int .i64 (l.length : Int)), (96, .int .i64 k5)] ∧ c_hit6.length = 15) ?_ ?_
      ·clear r240
       refine wsr (uv (v_fieldAddr fa_26_1 rfl) (uv (v_load isAgg23 rfl (Has.own 1 rfl) rfl) (uv (v_lenS underlying23 rfl) ?_)))
       refine um (shO_nil ?_)
       refine shW_block ?_
       refine shW_lp (fun fu6 e1 F1 L1 => LA hears fu6 fun tl5 k6 => ∃ (c_hit7 : List Int), round_opened_l6 k4 c_pairs4 x6 tl5 k6 c_hit7 = some c_hit6 ∧ F194 = F1 ∧ L1 = ((b7, ce ((([.slice walks_a walks.length walks_c] : List Value) ++ (([.slice hears_a hears.length hears_c] : List Value) ++ (([.int .i64 houses] : List Value) ++ (([.int .i64 start] : List Value) ++ (([.slice notices_a notices.length notices_c] : List Value) ++ (c_walks5.flatMap (cI .i64) ++ (([.slice a204 n208 c205] : List Value) ++ (c_hit7.flatMap (cI .i64))))))))).toArray) 116) :: ((b1, ce #[.slice walks_a walks.length walks_c, .slice hears_a hears.length hears_c, .int .i64 houses, .int .i64 start, .slice notices_a notices.length notices_c] 26) :: (Lb206 ++ (Lb200 ++ [])))) ∧ e1.sub [(1, .pointer (some ⟨b1, 0, none⟩)), (5, .pointer (some ⟨b7, 0, none⟩)), (9, .int .i64 k4), (12, .int .i64 x6), (84, .slice notices_a notices.length notices_c), (85, .int .i64 (notices.length : Int)), (86, .int .i64 k4), (94, .slice a198 n202 c199), (95, .int .i64 (l.length : Int)), (96, .int .i64 k5), (101, .slice hears_a hears.length hears_c), (102, .int .i64 (hears.length : Int)), (103, .int .i64 k6)] ∧ c_hit7.length = 15) _ (m0 kr ⟨_, _, rfl, Lst.start _, c_hit4, h239, rfl, rfl, (sc rfl (sc rfl (sc rfl (sc rfl (sc rfl z8))))), h210⟩) ?_
       rintro fu6 e1 _ _ ⟨tl5, k6, hn243, hk242, c_hit7, r244, rfl, rfl, he245, h241⟩
       refine shW_env _ he245 (wsr (uv (v_lssK rfl rfl) ?_))
       refine shO_nil (shW_seq ?_)
       refine cQ (fun c247 => ?_) fun c247 => ?_
       ·obtain ⟨x7, tl6, rfl, hx249, g250, hk248⟩ := Lst.succ hk242 c247
        rw [round_opened_l6] at r244
        refine shW_skip (shW_seq ?_)
        refine shW_block ?_
        refine wsr (um ?_)
        obtain ⟨b251, o252, c253, vs254, ha255, hs256, hle257, ⟨a260, c261, rfl, h262⟩, hl258, hc259⟩ := RowR.at (slE_ok (iE_ok _)) h_hears ((b7, ce ((([.slice walks_a walks.length walks_c] : List Value) ++ (([.slice hears_a hears.length hears_c] : List Value) ++ (([.int .i64 houses] : List Value) ++ (([.int .i64 start] : List Value) ++ (([.slice notices_a notices.length notices_c] : List Value) ++ (c_walks5.flatMap (cI .i64) ++ (([.slice a204 n208 c205] : List Value) ++ (c_hit7.flatMap (cI .i64))))))))).toArray) 116) :: ((b1, ce #[.slice walks_a walks.length walks_c, .slice hears_a hears.length hears_c, .int .i64 houses, .int .i64 start, .slice notices_a notices.length notices_c] 26) :: (Lb206 ++ (Lb200 ++ [])))) g250.1 hx249
        refine uv (v_indexO underlying23 sizeOf35 rfl ha255 rfl g250) (uv (v_load isAgg35 rfl hs256 (hc259 0 (by decide))) ?_)
        refine ua (ua (nsr (um (um ?_))))
        obtain ⟨ok, h263, r264⟩ := b1_ok r244
        refine cV call14 (slices_Contains_int_int_w h262 h263) (shO_nil ?_)
        refine shW_cond rfl (fun c265 => ?_) (fun c265 => ?_)
        ·have r266 := bt r264 c265
         refine shW_drawM [(.still, 0), (.still, 1), (.still, 2), (.still, 3), (.still, 4), (.still, 5), (.still, 6), (.still, 7), (.still, 8), (.still, 9), (.still, 10), (.still, 11), (.still, 12), (.still, 13), (.still, 14), (.still, 15), (.still, 16), (.still, 17), (.still, 18), (.seq, 19)] (by kernel_rfl) (by kernel_rfl) (trivial) (by rfl) (by kernel_rfl) (mS [5] rfl (v_move rfl) (mS [13] rfl (v_move rfl) (mS [9] rfl (v_move rfl) (mS [111] rfl (v_nilCheck rfl) (mS [114] rfl (v_fieldAddr fa_116_3 rfl) ?_)))))
         obtain ⟨g267, r268⟩ := gd_ok r266
         refine mS [112, 115] rfl (v_indexA underlying114 sizeOf113 rfl rfl g267) ?_
         obtain ⟨g269, r270⟩ := gd_ok r268
         obtain ⟨x8, g271, hx272, r273⟩ := ix_ok r270
         have hq275 : (k6 * 3 + k4 : Int).toNat = (k6 : Int).toNat * 3 + (k4 : Int).toNat := by have := g267; have := g269; omega
         have hc274 := el_at2 (cI_ok .i64) h241 hq275 hx272 (li_arr (li_skip (A := ([.slice walks_a walks.length walks_c] : List Value)) (k := 1) (o := 30) rfl (li_skip (A := ([.slice hears_a hears.length hears_c] : List Value)) (k := 1) (o := 29) rfl (li_skip (A := ([.int .i64 houses] : List Value)) (k := 1) (o := 28) rfl (li_skip (A := ([.int .i64 start] : List Value)) (k := 1) (o := 27) rfl (li_skip (A := ([.slice notices_a notices.length notices_c] : List Value)) (k := 1) (o := 26) rfl (li_skip (A := c_walks5.flatMap (cI .i64)) (k := 25) (o := 1) (lfl (cI_ok .i64) h96) (li_skip (A := ([.slice a204 n208 c205] : List Value)) (k := 1) (o := 0) rfl (li_end (lfl (cI_ok .i64) h241)))))))))) (li_le (li_skip (A := ([.slice walks_a walks.length walks_c] : List Value)) (k := 1) (o := 30) rfl (li_skip (A := ([.slice hears_a hears.length hears_c] : List Value)) (k := 1) (o := 29) rfl (li_skip (A := ([.int .i64 houses] : List Value)) (k := 1) (o := 28) rfl (li_skip (A := ([.int .i64 start] : List Value)) (k := 1) (o := 27) rfl (li_skip (A := ([.slice notices_a notices.length notices_c] : List Value)) (k := 1) (o := 26) rfl (li_skip (A := c_walks5.flatMap (cI .i64)) (k := 25) (o := 1) (lfl (cI_ok .i64) h96) (li_skip (A := ([.slice a204 n208 c205] : List Value)) (k := 1) (o := 0) rfl (li_end (lfl (cI_ok .i64) h241))))))))))
         refine mS [113, 116] rfl (v_indexA underlying113 sizeOf3 rfl rfl g269) (mL [117] ([(b7, ce ((([.slice walks_a walks.length walks_c] : List Value) ++ (([.slice hears_a hears.length hears_c] : List Value) ++ (([.int .i64 houses] : List Value) ++ (([.int .i64 start] : List Value) ++ (([.slice notices_a notices.length notices_c] : List Value) ++ (c_walks5.flatMap (cI .i64) ++ (([.slice a204 n208 c205] : List Value) ++ (c_hit7.flatMap (cI .i64))))))))).toArray) 116)]) rfl (s0 (s2 (s1 (s3 (s3 sr))))) (fun H F' L' hF' hL' => v_load isAgg3 rfl ((Has.own 0 rfl).ext hF' hL') ((hc274).2.2 0 (by decide))) (mS [5] rfl (v_move rfl) (mS [119] rfl (v_nilCheck rfl) (mS [120] rfl (v_fieldAddr fa_116_2 rfl) (mL [121] ([(b7, ce ((([.slice walks_a walks.length walks_c] : List Value) ++ (([.slice hears_a hears.length hears_c] : List Value) ++ (([.int .i64 houses] : List Value) ++ (([.int .i64 start] : List Value) ++ (([.slice notices_a notices.length notices_c] : List Value) ++ (c_walks5.flatMap (cI .i64) ++ (([.slice a204 n208 c205] : List Value) ++ (c_hit7.flatMap (cI .i64))))))))).toArray) 116)]) rfl (s0 (s2 (s1 (s3 (s3 sr))))) (fun H F' L' hF' hL' => v_load isAgg112 rfl ((Has.own 0 rfl).ext hF' hL') (li_cell (li_skip (A := ([.slice walks_a walks.length walks_c] : List Value)) (k := 1) (o := 29) rfl (li_skip (A := ([.slice hears_a hears.length hears_c] : List Value)) (k := 1) (o := 28) rfl (li_skip (A := ([.int .i64 houses] : List Value)) (k := 1) (o := 27) rfl (li_skip (A := ([.int .i64 start] : List Value)) (k := 1) (o := 26) rfl (li_skip (A := ([.slice notices_a notices.length notices_c] : List Value)) (k := 1) (o := 25) rfl (li_skip (A := c_walks5.flatMap (cI .i64)) (k := 25) (o := 0) (lfl (cI_ok .i64) h96) (li_here rfl))))))))) (mS [122] rfl ((v_lenS underlying112 rfl).i (SlR.lenI hz207)) ?_))))))
         obtain ⟨g276, r277⟩ := gd_ok r273
         refine mS (v := .int .i64 (shl 1 (c_pairs4.length : Int))) [123] rfl (v_shl rfl rfl g276) (mS (v := .int .i64 (bor x8 (shl 1 (c_pairs4.length : Int)))) [118, 124] rfl (v_or rfl rfl) (mS [111] rfl (v_nilCheck rfl) (mS [126] rfl (v_fieldAddr fa_116_3 rfl) ?_)))
         obtain ⟨g278, r279⟩ := gd_ok r277
         refine mS [112, 127] rfl (v_indexA underlying114 sizeOf113 rfl rfl g278) ?_
         obtain ⟨g280, r281⟩ := gd_ok r279
         have hq283 : (k6 * 3 + k4 : Int).toNat = (k6 : Int).toNat * 3 + (k4 : Int).toNat := by have := g278; have := g280; omega
         refine mS [113, 128] rfl (v_indexA underlying113 sizeOf3 rfl rfl g280) ?_
         refine ⟨_, [(125, .int .i64 (bor x8 (shl 1 (c_pairs4.length : Int)))), (129, .pointer (some ⟨b7, 31 + (k6 : Int).toNat * 3 + (k4 : Int).toNat * 1, none⟩))], rfl, rfl, z2, by kernel_rfl, ?_⟩; intro H
         obtain ⟨ws3, h284, r285⟩ := bv_ok r281
         have h286 : ws3.length = 15 := by rw [h284, List.length_set]; exact h241
         refine o_storeSeg (i := 0) sizeOf3 rfl (by have := hq283; omega) rfl rfl rfl (st_skip (A := ([.slice walks_a walks.length walks_c] : List Value)) (k := 1) rfl (st_skip (A := ([.slice hears_a hears.length hears_c] : List Value)) (k := 1) rfl (st_skip (A := ([.int .i64 houses] : List Value)) (k := 1) rfl (st_skip (A := ([.int .i64 start] : List Value)) (k := 1) rfl (st_skip (A := ([.slice notices_a notices.length notices_c] : List Value)) (k := 1) rfl (st_skip (A := c_walks5.flatMap (cI .i64)) (k := 25) (lfl (cI_ok .i64) h96) (st_skip (A := ([.slice a204 n208 c205] : List Value)) (k := 1) rfl (st_arr (p := (k6 * 3 + k4 : Int).toNat) (cI_ok .i64) (u := bor x8 (shl 1 (c_pairs4.length : Int))) rfl h241 (by have := g271; have := h241; omega) F194)))))))) ?_
         refine shO_L (L' := (b7, ce ((([.slice walks_a walks.length walks_c] : List Value) ++ (([.slice hears_a hears.length hears_c] : List Value) ++ (([.int .i64 houses] : List Value) ++ (([.int .i64 start] : List Value) ++ (([.slice notices_a notices.length notices_c] : List Value) ++ (c_walks5.flatMap (cI .i64) ++ (([.slice a204 n208 c205] : List Value) ++ (ws3.flatMap (cI .i64))))))))).toArray) 116) :: ((b1, ce #[.slice walks_a walks.length walks_c, .slice hears_a hears.length hears_c, .int .i64 houses, .int .i64 start, .slice notices_a notices.length notices_c] 26) :: (Lb206 ++ (Lb200 ++ [])))) (by rw [h284]; rfl) ?_
         refine shO_nil ⟨undef, rfl, FExt.refl _, [], by kernel_rfl, .inl (.inl rfl), nm, ?_⟩
         refine shM_nil ?_
         refine inBlock_n (id := 11) (shW_region ?_)
         refine uv (v_add rfl rfl (Lst.r64 hk242 c247 (RowR.lt h_hears))) ?_
         refine um (shO_nil ?_)
         subst hn243; exact le kr ⟨_, _, rfl, hk248, ws3, r285, rfl, rfl, (sc rfl (sc rfl (sc rfl (sc rfl (sc rfl z8))))), h286⟩
        have r287 := bf r264 c265
        refine shW_skip (inBlock_n (id := 11) (shW_region ?_))
        refine uv (v_add rfl rfl (Lst.r64 hk242 c247 (RowR.lt h_hears))) ?_
        refine um (shO_nil ?_)
        subst hn243; exact le kr ⟨_, _, rfl, hk248, c_hit7, r287, rfl, rfl, (sc rfl (sc rfl (sc rfl (sc rfl (sc rfl z8))))), h241⟩
       obtain rfl := Lst.zero hk242 c247
       rw [round_opened_l6] at r244
       refine shW_exit (andThen_exit (andThen_exit ?_))
       refine inBlock_exit ?_
       obtain rfl := inj1 r244
       exact mi kr ⟨rfl, rfl, (sc rfl (sc rfl z8)), h241⟩
      rintro e1 _ _ ⟨rfl, rfl, he288, h238⟩
      refine shW_env _ he288 ?_
      refine shW_region (um (um ?_))
      refine uv (v_nilCheck rfl) (uv (v_fieldAddr fa_116_2 rfl) (uv (v_load isAgg112 rfl (Has.own 0 rfl) (li_cell (li_skip (A := ([.slice walks_a walks.length walks_c] : List Value)) (k := 1) (o := 29) rfl (li_skip (A := ([.slice hears_a hears.length hears_c] : List Value)) (k := 1) (o := 28) rfl (li_skip (A := ([.int .i64 houses] : List Value)) (k := 1) (o := 27) rfl (li_skip (A := ([.int .i64 start] : List Value)) (k := 1) (o := 26) rfl (li_skip (A := ([.slice notices_a notices.length notices_c] : List Value)) (k := 1) (o := 25) rfl (li_skip (A := c_walks5.flatMap (cI .i64)) (k := 25) (o := 0) (lfl (cI_ok .i64) h96) (li_here rfl))))))))) ?_))
      refine um (um ?_)
      refine uv (v_build (v := .agg #[.int .i64 k4, .int .i64 x6]) rfl (by intro w; kernel_rfl)) ?_
      refine bA (cs := #[.int .i64 k4, .int .i64 x6]) slt_112 [.agg #[.int .i64 k4, .int .i64 x6]] ?_; intro b289 hb289
      obtain ⟨c, h290, g291, r292⟩ := ap_ok r240
      refine o_appZ (xs := c_pairs4) (ys := [(k4, x6)]) (zs := c) rfl slt_112 rfl rfl (Nat.le_refl _) (fun _ => .c (.c (.c .h))) hz207 (SrcR.box (vss := [[.int .i64 k4, .int .i64 x6]]) (ys := [(k4, x6)]) 0 rfl (prE_ok (iE_ok _) (iE_ok _)) (.cons ⟨_, _, rfl, rfl, rfl⟩ .nil) rfl rfl) h290 g291 (by decide) ?_; intro a293 n297 c294 Lb295 hz296
      refine kO (kd kr) (uv (v_nilCheck rfl) (uv (v_fieldAddr fa_116_2 rfl) (o_storeSeg (i := 0) sizeOf112 rfl rfl rfl rfl rfl (st_skip (A := ([.slice walks_a walks.length walks_c] : List Value)) (k := 1) (p := 29) rfl (st_skip (A := ([.slice hears_a hears.length hears_c] : List Value)) (k := 1) (p := 28) rfl (st_skip (A := ([.int .i64 houses] : List Value)) (k := 1) (p := 27) rfl (st_skip (A := ([.int .i64 start] : List Value)) (k := 1) (p := 26) rfl (st_skip (A := ([.slice notices_a notices.length notices_c] : List Value)) (k := 1) (p := 25) rfl (st_skip (A := c_walks5.flatMap (cI .i64)) (k := 25) (p := 0) (lfl (cI_ok .i64) h96) (st_here (B := c_hit6.flatMap (cI .i64)) st_one))))))) (shO_L (L' := (b7, ce ((([.slice walks_a walks.length walks_c] : List Value) ++ (([.slice hears_a hears.length hears_c] : List Value) ++ (([.int .i64 houses] : List Value) ++ (([.int .i64 start] : List Value) ++ (([.slice notices_a notices.length notices_c] : List Value) ++ (c_walks5.flatMap (cI .i64) ++ (([.slice a293 n297 c294] : List Value) ++ (c_hit6.flatMap (cI .i64))))))))).toArray) 116) :: ((b1, ce #[.slice walks_a walks.length walks_c, .slice hears_a hears.length hears_c, .int .i64 houses, .int .i64 start, .slice notices_a notices.length notices_c] 26) :: (Lb295 ++ (Lb200 ++ [])))) rfl ?_))))
      refine shO_nil (inBlock_n (id := 9) ?_)
      obtain ⟨rfl, rfl⟩ := inj2 r292
      exact mi kr ⟨a293, n297, c294, Lb295, rfl, rfl, (sc rfl z8), hz296, h238⟩
     rintro e1 _ _ ⟨a220, n224, c221, Lb222, rfl, rfl, he299, hz223, h226⟩
     refine shW_env _ he299 (shW_region (uv (v_add rfl rfl (Lst.r64 hk211 c216 (SlR.llt hz201))) ?_))
     refine um (shO_nil ?_)
     subst hn212; exact le kr ⟨_, _, rfl, hk217, c_pairs5, c_hit5, a220, n224, c221, Lb222, r228, rfl, rfl, (sc rfl z8), hz223, h226⟩
    obtain rfl := Lst.zero hk211 c216
    rw [round_opened_l5] at r213
    refine shW_exit (andThen_exit (andThen_exit ?_))
    refine inBlock_exit (inBlock_n (id := 7) ?_)
    obtain ⟨rfl, rfl⟩ := inj2 r213
    exact mi (kc (kc (ka kn))) ⟨a204, n208, c205, Lb206, (hF187.trans hF195), rfl, z5, hz207, h210⟩
   rintro e1 F301 _ ⟨a162, n166, c163, Lb164, hF302, rfl, he300, hz165, h168⟩
   refine shW_env _ he300 ?_
   replace h_notices := h_notices.mono (prE_ok (slE_ok (iE_ok _)) (prE_ok (iE_ok _) (iE_ok _))) hF302
   refine shW_region (uv (v_add rfl rfl (Lst.r64 hk151 c158 (RowR.lt h_notices))) ?_)
   refine um (shO_nil ?_)
   subst hn152; exact le kr ⟨_, _, rfl, hk159, c_pairs3, c_hit3, a162, n166, c163, Lb164, r170, (hF156.trans hF302), rfl, z5, hz165, h168⟩
  obtain rfl := Lst.zero hk151 c158
  rw [round_opened_l4] at r153
  refine shW_exit (andThen_exit (andThen_exit ?_))
  refine inBlock_exit ?_
  obtain ⟨rfl, rfl⟩ := inj2 r153
  exact mi (kc (kd kr)) ⟨a144, n148, c145, Lb146, hF156, rfl, z1, hz147, h150⟩
 rintro e1 F304 _ ⟨a135, n139, c136, Lb137, hF305, rfl, he303, hz138, h141⟩
 refine shW_env _ he303 ?_
 replace h_walks := h_walks.mono (slE_ok (iE_ok _)) hF305
 replace h_hears := h_hears.mono (slE_ok (iE_ok _)) hF305
 replace h_notices := h_notices.mono (prE_ok (slE_ok (iE_ok _)) (prE_ok (iE_ok _) (iE_ok _))) hF305
 refine wsr (um (ua (ua (shO_nil ?_))))
 obtain rfl := (SlR.caps hz138).1
 refine shW_freezeR (Nat.le_refl _) (prE_ok (iE_ok _) (iE_ok _)) (fC fP) hz138 ?_; intro F306 hF307 h308
 replace h_walks := h_walks.mono (slE_ok (iE_ok _)) hF307
 replace h_hears := h_hears.mono (slE_ok (iE_ok _)) hF307
 replace h_notices := h_notices.mono (prE_ok (slE_ok (iE_ok _)) (prE_ok (iE_ok _) (iE_ok _))) hF307
 refine shW_freeze 0 rfl hb7 ?_; intro F309 hF310 hz311
 refine shW_L (L' := []) rfl ?_
 replace h_walks := h_walks.mono (slE_ok (iE_ok _)) hF310
 replace h_hears := h_hears.mono (slE_ok (iE_ok _)) hF310
 replace h_notices := h_notices.mono (prE_ok (slE_ok (iE_ok _)) (prE_ok (iE_ok _) (iE_ok _))) hF310
 replace h308 := h308.mono (prE_ok (iE_ok _) (iE_ok _)) hF310
 refine shW_ret (q_res2 results18 (res_tmp rfl) (res_tmp rfl) (sr) ?_)
 obtain ⟨rfl, rfl⟩ := inj2 r143
 exact ⟨_, rfl, rfl, ⟨_, _, _, rfl, hz311, ⟨_, _, rfl, ⟨_, _, rfl, h_walks⟩, ⟨_, _, rfl, ⟨_, _, rfl, h_hears⟩, ⟨_, _, rfl, rfl, ⟨_, _, rfl, rfl, ⟨_, _, rfl, ⟨_, _, rfl, h_notices⟩, ⟨_, _, rfl, ⟨rfl, h96⟩, ⟨_, _, rfl, ⟨_, _, rfl, h308⟩, ⟨rfl, h141⟩⟩⟩⟩⟩⟩⟩⟩⟩⟩
set_option maxHeartbeats 1000000 in
theorem round_crier_served_1_w {hears : List (List Int)} {notices : List ((List Int) × Int × Int)} {b_set_ : Nat} {mb_set_ : Nat × Nat} (hb_c : F b_c = some (.cells #[.pointer (some ⟨b_c_, 0, none⟩)] 69 mb_c)) (hb_c_ : F b_c_ = some (.cells ((([.slice walks_a walks.length walks_c] : List Value) ++ (([.slice hears_a hears.length hears_c] : List Value) ++ (([.int .i64 houses] : List Value) ++ (([.int .i64 start] : List Value) ++ (([.slice notices_a notices.length notices_c] : List Value) ++ (walks2.flatMap (cI .i64) ++ (([.slice pairs_a pairs.length pairs_c] : List Value) ++ (hit.flatMap (cI .i64))))))))).toArray) 116 mb_c_)) (_h_walks : RowR 1 (slE 1 (iE .i64)) F walks_a walks_c walks) (h_hears : RowR 1 (slE 1 (iE .i64)) F hears_a hears_c hears) (h_notices : RowR 3 (prE (slE 1 (iE .i64)) (prE (iE .i64) (iE .i64))) F notices_a notices_c notices) (h_walks2 : walks2.length = 25) (_h_pairs : RowR 2 (prE (iE .i64) (iE .i64)) F pairs_a pairs_c pairs) (h_hit : hit.length = 15) (hb_set_ : F b_set_ = some (.cells #[.int .i64 set_] 3 mb_set_)) {xs : List ((Int × Int) × Int)} (hr : round_crier_served_1 walks hears houses start notices walks2 pairs hit set_ = some xs) :
    IterOK Tryz.prog 80 #[] #[.pointer (some ⟨b_c, 0, none⟩), .pointer (some ⟨b_set_, 0, none⟩)] F (fun x : (Int × Int) × Int => #[.agg ((cP (cI .i64) (cI .i64)) x.1).toArray, .int .i64 x.2]) xs := by
 intro G0 hG0 yv J Jx hJm hJxm hy Fc L0 hG hJ0
 replace hb_c := (hG0.trans hG) _ _ hb_c
 replace hb_c_ := (hG0.trans hG) _ _ hb_c_
 replace h_hears := h_hears.mono (slE_ok (iE_ok _)) (hG0.trans hG)
 replace h_notices := h_notices.mono (prE_ok (slE_ok (iE_ok _)) (prE_ok (iE_ok _) (iE_ok _))) (hG0.trans hG)
 replace hb_set_ := (hG0.trans hG) _ _ hb_set_
 have hfull0 : xs = [] ++ xs := rfl
 show SH.Spec Tryz.prog 80 #[yv, .pointer (some ⟨b_c, 0, none⟩), .pointer (some ⟨b_set_, 0, none⟩)] Fc L0 _
 refine sp func80 ntmps80 fun K _ _ => ?_
 rw [round_crier_served_1] at hr; refine shW_L (L' := L0 ++ []) (by simp) ?_
 refine wsr (uv (v_load isAgg69 rfl (Has.frozen hb_c) rfl) (uv (v_nilCheck rfl) (uv (v_fieldAddr fa_116_0 rfl) (uv (v_fieldAddr fa_26_1 rfl) (uv (v_load isAgg23 rfl (Has.frozen hb_c_) (li_cell (li_skip (A := ([.slice walks_a walks.length walks_c] : List Value)) (k := 1) (o := 0) rfl (li_here rfl)))) (uv (v_lenS underlying23 rfl) ?_))))))
 refine um (shO_nil ?_)
 refine shW_block ?_
 refine shW_lp (fun fu1 e1 F1 L1 => LA hears fu1 fun tl k => ∃ (pre1 : List ((Int × Int) × Int)) (rem2 : List ((Int × Int) × Int)) (Lj3 : LH), round_crier_served_1_l1 notices hit set_ tl k = some rem2 ∧ FExt Fc F1 ∧ L1 = (Lj3 ++ []) ∧ e1.sub [(0, yv), (1, .pointer (some ⟨b_c, 0, none⟩)), (2, .pointer (some ⟨b_set_, 0, none⟩)), (12, .int .i64 (hears.length : Int)), (13, .int .i64 k)] ∧ xs = pre1 ++ rem2 ∧ J pre1 F1 Lj3 ∧ FExt G0 F1) _ (m0 kr ⟨_, _, rfl, Lst.start _, [], xs, L0, hr, FExt.refl _, rfl, z5, hfull0, hJ0, hG⟩) ?_
 rintro fu1 e1 F10 _ ⟨tl, k, hn7, hk6, pre1, rem2, Lj3, r8, hF11, rfl, he9, hfull5, hJ4, hG⟩
 refine shW_env _ he9 ?_
 replace h_hears := h_hears.mono (slE_ok (iE_ok _)) hF11
 replace h_notices := h_notices.mono (prE_ok (slE_ok (iE_ok _)) (prE_ok (iE_ok _) (iE_ok _))) hF11
 replace hb_c_ := hF11 _ _ hb_c_
 replace hb_c := hF11 _ _ hb_c
 replace hb_set_ := hF11 _ _ hb_set_
 refine wsr (uv (v_lssK rfl rfl) ?_)
 refine shO_nil (shW_seq ?_)
 refine cQ (fun c13 => ?_) fun c13 => ?_
 ·obtain ⟨x, tl2, rfl, hx15, g16, hk14⟩ := Lst.succ hk6 c13
  rw [round_crier_served_1_l1] at r8
  refine shW_skip ?_
  refine shW_join (fun e1 F1 L1 => ∃ (pre17 : List ((Int × Int) × Int)) (rem18 : List ((Int × Int) × Int)) (Lj19 : LH), round_crier_served_1_j2 k (round_crier_served_1_l1 notices hit set_ tl2) = some rem18 ∧ FExt F10 F1 ∧ L1 = (Lj19 ++ []) ∧ e1.sub [(0, yv), (1, .pointer (some ⟨b_c, 0, none⟩)), (2, .pointer (some ⟨b_set_, 0, none⟩)), (12, .int .i64 (hears.length : Int)), (13, .int .i64 k)] ∧ xs = pre17 ++ rem18 ∧ J pre17 F1 Lj19 ∧ FExt G0 F1) ?_ ?_
  ·refine shW_block ?_
   refine wsr (um (ua (nsr ?_)))
   refine uv (v_load isAgg69 rfl (Has.frozen hb_c) rfl) (uv (v_nilCheck rfl) (uv (v_fieldAddr fa_116_0 rfl) (uv (v_fieldAddr fa_26_4 rfl) (uv (v_load isAgg24 rfl (Has.frozen hb_c_) (li_cell (li_skip (A := ([.slice walks_a walks.length walks_c] : List Value)) (k := 1) (o := 3) rfl (li_skip (A := ([.slice hears_a hears.length hears_c] : List Value)) (k := 1) (o := 2) rfl (li_skip (A := ([.int .i64 houses] : List Value)) (k := 1) (o := 1) rfl (li_skip (A := ([.int .i64 start] : List Value)) (k := 1) (o := 0) rfl (li_here rfl))))))) (uv (v_lenS underlying24 rfl) ?_)))))
   refine um (shO_nil ?_)
   refine shW_block ?_
   refine shW_lp (fun fu3 e1 F1 L1 => LA notices fu3 fun tl3 k2 => ∃ (pre22 : List ((Int × Int) × Int)) (rem23 : List ((Int × Int) × Int)) (Lj24 : LH), round_crier_served_1_l3 hit set_ k (round_crier_served_1_l1 notices hit set_ tl2) tl3 k2 = some rem23 ∧ FExt F10 F1 ∧ L1 = (Lj24 ++ []) ∧ e1.sub [(0, yv), (1, .pointer (some ⟨b_c, 0, none⟩)), (2, .pointer (some ⟨b_set_, 0, none⟩)), (4, .int .i64 k), (12, .int .i64 (hears.length : Int)), (13, .int .i64 k), (21, .int .i64 (notices.length : Int)), (22, .int .i64 k2)] ∧ xs = pre22 ++ rem23 ∧ J pre22 F1 Lj24 ∧ FExt G0 F1) _ (m0 kr ⟨_, _, rfl, Lst.start _, pre1, rem2, Lj3, r8, FExt.refl _, rfl, z8, hfull5, hJ4, hG⟩) ?_
   rintro fu3 e1 F31 _ ⟨tl3, k2, hn28, hk27, pre22, rem23, Lj24, r29, hF32, rfl, he30, hfull26, hJ25, hG⟩
   refine shW_env _ he30 ?_
   replace h_notices := h_notices.mono (prE_ok (slE_ok (iE_ok _)) (prE_ok (iE_ok _) (iE_ok _))) hF32
   replace hb_c_ := hF32 _ _ hb_c_
   replace hb_c := hF32 _ _ hb_c
   replace hb_set_ := hF32 _ _ hb_set_
   refine wsr (uv (v_lssK rfl rfl) ?_)
   refine shO_nil (shW_seq ?_)
   refine cQ (fun c34 => ?_) fun c34 => ?_
   ·obtain ⟨x2, tl4, rfl, hx36, g37, hk35⟩ := Lst.succ hk27 c34
    rw [round_crier_served_1_l3] at r29
    refine shW_skip (shW_seq ?_)
    refine shW_block ?_
    refine wsr (um (ua ?_))
    refine dN (wv (v_load isAgg3 rfl (Has.frozen hb_set_) rfl) (wv (v_load isAgg69 rfl (Has.frozen hb_c) rfl) ?_))
    refine wm (wm ?_)
    refine wv (v_nilCheck rfl) (wv (v_fieldAddr fa_116_3 rfl) ?_)
    obtain ⟨g38, r39⟩ := gd_ok r29
    refine wv (v_indexA underlying114 sizeOf113 rfl rfl g38) ?_
    obtain ⟨g40, r41⟩ := gd_ok r39
    obtain ⟨x3, g42, hx43, r44⟩ := ix_ok r41
    have hq46 : (k * 3 + k2 : Int).toNat = (k : Int).toNat * 3 + (k2 : Int).toNat := by have := g38; have := g40; omega
    have hc45 := el_at2 (cI_ok .i64) h_hit hq46 hx43 (li_arr (li_skip (A := ([.slice walks_a walks.length walks_c] : List Value)) (k := 1) (o := 30) rfl (li_skip (A := ([.slice hears_a hears.length hears_c] : List Value)) (k := 1) (o := 29) rfl (li_skip (A := ([.int .i64 houses] : List Value)) (k := 1) (o := 28) rfl (li_skip (A := ([.int .i64 start] : List Value)) (k := 1) (o := 27) rfl (li_skip (A := ([.slice notices_a notices.length notices_c] : List Value)) (k := 1) (o := 26) rfl (li_skip (A := walks2.flatMap (cI .i64)) (k := 25) (o := 1) (lfl (cI_ok .i64) h_walks2) (li_skip (A := ([.slice pairs_a pairs.length pairs_c] : List Value)) (k := 1) (o := 0) rfl (li_end (lfl (cI_ok .i64) h_hit)))))))))) (li_le (li_skip (A := ([.slice walks_a walks.length walks_c] : List Value)) (k := 1) (o := 30) rfl (li_skip (A := ([.slice hears_a hears.length hears_c] : List Value)) (k := 1) (o := 29) rfl (li_skip (A := ([.int .i64 houses] : List Value)) (k := 1) (o := 28) rfl (li_skip (A := ([.int .i64 start] : List Value)) (k := 1) (o := 27) rfl (li_skip (A := ([.slice notices_a notices.length notices_c] : List Value)) (k := 1) (o := 26) rfl (li_skip (A := walks2.flatMap (cI .i64)) (k := 25) (o := 1) (lfl (cI_ok .i64) h_walks2) (li_skip (A := ([.slice pairs_a pairs.length pairs_c] : List Value)) (k := 1) (o := 0) rfl (li_end (lfl (cI_ok .i64) h_hit))))))))))
    refine wv (v_indexA underlying113 sizeOf3 rfl rfl g40) (wv (v_load isAgg3 rfl (Has.frozen hb_c_) ((hc45).2.2 0 (by decide))) (wv (v_andNot rfl rfl) ?_))
    refine wa (qsr (um ?_))
    refine uv (v_load isAgg3 rfl (Has.frozen hb_set_) rfl) (uv (v_neq rfl rfl) (um ?_))
    by_cases c47 : (bandn set_ x3) ≠ set_
    ·have r48 := ite_t r44 c47
     refine nT c47 (um (nT c47 (um (nT c47 (um (nT c47 ?_))))))
     refine uv (v_build (v := .agg #[.int .i64 k, .int .i64 k2]) rfl (by intro w; kernel_rfl)) ?_
     refine nT c47 (um (nT c47 ?_))
     obtain ⟨tl49, r51, hx50⟩ := yl_ok r48
     refine o_callC (Lb := Lj24) (Lr := []) (vs := [.agg #[.int .i64 k, .int .i64 k2], .int .i64 (bandn set_ x3)]) rfl rfl rfl fP (hy pre22 ((k, k2), bandn set_ x3) tl49 (by rw [hfull26, hx50]) _ _ hG hJ25) ?_
     rintro v59 F52 Lj53 hF54 hz55; obtain ⟨yb56, rfl, hbt57, hbf58⟩ := yield_bool hz55
     replace h_notices := h_notices.mono (prE_ok (slE_ok (iE_ok _)) (prE_ok (iE_ok _) (iE_ok _))) hF54
     replace hG := hG.trans hF54
     refine nT c47 (uv (v_notB rfl) (uv (v_pick_t (evD_true rfl c47) rfl) (shO_nil ?_)))
     refine shW_cond rfl (fun c60 => ?_) (fun c60 => ?_)
     ·have hJ61 := hbf58 (by simpa using c60)
      refine shW_ret (inBlock_ret (andThen_ret (andThen_ret (inBlock_ret (inBlock_ret (andThen_ret (andThen_ret (inBlock_ret ?_))))))))
      refine q_end0s (.inl rfl) results80 (sr) ?_
      exact .inr (by rw [List.append_nil]; exact hJ61)
     have hJ62 := hbt57 (by simpa using c60)
     have hfull63 : xs = (pre22 ++ [((k, k2), bandn set_ x3)]) ++ tl49 := by rw [hfull26, hx50]; simp
     refine shW_skip (inBlock_n (id := 3) (shW_region ?_))
     refine uv (v_add rfl rfl (Lst.r64 hk27 c34 (RowR.lt h_notices))) ?_
     refine um (shO_nil ?_)
     subst hn28; exact le kr ⟨_, _, rfl, hk35, pre22 ++ [((k, k2), bandn set_ x3)], tl49, Lj53, r51, (hF32.trans hF54), rfl, z8, hfull63, hJ62, hG⟩
    have r64 := ite_f r44 c47
    refine fF c47 (fF c47 (fF c47 (fF c47 (fF c47 (fF c47 (fF c47 ?_))))))
    refine uv (v_pick_f (evD_false rfl c47) rfl) (shO_nil ?_)
    refine shW_cond rfl (fun c65 => nomatch c65) (fun c65 => ?_)
    refine shW_skip (inBlock_n (id := 3) (shW_region ?_))
    refine uv (v_add rfl rfl (Lst.r64 hk27 c34 (RowR.lt h_notices))) ?_
    refine um (shO_nil ?_)
    subst hn28; exact le kr ⟨_, _, rfl, hk35, pre22, rem23, Lj24, r64, hF32, rfl, z8, hfull26, hJ25, hG⟩
   obtain rfl := Lst.zero hk27 c34
   rw [round_crier_served_1_l3] at r29
   refine shW_exit (andThen_exit (andThen_exit ?_))
   refine inBlock_exit (inBlock_n (id := 1) ?_)
   exact mi kr ⟨pre22, rem23, Lj24, r29, hF32, rfl, z5, hfull26, hJ25, hG⟩
  rintro e1 F68 _ ⟨pre17, rem18, Lj19, r66, hF69, rfl, he67, hfull21, hJ20, hG⟩
  refine shW_env _ he67 ?_
  replace h_hears := h_hears.mono (slE_ok (iE_ok _)) hF69
  rw [round_crier_served_1_j2] at r66
  refine shW_region (uv (v_add rfl rfl (Lst.r64 hk6 c13 (RowR.lt h_hears))) ?_)
  refine um (shO_nil ?_)
  subst hn7; exact le kr ⟨_, _, rfl, hk14, pre17, rem18, Lj19, r66, (hF11.trans hF69), rfl, z5, hfull21, hJ20, hG⟩
 obtain rfl := Lst.zero hk6 c13
 rw [round_crier_served_1_l1] at r8
 refine shW_exit (andThen_exit (andThen_exit ?_))
 refine inBlock_exit (q_end0s (.inr rfl) results80 (sr) ?_)
 obtain rfl := inj1 r8
 exact .inl (by have e1 := hfull5; rw [List.append_nil] at e1; rw [List.append_nil, e1]; exact hJ4)
set_option maxHeartbeats 1000000 in
theorem round_crier_served_w {hears : List (List Int)} {notices : List ((List Int) × Int × Int)} (hb_c : F b_c = some (.cells ((([.slice walks_a walks.length walks_c] : List Value) ++ (([.slice hears_a hears.length hears_c] : List Value) ++ (([.int .i64 houses] : List Value) ++ (([.int .i64 start] : List Value) ++ (([.slice notices_a notices.length notices_c] : List Value) ++ (walks2.flatMap (cI .i64) ++ (([.slice pairs_a pairs.length pairs_c] : List Value) ++ (hit.flatMap (cI .i64))))))))).toArray) 116 mb_c)) (h_walks : RowR 1 (slE 1 (iE .i64)) F walks_a walks_c walks) (h_hears : RowR 1 (slE 1 (iE .i64)) F hears_a hears_c hears) (h_notices : RowR 3 (prE (slE 1 (iE .i64)) (prE (iE .i64) (iE .i64))) F notices_a notices_c notices) (h_walks2 : walks2.length = 25) (h_pairs : RowR 2 (prE (iE .i64) (iE .i64)) F pairs_a pairs_c pairs) (h_hit : hit.length = 15) {r : List ((Int × Int) × Int)} (hr : round_crier_served walks hears houses start notices walks2 pairs hit set_ = some r) :
    SH.Spec Tryz.prog 43 #[.pointer (some ⟨b_c, 0, none⟩), .int .i64 set_] F [] fun F' L' v => ∃ (rcp : Array Value), v = .func (.func 80) #[] rcp ∧ L' = [] ∧ IterOK Tryz.prog 80 #[] rcp F' (fun x : (Int × Int) × Int => #[.agg ((cP (cI .i64) (cI .i64)) x.1).toArray, .int .i64 x.2]) r := by
 refine sp func43 ntmps43 fun K _ _ => ?_
 rw [round_crier_served] at hr
 refine wsr ?_
 refine o_box rfl rfl ?_; intro b1 hb1
 refine o_box rfl rfl ?_; intro b2 hb2
 refine ua (nsr ?_)
 refine uv (v_makeFunc rfl rfl) ?_
 refine ua (shO_nil ?_)
 refine shW_freeze 1 rfl hb1 ?_; intro F3 hF4 hz5
 refine shW_L (L' := [(b2, ce #[.int .i64 set_] 3)]) rfl ?_
 replace h_walks := h_walks.mono (slE_ok (iE_ok _)) hF4
 replace h_hears := h_hears.mono (slE_ok (iE_ok _)) hF4
 replace h_notices := h_notices.mono (prE_ok (slE_ok (iE_ok _)) (prE_ok (iE_ok _) (iE_ok _))) hF4
 replace h_pairs := h_pairs.mono (prE_ok (iE_ok _) (iE_ok _)) hF4
 replace hb_c := hF4 _ _ hb_c
 refine shW_freeze 0 rfl hb2 ?_; intro F6 hF7 hz8
 refine shW_L (L' := []) rfl ?_
 replace h_walks := h_walks.mono (slE_ok (iE_ok _)) hF7
 replace h_hears := h_hears.mono (slE_ok (iE_ok _)) hF7
 replace h_notices := h_notices.mono (prE_ok (slE_ok (iE_ok _)) (prE_ok (iE_ok _) (iE_ok _))) hF7
 replace h_pairs := h_pairs.mono (prE_ok (iE_ok _) (iE_ok _)) hF7
 replace hb_c := hF7 _ _ hb_c
 replace hz5 := hF7 _ _ hz5
 obtain ⟨l, h9, r11⟩ := b1_ok hr
 have hit10 : IterOK Tryz.prog 80 #[] #[.pointer (some ⟨b1, 0, none⟩), .pointer (some ⟨b2, 0, none⟩)] F6 (fun x : (Int × Int) × Int => #[.agg ((cP (cI .i64) (cI .i64)) x.1).toArray, .int .i64 x.2]) l := round_crier_served_1_w hz5 hb_c h_walks h_hears h_notices h_walks2 h_pairs h_hit hz8 h9
 refine shW_ret (qR1 results43 ?_)
 obtain rfl := inj1 r11
 exact ⟨_, rfl, rfl, hit10⟩
set_option maxHeartbeats 1000000 in
theorem slices_Reverse_round_Cry_round_Cry_w {s_ : List (Int × Int)} (h_s_ : SlR s__nb 47 2 (prE (iE .i64) (iE .i64)) F s__a s__n s__c s_ s__L) {r : List (Int × Int)} (hr : slices_Reverse_round_Cry_round_Cry s_ = some r) :
    SH.Spec Tryz.prog 44 #[.slice s__a s__n s__c] F (s__L ++ []) fun F' L' v => ∃ (rL : LH), v = .tuple #[] ∧ L' = rL ++ [] ∧ SlR s__nb 47 2 (prE (iE .i64) (iE .i64)) F' s__a s__n s__c r rL := by
 refine sp func44 ntmps44 fun K _ _ => ?_
 rw [slices_Reverse_round_Cry_round_Cry] at hr
 refine shW_L (L' := s__L ++ []) (by simp) ?_
 refine wsr (um ?_)
 refine uv ((v_lenS underlying30 rfl).i (SlR.lenI h_s_)) ?_
 obtain ⟨g1, r2⟩ := gd_ok hr
 refine uv (v_sub rfl rfl g1) ?_
 refine ua (ua (shO_nil ?_))
 refine shW_block ?_
 refine shW_lp (fun fu1 e1 F1 L1 => ∃ (s_2 : List (Int × Int)) (i : Int) (j : Int) (Lb3 : LH), slices_Reverse_round_Cry_round_Cry_l1 fu1 s_2 i j = some r ∧ F = F1 ∧ L1 = (Lb3 ++ []) ∧ e1.sub [(0, .slice s__a s__n s__c), (2, .int .i64 i), (3, .int .i64 j)] ∧ SlR s__nb 47 2 (prE (iE .i64) (iE .i64)) F1 s__a s__n s__c s_2 Lb3) FU (m0 kr ⟨s_, 0, (s_.length : Int) - 1, s__L, r2, rfl, rfl, z3, h_s_⟩) ?_
 rintro fu1 e1 _ _ ⟨s_2, i, j, Lb3, r7, rfl, rfl, he8, hz4⟩
 refine shW_env _ he8 ?_
 rcases fu1 with _ | fu1
 ·rw [slices_Reverse_round_Cry_round_Cry_l1] at r7; cases r7
 rw [slices_Reverse_round_Cry_round_Cry_l1] at r7
 refine shW_seq (wsr (um (um ?_)))
 refine uv (v_lssK rfl rfl) (shO_nil ?_)
 refine cQ (fun c9 => ?_) fun c9 => ?_
 ·have r10 := ite_t r7 c9
  refine shW_skip (shW_seq ?_)
  refine shW_block (shW_drawM [(.still, 0), (.still, 1), (.still, 2), (.still, 3), (.still, 4), (.still, 5), (.still, 6), (.still, 7), (.still, 8), (.still, 9), (.still, 10), (.still, 11), (.still, 12), (.seq, 13), (.still, 14), (.seq, 15)] (by kernel_rfl) (by kernel_rfl) (trivial) (by rfl) (by kernel_rfl) (mS [0] rfl (v_move rfl) (mS [2] rfl (v_move rfl) (mS [0] rfl (v_move rfl) (mS [3] rfl (v_move rfl) (mS [0] rfl (v_move rfl) (mS [3] rfl (v_move rfl) ?_)))))))
  obtain ⟨x, g11, hx12, r13⟩ := ix_ok r10
  obtain ⟨b14, o15, c16, vs17, ha18, hs19, hle20, ⟨_, _, rfl, rfl, rfl⟩, hl21, hc22⟩ := SlR.at (prE_ok (iE_ok _) (iE_ok _)) hz4 (L := Lb3 ++ []) fP g11.1 hx12
  refine mS [18, 19] rfl (v_indexO underlying30 sizeOf47 rfl ha18 rfl (SlR.idx hz4 g11)) (mL [20] (Lb3 ++ []) rfl (s0 sr) (fun H F' L' hF' hL' => v_loadA isAgg47 sizeOf47 rfl (hs19.ext hF' hL') hle20 (extract_cells hle20 hl21 hc22)) (mS [0] rfl (v_move rfl) (mS [2] rfl (v_move rfl) ?_)))
  obtain ⟨x2, g23, hx24, r25⟩ := ix_ok r13
  obtain ⟨b26, o27, c28, vs29, ha30, hs31, hle32, ⟨_, _, rfl, rfl, rfl⟩, hl33, hc34⟩ := SlR.at (prE_ok (iE_ok _) (iE_ok _)) hz4 (L := Lb3 ++ []) fP g23.1 hx24
  refine mS [22, 23] rfl (v_indexO underlying30 sizeOf47 rfl ha30 rfl (SlR.idx hz4 g23)) (mL [24] (Lb3 ++ []) rfl (s0 sr) (fun H F' L' hF' hL' => v_loadA isAgg47 sizeOf47 rfl (hs31.ext hF' hL') hle32 (extract_cells hle32 hl33 hc34)) ?_)
  obtain ⟨b35, o36, c37, vs38, ha39, hs40, hle41, ⟨_, _, rfl, rfl, rfl⟩, hl42, hc43⟩ := SlR.at (prE_ok (iE_ok _) (iE_ok _)) hz4 (L := Lb3 ++ []) fP g23.1 hx24
  refine mS [14, 15] rfl (v_indexO underlying30 sizeOf47 rfl ha39 rfl (SlR.idx hz4 g23)) ?_
  refine ⟨_, [(21, .agg #[.int .i64 x.1, .int .i64 x.2]), (26, .pointer (some ⟨b35, o36 + (i : Int).toNat * 2, none⟩))], rfl, rfl, z2, by kernel_rfl, ?_⟩; intro H
  obtain ⟨l, h44, r45⟩ := bv_ok r25
  refine o_storeZ (u := (x.1, x.2)) sizeOf47 (prE_ok (iE_ok _) (iE_ok _)) rfl ha39 rfl ⟨_, _, rfl, rfl, rfl⟩ (fun _ => .h) hz4 h44 g23 ?_; intro Lb46 hz47
  refine shO_nil ⟨undef, rfl, FExt.refl _, [3, 2], by kernel_rfl, .inl (.inr (fun d h => by cases h)), (fc sm (fc sm nm)), ?_⟩
  obtain ⟨x3, g48, hx49, r50⟩ := ix_ok r45
  obtain ⟨b51, o52, c53, vs54, ha55, hs56, hle57, ⟨_, _, rfl, rfl, rfl⟩, hl58, hc59⟩ := SlR.at (prE_ok (iE_ok _) (iE_ok _)) hz47 (L := Lb46 ++ []) fP g48.1 hx49
  refine mS [16, 17] rfl (v_indexO underlying30 sizeOf47 rfl ha55 rfl (SlR.idx hz47 g48)) ?_
  refine ⟨_, [(25, .agg #[.int .i64 x2.1, .int .i64 x2.2]), (27, .pointer (some ⟨b51, o52 + (j : Int).toNat * 2, none⟩))], rfl, rfl, z2, by kernel_rfl, ?_⟩; intro H
  obtain ⟨l2, h60, r61⟩ := bv_ok r50
  refine o_storeZ (u := (x2.1, x2.2)) sizeOf47 (prE_ok (iE_ok _) (iE_ok _)) rfl ha55 rfl ⟨_, _, rfl, rfl, rfl⟩ (fun _ => .h) hz47 h60 g48 ?_; intro Lb62 hz63
  refine shO_nil ⟨undef, rfl, FExt.refl _, [], by kernel_rfl, .inl (.inl rfl), nm, ?_⟩
  refine shM_nil ?_
  refine inBlock_n (id := 1) (shW_region (um ?_))
  obtain ⟨g64, r65⟩ := gd_ok r61
  refine uv (v_add rfl rfl g64) (um ?_)
  obtain ⟨g66, r67⟩ := gd_ok r65
  refine uv (v_sub rfl rfl g66) ?_
  refine ua (ua (shO_nil ?_))
  exact le kr ⟨l2, i + 1, j - 1, Lb62, r67, rfl, rfl, z3, hz63⟩
 have r68 := ite_f r7 c9
 refine shW_exit (andThen_exit (andThen_exit ?_))
 refine inBlock_exit (q_end0 (.inr rfl) results44 ?_)
 obtain rfl := inj1 r68
 exact ⟨_, rfl, rfl, hz4⟩
set_option maxHeartbeats 1000000 in
theorem round_crier_serve_w {hears : List (List Int)} {notices : List ((List Int) × Int × Int)} {ok_f : FuncId} {ok_1 ok_2 : Array Value} {ok : (Int × Int) → Option Bool} (hb_c : F b_c = some (.cells ((([.slice walks_a walks.length walks_c] : List Value) ++ (([.slice hears_a hears.length hears_c] : List Value) ++ (([.int .i64 houses] : List Value) ++ (([.int .i64 start] : List Value) ++ (([.slice notices_a notices.length notices_c] : List Value) ++ (walks2.flatMap (cI .i64) ++ (([.slice pairs_a pairs.length pairs_c] : List Value) ++ (hit.flatMap (cI .i64))))))))).toArray) 116 mb_c)) (h_walks : RowR 1 (slE 1 (iE .i64)) F walks_a walks_c walks) (h_hears : RowR 1 (slE 1 (iE .i64)) F hears_a hears_c hears) (h_notices : RowR 3 (prE (slE 1 (iE .i64)) (prE (iE .i64) (iE .i64))) F notices_a notices_c notices) (h_walks2 : walks2.length = 25) (h_pairs : RowR 2 (prE (iE .i64) (iE .i64)) F pairs_a pairs_c pairs) (h_hit : hit.length = 15) (h_ok : FnR Tryz.prog F ok_f ok_1 ok_2 (prE (iE .i64) (iE .i64)) Value.bool ok) {r : List (Int × Int)} {r2 : Int} {r3 : Bool} (hr : round_crier_serve walks hears houses start notices walks2 pairs hit set_ ok = some (r, r2, r3)) :
    SH.Spec Tryz.prog 19 #[.pointer (some ⟨b_c, 0, none⟩), .int .i64 set_, .agg #[.func (.func ok_f) ok_1 ok_2]] F [] fun F' L' v => ∃ (ra : Option Addr) (rn : Nat) (rc : Nat) (rL : LH), v = .tuple #[.slice ra rn rc, .int .i64 r2, .bool r3] ∧ L' = rL ++ [] ∧ SlR 0 47 2 (prE (iE .i64) (iE .i64)) F' ra rn rc r rL := by
 refine sp func19 ntmps19 fun K _ _ => ?_
 rw [round_crier_serve] at hr
 refine wsr ?_
 refine o_box rfl rfl ?_; intro b1 hb1
 refine o_box rfl rfl ?_; intro b2 hb2
 refine ua (ua (ua (nsr ?_)))
 refine o_makeMap rfl ?_; intro b3 hb3
 refine uv (v_load isAgg69 rfl (Has.own 2 rfl) rfl) (uv (v_nilCheck rfl) (uv (v_fieldAddr fa_116_0 rfl) (uv (v_fieldAddr fa_26_3 rfl) (uv (v_load isAgg3 rfl (Has.frozen hb_c) (li_cell (li_skip (A := ([.slice walks_a walks.length walks_c] : List Value)) (k := 1) (o := 2) rfl (li_skip (A := ([.slice hears_a hears.length hears_c] : List Value)) (k := 1) (o := 1) rfl (li_skip (A := ([.int .i64 houses] : List Value)) (k := 1) (o := 0) rfl (li_here (B := ([.slice notices_a notices.length notices_c] : List Value) ++ (walks2.flatMap (cI .i64) ++ (([.slice pairs_a pairs.length pairs_c] : List Value) ++ (hit.flatMap (cI .i64))))) rfl)))))) (um ?_)))))
 refine uv (v_build (v := .agg #[.int .i64 start, .int .i64 set_]) rfl (by intro w; kernel_rfl)) ?_
 refine uv (v_build (v := .agg #[.int .i64 0, .int .i64 0, .int .i64 0, .int .i64 0, .int .i64 0]) rfl (by intro w; kernel_rfl)) ?_
 refine o_insert (i := 0) (k := (start, set_)) (v := (0, 0, 0, 0, 0)) underlying128 key_125 rfl rfl rfl rfl (show MapR (vA (cP (cI .i64) (cI .i64))) (vA (cP (cI .i64) (cP (cI .i64) (cP (cI .i64) (cP (cI .i64) (cI .i64)))))) #[] ([] : List ((Int × Int) × (Int × Int × Int × Int × Int))) from MapR.nil) ?_; intro es4 cl5 hR6
 obtain ⟨met, h7, r8⟩ := bv_ok hr
 rw [← h7] at hR6
 refine shO_L rfl (um ?_)
 refine o_alloc rfl zeroValue128 ?_; intro b9 hb9
 refine o_store (i := 0) sizeOf128 rfl rfl rfl rfl (nbL rfl) (shO_L rfl (shO_nil ?_))
 obtain ⟨met2, h13, r14⟩ := b1_ok r8
 refine shW_join (fun e1 F1 L1 => ∃ (es10 : Array MapEntry) (cl11 : Nat), FExt F F1 ∧ L1 = [(b9, ce #[.map (some b3)] 128), (b3, .map es10 cl11), (b1, ce #[.pointer (some ⟨b_c, 0, none⟩)] 69)] ∧ e1.sub [(1, .int .i64 set_), (3, .pointer (some ⟨b1, 0, none⟩)), (9, .pointer (some ⟨b9, 0, none⟩))] ∧ MapR (vA (cP (cI .i64) (cI .i64))) (vA (cP (cI .i64) (cP (cI .i64) (cP (cI .i64) (cP (cI .i64) (cI .i64)))))) es10 met2) ?_ ?_
 ·clear r14
  refine wsr (um (ua (shO_nil ?_)))
  refine shW_block ?_
  refine shW_lp (fun fu1 e1 F1 L1 => ∃ (met3 : List ((Int × Int) × (Int × Int × Int × Int × Int))) (left_ : Int) (es15 : Array MapEntry) (cl16 : Nat), round_crier_serve_l1 walks hears houses start notices walks2 pairs hit set_ ok fu1 met3 left_ = some met2 ∧ FExt F F1 ∧ L1 = [(b9, ce #[.map (some b3)] 128), (b3, .map es15 cl16), (b2, ce #[.func (.func ok_f) ok_1 ok_2] 77), (b1, ce #[.pointer (some ⟨b_c, 0, none⟩)] 69)] ∧ e1.sub [(1, .int .i64 set_), (3, .pointer (some ⟨b1, 0, none⟩)), (5, .pointer (some ⟨b2, 0, none⟩)), (9, .pointer (some ⟨b9, 0, none⟩)), (10, .int .i64 left_)] ∧ MapR (vA (cP (cI .i64) (cI .i64))) (vA (cP (cI .i64) (cP (cI .i64) (cP (cI .i64) (cP (cI .i64) (cI .i64)))))) es15 met3) FU (m0 kr ⟨met, set_, es4, cl5, h13, FExt.refl _, rfl, z5, hR6⟩) ?_
  rintro fu1 e1 F22 _ ⟨met3, left_, es15, cl16, r20, hF23, rfl, he21, hR17⟩
  refine shW_env _ he21 ?_
  replace h_walks := h_walks.mono (slE_ok (iE_ok _)) hF23
  replace h_hears := h_hears.mono (slE_ok (iE_ok _)) hF23
  replace h_notices := h_notices.mono (prE_ok (slE_ok (iE_ok _)) (prE_ok (iE_ok _) (iE_ok _))) hF23
  replace h_pairs := h_pairs.mono (prE_ok (iE_ok _) (iE_ok _)) hF23
  replace h_ok := h_ok.mono hF23
  replace hb_c := hF23 _ _ hb_c
  rcases fu1 with _ | fu1
  ·rw [round_crier_serve_l1] at r20; cases r20
  rw [round_crier_serve_l1] at r20
  refine shW_seq (wsr (um ?_))
  refine uv (v_gtrK rfl rfl) (shO_nil ?_)
  refine cQ (fun c24 => ?_) fun c24 => ?_
  ·have r25 := ite_t r20 c24
   refine shW_skip ?_
   obtain ⟨met4, h29, r30⟩ := b1_ok r25
   refine shW_join (fun e1 F1 L1 => ∃ (es26 : Array MapEntry) (cl27 : Nat), FExt F22 F1 ∧ L1 = [(b9, ce #[.map (some b3)] 128), (b3, .map es26 cl27), (b2, ce #[.func (.func ok_f) ok_1 ok_2] 77), (b1, ce #[.pointer (some ⟨b_c, 0, none⟩)] 69)] ∧ e1.sub [(1, .int .i64 set_), (3, .pointer (some ⟨b1, 0, none⟩)), (5, .pointer (some ⟨b2, 0, none⟩)), (9, .pointer (some ⟨b9, 0, none⟩)), (10, .int .i64 left_)] ∧ MapR (vA (cP (cI .i64) (cI .i64))) (vA (cP (cI .i64) (cP (cI .i64) (cP (cI .i64) (cP (cI .i64) (cI .i64)))))) es26 met4) ?_ ?_
   ·clear r30
    refine shW_block ?_
    refine shW_seq (wsr (um (um ?_)))
    refine uv (v_andNot rfl rfl) (uv (v_neq rfl rfl) (shO_nil ?_))
    refine cQ (fun c31 => ?_) fun c31 => ?_
    ·have r32 := ite_t h29 c31
     refine shW_exit (andThen_exit ?_)
     refine inBlock_exit ?_
     obtain rfl := inj1 r32
     exact mi kr ⟨es15, cl16, FExt.refl _, rfl, z5, hR17⟩
    have r33 := ite_f h29 c31
    refine shW_skip (wsr ?_)
    refine uv (v_load isAgg69 rfl (Has.own 3 rfl) rfl) (uv (v_nilCheck rfl) (uv (v_fieldAddr fa_116_0 rfl) (uv (v_fieldAddr fa_26_1 rfl) (uv (v_load isAgg23 rfl (Has.frozen hb_c) (li_cell (li_skip (A := ([.slice walks_a walks.length walks_c] : List Value)) (k := 1) (o := 0) rfl (li_here (B := ([.int .i64 houses] : List Value) ++ (([.int .i64 start] : List Value) ++ (([.slice notices_a notices.length notices_c] : List Value) ++ (walks2.flatMap (cI .i64) ++ (([.slice pairs_a pairs.length pairs_c] : List Value) ++ (hit.flatMap (cI .i64))))))) rfl)))) (uv (v_lenS underlying23 rfl) ?_)))))
    refine um (shO_nil ?_)
    refine shW_block ?_
    refine shW_lp (fun fu2 e1 F1 L1 => LA hears fu2 fun tl k => ∃ (met5 : List ((Int × Int) × (Int × Int × Int × Int × Int))) (es34 : Array MapEntry) (cl35 : Nat), round_crier_serve_l2 walks hears houses start notices walks2 pairs hit ok left_ tl k met5 = some met4 ∧ FExt F22 F1 ∧ L1 = [(b9, ce #[.map (some b3)] 128), (b3, .map es34 cl35), (b2, ce #[.func (.func ok_f) ok_1 ok_2] 77), (b1, ce #[.pointer (some ⟨b_c, 0, none⟩)] 69)] ∧ e1.sub [(1, .int .i64 set_), (3, .pointer (some ⟨b1, 0, none⟩)), (5, .pointer (some ⟨b2, 0, none⟩)), (9, .pointer (some ⟨b9, 0, none⟩)), (10, .int .i64 left_), (53, .int .i64 (hears.length : Int)), (54, .int .i64 k)] ∧ MapR (vA (cP (cI .i64) (cI .i64))) (vA (cP (cI .i64) (cP (cI .i64) (cP (cI .i64) (cP (cI .i64) (cI .i64)))))) es34 met5) _ (m0 kr ⟨_, _, rfl, Lst.start _, met3, es15, cl16, r33, FExt.refl _, rfl, z7, hR17⟩) ?_
    rintro fu2 e1 F41 _ ⟨tl, k, hn38, hk37, met5, es34, cl35, r39, hF42, rfl, he40, hR36⟩
    refine shW_env _ he40 ?_
    replace h_walks := h_walks.mono (slE_ok (iE_ok _)) hF42
    replace h_hears := h_hears.mono (slE_ok (iE_ok _)) hF42
    replace h_notices := h_notices.mono (prE_ok (slE_ok (iE_ok _)) (prE_ok (iE_ok _) (iE_ok _))) hF42
    replace h_pairs := h_pairs.mono (prE_ok (iE_ok _) (iE_ok _)) hF42
    replace h_ok := h_ok.mono hF42
    replace hb_c := hF42 _ _ hb_c
    refine wsr (uv (v_lssK rfl rfl) ?_)
    refine shO_nil (shW_seq ?_)
    refine cQ (fun c44 => ?_) fun c44 => ?_
    ·obtain ⟨x, tl2, rfl, hx46, g47, hk45⟩ := Lst.succ hk37 c44
     rw [round_crier_serve_l2] at r39
     refine shW_skip ?_
     obtain ⟨met6, h51, r52⟩ := b1_ok r39
     refine shW_join (fun e1 F1 L1 => ∃ (es48 : Array MapEntry) (cl49 : Nat), FExt F41 F1 ∧ L1 = [(b9, ce #[.map (some b3)] 128), (b3, .map es48 cl49), (b2, ce #[.func (.func ok_f) ok_1 ok_2] 77), (b1, ce #[.pointer (some ⟨b_c, 0, none⟩)] 69)] ∧ e1.sub [(1, .int .i64 set_), (3, .pointer (some ⟨b1, 0, none⟩)), (5, .pointer (some ⟨b2, 0, none⟩)), (9, .pointer (some ⟨b9, 0, none⟩)), (10, .int .i64 left_), (53, .int .i64 (hears.length : Int)), (54, .int .i64 k)] ∧ MapR (vA (cP (cI .i64) (cI .i64))) (vA (cP (cI .i64) (cP (cI .i64) (cP (cI .i64) (cP (cI .i64) (cI .i64)))))) es48 met6) ?_ ?_
     ·clear r52
      refine shW_block ?_
      refine wsr (um ?_)
      refine o_alloc rfl zeroValue3 ?_; intro b53 hb53
      refine o_store (i := 0) sizeOf3 rfl rfl rfl rfl (nbL rfl) (shO_L rfl (nsr (uv (v_load isAgg3 rfl (Has.own 0 rfl) rfl) (um ?_))))
      refine uv (v_build (v := .agg #[.int .i64 k, .int .i64 left_]) rfl (by intro w; kernel_rfl)) ?_
      refine o_alloc rfl zeroValue125 ?_; intro b54 hb54
      refine o_storeA (i := 0) sizeOf125 rfl rfl rfl (by simp [Value.oneCell']) rfl (nbL rfl) (shO_L rfl (nsr (uv (v_load isAgg128 rfl (Has.own 2 rfl) rfl) (uv (v_loadA (cs := #[.int .i64 k, .int .i64 left_]) isAgg125 sizeOf125 rfl (Has.own 0 rfl) (nbL rfl) rfl) (uv (OpV.eq (v' := .tuple #[.agg #[.int .i64 (((mget met5 (k, left_)).getD (0, 0, 0, 0, 0)).1), .int .i64 (((mget met5 (k, left_)).getD (0, 0, 0, 0, 0)).2.1), .int .i64 (((mget met5 (k, left_)).getD (0, 0, 0, 0, 0)).2.2.1), .int .i64 (((mget met5 (k, left_)).getD (0, 0, 0, 0, 0)).2.2.2.1), .int .i64 (((mget met5 (k, left_)).getD (0, 0, 0, 0, 0)).2.2.2.2)], .bool ((mget met5 (k, left_)).isSome)]) (v_lookS2 (k := (k, left_)) (z0 := (0, 0, 0, 0, 0)) rfl underlying128 key_125 zeroValue127 rfl rfl (HasM.own 3 rfl) (show MapR (vA (cP (cI .i64) (cI .i64))) (vA (cP (cI .i64) (cP (cI .i64) (cP (cI .i64) (cP (cI .i64) (cI .i64)))))) es34 (met5 : List ((Int × Int) × (Int × Int × Int × Int × Int))) from hR36)) rfl) ?_)))))
      refine um (ox rfl rfl rfl (ox rfl rfl rfl ?_))
      refine o_alloc rfl zeroValue127 ?_; intro b55 hb55
      refine o_storeA (i := 0) sizeOf127 rfl rfl rfl (by simp [Value.oneCell']) rfl (nbL rfl) (shO_L rfl ?_)
      refine ua (shO_nil (shW_seq (wsr (um ?_))))
      refine uv (v_notB rfl) (shO_nil ?_)
      refine shW_cond rfl (fun c56 => ?_) (fun c56 => ?_)
      ·have r57 := bt h51 c56
       refine shW_exit (andThen_exit ?_)
       refine inBlock_exit ?_
       obtain rfl := inj1 r57
       exact mi (kd (kd (kd kr))) ⟨es34, cl35, FExt.refl _, rfl, z7, hR36⟩
      have r58 := bf h51 c56
      refine shW_skip (wsr ?_)
      refine uv (v_load isAgg69 rfl (Has.own 6 rfl) rfl) (um ?_)
      obtain ⟨y, h59, r60⟩ := b1_ok r58
      refine c0 call43 (round_crier_served_w hb_c h_walks h_hears h_notices h_walks2 h_pairs h_hit h59) ?_; rintro _ F61 _ hF62 hn63 ⟨cp65, rfl, rfl, hit66⟩
      replace h_notices := h_notices.mono (prE_ok (slE_ok (iE_ok _)) (prE_ok (iE_ok _) (iE_ok _))) hF62
      replace h_ok := h_ok.mono hF62
      replace hb_c := hF62 _ _ hb_c
      refine shO_L (ln rfl) (shO_nil (shW_block ?_))
      refine shW_rangeFunc (encs := (fun x : (Int × Int) × Int => #[.agg ((cP (cI .i64) (cI .i64)) x.1).toArray, .int .i64 x.2])) (xs := y) rfl call80 rfl (fun _ => rfl) hit66 (fun pre F1 L1 => ∃ (tl3 : List ((Int × Int) × Int)) (met7 : List ((Int × Int) × (Int × Int × Int × Int × Int))) (es67 : Array MapEntry) (cl68 : Nat), y = pre ++ tl3 ∧ round_crier_serve_l3 notices walks2 ok left_ met5 k tl3 met7 = some met6 ∧ L1 = [(b55, ce #[.int .i64 (((mget met5 (k, left_)).getD (0, 0, 0, 0, 0)).1), .int .i64 (((mget met5 (k, left_)).getD (0, 0, 0, 0, 0)).2.1), .int .i64 (((mget met5 (k, left_)).getD (0, 0, 0, 0, 0)).2.2.1), .int .i64 (((mget met5 (k, left_)).getD (0, 0, 0, 0, 0)).2.2.2.1), .int .i64 (((mget met5 (k, left_)).getD (0, 0, 0, 0, 0)).2.2.2.2)] 127), (b54, ce #[.int .i64 k, .int .i64 left_] 125), (b53, ce #[.int .i64 k] 3), (b9, ce #[.map (some b3)] 128), (b3, .map es67 cl68), (b2, ce #[.func (.func ok_f) ok_1 ok_2] 77), (b1, ce #[.pointer (some ⟨b_c, 0, none⟩)] 69)] ∧ MapR (vA (cP (cI .i64) (cI .i64))) (vA (cP (cI .i64) (cP (cI .i64) (cP (cI .i64) (cP (cI .i64) (cI .i64)))))) es67 met7) (fun _ _ _ => False) ?_ ?_ ?_ ?_ ?_ ?_
      ·rintro pre F1 F2 L1 ⟨tl3, met7, es67, cl68, hs70, r71, rfl, hR69⟩ hx; exact ⟨tl3, met7, es67, cl68, hs70, r71, rfl, hR69⟩
      ·intro c F1 F2 L1 h hx; exact h
      ·exact ⟨_, met5, es34, cl35, rfl, r60, rfl, hR36⟩
      ·rintro l72 wr73 Fr74 Xr75 Ha76 Hb77 hnb78 hH82 pre x2 tl4 hxs81 F79 _ hF80 ⟨tl3, met7, es67, cl68, hs70, r83, rfl, hR69⟩
       obtain rfl := rest_head hs70 hxs81
       rw [round_crier_serve_l3] at r83
       replace h_notices := h_notices.mono (prE_ok (slE_ok (iE_ok _)) (prE_ok (iE_ok _) (iE_ok _))) hF80
       replace h_ok := h_ok.mono hF80
       replace hb_c := hF80 _ _ hb_c
       refine shW_env [(1, .int .i64 set_), (3, .pointer (some ⟨b1, 0, none⟩)), (5, .pointer (some ⟨b2, 0, none⟩)), (9, .pointer (some ⟨b9, 0, none⟩)), (10, .int .i64 left_), (11, .pointer (some ⟨b53, 0, none⟩)), (12, .pointer (some ⟨b54, 0, none⟩)), (13, .pointer (some ⟨b55, 0, none⟩)), (53, .int .i64 (hears.length : Int)), (54, .int .i64 k), (71, .agg #[.int .i64 x2.1.1, .int .i64 x2.1.2]), (72, .int .i64 x2.2)] (by exact (sc rfl (sc rfl (sc rfl (sc rfl z8))))) (wsr ?_)
       refine o_alloc rfl zeroValue47 ?_; intro b84 hb84
       refine o_storeA (i := 0) sizeOf47 rfl rfl rfl (by simp [Value.oneCell']) rfl (nbL rfl) (shO_L rfl ?_)
       refine shO_nil (shW_region (ua (shO_nil ?_)))
       refine ⟨rfl, ?_⟩
       refine shW_block (dW (wv (v_load isAgg69 rfl (Has.own 7 rfl) rfl) (wv (v_load isAgg3 rfl (Has.own 3 rfl) rfl) (wv (v_fieldAddr fa_47_0 rfl) (wv (v_load isAgg3 rfl (Has.own 0 rfl) rfl) (wv (v_nilCheck rfl) (wv (v_fieldAddr fa_116_1 rfl) ?_)))))))
       obtain ⟨g85, r86⟩ := gd_ok r83
       refine wv (v_indexA underlying111 sizeOf109 rfl rfl g85) ?_
       obtain ⟨g87, r88⟩ := gd_ok r86
       obtain ⟨x3, g89, hx90, r91⟩ := ix_ok r88
       have hq93 : (k * 5 + x2.1.1 : Int).toNat = (k : Int).toNat * 5 + (x2.1.1 : Int).toNat := by have := g85; have := g87; omega
       have hc92 := el_at2 (cI_ok .i64) h_walks2 hq93 hx90 (li_arr (li_skip (A := ([.slice walks_a walks.length walks_c] : List Value)) (k := 1) (o := 4) rfl (li_skip (A := ([.slice hears_a hears.length hears_c] : List Value)) (k := 1) (o := 3) rfl (li_skip (A := ([.int .i64 houses] : List Value)) (k := 1) (o := 2) rfl (li_skip (A := ([.int .i64 start] : List Value)) (k := 1) (o := 1) rfl (li_skip (A := ([.slice notices_a notices.length notices_c] : List Value)) (k := 1) (o := 0) rfl (li_here (B := ([.slice pairs_a pairs.length pairs_c] : List Value) ++ (hit.flatMap (cI .i64))) (lfl (cI_ok .i64) h_walks2)))))))) (li_le (li_skip (A := ([.slice walks_a walks.length walks_c] : List Value)) (k := 1) (o := 4) rfl (li_skip (A := ([.slice hears_a hears.length hears_c] : List Value)) (k := 1) (o := 3) rfl (li_skip (A := ([.int .i64 houses] : List Value)) (k := 1) (o := 2) rfl (li_skip (A := ([.int .i64 start] : List Value)) (k := 1) (o := 1) rfl (li_skip (A := ([.slice notices_a notices.length notices_c] : List Value)) (k := 1) (o := 0) rfl (li_here (B := ([.slice pairs_a pairs.length pairs_c] : List Value) ++ (hit.flatMap (cI .i64))) (lfl (cI_ok .i64) h_walks2))))))))
       refine wv (v_indexA underlying109 sizeOf3 rfl rfl g87) (wv (v_load isAgg3 rfl (Has.frozen hb_c) ((hc92).2.2 0 (by decide))) ?_)
       refine wa (shQ_nil (shW_seq (wsr (um ?_))))
       refine uv (v_eql rfl rfl) (shO_nil ?_)
       refine cQ (fun c94 => ?_) fun c94 => ?_
       ·have r95 := ite_t r91 c94
        refine shW_exit (andThen_exit ?_)
        refine inBlock_exit ?_
        refine ⟨[(b55, ce #[.int .i64 (((mget met5 (k, left_)).getD (0, 0, 0, 0, 0)).1), .int .i64 (((mget met5 (k, left_)).getD (0, 0, 0, 0, 0)).2.1), .int .i64 (((mget met5 (k, left_)).getD (0, 0, 0, 0, 0)).2.2.1), .int .i64 (((mget met5 (k, left_)).getD (0, 0, 0, 0, 0)).2.2.2.1), .int .i64 (((mget met5 (k, left_)).getD (0, 0, 0, 0, 0)).2.2.2.2)] 127), (b54, ce #[.int .i64 k, .int .i64 left_] 125), (b53, ce #[.int .i64 k] 3), (b9, ce #[.map (some b3)] 128), (b3, .map es67 cl68), (b2, ce #[.func (.func ok_f) ok_1 ok_2] 77), (b1, ce #[.pointer (some ⟨b_c, 0, none⟩)] 69)], ⟨_, .refl _, s1 (s2 (s2 (s2 (s2 (s2 (s2 (s2 sr)))))))⟩, ?_⟩; exact ⟨_, met7, es67, cl68, (by rw [hxs81]; simp), r95, rfl, hR69⟩
       have r96 := ite_f r91 c94
       refine shW_skip (dW (wv (v_fieldAddr fa_127_0 rfl) (wv (v_load isAgg3 rfl (Has.own 1 rfl) rfl) (wm ?_))))
       obtain ⟨g97, r98⟩ := gd_ok r96
       refine wv (v_add rfl rfl g97) (wv (v_load isAgg69 rfl (Has.own 7 rfl) rfl) (wv (v_nilCheck rfl) (wv (v_fieldAddr fa_116_0 rfl) (wv (v_fieldAddr fa_26_4 rfl) (wv (v_load isAgg24 rfl (Has.frozen hb_c) (li_cell (li_skip (A := ([.slice walks_a walks.length walks_c] : List Value)) (k := 1) (o := 3) rfl (li_skip (A := ([.slice hears_a hears.length hears_c] : List Value)) (k := 1) (o := 2) rfl (li_skip (A := ([.int .i64 houses] : List Value)) (k := 1) (o := 1) rfl (li_skip (A := ([.int .i64 start] : List Value)) (k := 1) (o := 0) rfl (li_here (B := walks2.flatMap (cI .i64) ++ (([.slice pairs_a pairs.length pairs_c] : List Value) ++ (hit.flatMap (cI .i64)))) rfl))))))) (wv (v_fieldAddr fa_47_1 rfl) (wv (v_load isAgg3 rfl (Has.own 0 rfl) rfl) ?_)))))))
       obtain ⟨x4, g99, hx100, r101⟩ := ix_ok r98
       obtain ⟨b102, o103, c104, vs105, ha106, hs107, hle108, ⟨_, _, rfl, ⟨a111, c112, rfl, h113⟩, ⟨_, _, rfl, rfl, rfl⟩⟩, hl109, hc110⟩ := RowR.at (prE_ok (slE_ok (iE_ok _)) (prE_ok (iE_ok _) (iE_ok _))) h_notices ([(b84, ce #[.int .i64 x2.1.1, .int .i64 x2.1.2] 47), (b55, ce #[.int .i64 (((mget met5 (k, left_)).getD (0, 0, 0, 0, 0)).1), .int .i64 (((mget met5 (k, left_)).getD (0, 0, 0, 0, 0)).2.1), .int .i64 (((mget met5 (k, left_)).getD (0, 0, 0, 0, 0)).2.2.1), .int .i64 (((mget met5 (k, left_)).getD (0, 0, 0, 0, 0)).2.2.2.1), .int .i64 (((mget met5 (k, left_)).getD (0, 0, 0, 0, 0)).2.2.2.2)] 127), (b54, ce #[.int .i64 k, .int .i64 left_] 125), (b53, ce #[.int .i64 k] 3), (b9, ce #[.map (some b3)] 128), (b3, .map es67 cl68), (b2, ce #[.func (.func ok_f) ok_1 ok_2] 77), (b1, ce #[.pointer (some ⟨b_c, 0, none⟩)] 69)]) g99.1 hx100
       refine wv (v_indexO underlying24 sizeOf61 rfl ha106 rfl g99) (wv (v_fieldAddr fa_61_1 rfl) (wv (v_load isAgg3 rfl hs107 (hc110 1 (by decide))) ?_))
       obtain ⟨g114, r115⟩ := gd_ok r101
       refine wv (v_add rfl rfl g114) ?_
       obtain ⟨end_, h116, r117⟩ := bv_ok r115
       refine wv ((v_assign rfl).i h116) (qsr (uv (v_fieldAddr fa_47_0 rfl) (uv (v_load isAgg3 rfl (Has.own 0 rfl) rfl) (um ?_))))
       refine uv (v_build (v := .agg #[.int .i64 x2.1.1, .int .i64 x2.2]) rfl (by intro w; kernel_rfl)) ?_
       refine o_alloc rfl zeroValue125 ?_; intro b118 hb118
       refine o_storeA (i := 0) sizeOf125 rfl rfl rfl (by simp [Value.oneCell']) rfl (nbL rfl) (shO_L rfl (nsr (uv (v_load isAgg128 rfl (Has.own 5 rfl) rfl) (uv (v_loadA (cs := #[.int .i64 x2.1.1, .int .i64 x2.2]) isAgg125 sizeOf125 rfl (Has.own 0 rfl) (nbL rfl) rfl) (uv (OpV.eq (v' := .tuple #[.agg #[.int .i64 (((mget met7 (x2.1.1, x2.2)).getD (0, 0, 0, 0, 0)).1), .int .i64 (((mget met7 (x2.1.1, x2.2)).getD (0, 0, 0, 0, 0)).2.1), .int .i64 (((mget met7 (x2.1.1, x2.2)).getD (0, 0, 0, 0, 0)).2.2.1), .int .i64 (((mget met7 (x2.1.1, x2.2)).getD (0, 0, 0, 0, 0)).2.2.2.1), .int .i64 (((mget met7 (x2.1.1, x2.2)).getD (0, 0, 0, 0, 0)).2.2.2.2)], .bool ((mget met7 (x2.1.1, x2.2)).isSome)]) (v_lookS2 (k := (x2.1.1, x2.2)) (z0 := (0, 0, 0, 0, 0)) rfl underlying128 key_125 zeroValue127 rfl rfl (HasM.own 6 rfl) (show MapR (vA (cP (cI .i64) (cI .i64))) (vA (cP (cI .i64) (cP (cI .i64) (cP (cI .i64) (cP (cI .i64) (cI .i64)))))) es67 (met7 : List ((Int × Int) × (Int × Int × Int × Int × Int))) from hR69)) rfl) ?_)))))
       refine um (ox rfl rfl rfl (ox rfl rfl rfl ?_))
       refine o_alloc rfl zeroValue127 ?_; intro b119 hb119
       refine o_storeA (i := 0) sizeOf127 rfl rfl rfl (by simp [Value.oneCell']) rfl (nbL rfl) (shO_L rfl ?_)
       refine ua (shO_nil ?_)
       obtain ⟨k2, h120, r121⟩ := b1_ok r117
       refine jE ([(b118, ce #[.int .i64 x2.1.1, .int .i64 x2.2] 125), (b84, ce #[.int .i64 x2.1.1, .int .i64 x2.1.2] 47), (b55, ce #[.int .i64 (((mget met5 (k, left_)).getD (0, 0, 0, 0, 0)).1), .int .i64 (((mget met5 (k, left_)).getD (0, 0, 0, 0, 0)).2.1), .int .i64 (((mget met5 (k, left_)).getD (0, 0, 0, 0, 0)).2.2.1), .int .i64 (((mget met5 (k, left_)).getD (0, 0, 0, 0, 0)).2.2.2.1), .int .i64 (((mget met5 (k, left_)).getD (0, 0, 0, 0, 0)).2.2.2.2)] 127), (b54, ce #[.int .i64 k, .int .i64 left_] 125), (b53, ce #[.int .i64 k] 3), (b9, ce #[.map (some b3)] 128), (b3, .map es67 cl68), (b2, ce #[.func (.func ok_f) ok_1 ok_2] 77), (b1, ce #[.pointer (some ⟨b_c, 0, none⟩)] 69)]) [(1, .int .i64 set_), (3, .pointer (some ⟨b1, 0, none⟩)), (5, .pointer (some ⟨b2, 0, none⟩)), (9, .pointer (some ⟨b9, 0, none⟩)), (10, .int .i64 left_), (11, .pointer (some ⟨b53, 0, none⟩)), (12, .pointer (some ⟨b54, 0, none⟩)), (13, .pointer (some ⟨b55, 0, none⟩)), (15, .pointer (some ⟨b84, 0, none⟩)), (18, .int .i64 end_), (19, .pointer (some ⟨b118, 0, none⟩)), (53, .int .i64 (hears.length : Int)), (54, .int .i64 k), (71, .agg #[.int .i64 x2.1.1, .int .i64 x2.1.2]), (72, .int .i64 x2.2), (124, .bool k2)] ?_ ?_
       ·clear r121
        refine shW_region (uv (v_fieldAddr fa_77_0 rfl) (uv (v_load isAgg75 rfl (Has.own 8 rfl) rfl) (uv (v_fieldAddr fa_47_1 rfl) (uv (v_load isAgg3 rfl (Has.own 2 rfl) rfl) (um ?_)))))
        obtain ⟨ok2, h122, r123⟩ := b1_ok h120
        refine o_callV rfl h_ok.1 rfl rfl rfl (h_ok.2 _ (FExt.refl _) _ _ _ ⟨_, _, rfl, rfl, rfl⟩ h122) (um ?_)
        rcases bool_two ok2 with c124 | c124
        ·have r125 := bt r123 c124
         refine nB c124 (um (nB c124 ?_))
         refine uv (v_notB rfl) ?_
         refine nB c124 (um ?_)
         rcases bool_two (!((mget met7 (x2.1.1, x2.2)).isSome)) with c126 | c126
         ·have r127 := bt r125 c126
          refine fB c126 (fB c126 (fB c126 (fB c126 (nB c124 ?_))))
          refine uv (v_pick_t (evB rfl c126) rfl) (uv (v_pick_t (evB rfl c124) rfl) (shO_nil ?_))
          obtain rfl := inj1 r127
          exact mi (kd kr) ⟨rfl, rfl, (sc rfl (sc rfl (sc rfl (sc rfl (sc rfl (sc rfl (sc rfl (sc rfl z8))))))))⟩
         have r128 := bf r125 c126
         refine nB c126 (um (nB c126 ?_))
         refine uv (v_fieldAddr fa_127_0 rfl) (nB c126 (uv (v_load isAgg3 rfl (Has.own 0 rfl) rfl) (nB c126 (uv (v_lssK rfl rfl) (nB c124 (uv (v_pick_f (evB rfl c126) rfl) (uv (v_pick_t (evB rfl c124) rfl) ?_)))))))
         refine shO_nil ?_
         obtain rfl := inj1 r128
         exact mi (kd kr) ⟨rfl, rfl, (sc rfl (sc rfl (sc rfl (sc rfl (sc rfl (sc rfl (sc rfl (sc rfl z8))))))))⟩
        have r129 := bf r123 c124
        refine fB c124 (fB c124 (fB c124 (fU (fU (fU (fU (fB c124 ?_)))))))
        refine uv (v_pick_f (evB rfl c124) rfl) (shO_nil ?_)
        obtain rfl := inj1 r129
        exact mi (kd kr) ⟨rfl, rfl, (sc rfl (sc rfl (sc rfl (sc rfl (sc rfl (sc rfl (sc rfl (sc rfl z8))))))))⟩
       refine shW_cond rfl (fun c131 => ?_) (fun c131 => ?_)
       ·have r132 := bt r121 c131
        refine shW_region (uv (v_load isAgg128 rfl (Has.own 5 rfl) rfl) (uv (v_loadA (cs := #[.int .i64 x2.1.1, .int .i64 x2.2]) isAgg125 sizeOf125 rfl (Has.own 0 rfl) (nbL rfl) rfl) (um (uv (v_loadA (cs := #[.int .i64 x2.1.1, .int .i64 x2.1.2]) isAgg47 sizeOf47 rfl (Has.own 1 rfl) (nbL rfl) rfl) (uv (v_loadA (cs := #[.int .i64 k, .int .i64 left_]) isAgg125 sizeOf125 rfl (Has.own 3 rfl) (nbL rfl) rfl) ?_)))))
        refine uv (v_build (v := .agg #[.int .i64 end_, .int .i64 x2.1.1, .int .i64 x2.1.2, .int .i64 k, .int .i64 left_]) rfl (by intro w; kernel_rfl)) ?_
        refine o_mapUpdate (i := 6) (k := (x2.1.1, x2.2)) (v := (end_, x2.1.1, x2.1.2, k, left_)) underlying128 key_125 rfl rfl rfl rfl (show MapR (vA (cP (cI .i64) (cI .i64))) (vA (cP (cI .i64) (cP (cI .i64) (cP (cI .i64) (cP (cI .i64) (cI .i64)))))) es67 (met7 : List ((Int × Int) × (Int × Int × Int × Int × Int))) from hR69) ?_; intro es133 cl134 hR135
        obtain ⟨met8, h136, r137⟩ := bv_ok r132
        rw [← h136] at hR135
        refine shO_L rfl ?_
        refine shO_nil (inBlock_n (id := 5) ?_)
        refine ⟨[(b55, ce #[.int .i64 (((mget met5 (k, left_)).getD (0, 0, 0, 0, 0)).1), .int .i64 (((mget met5 (k, left_)).getD (0, 0, 0, 0, 0)).2.1), .int .i64 (((mget met5 (k, left_)).getD (0, 0, 0, 0, 0)).2.2.1), .int .i64 (((mget met5 (k, left_)).getD (0, 0, 0, 0, 0)).2.2.2.1), .int .i64 (((mget met5 (k, left_)).getD (0, 0, 0, 0, 0)).2.2.2.2)] 127), (b54, ce #[.int .i64 k, .int .i64 left_] 125), (b53, ce #[.int .i64 k] 3), (b9, ce #[.map (some b3)] 128), (b3, .map es133 cl134), (b2, ce #[.func (.func ok_f) ok_1 ok_2] 77), (b1, ce #[.pointer (some ⟨b_c, 0, none⟩)] 69)], ⟨_, .refl _, s1 (s1 (s2 (s2 (s2 (s2 (s2 (s2 (s2 sr))))))))⟩, ?_⟩; exact ⟨_, met8, es133, cl134, (by rw [hxs81]; simp), r137, rfl, hR135⟩
       have r138 := bf r121 c131
       refine shW_skip (inBlock_n (id := 5) ?_)
       refine ⟨[(b55, ce #[.int .i64 (((mget met5 (k, left_)).getD (0, 0, 0, 0, 0)).1), .int .i64 (((mget met5 (k, left_)).getD (0, 0, 0, 0, 0)).2.1), .int .i64 (((mget met5 (k, left_)).getD (0, 0, 0, 0, 0)).2.2.1), .int .i64 (((mget met5 (k, left_)).getD (0, 0, 0, 0, 0)).2.2.2.1), .int .i64 (((mget met5 (k, left_)).getD (0, 0, 0, 0, 0)).2.2.2.2)] 127), (b54, ce #[.int .i64 k, .int .i64 left_] 125), (b53, ce #[.int .i64 k] 3), (b9, ce #[.map (some b3)] 128), (b3, .map es67 cl68), (b2, ce #[.func (.func ok_f) ok_1 ok_2] 77), (b1, ce #[.pointer (some ⟨b_c, 0, none⟩)] 69)], ⟨_, .refl _, s1 (s1 (s2 (s2 (s2 (s2 (s2 (s2 (s2 sr))))))))⟩, ?_⟩; exact ⟨_, met7, es67, cl68, (by rw [hxs81]; simp), r138, rfl, hR69⟩
      ·rintro F139 _ hF140 ⟨tl3, met7, es67, cl68, hs70, r141, rfl, hR69⟩
       obtain rfl := rest_nil hs70; rw [round_crier_serve_l3] at r141
       refine inBlock_n (id := 4) (inBlock_n (id := 3) ?_)
       obtain rfl := inj1 r141
       exact mi (kd (kd (kd kr))) ⟨es67, cl68, (hF62.trans hF140), rfl, z7, hR69⟩
      intro c F1 L1 hx h; exact h.elim
     rintro e1 F143 _ ⟨es48, cl49, hF144, rfl, he142, hR50⟩
     refine shW_env _ he142 ?_
     replace h_hears := h_hears.mono (slE_ok (iE_ok _)) hF144
     refine shW_region (uv (v_add rfl rfl (Lst.r64 hk37 c44 (RowR.lt h_hears))) ?_)
     refine um (shO_nil ?_)
     subst hn38; exact le kr ⟨_, _, rfl, hk45, met6, es48, cl49, r52, (hF42.trans hF144), rfl, z7, hR50⟩
    obtain rfl := Lst.zero hk37 c44
    rw [round_crier_serve_l2] at r39
    refine shW_exit (andThen_exit (andThen_exit ?_))
    refine inBlock_exit (inBlock_n (id := 1) ?_)
    obtain rfl := inj1 r39
    exact mi kr ⟨es34, cl35, hF42, rfl, z5, hR36⟩
   rintro e1 F146 _ ⟨es26, cl27, hF147, rfl, he145, hR28⟩
   refine shW_env _ he145 ?_
   refine shW_region (um ?_)
   obtain ⟨g148, r149⟩ := gd_ok r30
   refine uv (v_sub rfl rfl g148) ?_
   refine ua (shO_nil ?_)
   exact le kr ⟨met4, left_ - 1, es26, cl27, r149, (hF23.trans hF147), rfl, z5, hR28⟩
  have r150 := ite_f r20 c24
  refine shW_exit (andThen_exit (andThen_exit ?_))
  refine inBlock_exit ?_
  obtain rfl := inj1 r150
  exact mi (kc (kc (kd kr))) ⟨es15, cl16, hF23, rfl, z3, hR17⟩
 rintro e1 F152 _ ⟨es10, cl11, hF153, rfl, he151, hR12⟩
 refine shW_env _ he151 ?_
 replace h_hears := h_hears.mono (slE_ok (iE_ok _)) hF153
 replace hb_c := hF153 _ _ hb_c
 refine wsr ?_
 refine uv (v_build (v := .agg #[.int .i64 (-1), .int .i64 0]) rfl (by intro w; kernel_rfl)) ?_
 refine o_alloc rfl zeroValue125 ?_; intro b154 hb154
 refine o_storeA (i := 0) sizeOf125 rfl rfl rfl (by simp [Value.oneCell']) rfl (nbL rfl) (shO_L rfl ?_)
 refine ua (shO_nil ?_)
 obtain ⟨end_stand, minute, h155, r156⟩ := b2_ok r14
 refine jE ([(b154, ce #[.int .i64 end_stand, .int .i64 0] 125), (b9, ce #[.map (some b3)] 128), (b3, .map es10 cl11)]) [(1, .int .i64 set_), (9, .pointer (some ⟨b9, 0, none⟩)), (22, .pointer (some ⟨b154, 0, none⟩)), (23, .int .i64 minute)] ?_ ?_
 ·clear r156
  refine wsr (uv (v_load isAgg69 rfl (Has.own 3 rfl) rfl) (uv (v_nilCheck rfl) (uv (v_fieldAddr fa_116_0 rfl) (uv (v_fieldAddr fa_26_1 rfl) (uv (v_load isAgg23 rfl (Has.frozen hb_c) (li_cell (li_skip (A := ([.slice walks_a walks.length walks_c] : List Value)) (k := 1) (o := 0) rfl (li_here (B := ([.int .i64 houses] : List Value) ++ (([.int .i64 start] : List Value) ++ (([.slice notices_a notices.length notices_c] : List Value) ++ (walks2.flatMap (cI .i64) ++ (([.slice pairs_a pairs.length pairs_c] : List Value) ++ (hit.flatMap (cI .i64))))))) rfl)))) (uv (v_lenS underlying23 rfl) ?_))))))
  refine um (shO_nil ?_)
  refine shW_block (kW (kc (kc (kc kn))) ?_)
  refine shW_lp (fun fu4 e1 F1 L1 => LA hears fu4 fun tl5 k3 => ∃ (end_stand2 : Int) (minute2 : Int), round_crier_serve_l4 met2 tl5 k3 end_stand2 minute2 = some (end_stand, minute) ∧ F152 = F1 ∧ L1 = [(b154, ce #[.int .i64 end_stand2, .int .i64 0] 125), (b9, ce #[.map (some b3)] 128), (b3, .map es10 cl11)] ∧ e1.sub [(1, .int .i64 set_), (9, .pointer (some ⟨b9, 0, none⟩)), (22, .pointer (some ⟨b154, 0, none⟩)), (23, .int .i64 minute2), (138, .int .i64 (hears.length : Int)), (139, .int .i64 k3)]) _ (m0 kr ⟨_, _, rfl, Lst.start _, -1, -1, h155, rfl, rfl, z6⟩) ?_
  rintro fu4 e1 _ _ ⟨tl5, k3, hn158, hk157, end_stand2, minute2, r159, rfl, rfl, he160⟩
  refine shW_env _ he160 (wsr (uv (v_lssK rfl rfl) ?_))
  refine shO_nil (shW_seq ?_)
  refine cQ (fun c162 => ?_) fun c162 => ?_
  ·obtain ⟨x5, tl6, rfl, hx164, g165, hk163⟩ := Lst.succ hk157 c162
   rw [round_crier_serve_l4] at r159
   refine shW_skip (shW_seq ?_)
   refine shW_block ?_
   refine wsr (um (ua (nsr ?_)))
   refine uv (v_load isAgg128 rfl (Has.own 1 rfl) rfl) (um ?_)
   refine uv (v_build (v := .agg #[.int .i64 k3, .int .i64 0]) rfl (by intro w; kernel_rfl)) ?_
   refine uv (OpV.eq (v' := .tuple #[.agg #[.int .i64 (((mget met2 (k3, 0)).getD (0, 0, 0, 0, 0)).1), .int .i64 (((mget met2 (k3, 0)).getD (0, 0, 0, 0, 0)).2.1), .int .i64 (((mget met2 (k3, 0)).getD (0, 0, 0, 0, 0)).2.2.1), .int .i64 (((mget met2 (k3, 0)).getD (0, 0, 0, 0, 0)).2.2.2.1), .int .i64 (((mget met2 (k3, 0)).getD (0, 0, 0, 0, 0)).2.2.2.2)], .bool ((mget met2 (k3, 0)).isSome)]) (v_lookS2 (k := (k3, 0)) (z0 := (0, 0, 0, 0, 0)) rfl underlying128 key_125 zeroValue127 rfl rfl (HasM.own 2 rfl) (show MapR (vA (cP (cI .i64) (cI .i64))) (vA (cP (cI .i64) (cP (cI .i64) (cP (cI .i64) (cP (cI .i64) (cI .i64)))))) es10 (met2 : List ((Int × Int) × (Int × Int × Int × Int × Int))) from hR12)) rfl) ?_
   refine um (ox rfl rfl rfl (ox rfl rfl rfl ?_))
   refine o_alloc rfl zeroValue127 ?_; intro b166 hb166
   refine o_storeA (i := 0) sizeOf127 rfl rfl rfl (by simp [Value.oneCell']) rfl (nbL rfl) (shO_L rfl ?_)
   refine ua (shO_nil ?_)
   obtain ⟨k4, h167, r168⟩ := b1_ok r159
   refine jE ([(b166, ce #[.int .i64 (((mget met2 (k3, 0)).getD (0, 0, 0, 0, 0)).1), .int .i64 (((mget met2 (k3, 0)).getD (0, 0, 0, 0, 0)).2.1), .int .i64 (((mget met2 (k3, 0)).getD (0, 0, 0, 0, 0)).2.2.1), .int .i64 (((mget met2 (k3, 0)).getD (0, 0, 0, 0, 0)).2.2.2.1), .int .i64 (((mget met2 (k3, 0)).getD (0, 0, 0, 0, 0)).2.2.2.2)] 127), (b154, ce #[.int .i64 end_stand2, .int .i64 0] 125), (b9, ce #[.map (some b3)] 128), (b3, .map es10 cl11)]) [(1, .int .i64 set_), (9, .pointer (some ⟨b9, 0, none⟩)), (22, .pointer (some ⟨b154, 0, none⟩)), (23, .int .i64 minute2), (24, .int .i64 k3), (25, .pointer (some ⟨b166, 0, none⟩)), (138, .int .i64 (hears.length : Int)), (139, .int .i64 k3), (159, .bool k4)] ?_ ?_
   ·clear r168
    refine shW_region (um (um ?_))
    rcases bool_two ((mget met2 (k3, 0)).isSome) with c169 | c169
    ·have r170 := bt h167 c169
     refine nB c169 (um (nB c169 ?_))
     refine uv (v_eql rfl rfl) ?_
     refine nB c169 (um ?_)
     by_cases c171 : minute2 = (-1)
     ·have r172 := ite_t r170 c171
      refine fT c171 (fT c171 (fT c171 (fT c171 (nB c169 ?_))))
      refine uv (v_pick_t (evD_true rfl c171) rfl) (uv (v_pick_t (evB rfl c169) rfl) (shO_nil ?_))
      obtain rfl := inj1 r172
      exact mi kr ⟨rfl, rfl, (sc rfl z8)⟩
     have r173 := ite_f r170 c171
     refine nF c171 (uv (v_fieldAddr fa_127_0 rfl) (nF c171 (uv (v_load isAgg3 rfl (Has.own 0 rfl) rfl) ?_)))
     refine nF c171 (um (nF c171 ?_))
     refine uv (v_lssK rfl rfl) (nB c169 (uv (v_pick_f (evD_false rfl c171) rfl) (uv (v_pick_t (evB rfl c169) rfl) (shO_nil ?_))))
     obtain rfl := inj1 r173
     exact mi kr ⟨rfl, rfl, (sc rfl z8)⟩
    have r174 := bf h167 c169
    refine fB c169 (fB c169 (fB c169 (fU (fU (fU (fU (fB c169 ?_)))))))
    refine uv (v_pick_f (evB rfl c169) rfl) (shO_nil ?_)
    obtain rfl := inj1 r174
    exact mi kr ⟨rfl, rfl, (sc rfl z8)⟩
   refine shW_cond rfl (fun c176 => ?_) (fun c176 => ?_)
   ·have r177 := bt r168 c176
    refine shW_drawM [(.still, 0), (.still, 1), (.still, 2), (.still, 3), (.seq, 4), (.seq, 5)] (by kernel_rfl) (by kernel_rfl) (trivial) (by rfl) (by kernel_rfl) (mS [24] rfl (v_move rfl) ?_)
    refine mS (v := .agg #[.int .i64 k3, .int .i64 0]) [160] rfl (v_build (v := .agg #[.int .i64 k3, .int .i64 0]) rfl (by intro w; kernel_rfl)) ?_
    refine mS [25] rfl (v_fieldAddr fa_127_0 rfl) (mL [162] ([(b166, ce #[.int .i64 (((mget met2 (k3, 0)).getD (0, 0, 0, 0, 0)).1), .int .i64 (((mget met2 (k3, 0)).getD (0, 0, 0, 0, 0)).2.1), .int .i64 (((mget met2 (k3, 0)).getD (0, 0, 0, 0, 0)).2.2.1), .int .i64 (((mget met2 (k3, 0)).getD (0, 0, 0, 0, 0)).2.2.2.1), .int .i64 (((mget met2 (k3, 0)).getD (0, 0, 0, 0, 0)).2.2.2.2)] 127)]) rfl (s0 (s2 (s1 (s1 (s1 sr))))) (fun H F' L' hF' hL' => v_load isAgg3 rfl ((Has.own 0 rfl).ext hF' hL') rfl) ?_)
    refine ⟨_, [(22, .pointer (some ⟨b154, 0, none⟩)), (161, .agg #[.int .i64 k3, .int .i64 0])], rfl, rfl, z2, by kernel_rfl, ?_⟩; intro H
    refine o_storeA (i := 1) sizeOf125 rfl rfl rfl (by simp [Value.oneCell']) rfl (nbL rfl) (shO_L rfl ?_)
    refine shO_nil ⟨undef, rfl, FExt.refl _, [3, 2], by kernel_rfl, .inl (.inr (fun d h => by cases h)), (fc (s0 (s2 (s1 (s1 (s1 sr))))) (fc sm nm)), ?_⟩
    refine ⟨_, [(163, .int .i64 (((mget met2 (k3, 0)).getD (0, 0, 0, 0, 0)).1))], rfl, rfl, z1, by kernel_rfl, ?_⟩; intro H
    obtain ⟨minute3, h178, r179⟩ := bv_ok r177
    refine uv ((v_assign rfl).i h178) ?_
    refine shO_nil ⟨_, rfl, FExt.refl _, [], by kernel_rfl, .inl (.inl rfl), nm, ?_⟩
    refine shM_nil ?_
    refine inBlock_n (id := 7) (shW_region ?_)
    refine uv (v_add rfl rfl (Lst.r64 hk157 c162 (RowR.lt h_hears))) ?_
    refine um (shO_nil ?_)
    subst hn158; exact le (kd kr) ⟨_, _, rfl, hk163, k3, minute3, r179, rfl, rfl, z6⟩
   have r180 := bf r168 c176
   refine shW_skip (inBlock_n (id := 7) (shW_region ?_))
   refine uv (v_add rfl rfl (Lst.r64 hk157 c162 (RowR.lt h_hears))) ?_
   refine um (shO_nil ?_)
   subst hn158; exact le (kd kr) ⟨_, _, rfl, hk163, end_stand2, minute2, r180, rfl, rfl, z6⟩
  obtain rfl := Lst.zero hk157 c162
  rw [round_crier_serve_l4] at r159
  refine shW_exit (andThen_exit (andThen_exit ?_))
  refine inBlock_exit ?_
  obtain ⟨rfl, rfl⟩ := inj2 r159
  exact mi kr ⟨rfl, rfl, z4⟩
 refine shW_seq (wsr (um ?_))
 refine uv (v_eql rfl rfl) (shO_nil ?_)
 refine cQ (fun c182 => ?_) fun c182 => ?_
 ·have r183 := ite_t r156 c182
  refine wsr (ua (ua (ua (shO_nil ?_))))
  refine kW kn ?_
  refine shW_ret (andThen_ret ?_)
  refine q_res3 results19 (res_tmp rfl) (res_tmp rfl) (res_tmp rfl) (sr) ?_
  obtain ⟨rfl, rfl, rfl⟩ := inj3 r183
  exact ⟨_, _, _, [], rfl, rfl, SlR.nil _ _ _ _ _⟩
 have r184 := ite_f r156 c182
 refine shW_skip (wsr (ua (shO_nil ?_)))
 obtain ⟨out, h191, r192⟩ := b1_ok r184
 refine shW_join (fun e1 F1 L1 => ∃ (a185 : Option Addr) (n189 : Nat) (c186 : Nat) (Lb187 : LH), F152 = F1 ∧ L1 = (Lb187 ++ []) ∧ e1.sub [(23, .int .i64 minute), (27, .slice a185 n189 c186)] ∧ SlR K.w0.heap.size 47 2 (prE (iE .i64) (iE .i64)) F1 a185 n189 c186 out Lb187) ?_ ?_
 ·clear r192
  refine shW_block ?_
  refine shW_lp (fun fu5 e1 F1 L1 => ∃ (end_stand3 : Int) (end_left : Int) (out2 : List (Int × Int)) (a193 : Option Addr) (n197 : Nat) (c194 : Nat) (Lb195 : LH), round_crier_serve_l5 set_ met2 fu5 end_stand3 end_left out2 = some out ∧ F152 = F1 ∧ L1 = ((b154, ce #[.int .i64 end_stand3, .int .i64 end_left] 125) :: ((b9, ce #[.map (some b3)] 128) :: ((b3, .map es10 cl11) :: (Lb195 ++ [])))) ∧ e1.sub [(1, .int .i64 set_), (9, .pointer (some ⟨b9, 0, none⟩)), (22, .pointer (some ⟨b154, 0, none⟩)), (23, .int .i64 minute), (27, .slice a193 n197 c194)] ∧ SlR K.w0.heap.size 47 2 (prE (iE .i64) (iE .i64)) F1 a193 n197 c194 out2 Lb195) FU (m0 (kc (kc (kc (ke kr)))) ⟨end_stand, 0, [], none, 0, 0, [], h191, rfl, rfl, z5, SlR.nil _ _ _ _ _⟩) ?_
  rintro fu5 e1 _ _ ⟨end_stand3, end_left, out2, a193, n197, c194, Lb195, r201, rfl, rfl, he202, hz196⟩
  refine shW_env _ he202 ?_
  rcases fu5 with _ | fu5
  ·rw [round_crier_serve_l5] at r201; cases r201
  rw [round_crier_serve_l5] at r201
  refine shW_seq (wsr ?_)
  refine uv (v_fieldAddr fa_125_1 rfl) (uv (v_load isAgg3 rfl (Has.own 0 rfl) rfl) (um (uv (v_neq rfl rfl) (shO_nil ?_))))
  refine cQ (fun c203 => ?_) fun c203 => ?_
  ·have r204 := ite_t r201 c203
   refine shW_skip (shW_block (wsr (uv (v_load isAgg128 rfl (Has.own 1 rfl) rfl) (uv (v_loadA (cs := #[.int .i64 end_stand3, .int .i64 end_left]) isAgg125 sizeOf125 rfl (Has.own 0 rfl) (nbL rfl) rfl) (uv (OpV.eq (v' := .agg #[.int .i64 (((mget met2 (end_stand3, end_left)).getD (0, 0, 0, 0, 0)).1), .int .i64 (((mget met2 (end_stand3, end_left)).getD (0, 0, 0, 0, 0)).2.1), .int .i64 (((mget met2 (end_stand3, end_left)).getD (0, 0, 0, 0, 0)).2.2.1), .int .i64 (((mget met2 (end_stand3, end_left)).getD (0, 0, 0, 0, 0)).2.2.2.1), .int .i64 (((mget met2 (end_stand3, end_left)).getD (0, 0, 0, 0, 0)).2.2.2.2)]) (v_lookS1 (k := (end_stand3, end_left)) (z0 := (0, 0, 0, 0, 0)) rfl underlying128 key_125 zeroValue127 rfl rfl (HasM.own 2 rfl) (show MapR (vA (cP (cI .i64) (cI .i64))) (vA (cP (cI .i64) (cP (cI .i64) (cP (cI .i64) (cP (cI .i64) (cI .i64)))))) es10 (met2 : List ((Int × Int) × (Int × Int × Int × Int × Int))) from hR12)) rfl) ?_)))))
   refine o_alloc rfl zeroValue127 ?_; intro b205 hb205
   refine o_storeA (i := 0) sizeOf127 rfl rfl rfl (by simp [Value.oneCell']) rfl (nbL rfl) (shO_L rfl ?_)
   refine nsr (um ?_)
   refine uv (v_fieldAddr fa_127_1 rfl) (uv (v_loadA (cs := #[.int .i64 (((mget met2 (end_stand3, end_left)).getD (0, 0, 0, 0, 0)).2.1), .int .i64 (((mget met2 (end_stand3, end_left)).getD (0, 0, 0, 0, 0)).2.2.1)]) isAgg47 sizeOf47 rfl (Has.own 0 rfl) (nbL rfl) rfl) ?_)
   refine bA (cs := #[.int .i64 (((mget met2 (end_stand3, end_left)).getD (0, 0, 0, 0, 0)).2.1), .int .i64 (((mget met2 (end_stand3, end_left)).getD (0, 0, 0, 0, 0)).2.2.1)]) slt_30 [.agg #[.int .i64 (((mget met2 (end_stand3, end_left)).getD (0, 0, 0, 0, 0)).2.1), .int .i64 (((mget met2 (end_stand3, end_left)).getD (0, 0, 0, 0, 0)).2.2.1)]] ?_; intro b206 hb206
   obtain ⟨out3, h207, g208, r209⟩ := ap_ok r204
   refine o_appZ (xs := out2) (ys := [(((mget met2 (end_stand3, end_left)).getD (0, 0, 0, 0, 0)).2.1, ((mget met2 (end_stand3, end_left)).getD (0, 0, 0, 0, 0)).2.2.1)]) (zs := out3) rfl slt_30 rfl rfl (Nat.le_refl _) (fun _ => .c (.c (.c (.c (.c .h))))) hz196 (SrcR.box (vss := [[.int .i64 (((mget met2 (end_stand3, end_left)).getD (0, 0, 0, 0, 0)).2.1), .int .i64 (((mget met2 (end_stand3, end_left)).getD (0, 0, 0, 0, 0)).2.2.1)]]) (ys := [(((mget met2 (end_stand3, end_left)).getD (0, 0, 0, 0, 0)).2.1, ((mget met2 (end_stand3, end_left)).getD (0, 0, 0, 0, 0)).2.2.1)]) 0 rfl (prE_ok (iE_ok _) (iE_ok _)) (.cons ⟨_, _, rfl, rfl, rfl⟩ .nil) rfl rfl) h207 g208 (by decide) ?_; intro a210 n214 c211 Lb212 hz213
   refine kO (kd kr) ?_
   refine ua (shO_nil (shW_region ?_))
   refine uv (v_fieldAddr fa_127_2 rfl) (uv (v_loadA (cs := #[.int .i64 (((mget met2 (end_stand3, end_left)).getD (0, 0, 0, 0, 0)).2.2.2.1), .int .i64 (((mget met2 (end_stand3, end_left)).getD (0, 0, 0, 0, 0)).2.2.2.2)]) isAgg125 sizeOf125 rfl (Has.own 0 rfl) (nbL rfl) rfl) (o_storeA (i := 1) sizeOf125 rfl rfl rfl (by simp [Value.oneCell']) rfl (nbL rfl) (shO_L rfl ?_)))
   refine shO_nil (inBlock_n (id := 9) ?_)
   exact le (kd kr) ⟨((mget met2 (end_stand3, end_left)).getD (0, 0, 0, 0, 0)).2.2.2.1, ((mget met2 (end_stand3, end_left)).getD (0, 0, 0, 0, 0)).2.2.2.2, out3, a210, n214, c211, Lb212, r209, rfl, rfl, z5, hz213⟩
  have r216 := ite_f r201 c203
  refine shW_exit (andThen_exit (andThen_exit ?_))
  refine inBlock_exit ?_
  obtain rfl := inj1 r216
  exact mi (kd (kd (kd kr))) ⟨a193, n197, c194, Lb195, rfl, rfl, z2, hz196⟩
 rintro e1 _ _ ⟨a185, n189, c186, Lb187, rfl, rfl, he217, hz188⟩
 refine shW_env _ he217 ?_
 refine wsr (um ?_)
 obtain ⟨s_, h218, r219⟩ := b1_ok r192
 refine o_callG (Lb := Lb187 ++ []) (Lr := []) rfl call44 rfl rfl rfl (pT pR (lp (ln rfl))) (slices_Reverse_round_Cry_round_Cry_w hz188 h218) ?_; rintro _ F220 _ hF221 hd223 hn222 ⟨Lb224, rfl, rfl, hz225⟩
 refine shO_L (lp (ln rfl)) ?_
 refine nsr (um (um (ua (ua (ua (shO_nil (shW_ret ?_)))))))
 refine q_res3 results19 (res_tmp rfl) (res_tmp rfl) (res_tmp rfl) (sr) ?_
 obtain ⟨rfl, rfl, rfl⟩ := inj3 r219
 exact ⟨_, _, _, _, rfl, rfl, hz225.any⟩
theorem round_crier_all_w {hears : List (List Int)} {notices : List ((List Int) × Int × Int)} (hb_c : F b_c = some (.cells ((([.slice walks_a walks.length walks_c] : List Value) ++ (([.slice hears_a hears.length hears_c] : List Value) ++ (([.int .i64 houses] : List Value) ++ (([.int .i64 start] : List Value) ++ (([.slice notices_a notices.length notices_c] : List Value) ++ (walks2.flatMap (cI .i64) ++ (([.slice pairs_a pairs.length pairs_c] : List Value) ++ (hit.flatMap (cI .i64))))))))).toArray) 116 mb_c)) (_h_walks : RowR 1 (slE 1 (iE .i64)) F walks_a walks_c walks) (_h_hears : RowR 1 (slE 1 (iE .i64)) F hears_a hears_c hears) (_h_notices : RowR 3 (prE (slE 1 (iE .i64)) (prE (iE .i64) (iE .i64))) F notices_a notices_c notices) (h_walks2 : walks2.length = 25) (_h_pairs : RowR 2 (prE (iE .i64) (iE .i64)) F pairs_a pairs_c pairs) (_h_hit : hit.length = 15) {r : Int} (hr : round_crier_all walks hears houses start notices walks2 pairs hit = some r) :
    SpecV Tryz.prog 20 #[.pointer (some ⟨b_c, 0, none⟩)] F (.int .i64 r) := by
 refine sp func20 ntmps20 fun K _ _ => ?_
 rw [round_crier_all] at hr
 refine wsr (ua (nsr (um ?_)))
 refine uv (v_nilCheck rfl) (uv (v_fieldAddr fa_116_2 rfl) (uv (v_load isAgg112 rfl (Has.frozen hb_c) (li_cell (li_skip (k := 1) (o := 29) rfl (li_skip (k := 1) (o := 28) rfl (li_skip (k := 1) (o := 27) rfl (li_skip (k := 1) (o := 26) rfl (li_skip (k := 1) (o := 25) rfl (li_skip (k := 25) (o := 0) (lfl (cI_ok .i64) h_walks2) (li_here rfl))))))))) (uv (v_lenS underlying112 rfl) ?_)))
 obtain ⟨g1, r2⟩ := gd_ok hr
 refine uv (v_shl rfl rfl g1) ?_
 obtain ⟨g3, r4⟩ := gd_ok r2
 refine uv (v_sub rfl rfl g3) ?_
 refine ua (shO_nil (shW_ret ?_))
 refine qR1 results20 ?_
 obtain rfl := inj1 r4
 exact rfl
theorem round_crier_by_1_w {notice minute : Int} {b_last : Nat} {mb_last : Nat × Nat} {hears : List (List Int)} {notices : List ((List Int) × Int × Int)} (hb_last : F b_last = some (.cells #[.int .i64 last] 3 mb_last)) (hb_c : F b_c = some (.cells #[.pointer (some ⟨b_c_, 0, none⟩)] 69 mb_c)) (hb_c_ : F b_c_ = some (.cells ((([.slice walks_a walks.length walks_c] : List Value) ++ (([.slice hears_a hears.length hears_c] : List Value) ++ (([.int .i64 houses] : List Value) ++ (([.int .i64 start] : List Value) ++ (([.slice notices_a notices.length notices_c] : List Value) ++ (walks2.flatMap (cI .i64) ++ (([.slice pairs_a pairs.length pairs_c] : List Value) ++ (hit.flatMap (cI .i64))))))))).toArray) 116 mb_c_)) (_h_walks : RowR 1 (slE 1 (iE .i64)) F walks_a walks_c walks) (_h_hears : RowR 1 (slE 1 (iE .i64)) F hears_a hears_c hears) (h_notices : RowR 3 (prE (slE 1 (iE .i64)) (prE (iE .i64) (iE .i64))) F notices_a notices_c notices) (_h_walks2 : walks2.length = 25) (_h_pairs : RowR 2 (prE (iE .i64) (iE .i64)) F pairs_a pairs_c pairs) (_h_hit : hit.length = 15) {r : Bool} (hr : round_crier_by_1 notice minute last walks hears houses start notices walks2 pairs hit = some r) :
    SpecV Tryz.prog 81 #[.int .i64 notice, .int .i64 minute, .pointer (some ⟨b_last, 0, none⟩), .pointer (some ⟨b_c, 0, none⟩)] F (.bool r) := by
 refine sp func81 ntmps81 fun K _ _ => ?_
 rw [round_crier_by_1] at hr
 refine wsr (ua ?_)
 refine dN (wm (wv (v_load isAgg3 rfl (Has.frozen hb_last) rfl) (wv (v_load isAgg69 rfl (Has.frozen hb_c) rfl) (wv (v_nilCheck rfl) (wv (v_fieldAddr fa_116_0 rfl) (wv (v_fieldAddr fa_26_4 rfl) (wv (v_load isAgg24 rfl (Has.frozen hb_c_) (li_cell (li_skip (k := 1) (o := 3) rfl (li_skip (k := 1) (o := 2) rfl (li_skip (k := 1) (o := 1) rfl (li_skip (k := 1) (o := 0) rfl (li_here rfl))))))) ?_)))))))
 refine wm ?_
 obtain ⟨x, g1, hx2, r3⟩ := ix_ok hr
 obtain ⟨b4, o5, c6, vs7, ha8, hs9, hle10, ⟨_, _, rfl, ⟨a13, c14, rfl, h15⟩, ⟨_, _, rfl, rfl, rfl⟩⟩, hl11, hc12⟩ := RowR.at (prE_ok (slE_ok (iE_ok _)) (prE_ok (iE_ok _) (iE_ok _))) h_notices ([]) g1.1 hx2
 refine wv (v_indexO underlying24 sizeOf61 rfl ha8 rfl g1) (wv (v_fieldAddr fa_61_2 rfl) (wv (v_load isAgg3 rfl hs9 (hc12 2 (by decide))) (wv (v_min2 rfl rfl) (wv (v_leqK rfl rfl) ?_))))
 refine wa (shQ_nil (shW_ret ?_))
 refine qR1 results81 ?_
 obtain rfl := inj1 r3
 exact rfl
set_option maxHeartbeats 1000000 in
theorem round_crier_by_w {hears : List (List Int)} {notices : List ((List Int) × Int × Int)} (hb_c : F b_c = some (.cells ((([.slice walks_a walks.length walks_c] : List Value) ++ (([.slice hears_a hears.length hears_c] : List Value) ++ (([.int .i64 houses] : List Value) ++ (([.int .i64 start] : List Value) ++ (([.slice notices_a notices.length notices_c] : List Value) ++ (walks2.flatMap (cI .i64) ++ (([.slice pairs_a pairs.length pairs_c] : List Value) ++ (hit.flatMap (cI .i64))))))))).toArray) 116 mb_c)) (h_walks : RowR 1 (slE 1 (iE .i64)) F walks_a walks_c walks) (h_hears : RowR 1 (slE 1 (iE .i64)) F hears_a hears_c hears) (h_notices : RowR 3 (prE (slE 1 (iE .i64)) (prE (iE .i64) (iE .i64))) F notices_a notices_c notices) (h_walks2 : walks2.length = 25) (h_pairs : RowR 2 (prE (iE .i64) (iE .i64)) F pairs_a pairs_c pairs) (h_hit : hit.length = 15) {r : (Int × Int) → Option Bool} (hr : round_crier_by walks hears houses start notices walks2 pairs hit last = some r) :
    SH.Spec Tryz.prog 45 #[.pointer (some ⟨b_c, 0, none⟩), .int .i64 last] F [] fun F' L' v => ∃ (rfi : FuncId) (rfc : Array Value) (rcp : Array Value), v = .agg #[.func (.func rfi) rfc rcp] ∧ L' = [] ∧ FnR Tryz.prog F' rfi rfc rcp (prE (iE .i64) (iE .i64)) Value.bool r := by
 refine sp func45 ntmps45 fun K _ _ => ?_
 rw [round_crier_by] at hr
 refine wsr ?_
 refine o_box rfl rfl ?_; intro b1 hb1
 refine o_box rfl rfl ?_; intro b2 hb2
 refine o_alloc rfl zeroValue77 ?_; intro b3 hb3
 refine nsr (uv (v_makeFunc rfl rfl) ?_)
 refine uv (v_build (v := .agg (#[.func (.func 81) #[] #[.pointer (some ⟨b2, 0, none⟩), .pointer (some ⟨b1, 0, none⟩)]])) rfl (by intro w; kernel_rfl)) ?_
 refine o_storeA (i := 0) sizeOf77 rfl rfl rfl (by simp [Value.oneCell']) rfl (nbL rfl) (shO_L rfl (shO_nil ?_))
 refine shW_freeze 1 rfl hb2 ?_; intro F4 hF5 hz6
 refine shW_L (L' := [(b3, ce (#[.func (.func 81) #[] #[.pointer (some ⟨b2, 0, none⟩), .pointer (some ⟨b1, 0, none⟩)]]) 77), (b1, ce #[.pointer (some ⟨b_c, 0, none⟩)] 69)]) rfl ?_
 replace h_walks := h_walks.mono (slE_ok (iE_ok _)) hF5
 replace h_hears := h_hears.mono (slE_ok (iE_ok _)) hF5
 replace h_notices := h_notices.mono (prE_ok (slE_ok (iE_ok _)) (prE_ok (iE_ok _) (iE_ok _))) hF5
 replace h_pairs := h_pairs.mono (prE_ok (iE_ok _) (iE_ok _)) hF5
 replace hb_c := hF5 _ _ hb_c
 refine shW_freeze 1 rfl hb1 ?_; intro F7 hF8 hz9
 refine shW_L (L' := [(b3, ce (#[.func (.func 81) #[] #[.pointer (some ⟨b2, 0, none⟩), .pointer (some ⟨b1, 0, none⟩)]]) 77)]) rfl ?_
 replace h_walks := h_walks.mono (slE_ok (iE_ok _)) hF8
 replace h_hears := h_hears.mono (slE_ok (iE_ok _)) hF8
 replace h_notices := h_notices.mono (prE_ok (slE_ok (iE_ok _)) (prE_ok (iE_ok _) (iE_ok _))) hF8
 replace h_pairs := h_pairs.mono (prE_ok (iE_ok _) (iE_ok _)) hF8
 replace hb_c := hF8 _ _ hb_c
 replace hz6 := hF8 _ _ hz6
 have hn10 : FnR Tryz.prog F7 81 #[] #[.pointer (some ⟨b2, 0, none⟩), .pointer (some ⟨b1, 0, none⟩)] (prE (iE .i64) (iE .i64)) Value.bool (fun xx_ : Int × Int => round_crier_by_1 xx_.1 xx_.2 last walks hears houses start notices walks2 pairs hit) := ⟨call81, fun F2 h2 vs xx_ r ha hr => by obtain ⟨_, _, rfl, rfl, rfl⟩ := ha; exact round_crier_by_1_w (h2 _ _ hz6) (h2 _ _ hz9) (h2 _ _ hb_c) (h_walks.mono (slE_ok (iE_ok _)) h2) (h_hears.mono (slE_ok (iE_ok _)) h2) (h_notices.mono (prE_ok (slE_ok (iE_ok _)) (prE_ok (iE_ok _) (iE_ok _))) h2) h_walks2 (h_pairs.mono (prE_ok (iE_ok _) (iE_ok _)) h2) h_hit hr⟩
 refine shW_ret (q_res1 results45 (res_cellA (cs := #[.func (.func 81) #[] #[.pointer (some ⟨b2, 0, none⟩), .pointer (some ⟨b1, 0, none⟩)]]) isAgg77 sizeOf77 rfl (Has.own 0 rfl) (nbL rfl) rfl) (s1 sr) ?_)
 obtain rfl := inj1 hr
 exact ⟨_, _, _, rfl, rfl, hn10⟩
theorem round_crier_hours_w {hears : List (List Int)} {notices : List ((List Int) × Int × Int)} (hb_c : F b_c = some (.cells ((([.slice walks_a walks.length walks_c] : List Value) ++ (([.slice hears_a hears.length hears_c] : List Value) ++ (([.int .i64 houses] : List Value) ++ (([.int .i64 start] : List Value) ++ (([.slice notices_a notices.length notices_c] : List Value) ++ (walks2.flatMap (cI .i64) ++ (([.slice pairs_a pairs.length pairs_c] : List Value) ++ (hit.flatMap (cI .i64))))))))).toArray) 116 mb_c)) (h_walks : RowR 1 (slE 1 (iE .i64)) F walks_a walks_c walks) (h_hears : RowR 1 (slE 1 (iE .i64)) F hears_a hears_c hears) (h_notices : RowR 3 (prE (slE 1 (iE .i64)) (prE (iE .i64) (iE .i64))) F notices_a notices_c notices) (h_walks2 : walks2.length = 25) (h_pairs : RowR 2 (prE (iE .i64) (iE .i64)) F pairs_a pairs_c pairs) (h_hit : hit.length = 15) {r : (Int × Int) → Option Bool} (hr : round_crier_hours walks hears houses start notices walks2 pairs hit = some r) :
    SH.Spec Tryz.prog 21 #[.pointer (some ⟨b_c, 0, none⟩)] F [] fun F' L' v => ∃ (rfi : FuncId) (rfc : Array Value) (rcp : Array Value), v = .agg #[.func (.func rfi) rfc rcp] ∧ L' = [] ∧ FnR Tryz.prog F' rfi rfc rcp (prE (iE .i64) (iE .i64)) Value.bool r := by
 refine sp func21 ntmps21 fun K _ _ => ?_
 rw [round_crier_hours] at hr
 refine wsr ?_
 refine o_alloc rfl zeroValue77 ?_; intro b1 hb1
 refine nsr (um ?_)
 obtain ⟨y, h2, r3⟩ := b1_ok hr
 refine c0 call45 (round_crier_by_w hb_c h_walks h_hears h_notices h_walks2 h_pairs h_hit h2) ?_; rintro _ F4 _ hF5 hn6 ⟨fi8, fc9, cp10, rfl, rfl, hit11⟩
 refine shO_L (ln rfl) (o_storeA (i := 0) sizeOf77 rfl rfl rfl (by simp [Value.oneCell']) rfl (nbL rfl) (shO_L rfl ?_))
 refine shO_nil (shW_ret ?_)
 refine q_res1 results21 (res_cellA (cs := #[.func (.func fi8) fc9 cp10]) isAgg77 sizeOf77 rfl (Has.own 0 rfl) (nbL rfl) rfl) (s1 sr) ?_
 obtain rfl := inj1 r3
 exact ⟨_, _, _, rfl, rfl, hit11⟩
set_option maxHeartbeats 1000000 in
theorem round_Best_w {hears : List (List Int)} {notices : List ((List Int) × Int × Int)} (h_walks : RowR 1 (slE 1 (iE .i64)) F walks_a walks_c walks) (h_hears : RowR 1 (slE 1 (iE .i64)) F hears_a hears_c hears) (h_notices : RowR 3 (prE (slE 1 (iE .i64)) (prE (iE .i64) (iE .i64))) F notices_a notices_c notices) {r : List (Int × Int)} {r2 r3 : Int} (hr : round_Best walks hears houses start notices = some (r, r2, r3)) :
    SH.Spec Tryz.prog 6 #[.agg #[.slice walks_a walks.length walks_c, .slice hears_a hears.length hears_c, .int .i64 houses, .int .i64 start, .slice notices_a notices.length notices_c]] F [] fun F' L' v => ∃ (ra : Option Addr) (rn : Nat) (rc : Nat) (rL : LH), v = .tuple #[.slice ra rn rc, .int .i64 r2, .int .i64 r3] ∧ L' = rL ++ [] ∧ SlR 0 47 2 (prE (iE .i64) (iE .i64)) F' ra rn rc r rL := by
 refine sp func6 ntmps6 fun K _ _ => ?_
 rw [round_Best] at hr
 refine wsr ?_
 refine o_box rfl rfl ?_; intro b1 hb1
 refine ua (ua (ua (nsr ?_)))
 refine uv (v_loadA isAgg26 sizeOf26 rfl (Has.own 0 rfl) (nbL rfl) rfl) ?_
 obtain ⟨d, n, h2, r4⟩ := b2_ok hr
 refine c0 call18 (round_opened_w h_walks h_hears h_notices h2) ?_; rintro _ F5 _ hF6 hn7 ⟨v9, rfl, rfl, hp10⟩
 refine shO_L (ln rfl) ?_
 refine um (ox rfl rfl rfl (ox rfl rfl rfl (ua (ua (shO_nil (shW_seq (wsr (um ?_))))))))
 refine uv (v_neq rfl rfl) (shO_nil ?_)
 refine cQ (fun c11 => ?_) fun c11 => ?_
 ·have r12 := ite_t r4 c11
  refine wsr (um (ua (ua (ua (shO_nil ?_)))))
  refine kW kn ?_
  refine shW_ret (andThen_ret ?_)
  refine q_res3 results6 (res_tmp rfl) (res_tmp rfl) (res_tmp rfl) (sr) ?_
  obtain ⟨rfl, rfl, rfl⟩ := inj3 r12
  exact ⟨_, _, _, [], rfl, rfl, SlR.nil _ _ _ _ _⟩
 have r13 := ite_f r4 c11
 refine shW_skip (wsr (um (um ?_)))
 obtain ⟨walks2, hears2, houses2, start2, notices2, walks3, pairs, hit, h14, r15⟩ := b8_ok r13
 have h35 := hp10; rw [h14] at h35; obtain ⟨b16, c17, m18, hv19, hz20, ⟨_, _, rfl, ⟨a21, c22, rfl, h23⟩, ⟨_, _, rfl, ⟨a24, c25, rfl, h26⟩, ⟨_, _, rfl, rfl, ⟨_, _, rfl, rfl, ⟨_, _, rfl, ⟨a27, c28, rfl, h29⟩, ⟨_, _, rfl, ⟨rfl, h30⟩, ⟨_, _, rfl, ⟨a31, c32, rfl, h33⟩, ⟨rfl, h34⟩⟩⟩⟩⟩⟩⟩⟩⟩ := h35; subst hv19
 have hz20 : F5 b16 = some (.cells ((([.slice a21 walks2.length c22] : List Value) ++ (([.slice a24 hears2.length c25] : List Value) ++ (([.int .i64 houses2] : List Value) ++ (([.int .i64 start2] : List Value) ++ (([.slice a27 notices2.length c28] : List Value) ++ (walks3.flatMap (cI .i64) ++ (([.slice a31 pairs.length c32] : List Value) ++ (hit.flatMap (cI .i64))))))))).toArray) 116 m18) := hz20
 obtain ⟨n2, h36, r37⟩ := b1_ok r15
 refine cV call20 (round_crier_all_w hz20 h23 h26 h29 h30 h33 h34 h36) (um ?_)
 obtain ⟨y, h38, r39⟩ := b1_ok r37
 refine c0 call21 (round_crier_hours_w hz20 h23 h26 h29 h30 h33 h34 h38) ?_; rintro _ F40 _ hF41 hn42 ⟨fi44, fc45, cp46, rfl, rfl, hit47⟩
 replace h23 := h23.mono (slE_ok (iE_ok _)) hF41
 replace h26 := h26.mono (slE_ok (iE_ok _)) hF41
 replace h29 := h29.mono (prE_ok (slE_ok (iE_ok _)) (prE_ok (iE_ok _) (iE_ok _))) hF41
 replace h33 := h33.mono (prE_ok (iE_ok _) (iE_ok _)) hF41
 replace hz20 := hF41 _ _ hz20
 refine shO_L (ln rfl) ?_
 obtain ⟨l, n3, ok, h48, r49⟩ := b3_ok r39
 refine c0 call19 (round_crier_serve_w hz20 h23 h26 h29 h30 h33 h34 hit47 h48) ?_; rintro _ F50 _ hF51 hn52 ⟨a54, n58, c55, Lb56, rfl, rfl, hz57⟩
 replace hz57 := hz57.new fun p hp => hn52 p (by simp [hp])
 refine shO_L (lp (ln rfl)) (kO (kf (fS fO) kr) ?_)
 refine um (ox rfl rfl rfl (ox rfl rfl rfl (ox rfl rfl rfl (ua (ua (ua (shO_nil (shW_seq (wsr ?_)))))))))
 refine um (uv (v_notB rfl) (shO_nil ?_))
 refine shW_cond rfl (fun c60 => ?_) (fun c60 => ?_)
 ·have r61 := bt r49 c60
  refine wsr (ua (ua (ua (shO_nil ?_))))
  refine kW kn ?_
  refine shW_ret (andThen_ret ?_)
  refine q_res3 results6 (res_tmp rfl) (res_tmp rfl) (res_tmp rfl) (sr) ?_
  obtain ⟨rfl, rfl, rfl⟩ := inj3 r61
  exact ⟨_, _, _, [], rfl, rfl, SlR.nil _ _ _ _ _⟩
 have r62 := bf r49 c60
 refine shW_skip (wsr (um (um (ua (ua (ua (shO_nil ?_)))))))
 refine kW (kd kr) (shW_ret (q_res3 results6 (res_tmp rfl) (res_tmp rfl) (res_tmp rfl) (sr) ?_))
 obtain ⟨rfl, rfl, rfl⟩ := inj3 r62
 exact ⟨_, _, _, _, rfl, rfl, hz57.any⟩
theorem book_in_w {r : Bool} (hr : book_in n lo hi = some r) :
    SpecV Tryz.prog 93 #[.int .i64 n, .int .i64 lo, .int .i64 hi] F (.bool r) := by
 refine sp func93 ntmps93 fun K _ _ => ?_
 rw [book_in] at hr
 refine wsr (ua (nsr (um (um ?_))))
 refine uv (v_geqK rfl rfl) (um ?_)
 by_cases c1 : lo ≤ n
 ·have r2 := ite_t hr c1
  refine nT c1 (um (nT c1 (um (nT c1 ?_))))
  refine uv (v_leqK rfl rfl) (uv (v_pick_t (evD_true rfl c1) rfl) ?_)
  refine ua (shO_nil (shW_ret ?_))
  refine qR1 results93 ?_
  obtain rfl := inj1 r2
  exact rfl
 have r3 := ite_f hr c1
 refine fF c1 (fF c1 (fF c1 ?_))
 refine uv (v_pick_f (evD_false rfl c1) rfl) ?_
 refine ua (shO_nil (shW_ret ?_))
 refine qR1 results93 ?_
 obtain rfl := inj1 r3
 exact rfl
theorem book_Book_house_w {notices : Int} {hears : List (List (List Int))} {readings_a : Option Addr} {readings_c : Nat} {readings : List Int} {cries_a : Option Addr} {cries_c : Nat} {cries : List (Int × Int × Int)} {h : Int} (_h_hears : RowR 1 (slE 1 (slE 1 (iE .i64))) F hears_a hears_c hears) (_h_readings : RowR 1 (iE .i64) F readings_a readings_c readings) (_h_cries : RowR 3 (prE (iE .i64) (prE (iE .i64) (iE .i64))) F cries_a cries_c cries) {r : Bool} (hr : book_Book_house houses notices hears readings cries h = some r) :
    SpecV Tryz.prog 94 #[.agg #[.int .i64 houses, .int .i64 notices, .slice hears_a hears.length hears_c, .slice readings_a readings.length readings_c, .slice cries_a cries.length cries_c], .int .i64 h] F (.bool r) := by
 refine sp func94 ntmps94 fun K _ _ => ?_
 rw [book_Book_house] at hr
 refine wsr ?_
 refine o_box rfl rfl ?_; intro b1 hb1
 refine ua (nsr (um ?_))
 refine uv (v_fieldAddr fa_43_0 rfl) (uv (v_load isAgg3 rfl (Has.own 0 rfl) rfl) ?_)
 obtain ⟨g2, r3⟩ := gd_ok hr
 refine uv (v_sub rfl rfl g2) ?_
 obtain ⟨ok, h4, r5⟩ := b1_ok r3
 refine cV call93 (book_in_w h4) ?_
 refine ua (shO_nil ?_)
 refine kW kn (shW_ret (qR1 results94 ?_))
 obtain rfl := inj1 r5
 exact rfl
end Go.Proofs.YtggpjocmoelpbaaGreat
