/- The walks that this claim needs, printed by a program of mine; part 4. -/
import Derived.Test.YtkfbbjiniapooaaGreatZSNS3
namespace Go.Proofs.YtkfbbjiniapooaaGreat
open Go.SH Go.PL
open Tryz 
set_option maxHeartbeats 1000000 in
theorem Lx {F : FS} {r : Bool} (hr : Gj = some r) :
    Bz Tryz.prog 3 #[] F (.bool r) := by
 refine sp func3 ntmps3 fun K _ _ => ?_
 rw [Gj] at hr
 refine AM (ua (Aa ?_))
 refine AQ (fun e1 F1 L1 => E3 = some r ∧ AY F F1 ∧ L1 = [] ∧ e1.sub []) ?_ ?_
 ·refine AM ?_
  refine bA (cs := #[.int .i64 (-2), .int .i64 (-1), .int .i64 0, .int .i64 1, .int .i64 2, .int .i64 3, .int .i64 4, .int .i64 5, .int .i64 6, .int .i64 7, .int .i64 29, .int .i64 30, .int .i64 31, .int .i64 39, .int .i64 40, .int .i64 41, .int .i64 9223372036854775807, .int .i64 (-9223372036854775808)]) Br [.int .i64 (-2), .int .i64 (-1), .int .i64 0, .int .i64 1, .int .i64 2, .int .i64 3, .int .i64 4, .int .i64 5, .int .i64 6, .int .i64 7, .int .i64 29, .int .i64 30, .int .i64 31, .int .i64 39, .int .i64 40, .int .i64 41, .int .i64 9223372036854775807, .int .i64 (-9223372036854775808)] ?_; intro b1 hb1
  refine uv (AX underlying22 rfl) ?_
  refine um (Aa ?_)
  refine Aq ?_
  refine GI 0 rfl hb1 ?_; intro F2 hF3 hz4
  refine IB (L' := []) rfl ?_
  have h5 : AL 1 (iE .i64) F2 (some ⟨b1, 0, none⟩) 18 [-2, -1, 0, 1, 2, 3, 4, 5, 6, 7, 29, 30, 31, 39, 40, 41, 9223372036854775807, -9223372036854775808] := AL.BS (Ad _) (vss := [[.int .i64 (-2)], [.int .i64 (-1)], [.int .i64 0], [.int .i64 1], [.int .i64 2], [.int .i64 3], [.int .i64 4], [.int .i64 5], [.int .i64 6], [.int .i64 7], [.int .i64 29], [.int .i64 30], [.int .i64 31], [.int .i64 39], [.int .i64 40], [.int .i64 41], [.int .i64 9223372036854775807], [.int .i64 (-9223372036854775808)]]) (xs := [-2, -1, 0, 1, 2, 3, 4, 5, 6, 7, 29, 30, 31, 39, 40, 41, 9223372036854775807, -9223372036854775808]) hz4 (.cons rfl (.cons rfl (.cons rfl (.cons rfl (.cons rfl (.cons rfl (.cons rfl (.cons rfl (.cons rfl (.cons rfl (.cons rfl (.cons rfl (.cons rfl (.cons rfl (.cons rfl (.cons rfl (.cons rfl (.cons rfl .nil)))))))))))))))))) rfl (by simp [maxLen])
  obtain ⟨g6, r7⟩ := AW hr
  refine A9 (fun oh e1 F1 L1 => ∃ (k : Int), DD 0 18 k oh ∧ An oh k = some r ∧ AY F2 F1 ∧ L1 = [] ∧ e1.sub [(24, .slice (some ⟨b1, 0, none⟩) [-2, -1, 0, 1, 2, 3, 4, 5, 6, 7, 29, 30, 31, 39, 40, 41, 9223372036854775807, -9223372036854775808].length 18), (25, .int .i64 18), (26, .int .i64 k)]) _ (m0 kr ⟨_, DD.start _ _, r7, AY.refl _, rfl, z3⟩) ?_
  rintro oh e1 F12 _ ⟨k, hk8, r10, na, rfl, he11⟩
  refine Az _ he11 ?_
  replace h5 := h5.mono (Ad _) na
  refine AM (uv (A7 rfl rfl) ?_)
  refine Aa (Ar ?_)
  refine cQ (fun JH => ?_) fun JH => ?_
  ·obtain ⟨oh, rfl, hk16⟩ := DD.succ hk8 JH
   rw [An] at r10
   refine Al ?_
   refine AQ (fun e1 F1 L1 => GG k (An oh) = some r ∧ AY F12 F1 ∧ L1 = [] ∧ e1.sub [(24, .slice (some ⟨b1, 0, none⟩) [-2, -1, 0, 1, 2, 3, 4, 5, 6, 7, 29, 30, 31, 39, 40, 41, 9223372036854775807, -9223372036854775808].length 18), (25, .int .i64 18), (26, .int .i64 k)]) ?_ ?_
   ·refine Aq (AM ?_)
    obtain ⟨x, g17, hx18, r19⟩ := Bj r10
    obtain ⟨b20, o21, I1, vs23, ha24, hs25, hle26, rfl, hl27, hc28⟩ := AL.at (Ad _) h5 ([]) g17.1 hx18
    refine uv (AA underlying22 sizeOf3 rfl ha24 rfl g17) (uv (Ao isAgg3 rfl hs25 (hc28 0 (by decide))) ?_)
    refine ua (BX (um (Aa ?_)))
    refine Aq ?_
    obtain ⟨g29, r30⟩ := AW r19
    refine A9 (fun fu4 e1 F1 L1 => ∃ (k2 : Int), DD 0 12 k2 fu4 ∧ D8 k x (An oh) fu4 k2 = some r ∧ AY F12 F1 ∧ L1 = [] ∧ e1.sub [(2, .int .i64 x), (24, .slice (some ⟨b1, 0, none⟩) [-2, -1, 0, 1, 2, 3, 4, 5, 6, 7, 29, 30, 31, 39, 40, 41, 9223372036854775807, -9223372036854775808].length 18), (25, .int .i64 18), (26, .int .i64 k), (30, .int .i64 k2)]) _ (m0 kr ⟨_, DD.start _ _, r30, AY.refl _, rfl, z5⟩) ?_
    rintro fu4 e1 F35 _ ⟨k2, nc, r33, oj, rfl, he34⟩
    refine Az _ he34 (AM (uv (A7 rfl rfl) ?_))
    refine Aa (Ar ?_)
    refine cQ (fun c38 => ?_) fun c38 => ?_
    ·obtain ⟨fu4, rfl, hk39⟩ := DD.succ nc c38
     rw [D8] at r33
     refine Al (Ar ?_)
     refine Aq ?_
     refine AM (um (ua (BX ?_)))
     refine bA (cs := #[.string (sB [104, 115, 104]), .string (sB [115, 119, 115])]) NB [.string (sB [104, 115, 104]), .string (sB [115, 119, 115])] ?_; intro b40 hb40
     refine B1 0 rfl hb40 ?_; intro F41 hF42 hz43
     refine AJ rfl ?_
     have h44 : AL 1 sE F41 (some ⟨b40, 0, none⟩) 2 [[104, 115, 104], [115, 119, 115]] := AL.BS Pn (vss := [[.string (sB [104, 115, 104])], [.string (sB [115, 119, 115])]]) (xs := [[104, 115, 104], [115, 119, 115]]) hz43 (.cons rfl (.cons rfl .nil)) rfl (by simp [maxLen])
     obtain ⟨n, l, h45, r46⟩ := Bs r33
     refine c0 call4 (EC h44 h45) ?_; rintro _ F47 _ hF48 hn49 ⟨ez, fa, fb, bc, rfl, rfl, bq⟩
     replace bq := bq.new fun p hp => hn49 p (by simp [hp])
     refine AJ (lp (ln rfl)) ?_
     refine uv (Bc (v := .agg #[.int .i64 2, .int .i64 4]) rfl (by intro w; kernel_rfl)) ?_
     refine bA (cs := #[.int .i64 2, .int .i64 0, .int .i64 2, .int .i64 4, .int .i64 0, .int .i64 4]) Br [.int .i64 2, .int .i64 0, .int .i64 2, .int .i64 4, .int .i64 0, .int .i64 4] ?_; intro oo hb57
     refine bA (cs := #[.int .i64 1, .int .i64 0, .int .i64 3]) Br [.int .i64 1, .int .i64 0, .int .i64 3] ?_; intro nf hb58
     refine bA (cs := #[.int .i64 0, .int .i64 2]) Br [.int .i64 0, .int .i64 2] ?_; intro iw hb59
     refine A6 rfl zeroValue25 ?_; intro dz hb60
     refine A6 rfl zeroValue29 ?_; intro eb hb61
     refine A6 rfl zeroValue3 ?_; intro eg hb62
     refine A6 rfl zeroValue3 ?_; intro Pr hb63
     refine A6 rfl zeroValue3 ?_; intro eh hb64
     refine Bg (i := 4) sizeOf25 rfl rfl rfl (by simp [Value.oneCell']) rfl (Be rfl) (AJ rfl (Bg (i := 3) sizeOf29 rfl rfl rfl (by simp [Value.oneCell']) rfl (Be rfl) (AJ rfl (Bt (i := 2) sizeOf3 rfl rfl rfl rfl (Be rfl) (AJ rfl (Bt (i := 1) sizeOf3 rfl rfl rfl rfl (Be rfl) (AJ rfl ?_)))))))
     have av : AN K.w0.heap.size 3 1 (iE .i64) F47 (some ⟨oo, 0, none⟩) 6 6 [2, 0, 2, 4, 0, 4] [(oo, ce #[.int .i64 2, .int .i64 0, .int .i64 2, .int .i64 4, .int .i64 0, .int .i64 4] 3)] := AN.BS (vss := [[.int .i64 2], [.int .i64 0], [.int .i64 2], [.int .i64 4], [.int .i64 0], [.int .i64 4]]) (Ad _) hb57 (.cons rfl (.cons rfl (.cons rfl (.cons rfl (.cons rfl (.cons rfl .nil)))))) rfl rfl (by simp [maxLen])
     generalize ng : ([(oo, ce #[.int .i64 2, .int .i64 0, .int .i64 2, .int .i64 4, .int .i64 0, .int .i64 4] 3)] : LH) = aw at av
     refine AV (L' := aw ++ ((eh, ce #[.int .i64 0] 3) :: ((Pr, ce #[.int .i64 2] 3) :: ((eg, ce #[.int .i64 1] 3) :: ((eb, ce #[.int .i64 2, .int .i64 4] 29) :: ((dz, ce #[.int .i64 n, .slice ez fa fb] 25) :: ((iw, ce #[.int .i64 0, .int .i64 2] 3) :: ((nf, ce #[.int .i64 1, .int .i64 0, .int .i64 3] 3) :: (bc ++ []))))))))) (by rw [← ng]; exact (fC (fC (fC (fC (fC (fC (fC fO)))))))) ?_
     refine AV (L' := (eh, ce #[.int .i64 0] 3) :: ((Pr, ce #[.int .i64 2] 3) :: ((eg, ce #[.int .i64 1] 3) :: ((eb, ce #[.int .i64 2, .int .i64 4] 29) :: ((dz, ce #[.int .i64 n, .slice ez fa fb] 25) :: ((iw, ce #[.int .i64 0, .int .i64 2] 3) :: ((nf, ce #[.int .i64 1, .int .i64 0, .int .i64 3] 3) :: (aw ++ (bc ++ []))))))))) (List.Perm.symm (fC (fC (fC (fC (fC (fC (fC fP)))))))) (ua ?_)
     have bg : AN K.w0.heap.size 3 1 (iE .i64) F47 (some ⟨nf, 0, none⟩) 3 3 [1, 0, 3] [(nf, ce #[.int .i64 1, .int .i64 0, .int .i64 3] 3)] := AN.BS (vss := [[.int .i64 1], [.int .i64 0], [.int .i64 3]]) (Ad _) hb58 (.cons rfl (.cons rfl (.cons rfl .nil))) rfl rfl (by simp [maxLen])
     generalize nh : ([(nf, ce #[.int .i64 1, .int .i64 0, .int .i64 3] 3)] : LH) = bh at bg
     refine AV (L' := bh ++ ((eh, ce #[.int .i64 0] 3) :: ((Pr, ce #[.int .i64 2] 3) :: ((eg, ce #[.int .i64 1] 3) :: ((eb, ce #[.int .i64 2, .int .i64 4] 29) :: ((dz, ce #[.int .i64 n, .slice ez fa fb] 25) :: ((iw, ce #[.int .i64 0, .int .i64 2] 3) :: (aw ++ (bc ++ []))))))))) (by rw [← nh]; exact (fC (fC (fC (fC (fC (fC fO))))))) ?_
     refine AV (L' := (eh, ce #[.int .i64 0] 3) :: ((Pr, ce #[.int .i64 2] 3) :: ((eg, ce #[.int .i64 1] 3) :: ((eb, ce #[.int .i64 2, .int .i64 4] 29) :: ((dz, ce #[.int .i64 n, .slice ez fa fb] 25) :: ((iw, ce #[.int .i64 0, .int .i64 2] 3) :: (bh ++ (aw ++ (bc ++ []))))))))) (List.Perm.symm (fC (fC (fC (fC (fC (fC fP))))))) (ua ?_)
     have bj : AN K.w0.heap.size 3 1 (iE .i64) F47 (some ⟨iw, 0, none⟩) 2 2 [0, 2] [(iw, ce #[.int .i64 0, .int .i64 2] 3)] := AN.BS (vss := [[.int .i64 0], [.int .i64 2]]) (Ad _) hb59 (.cons rfl (.cons rfl .nil)) rfl rfl (by simp [maxLen])
     generalize ni : ([(iw, ce #[.int .i64 0, .int .i64 2] 3)] : LH) = Lb71 at bj
     refine AV (L' := Lb71 ++ ((eh, ce #[.int .i64 0] 3) :: ((Pr, ce #[.int .i64 2] 3) :: ((eg, ce #[.int .i64 1] 3) :: ((eb, ce #[.int .i64 2, .int .i64 4] 29) :: ((dz, ce #[.int .i64 n, .slice ez fa fb] 25) :: (bh ++ (aw ++ (bc ++ []))))))))) (by rw [← ni]; exact (fC (fC (fC (fC (fC fO)))))) ?_
     refine AV (L' := (eh, ce #[.int .i64 0] 3) :: ((Pr, ce #[.int .i64 2] 3) :: ((eg, ce #[.int .i64 1] 3) :: ((eb, ce #[.int .i64 2, .int .i64 4] 29) :: ((dz, ce #[.int .i64 n, .slice ez fa fb] 25) :: (Lb71 ++ (bh ++ (aw ++ (bc ++ []))))))))) (List.Perm.symm (fC (fC (fC (fC (fC fP)))))) (ua (Bt (i := 0) sizeOf3 rfl rfl rfl rfl (Be rfl) (AJ rfl ?_)))
     refine Aa (Ar ?_)
     refine CF [(.still, 0), (.still, 1), (.still, 2), (.still, 3), (.still, 4), (.still, 5), (.still, 6), (.still, 7), (.still, 8), (.still, 9), (.still, 10), (.still, 11), (.still, 12), (.still, 13), (.still, 14), (.still, 15), (.seq, 16), (.still, 17)] (by kernel_rfl) (by kernel_rfl) (trivial) (by rfl) (by kernel_rfl) (mS [4] rfl (Am Hx rfl) (mS [5] rfl (Am GW rfl) (mS [8] rfl (Bh rfl) ?_)))
     obtain ⟨x2, g74, hx75, r76⟩ := Bj r46
     obtain ⟨b77, o78, c79, vs80, oq, hs82, hle83, rfl, hl84, hc85⟩ := AN.at (Ad _) av (L := aw ++ []) fP g74.1 hx75
     refine mS [41] rfl (AA underlying22 sizeOf3 rfl oq rfl (AN.idx av g74)) (mS [8] rfl (Bh rfl) ?_)
     obtain ⟨x3, g86, hx87, r88⟩ := Bj r76
     obtain ⟨b89, o90, c91, vs92, ot, hs94, hle95, rfl, hl96, hc97⟩ := AN.at (Ad _) av (L := aw ++ []) fP g86.1 hx87
     refine mS [43] rfl (AA underlying22 sizeOf3 rfl ot rfl (AN.idx av g86)) (mS [9] rfl (Bh rfl) ?_)
     obtain ⟨x4, g98, hx99, r100⟩ := Bj r88
     obtain ⟨iy, iz, c103, vs104, lh, hs106, hle107, rfl, hl108, hc109⟩ := AN.at (Ad _) bg (L := bh ++ []) fP g98.1 hx99
     refine mS [45] rfl (AA underlying22 sizeOf3 rfl lh rfl (AN.idx bg g98)) (mS [9] rfl (Bh rfl) ?_)
     obtain ⟨x5, nj, ou, r112⟩ := Bj r100
     obtain ⟨j0, j4, c115, vs116, lj, hs118, hle119, rfl, hl120, hc121⟩ := AN.at (Ad _) bg (L := bh ++ []) fP nj.1 ou
     refine mS [47] rfl (AA underlying22 sizeOf3 rfl lj rfl (AN.idx bg nj)) (mS [10] rfl (Bh rfl) ?_)
     obtain ⟨x6, nk, ow, r124⟩ := Bj r112
     obtain ⟨j5, j6, c127, vs128, lk, hs130, hle131, rfl, hl132, hc133⟩ := AN.at (Ad _) bj (L := Lb71 ++ []) fP nk.1 ow
     refine mS [49] rfl (AA underlying22 sizeOf3 rfl lk rfl (AN.idx bj nk)) (mS [8] rfl (Bh rfl) ?_)
     obtain ⟨x7, nn, oy, r136⟩ := Bj r124
     obtain ⟨j7, j8, c139, vs140, ll, hs142, hle143, rfl, hl144, hc145⟩ := AN.at (Ad _) av (L := aw ++ []) fP nn.1 oy
     refine mS [51] rfl (AA underlying22 sizeOf3 rfl ll rfl (AN.idx av nn)) (mS [10] rfl (Bh rfl) ?_)
     obtain ⟨x8, np, oz, r148⟩ := Bj r136
     obtain ⟨j9, ja, c151, vs152, lq, hs154, hle155, rfl, hl156, hc157⟩ := AN.at (Ad _) bj (L := Lb71 ++ []) fP np.1 oz
     refine mS [53] rfl (AA underlying22 sizeOf3 rfl lq rfl (AN.idx bj np)) ?_
     refine ⟨_, [(6, .pointer (some ⟨eg, 0, none⟩)), (7, .pointer (some ⟨Pr, 0, none⟩)), (11, .pointer (some ⟨eh, 0, none⟩)), (39, .pointer (some ⟨dz, 0, none⟩)), (40, .pointer (some ⟨eb, 1, none⟩)), (42, .pointer (some ⟨b77, o78 + (0 : Int).toNat * 1, none⟩)), (44, .pointer (some ⟨b89, o90 + (4 : Int).toNat * 1, none⟩)), (46, .pointer (some ⟨iy, iz + (0 : Int).toNat * 1, none⟩)), (48, .pointer (some ⟨j0, j4 + (2 : Int).toNat * 1, none⟩)), (50, .pointer (some ⟨j5, j6 + (1 : Int).toNat * 1, none⟩)), (52, .pointer (some ⟨j7, j8 + (1 : Int).toNat * 1, none⟩)), (54, .pointer (some ⟨j9, ja + (0 : Int).toNat * 1, none⟩))], rfl, rfl, (sc rfl (sc rfl (sc rfl (sc rfl z8)))), by kernel_rfl, ?_⟩; intro H
     refine bA (cs := #[.pointer (some ⟨dz, 0, none⟩), .pointer (some ⟨eb, 1, none⟩), .pointer (some ⟨eg, 0, none⟩), .pointer (some ⟨Pr, 0, none⟩), .pointer (some ⟨b77, o78 + (0 : Int).toNat * 1, none⟩), .pointer (some ⟨b89, o90 + (4 : Int).toNat * 1, none⟩), .pointer (some ⟨iy, iz + (0 : Int).toNat * 1, none⟩), .pointer (some ⟨j0, j4 + (2 : Int).toNat * 1, none⟩), .pointer (some ⟨j5, j6 + (1 : Int).toNat * 1, none⟩), .pointer (some ⟨eh, 0, none⟩), .pointer (some ⟨j7, j8 + (1 : Int).toNat * 1, none⟩), .pointer (some ⟨j9, ja + (0 : Int).toNat * 1, none⟩)]) Wy [.pointer (some ⟨dz, 0, none⟩), .pointer (some ⟨eb, 1, none⟩), .pointer (some ⟨eg, 0, none⟩), .pointer (some ⟨Pr, 0, none⟩), .pointer (some ⟨b77, o78 + (0 : Int).toNat * 1, none⟩), .pointer (some ⟨b89, o90 + (4 : Int).toNat * 1, none⟩), .pointer (some ⟨iy, iz + (0 : Int).toNat * 1, none⟩), .pointer (some ⟨j0, j4 + (2 : Int).toNat * 1, none⟩), .pointer (some ⟨j5, j6 + (1 : Int).toNat * 1, none⟩), .pointer (some ⟨eh, 0, none⟩), .pointer (some ⟨j7, j8 + (1 : Int).toNat * 1, none⟩), .pointer (some ⟨j9, ja + (0 : Int).toNat * 1, none⟩)] ?_; intro cw hb158
     refine Aa ⟨_, rfl, AY.refl _, [], by kernel_rfl, .inl (.inl rfl), nm, ?_⟩
     refine mS [55] rfl (Ej rfl) (DI ?_)
     obtain ⟨bx, jb, bz, ax, stand, Cw, table, HR, some_, BC, p0, p7⟩ := WL r148
     refine AQ (fun e1 F1 L1 => ∃ (cf : LH) (cg : LH) (cj : LH) (cn : LH), F47 = F1 ∧ L1 = ((eh, ce #[.int .i64 BC] 3) :: ((Pr, ce #[.int .i64 Cw] 3) :: ((eg, ce #[.int .i64 stand] 3) :: ((eb, ce #[.int .i64 bz, .int .i64 ax] 29) :: ((dz, ce #[.int .i64 bx, .slice ez fa fb] 25) :: (cf ++ (cg ++ (cj ++ (cn ++ []))))))))) ∧ e1.sub [(2, .int .i64 x), (4, .pointer (some ⟨dz, 0, none⟩)), (5, .pointer (some ⟨eb, 0, none⟩)), (6, .pointer (some ⟨eg, 0, none⟩)), (7, .pointer (some ⟨Pr, 0, none⟩)), (8, .slice (some ⟨oo, 0, none⟩) 6 6), (9, .slice (some ⟨nf, 0, none⟩) 3 3), (10, .slice (some ⟨iw, 0, none⟩) 2 2), (11, .pointer (some ⟨eh, 0, none⟩)), (24, .slice (some ⟨b1, 0, none⟩) [-2, -1, 0, 1, 2, 3, 4, 5, 6, 7, 29, 30, 31, 39, 40, 41, 9223372036854775807, -9223372036854775808].length 18), (25, .int .i64 18), (26, .int .i64 k), (30, .int .i64 k2)] ∧ AN K.w0.heap.size 32 1 (iE .i64) F1 ez fa fb jb cf ∧ AN K.w0.heap.size 3 1 (iE .i64) F1 (some ⟨oo, 0, none⟩) 6 6 table cg ∧ AN K.w0.heap.size 3 1 (iE .i64) F1 (some ⟨nf, 0, none⟩) 3 3 HR cj ∧ AN K.w0.heap.size 3 1 (iE .i64) F1 (some ⟨iw, 0, none⟩) 2 2 some_ cn) ?_ ?_
     ·clear p7
      refine AM (um (um ?_))
      by_cases br : k2 = 0
      ·have r170 := AO p0 br
       refine uv (FC.eq (v' := .pointer (some ⟨cw, 0, none⟩)) (Gw (i := k2) underlying31 sizeOf30 rfl rfl (by have := br; omega)) (by rw [br]; rfl)) ?_
       refine uv (Ao isAgg30 rfl (Has.own 0 rfl) rfl) (um (uv (BU rfl) (Bt (i := 5) sizeOf3 rfl rfl rfl rfl (Be rfl) (AJ rfl ?_))))
       refine BX (um ?_)
       refine uv (Bv rfl rfl) (Aa ?_)
       refine EF rfl (fun p8 => ?_) (fun p8 => absurd br p8)
       refine Ak (uv (Am BN rfl) (uv (Ao isAgg23 rfl (Has.own 5 rfl) rfl) ?_))
       refine um (um ?_)
       obtain ⟨x9, nq, p9, r174⟩ := Bj r170
       obtain ⟨b175, o176, c177, vs178, lr, hs180, hle181, rfl, hl182, hc183⟩ := AN.at (Ad _) bq (L := (cw, ce #[.pointer (some ⟨dz, 0, none⟩), .pointer (some ⟨eb, 1, none⟩), .pointer (some ⟨eg, 0, none⟩), .pointer (some ⟨Pr, 0, none⟩), .pointer (some ⟨b77, o78 + (0 : Int).toNat * 1, none⟩), .pointer (some ⟨b89, o90 + (4 : Int).toNat * 1, none⟩), .pointer (some ⟨iy, iz + (0 : Int).toNat * 1, none⟩), .pointer (some ⟨j0, j4 + (2 : Int).toNat * 1, none⟩), .pointer (some ⟨j5, j6 + (1 : Int).toNat * 1, none⟩), .pointer (some ⟨eh, 0, none⟩), .pointer (some ⟨j7, j8 + (1 : Int).toNat * 1, none⟩), .pointer (some ⟨j9, ja + (0 : Int).toNat * 1, none⟩)] 30) :: ((eh, ce #[.int .i64 1] 3) :: ((Pr, ce #[.int .i64 2] 3) :: ((eg, ce #[.int .i64 1] 3) :: ((eb, ce #[.int .i64 2, .int .i64 4] 29) :: ((dz, ce #[.int .i64 x, .slice ez fa fb] 25) :: (Lb71 ++ (bh ++ (aw ++ (bc ++ [])))))))))) (fC (fC (fC (fC (fC (fC (fS (fS (fS fP))))))))) nq.1 p9
       refine uv (AA underlying23 sizeOf32 rfl lr rfl (AN.idx bq nq)) ?_
       obtain ⟨t, h184, r185⟩ := B8 r174
       refine Cv (u := x) sizeOf32 (Ad _) rfl lr rfl rfl (fun _ => .c (.c (.c (.c (.c (.c (.s (.s (.s .h))))))))) bq h184 nq ?_; intro pa pb
       refine uv (Am GX rfl) (Bt (i := 4) sizeOf27 rfl rfl rfl rfl (Be rfl) (AJ rfl (Aa ?_)))
       obtain ⟨rfl, rfl, rfl, rfl, rfl, rfl, rfl, rfl, rfl, rfl⟩ := Lk r185
       exact mi (kd (kc (kc (kc (kc (kc (kg (fS (fS (fS fP))) (kg (fS (fS fP)) (kg (fS fP) kr))))))))) ⟨pa, aw, bh, Lb71, rfl, rfl, (sc rfl (sc rfl (sc rfl (sc rfl (sc rfl z8))))), pb, av, bg, bj⟩
      have pc := AP p0 br
      by_cases jc : k2 = 1
      ·have r190 := AO pc jc
       refine uv (FC.eq (v' := .pointer (some ⟨cw, 1, none⟩)) (Gw (i := k2) underlying31 sizeOf30 rfl rfl (by have := jc; omega)) (by rw [jc]; rfl)) ?_
       refine uv (Ao isAgg30 rfl (Has.own 0 rfl) rfl) (um (uv (BU rfl) (Bt (i := 4) sizeOf3 rfl rfl rfl rfl (Be rfl) (AJ rfl ?_))))
       refine BX (um ?_)
       refine uv (Bv rfl rfl) (Aa ?_)
       refine EF rfl (fun pd => absurd pd br) (fun pd => ?_)
       refine Al ?_
       obtain ⟨rfl, rfl, rfl, rfl, rfl, rfl, rfl, rfl, rfl, rfl⟩ := Lk r190
       exact mi (kd (kc (kc (kc (kc (kc (kg (fS (fS (fS fP))) (kg (fS (fS fP)) (kg (fS fP) kr))))))))) ⟨bc, aw, bh, Lb71, rfl, rfl, (sc rfl (sc rfl (sc rfl (sc rfl (sc rfl z8))))), bq, av, bg, bj⟩
      have pe := AP pc jc
      by_cases jd : k2 = 2
      ·have r194 := AO pe jd
       refine uv (FC.eq (v' := .pointer (some ⟨cw, 2, none⟩)) (Gw (i := k2) underlying31 sizeOf30 rfl rfl (by have := jd; omega)) (by rw [jd]; rfl)) ?_
       refine uv (Ao isAgg30 rfl (Has.own 0 rfl) rfl) (um (uv (BU rfl) (Bt (i := 3) sizeOf3 rfl rfl rfl rfl (Be rfl) (AJ rfl ?_))))
       refine BX (um ?_)
       refine uv (Bv rfl rfl) (Aa ?_)
       refine EF rfl (fun pf => absurd pf br) (fun pf => ?_)
       refine Al ?_
       obtain ⟨rfl, rfl, rfl, rfl, rfl, rfl, rfl, rfl, rfl, rfl⟩ := Lk r194
       exact mi (kd (kc (kc (kc (kc (kc (kg (fS (fS (fS fP))) (kg (fS (fS fP)) (kg (fS fP) kr))))))))) ⟨bc, aw, bh, Lb71, rfl, rfl, (sc rfl (sc rfl (sc rfl (sc rfl (sc rfl z8))))), bq, av, bg, bj⟩
      have pg := AP pe jd
      by_cases je : k2 = 3
      ·have r198 := AO pg je
       refine uv (FC.eq (v' := .pointer (some ⟨cw, 3, none⟩)) (Gw (i := k2) underlying31 sizeOf30 rfl rfl (by have := je; omega)) (by rw [je]; rfl)) ?_
       refine uv (Ao isAgg30 rfl (Has.own 0 rfl) rfl) (um (uv (BU rfl) (Bt (i := 2) sizeOf3 rfl rfl rfl rfl (Be rfl) (AJ rfl ?_))))
       refine BX (um ?_)
       refine uv (Bv rfl rfl) (Aa ?_)
       refine EF rfl (fun ph => absurd ph br) (fun ph => ?_)
       refine Al ?_
       obtain ⟨rfl, rfl, rfl, rfl, rfl, rfl, rfl, rfl, rfl, rfl⟩ := Lk r198
       exact mi (kd (kc (kc (kc (kc (kc (kg (fS (fS (fS fP))) (kg (fS (fS fP)) (kg (fS fP) kr))))))))) ⟨bc, aw, bh, Lb71, rfl, rfl, (sc rfl (sc rfl (sc rfl (sc rfl (sc rfl z8))))), bq, av, bg, bj⟩
      have pj := AP pg je
      by_cases jf : k2 = 4
      ·have r202 := AO pj jf
       refine uv (FC.eq (v' := .pointer (some ⟨cw, 4, none⟩)) (Gw (i := k2) underlying31 sizeOf30 rfl rfl (by have := jf; omega)) (by rw [jf]; rfl)) ?_
       refine uv (Ao isAgg30 rfl (Has.own 0 rfl) rfl) (um (uv (BU rfl) ?_))
       obtain ⟨table2, h203, r204⟩ := B8 r202
       refine Cv (u := x) sizeOf3 (Ad _) rfl oq rfl rfl (fun _ => .c (.c (.c (.c (.c (.c (.s (.s .h)))))))) av h203 g74 ?_; intro pk pn
       refine BX (um ?_)
       refine uv (Bv rfl rfl) (Aa ?_)
       refine EF rfl (fun po => absurd po br) (fun po => ?_)
       refine Al ?_
       obtain ⟨rfl, rfl, rfl, rfl, rfl, rfl, rfl, rfl, rfl, rfl⟩ := Lk r204
       exact mi (kd (kc (kc (kc (kc (kc (kg (fS (fS (fS fP))) (kg (fS (fS fP)) (kg (fS fP) kr))))))))) ⟨bc, pk, bh, Lb71, rfl, rfl, (sc rfl (sc rfl (sc rfl (sc rfl (sc rfl z8))))), bq, pn, bg, bj⟩
      have pq := AP pj jf
      by_cases jg : k2 = 5
      ·have r210 := AO pq jg
       refine uv (FC.eq (v' := .pointer (some ⟨cw, 5, none⟩)) (Gw (i := k2) underlying31 sizeOf30 rfl rfl (by have := jg; omega)) (by rw [jg]; rfl)) ?_
       refine uv (Ao isAgg30 rfl (Has.own 0 rfl) rfl) (um (uv (BU rfl) ?_))
       obtain ⟨table3, h211, r212⟩ := B8 r210
       refine Cv (u := x) sizeOf3 (Ad _) rfl ot rfl rfl (fun _ => .c (.c (.c (.c (.c (.c (.s (.s .h)))))))) av h211 g86 ?_; intro pr pt
       refine BX (um ?_)
       refine uv (Bv rfl rfl) (Aa ?_)
       refine EF rfl (fun pv => absurd pv br) (fun pv => ?_)
       refine Al ?_
       obtain ⟨rfl, rfl, rfl, rfl, rfl, rfl, rfl, rfl, rfl, rfl⟩ := Lk r212
       exact mi (kd (kc (kc (kc (kc (kc (kg (fS (fS (fS fP))) (kg (fS (fS fP)) (kg (fS fP) kr))))))))) ⟨bc, pr, bh, Lb71, rfl, rfl, (sc rfl (sc rfl (sc rfl (sc rfl (sc rfl z8))))), bq, pt, bg, bj⟩
      have pw := AP pq jg
      by_cases jh : k2 = 6
      ·have r218 := AO pw jh
       refine uv (FC.eq (v' := .pointer (some ⟨cw, 6, none⟩)) (Gw (i := k2) underlying31 sizeOf30 rfl rfl (by have := jh; omega)) (by rw [jh]; rfl)) ?_
       refine uv (Ao isAgg30 rfl (Has.own 0 rfl) rfl) (um (uv (BU rfl) ?_))
       obtain ⟨way2, h219, r220⟩ := B8 r218
       refine Cv (u := x) sizeOf3 (Ad _) rfl lh rfl rfl (fun _ => .c (.c (.c (.c (.c (.c (.s .h))))))) bg h219 g98 ?_; intro px py
       refine BX (um ?_)
       refine uv (Bv rfl rfl) (Aa ?_)
       refine EF rfl (fun pz => absurd pz br) (fun pz => ?_)
       refine Al ?_
       obtain ⟨rfl, rfl, rfl, rfl, rfl, rfl, rfl, rfl, rfl, rfl⟩ := Lk r220
       exact mi (kd (kc (kc (kc (kc (kc (kg (fS (fS (fS fP))) (kg (fS (fS fP)) (kg (fS fP) kr))))))))) ⟨bc, aw, px, Lb71, rfl, rfl, (sc rfl (sc rfl (sc rfl (sc rfl (sc rfl z8))))), bq, av, py, bj⟩
      have q0 := AP pw jh
      by_cases ji : k2 = 7
      ·have r226 := AO q0 ji
       refine uv (FC.eq (v' := .pointer (some ⟨cw, 7, none⟩)) (Gw (i := k2) underlying31 sizeOf30 rfl rfl (by have := ji; omega)) (by rw [ji]; rfl)) ?_
       refine uv (Ao isAgg30 rfl (Has.own 0 rfl) rfl) (um (uv (BU rfl) ?_))
       obtain ⟨way3, h227, r228⟩ := B8 r226
       refine Cv (u := x) sizeOf3 (Ad _) rfl lj rfl rfl (fun _ => .c (.c (.c (.c (.c (.c (.s .h))))))) bg h227 nj ?_; intro qb qc
       refine BX (um ?_)
       refine uv (Bv rfl rfl) (Aa ?_)
       refine EF rfl (fun qd => absurd qd br) (fun qd => ?_)
       refine Al ?_
       obtain ⟨rfl, rfl, rfl, rfl, rfl, rfl, rfl, rfl, rfl, rfl⟩ := Lk r228
       exact mi (kd (kc (kc (kc (kc (kc (kg (fS (fS (fS fP))) (kg (fS (fS fP)) (kg (fS fP) kr))))))))) ⟨bc, aw, qb, Lb71, rfl, rfl, (sc rfl (sc rfl (sc rfl (sc rfl (sc rfl z8))))), bq, av, qc, bj⟩
      have qe := AP q0 ji
      by_cases jj : k2 = 8
      ·have r234 := AO qe jj
       refine uv (FC.eq (v' := .pointer (some ⟨cw, 8, none⟩)) (Gw (i := k2) underlying31 sizeOf30 rfl rfl (by have := jj; omega)) (by rw [jj]; rfl)) ?_
       refine uv (Ao isAgg30 rfl (Has.own 0 rfl) rfl) (um (uv (BU rfl) ?_))
       obtain ⟨some_2, h235, r236⟩ := B8 r234
       refine Cv (u := x) sizeOf3 (Ad _) rfl lk rfl rfl (fun _ => .c (.c (.c (.c (.c (.c .h)))))) bj h235 nk ?_; intro qf qg
       refine BX (um ?_)
       refine uv (Bv rfl rfl) (Aa ?_)
       refine EF rfl (fun qh => absurd qh br) (fun qh => ?_)
       refine Al ?_
       obtain ⟨rfl, rfl, rfl, rfl, rfl, rfl, rfl, rfl, rfl, rfl⟩ := Lk r236
       exact mi (kd (kc (kc (kc (kc (kc (kg (fS (fS (fS fP))) (kg (fS (fS fP)) (kg (fS fP) kr))))))))) ⟨bc, aw, bh, qf, rfl, rfl, (sc rfl (sc rfl (sc rfl (sc rfl (sc rfl z8))))), bq, av, bg, qg⟩
      have qi := AP qe jj
      by_cases jk : k2 = 9
      ·have r242 := AO qi jk
       refine uv (FC.eq (v' := .pointer (some ⟨cw, 9, none⟩)) (Gw (i := k2) underlying31 sizeOf30 rfl rfl (by have := jk; omega)) (by rw [jk]; rfl)) ?_
       refine uv (Ao isAgg30 rfl (Has.own 0 rfl) rfl) (um (uv (BU rfl) (Bt (i := 1) sizeOf3 rfl rfl rfl rfl (Be rfl) (AJ rfl ?_))))
       refine BX (um ?_)
       refine uv (Bv rfl rfl) (Aa ?_)
       refine EF rfl (fun qj => absurd qj br) (fun qj => ?_)
       refine Al ?_
       obtain ⟨rfl, rfl, rfl, rfl, rfl, rfl, rfl, rfl, rfl, rfl⟩ := Lk r242
       exact mi (kd (kc (kc (kc (kc (kc (kg (fS (fS (fS fP))) (kg (fS (fS fP)) (kg (fS fP) kr))))))))) ⟨bc, aw, bh, Lb71, rfl, rfl, (sc rfl (sc rfl (sc rfl (sc rfl (sc rfl z8))))), bq, av, bg, bj⟩
      have qk := AP qi jk
      by_cases jl : k2 = 10
      ·have r246 := AO qk jl
       refine uv (FC.eq (v' := .pointer (some ⟨cw, 10, none⟩)) (Gw (i := k2) underlying31 sizeOf30 rfl rfl (by have := jl; omega)) (by rw [jl]; rfl)) ?_
       refine uv (Ao isAgg30 rfl (Has.own 0 rfl) rfl) (um (uv (BU rfl) ?_))
       obtain ⟨table4, h247, r248⟩ := B8 r246
       refine Cv (u := x) sizeOf3 (Ad _) rfl ll rfl rfl (fun _ => .c (.c (.c (.c (.c (.c (.s (.s .h)))))))) av h247 nn ?_; intro ql qn
       refine BX (um ?_)
       refine uv (Bv rfl rfl) (Aa ?_)
       refine EF rfl (fun qo => absurd qo br) (fun qo => ?_)
       refine Al ?_
       obtain ⟨rfl, rfl, rfl, rfl, rfl, rfl, rfl, rfl, rfl, rfl⟩ := Lk r248
       exact mi (kd (kc (kc (kc (kc (kc (kg (fS (fS (fS fP))) (kg (fS (fS fP)) (kg (fS fP) kr))))))))) ⟨bc, ql, bh, Lb71, rfl, rfl, (sc rfl (sc rfl (sc rfl (sc rfl (sc rfl z8))))), bq, qn, bg, bj⟩
      have r252 := AP qk jl
      obtain ⟨qp, r254⟩ := AW r252
      refine uv (FC.eq (v' := .pointer (some ⟨cw, 11, none⟩)) (Gw (i := k2) underlying31 sizeOf30 rfl rfl (by have := qp; omega)) (by rw [qp]; rfl)) ?_
      refine uv (Ao isAgg30 rfl (Has.own 0 rfl) rfl) (um (uv (BU rfl) ?_))
      obtain ⟨some_3, h255, r256⟩ := B8 r254
      refine Cv (u := x) sizeOf3 (Ad _) rfl lq rfl rfl (fun _ => .c (.c (.c (.c (.c (.c .h)))))) bj h255 np ?_; intro qq qs
      refine BX (um ?_)
      refine uv (Bv rfl rfl) (Aa ?_)
      refine EF rfl (fun qt => absurd qt br) (fun qt => ?_)
      refine Al ?_
      obtain ⟨rfl, rfl, rfl, rfl, rfl, rfl, rfl, rfl, rfl, rfl⟩ := Lk r256
      exact mi (kd (kc (kc (kc (kc (kc (kg (fS (fS (fS fP))) (kg (fS (fS fP)) (kg (fS fP) kr))))))))) ⟨bc, aw, bh, qq, rfl, rfl, (sc rfl (sc rfl (sc rfl (sc rfl (sc rfl z8))))), bq, av, bg, qs⟩
     rintro e1 _ _ ⟨cf, cg, cj, cn, rfl, rfl, qu, bb, lu, lv, fj⟩
     refine Az _ qu ?_
     obtain ⟨k3, h261, nr⟩ := Aw p7
     refine jE ([]) [(2, .int .i64 x), (24, .slice (some ⟨b1, 0, none⟩) [-2, -1, 0, 1, 2, 3, 4, 5, 6, 7, 29, 30, 31, 39, 40, 41, 9223372036854775807, -9223372036854775808].length 18), (25, .int .i64 18), (26, .int .i64 k), (30, .int .i64 k2), (117, .bool k3)] ?_ ?_
     ·clear nr
      refine Ak (uv (As isAgg25 sizeOf25 rfl (Has.own 4 rfl) (Be rfl) rfl) (uv (As isAgg29 sizeOf29 rfl (Has.own 3 rfl) (Be rfl) rfl) (uv (Ao isAgg3 rfl (Has.own 1 rfl) rfl) ?_)))
      obtain ⟨ok, h263, qw⟩ := Aw h261
      refine Bi (Lt := cf ++ []) (Lr := (eh, ce #[.int .i64 BC] 3) :: ((Pr, ce #[.int .i64 Cw] 3) :: ((eg, ce #[.int .i64 stand] 3) :: ((eb, ce #[.int .i64 bz, .int .i64 ax] 29) :: ((dz, ce #[.int .i64 bx, .slice ez fa fb] 25) :: (cg ++ (cj ++ (cn ++ [])))))))) rfl call5 rfl rfl rfl (pT ((fC (fC (fC (fC (fC fP))))).trans (pA pR)) (lp (ln rfl))) (fun F2 h2 h3 => by rw [(AN.Bm bb).1]; exact Ek (bb.row (Ad _) h2 (fun p hp => h3 p (List.mem_append_left _ hp))) h263) ?_
      refine uv (Cf rfl) (um ?_)
      rcases Bf (!ok) with ar | ar
      ·have r266 := bt qw ar
       refine fB ar (fB ar (fB ar (fB ar (fB ar (fB ar (fB ar (fB ar ?_)))))))
       refine uv (Au (Es rfl ar) rfl) ?_
       refine um (Ai (b' := true) 85 rfl rfl rfl rfl (Ai (b' := true) 85 rfl rfl rfl rfl (Ai (b' := true) 85 rfl rfl rfl rfl (Ai (b' := true) 85 rfl rfl rfl rfl (Ai (b' := true) 85 rfl rfl rfl rfl (Ai (b' := true) 85 rfl rfl rfl rfl (Ai (b' := true) 85 rfl rfl rfl rfl (Ai (b' := true) 85 rfl rfl rfl rfl ?_))))))))
       refine uv (Au rfl rfl) ?_
       refine um (Ai (b' := true) 95 rfl rfl rfl rfl (Ai (b' := true) 95 rfl rfl rfl rfl (Ai (b' := true) 95 rfl rfl rfl rfl (Ai (b' := true) 95 rfl rfl rfl rfl (Ai (b' := true) 95 rfl rfl rfl rfl (Ai (b' := true) 95 rfl rfl rfl rfl ?_))))))
       refine uv (Au rfl rfl) ?_
       refine um (Ai (b' := true) 103 rfl rfl rfl rfl (Ai (b' := true) 103 rfl rfl rfl rfl (Ai (b' := true) 103 rfl rfl rfl rfl (Ai (b' := true) 103 rfl rfl rfl rfl (Ai (b' := true) 103 rfl rfl rfl rfl ?_)))))
       refine uv (Au rfl rfl) ?_
       refine um (Ai (b' := true) 110 rfl rfl rfl rfl (Ai (b' := true) 110 rfl rfl rfl rfl (Ai (b' := true) 110 rfl rfl rfl rfl (Ai (b' := true) 110 rfl rfl rfl rfl (Ai (b' := true) 110 rfl rfl rfl rfl (Ai (b' := true) 110 rfl rfl rfl rfl ?_))))))
       refine uv (Au rfl rfl) (Aa ?_)
       obtain rfl := AH r266
       exact mi kn ⟨rfl, rfl, z6⟩
      have r267 := bf qw ar
      refine nB ar (uv (As isAgg25 sizeOf25 rfl (Has.own 4 rfl) (Be rfl) rfl) (nB ar (uv (Am GX rfl) (nB ar (uv (Ao isAgg27 rfl (Has.own 3 rfl) rfl) (nB ar (uv (Ao isAgg3 rfl (Has.own 2 rfl) rfl) ?_)))))))
      refine nB ar (uv (Ao isAgg3 rfl (Has.own 1 rfl) rfl) ?_)
      refine nB ar (um (nB ar ?_))
      obtain ⟨ok2, h268, qx⟩ := Aw r267
      refine Bi (Lt := cf ++ (cg ++ [])) (Lr := (eh, ce #[.int .i64 BC] 3) :: ((Pr, ce #[.int .i64 Cw] 3) :: ((eg, ce #[.int .i64 stand] 3) :: ((eb, ce #[.int .i64 bz, .int .i64 ax] 29) :: ((dz, ce #[.int .i64 bx, .slice ez fa fb] 25) :: (cj ++ (cn ++ []))))))) rfl call6 rfl rfl rfl (pT ((fC (fC (fC (fC (fC fP))))).trans (pA ((fC (fC (fC (fC (fC fP))))).trans (pA pR)))) (lp (lp (ln rfl)))) (fun F2 h2 h3 => by have h0 := IS (bb.row (Ad _) h2 (fun p hp => h3 p (List.mem_append_left _ hp))) (lu.row (Ad _) h2 (fun p hp => h3 p (List.mem_append_right _ (List.mem_append_left _ hp)))) h268; rw [← (AN.Bm bb).1] at h0; rw [← (AN.Bm lu).1] at h0; exact h0) ?_
      refine nB ar (uv (Cf rfl) (uv (At (Es rfl ar) rfl) (um ?_)))
      rcases Bf (!ok2) with au | au
      ·have r271 := bt qx au
       refine fB au (fB au (fB au (fB au (fB au (fB au (fB au (fB au ?_)))))))
       refine uv (Au (Es rfl au) rfl) ?_
       refine um (Ai (b' := true) 95 rfl rfl rfl rfl (Ai (b' := true) 95 rfl rfl rfl rfl (Ai (b' := true) 95 rfl rfl rfl rfl (Ai (b' := true) 95 rfl rfl rfl rfl (Ai (b' := true) 95 rfl rfl rfl rfl (Ai (b' := true) 95 rfl rfl rfl rfl ?_))))))
       refine uv (Au rfl rfl) ?_
       refine um (Ai (b' := true) 103 rfl rfl rfl rfl (Ai (b' := true) 103 rfl rfl rfl rfl (Ai (b' := true) 103 rfl rfl rfl rfl (Ai (b' := true) 103 rfl rfl rfl rfl (Ai (b' := true) 103 rfl rfl rfl rfl ?_)))))
       refine uv (Au rfl rfl) ?_
       refine um (Ai (b' := true) 110 rfl rfl rfl rfl (Ai (b' := true) 110 rfl rfl rfl rfl (Ai (b' := true) 110 rfl rfl rfl rfl (Ai (b' := true) 110 rfl rfl rfl rfl (Ai (b' := true) 110 rfl rfl rfl rfl (Ai (b' := true) 110 rfl rfl rfl rfl ?_))))))
       refine uv (Au rfl rfl) (Aa ?_)
       obtain rfl := AH r271
       exact mi kn ⟨rfl, rfl, z6⟩
      have r272 := bf qx au
      refine nB au (uv (As isAgg25 sizeOf25 rfl (Has.own 4 rfl) (Be rfl) rfl) (nB au (uv (Am GX rfl) (nB au (uv (Ao isAgg27 rfl (Has.own 3 rfl) rfl) (nB au (uv (Ao isAgg3 rfl (Has.own 2 rfl) rfl) ?_)))))))
      refine nB au (uv (Ao isAgg3 rfl (Has.own 1 rfl) rfl) ?_)
      refine nB au (um (nB au ?_))
      obtain ⟨ok3, h273, qy⟩ := Aw r272
      refine Bi (Lt := cf ++ (cj ++ [])) (Lr := (eh, ce #[.int .i64 BC] 3) :: ((Pr, ce #[.int .i64 Cw] 3) :: ((eg, ce #[.int .i64 stand] 3) :: ((eb, ce #[.int .i64 bz, .int .i64 ax] 29) :: ((dz, ce #[.int .i64 bx, .slice ez fa fb] 25) :: (cg ++ (cn ++ []))))))) rfl call7 rfl rfl rfl (pT ((fC (fC (fC (fC (fC fP))))).trans (pA ((fC (fC (fC (fC (fC (fS fP)))))).trans (pA pR)))) (lp (lp (ln rfl)))) (fun F2 h2 h3 => by have h0 := Ji (bb.row (Ad _) h2 (fun p hp => h3 p (List.mem_append_left _ hp))) (lv.row (Ad _) h2 (fun p hp => h3 p (List.mem_append_right _ (List.mem_append_left _ hp)))) h273; rw [← (AN.Bm bb).1] at h0; rw [← (AN.Bm lv).1] at h0; exact h0) ?_
      refine nB au (uv (Cf rfl) (uv (At (Es rfl au) rfl) (um ?_)))
      rcases Bf (!ok3) with bk | bk
      ·have r276 := bt qy bk
       refine fB bk (fB bk (fB bk (fB bk (fB bk (fB bk ?_)))))
       refine uv (Au (Es rfl bk) rfl) ?_
       refine um (Ai (b' := true) 103 rfl rfl rfl rfl (Ai (b' := true) 103 rfl rfl rfl rfl (Ai (b' := true) 103 rfl rfl rfl rfl (Ai (b' := true) 103 rfl rfl rfl rfl (Ai (b' := true) 103 rfl rfl rfl rfl ?_)))))
       refine uv (Au rfl rfl) ?_
       refine um (Ai (b' := true) 110 rfl rfl rfl rfl (Ai (b' := true) 110 rfl rfl rfl rfl (Ai (b' := true) 110 rfl rfl rfl rfl (Ai (b' := true) 110 rfl rfl rfl rfl (Ai (b' := true) 110 rfl rfl rfl rfl (Ai (b' := true) 110 rfl rfl rfl rfl ?_))))))
       refine uv (Au rfl rfl) (Aa ?_)
       obtain rfl := AH r276
       exact mi kn ⟨rfl, rfl, z6⟩
      have r277 := bf qy bk
      refine nB bk (uv (As isAgg25 sizeOf25 rfl (Has.own 4 rfl) (Be rfl) rfl) (nB bk (uv (As isAgg29 sizeOf29 rfl (Has.own 3 rfl) (Be rfl) rfl) (nB bk (uv (Ao isAgg3 rfl (Has.own 2 rfl) rfl) (nB bk (uv (Ao isAgg3 rfl (Has.own 1 rfl) rfl) ?_)))))))
      refine nB bk ?_
      obtain ⟨ok4, h278, qz⟩ := Aw r277
      refine Bi (Lt := cf ++ []) (Lr := (eh, ce #[.int .i64 BC] 3) :: ((Pr, ce #[.int .i64 Cw] 3) :: ((eg, ce #[.int .i64 stand] 3) :: ((eb, ce #[.int .i64 bz, .int .i64 ax] 29) :: ((dz, ce #[.int .i64 bx, .slice ez fa fb] 25) :: (cg ++ (cj ++ (cn ++ [])))))))) rfl call8 rfl rfl rfl (pT ((fC (fC (fC (fC (fC fP))))).trans (pA pR)) (lp (ln rfl))) (fun F2 h2 h3 => by rw [(AN.Bm bb).1]; exact E6 (bb.row (Ad _) h2 (fun p hp => h3 p (List.mem_append_left _ hp))) h278) ?_
      refine nB bk (uv (Cf rfl) (uv (At (Es rfl bk) rfl) (um ?_)))
      rcases Bf (!ok4) with ca | ca
      ·have r281 := bt qz ca
       refine fB ca (fB ca (fB ca (fB ca (fB ca ?_))))
       refine uv (Au (Es rfl ca) rfl) ?_
       refine um (Ai (b' := true) 110 rfl rfl rfl rfl (Ai (b' := true) 110 rfl rfl rfl rfl (Ai (b' := true) 110 rfl rfl rfl rfl (Ai (b' := true) 110 rfl rfl rfl rfl (Ai (b' := true) 110 rfl rfl rfl rfl (Ai (b' := true) 110 rfl rfl rfl rfl ?_))))))
       refine uv (Au rfl rfl) (Aa ?_)
       obtain rfl := AH r281
       exact mi kn ⟨rfl, rfl, z6⟩
      have r282 := bf qz ca
      refine nB ca (uv (As isAgg25 sizeOf25 rfl (Has.own 4 rfl) (Be rfl) rfl) (nB ca (uv (As isAgg29 sizeOf29 rfl (Has.own 3 rfl) (Be rfl) rfl) ?_)))
      refine nB ca (um (nB ca ?_))
      obtain ⟨ok5, h283, r0⟩ := Aw r282
      refine Bi (Lt := cf ++ (cn ++ [])) (Lr := (eh, ce #[.int .i64 BC] 3) :: ((Pr, ce #[.int .i64 Cw] 3) :: ((eg, ce #[.int .i64 stand] 3) :: ((eb, ce #[.int .i64 bz, .int .i64 ax] 29) :: ((dz, ce #[.int .i64 bx, .slice ez fa fb] 25) :: (cg ++ (cj ++ []))))))) rfl call9 rfl rfl rfl (pT ((fC (fC (fC (fC (fC fP))))).trans (pA ((fC (fC (fC (fC (fC (fS (fS fP))))))).trans (pA pR)))) (lp (lp (ln rfl)))) (fun F2 h2 h3 => by have h0 := GK (bb.row (Ad _) h2 (fun p hp => h3 p (List.mem_append_left _ hp))) (fj.row (Ad _) h2 (fun p hp => h3 p (List.mem_append_right _ (List.mem_append_left _ hp)))) h283; rw [← (AN.Bm bb).1] at h0; rw [← (AN.Bm fj).1] at h0; exact h0) ?_
      refine nB ca (uv (Cf rfl) (uv (At (Es rfl ca) rfl) (um ?_)))
      rcases Bf (!ok5) with bl | bl
      ·have r286 := bt r0 bl
       refine fB bl (fB bl (fB bl (fB bl (fB bl (fB bl ?_)))))
       refine uv (Au (Es rfl bl) rfl) (Aa ?_)
       obtain rfl := AH r286
       exact mi kn ⟨rfl, rfl, z6⟩
      have r287 := bf r0 bl
      refine nB bl (uv (As isAgg25 sizeOf25 rfl (Has.own 4 rfl) (Be rfl) rfl) (nB bl (uv (As isAgg29 sizeOf29 rfl (Has.own 3 rfl) (Be rfl) rfl) ?_)))
      refine nB bl (um (nB bl ?_))
      refine uv (Ao isAgg3 rfl (Has.own 0 rfl) rfl) (nB bl ?_)
      obtain ⟨ok6, h288, r289⟩ := Aw r287
      refine Bi (Lt := cf ++ (cn ++ [])) (Lr := (eh, ce #[.int .i64 BC] 3) :: ((Pr, ce #[.int .i64 Cw] 3) :: ((eg, ce #[.int .i64 stand] 3) :: ((eb, ce #[.int .i64 bz, .int .i64 ax] 29) :: ((dz, ce #[.int .i64 bx, .slice ez fa fb] 25) :: (cg ++ (cj ++ []))))))) rfl call10 rfl rfl rfl (pT ((fC (fC (fC (fC (fC fP))))).trans (pA ((fC (fC (fC (fC (fC (fS (fS fP))))))).trans (pA pR)))) (lp (lp (ln rfl)))) (fun F2 h2 h3 => by have h0 := Hl (bb.row (Ad _) h2 (fun p hp => h3 p (List.mem_append_left _ hp))) (fj.row (Ad _) h2 (fun p hp => h3 p (List.mem_append_right _ (List.mem_append_left _ hp)))) h288; rw [← (AN.Bm bb).1] at h0; rw [← (AN.Bm fj).1] at h0; exact h0) ?_
      refine nB bl (uv (Cf rfl) (uv (At (Es rfl bl) rfl) (Aa ?_)))
      obtain rfl := AH r289
      exact mi kn ⟨rfl, rfl, z6⟩
     refine AU rfl (fun ns => ?_) (fun ns => ?_)
     ·have r292 := bt nr ns
      refine AM (ua (Aa (Ap (AB (Ah (Ah (AB (AB (Ah ?_)))))))))
      refine Ah (AB (Ah ?_))
      refine B2 results3 ?_
      obtain rfl := AH r292
      exact rfl
     have r293 := bf nr ns
     refine Al (Av (id := 3) (Ak ?_))
     refine uv (A1 rfl rfl (DD.DZ nc c38 g29)) ?_
     refine um (Aa ?_)
     exact le kr ⟨_, hk39, r293, ((oj.trans hF42).trans hF48), rfl, z5⟩
    obtain rfl := DD.zero nc c38
    rw [D8] at r33
    refine AR (Aj (Aj ?_))
    refine Ay (Av (id := 1) ?_)
    exact mi kr ⟨r33, oj, rfl, z3⟩
   rintro e1 F296 _ ⟨re, rf, rfl, rh⟩
   refine Az _ rh ?_
   rw [GG] at re
   refine Ak (uv (A1 rfl rfl (DD.DZ hk8 JH g6)) ?_)
   refine um (Aa ?_)
   exact le kr ⟨_, hk16, re, (na.trans rf), rfl, z3⟩
  obtain rfl := DD.zero hk8 JH
  rw [An] at r10
  refine AR (Aj (Aj ?_))
  refine Ay ?_
  exact mi kr ⟨r10, (hF3.trans na), rfl, (sn _)⟩
 rintro e1 ri _ ⟨rj, hF301, rfl, rk⟩
 refine Az _ rk ?_
 rw [E3] at rj
 refine AQ (fun e1 F1 L1 => E4 = some r ∧ AY ri F1 ∧ L1 = [] ∧ e1.sub []) ?_ ?_
 ·refine AM (um (Aa ?_))
  refine Aq ?_
  obtain ⟨g302, r303⟩ := AW rj
  refine A9 (fun rl e1 F1 L1 => ∃ (k4 : Int), DD 0 81 k4 rl ∧ AD rl k4 = some r ∧ AY ri F1 ∧ L1 = [] ∧ e1.sub [(120, .int .i64 k4)]) _ (m0 kr ⟨_, DD.start _ _, r303, AY.refl _, rfl, z1⟩) ?_
  rintro rl e1 F308 _ ⟨k4, gn, jm, lx, rfl, rm⟩
  refine Az _ rm (AM (uv (A7 rfl rfl) ?_))
  refine Aa (Ar ?_)
  refine cQ (fun jn => ?_) fun jn => ?_
  ·obtain ⟨rl, rfl, rp⟩ := DD.succ gn jn
   rw [AD] at jm
   refine Al ?_
   refine AQ (fun e1 F1 L1 => GV k4 (AD rl) = some r ∧ AY F308 F1 ∧ L1 = [] ∧ e1.sub [(120, .int .i64 k4)]) ?_ ?_
   ·refine Aq ?_
    refine AM (um (ua (BX ?_)))
    refine bA (cs := #[.int .i64 4, .int .i64 2, .int .i64 1]) Br [.int .i64 4, .int .i64 2, .int .i64 1] ?_; intro b313 rq
    refine um (uv (EN rfl rfl (by decide)) ?_)
    refine B1 0 rfl rq ?_; intro rr ru ry
    refine AJ rfl ?_
    have h317 : AL 1 (iE .i64) rr (some ⟨b313, 0, none⟩) 3 [4, 2, 1] := AL.BS (Ad _) (vss := [[.int .i64 4], [.int .i64 2], [.int .i64 1]]) (xs := [4, 2, 1]) ry (.cons rfl (.cons rfl (.cons rfl .nil))) rfl (by simp [maxLen])
    obtain ⟨oi, rz, s5, r320⟩ := Bj jm
    obtain ⟨b321, o322, c323, vs324, s6, s7, hle327, rfl, hl328, s8⟩ := AL.at (Ad _) h317 ([]) rz.1 s5
    refine uv (AA underlying22 sizeOf3 rfl s6 rfl rz) (uv (Ao isAgg3 rfl s7 (s8 0 (by decide))) ?_)
    refine uv (Bc (v := .agg #[.int .i64 oi, .slice none 0 0]) rfl (by intro w; kernel_rfl)) ?_
    refine A6 rfl zeroValue25 ?_; intro fe hb330
    refine Bg (i := 0) sizeOf25 rfl rfl rfl (by simp [Value.oneCell']) rfl (Be rfl) (AJ rfl (Aa ?_))
    obtain ⟨ei, h337, s9⟩ := Aw r320
    refine AQ (fun e1 F1 L1 => ∃ (jo : Option Addr) (jq : Nat) (jr : Nat) (fk : LH), AY rr F1 ∧ L1 = ((fe, ce #[.int .i64 oi, .slice jo jq jr] 25) :: (fk ++ [])) ∧ e1.sub [(13, .int .i64 k4), (14, .pointer (some ⟨fe, 0, none⟩)), (120, .int .i64 k4)] ∧ AN K.w0.heap.size 32 1 (iE .i64) F1 jo jq jr ei fk) ?_ ?_
    ·clear s9
     refine AM (um (um ?_))
     obtain ⟨g339, r340⟩ := AW h337
     refine uv (K8 rfl rfl g339) (um ?_)
     obtain ⟨g341, r342⟩ := AW r340
     refine uv (K8 rfl rfl g341) (um ?_)
     obtain ⟨g343, r344⟩ := AW r342
     refine uv (K8 rfl rfl g343) ?_
     refine bA (cs := #[.int .i64 k4, .int .i64 (Int.tdiv k4 3), .int .i64 (Int.tdiv k4 9), .int .i64 (Int.tdiv k4 27)]) Br [.int .i64 k4, .int .i64 (Int.tdiv k4 3), .int .i64 (Int.tdiv k4 9), .int .i64 (Int.tdiv k4 27)] ?_; intro sa sb
     refine uv (AX underlying22 rfl) ?_
     refine um (Aa ?_)
     refine Aq ?_
     refine GI 0 rfl sb ?_; intro se sf sg
     refine IB (L' := [(fe, ce #[.int .i64 oi, .slice none 0 0] 25)]) rfl ?_
     have h349 : AL 1 (iE .i64) se (some ⟨sa, 0, none⟩) 4 [k4, Int.tdiv k4 3, Int.tdiv k4 9, Int.tdiv k4 27] := AL.BS (Ad _) (vss := [[.int .i64 k4], [.int .i64 (Int.tdiv k4 3)], [.int .i64 (Int.tdiv k4 9)], [.int .i64 (Int.tdiv k4 27)]]) (xs := [k4, Int.tdiv k4 3, Int.tdiv k4 9, Int.tdiv k4 27]) sg (.cons rfl (.cons rfl (.cons rfl (.cons rfl .nil)))) rfl (by simp [maxLen])
     obtain ⟨g356, r357⟩ := AW r344
     refine A9 (fun fu8 e1 F1 L1 => ∃ (k5 : Int), DD 0 4 k5 fu8 ∧ ∃ (cp : List Int) (gp : Option Addr) (gq : Nat) (gr : Nat) (ej : LH), D1 k4 fu8 k5 cp = some ei ∧ se = F1 ∧ L1 = ((fe, ce #[.int .i64 oi, .slice gp gq gr] 25) :: (ej ++ [])) ∧ e1.sub [(13, .int .i64 k4), (14, .pointer (some ⟨fe, 0, none⟩)), (120, .int .i64 k4), (136, .slice (some ⟨sa, 0, none⟩) [k4, Int.tdiv k4 3, Int.tdiv k4 9, Int.tdiv k4 27].length 4), (137, .int .i64 4), (138, .int .i64 k5)] ∧ AN K.w0.heap.size 32 1 (iE .i64) F1 gp gq gr cp ej) _ (m0 (kc (ke kr)) ⟨_, DD.start _ _, [], none, 0, 0, [], r357, rfl, rfl, z6, AN.nil _ _ _ _ _⟩) ?_
     rintro fu8 e1 _ _ ⟨k5, gu, cp, gp, gq, gr, ej, js, rfl, rfl, sh, ly⟩
     refine Az _ sh (AM (uv (A7 rfl rfl) ?_))
     refine Aa (Ar ?_)
     refine cQ (fun jt => ?_) fun jt => ?_
     ·obtain ⟨fu8, rfl, si⟩ := DD.succ gu jt
      rw [D1] at js
      refine Al (Ar ?_)
      refine Aq (AM ?_)
      obtain ⟨sj, sk, ss, r367⟩ := Bj js
      obtain ⟨b368, o369, c370, vs371, su, sv, hle374, rfl, hl375, sw⟩ := AL.at (Ad _) h349 ((fe, ce #[.int .i64 oi, .slice gp gq gr] 25) :: (ej ++ [])) sk.1 ss
      refine uv (AA underlying22 sizeOf3 rfl su rfl sk) (uv (Ao isAgg3 rfl sv (sw 0 (by decide))) ?_)
      refine ua (Aa (Ak ?_))
      refine uv (Am BN rfl) (uv (Ao isAgg23 rfl (Has.own 0 rfl) rfl) (um (uv (EN rfl rfl (by decide)) ?_)))
      refine bA (cs := #[.int .i64 (Int.tmod sj 3)]) FF [.int .i64 (Int.tmod sj 3)] ?_; intro b377 hb377
      obtain ⟨t2, h378, g379, r380⟩ := E9 r367
      refine DB (xs := cp) (ys := [Int.tmod sj 3]) (zs := t2) rfl FF rfl rfl (Nat.le_refl _) (fun _ => .c (.c .h)) ly (GO.box (vss := [[.int .i64 (Int.tmod sj 3)]]) (ys := [Int.tmod sj 3]) 0 rfl (Ad _) (.cons rfl .nil) rfl rfl) h378 g379 (by decide) ?_; intro a381 n385 c382 sx ta
      refine kO (kd kr) (uv (Am BN rfl) (Bt (i := 0) sizeOf23 rfl rfl rfl rfl (Be rfl) (AJ rfl ?_)))
      refine Aa (Av (id := 7) (Ak ?_))
      refine uv (A1 rfl rfl (DD.DZ gu jt g356)) ?_
      refine um (Aa ?_)
      exact le kr ⟨_, si, t2, a381, n385, c382, sx, r380, rfl, rfl, z6, ta⟩
     obtain rfl := DD.zero gu jt
     rw [D1] at js
     refine AR (Aj (Aj ?_))
     refine Ay ?_
     obtain rfl := AH js
     exact mi kr ⟨gp, gq, gr, ej, sf, rfl, z3, ly⟩
    rintro e1 F388 _ ⟨jo, jq, jr, fk, tc, rfl, td, lz⟩
    refine Az _ td (AM (uv (As isAgg25 sizeOf25 rfl (Has.own 0 rfl) (Be rfl) rfl) (um (uv (EN rfl rfl (by decide)) (um (uv (EN rfl rfl (by decide)) ?_))))))
    obtain ⟨g390, r391⟩ := AW s9
    refine uv (A1 rfl rfl g390) ?_
    refine uv (Bc (v := .agg #[.int .i64 (Int.tmod k4 5), .int .i64 (1 + (Int.tmod k4 9))]) rfl (by intro w; kernel_rfl)) ?_
    refine um ?_
    obtain ⟨ok7, h392, te⟩ := Aw r391
    refine Bi (Lt := fk ++ []) (Lr := [(fe, ce #[.int .i64 oi, .slice jo jq jr] 25)]) rfl call11 rfl rfl rfl (pT ((fC fP).trans (pA pR)) (lp (ln rfl))) (fun F2 h2 h3 => by rw [(AN.Bm lz).1]; exact KV (lz.row (Ad _) h2 (fun p hp => h3 p (List.mem_append_left _ hp))) h392) ?_
    refine uv (Cf rfl) (Aa ?_)
    refine AU rfl (fun nt => ?_) (fun nt => ?_)
    ·have r395 := bt te nt
     refine AM (ua (Aa ?_))
     refine kW kn ?_
     refine Ap (AB (Ah (Ah (AB (Ah ?_)))))
     refine B2 results3 ?_
     obtain rfl := AH r395
     exact rfl
    have r396 := bf te nt
    refine Al (Av (id := 5) ?_)
    exact mi kn ⟨r396, (ru.trans tc), rfl, z1⟩
   rintro e1 F399 _ ⟨tf, tg, rfl, th⟩
   refine Az _ th ?_
   rw [GV] at tf
   refine Ak (uv (A1 rfl rfl (DD.DZ gn jn g302)) ?_)
   refine um (Aa ?_)
   exact le kr ⟨_, rp, tf, (lx.trans tg), rfl, z1⟩
  obtain rfl := DD.zero gn jn
  rw [AD] at jm
  refine AR (Aj (Aj ?_))
  refine Ay ?_
  exact mi kr ⟨jm, lx, rfl, (sn _)⟩
 rintro e1 ae _ ⟨ti, hF404, rfl, tj⟩
 refine Az _ tj ?_
 rw [E4] at ti
 refine AQ (fun e1 F1 L1 => EY = some r ∧ ae = F1 ∧ L1 = [] ∧ e1.sub []) ?_ ?_
 ·refine AM (um (Aa ?_))
  refine Aq ?_
  obtain ⟨g405, r406⟩ := AW ti
  refine A9 (fun gv e1 F1 L1 => ∃ (k6 : Int), DD 0 30 k6 gv ∧ Ab gv k6 = some r ∧ ae = F1 ∧ L1 = [] ∧ e1.sub [(161, .int .i64 k6)]) _ (m0 kr ⟨_, DD.start _ _, r406, rfl, rfl, z1⟩) ?_
  rintro gv e1 _ _ ⟨k6, gw, ju, rfl, rfl, tk⟩
  refine Az _ tk (AM (uv (A7 rfl rfl) ?_))
  refine Aa (Ar ?_)
  refine cQ (fun jv => ?_) fun jv => ?_
  ·obtain ⟨gv, rfl, tm⟩ := DD.succ gw jv
   rw [Ab] at ju
   refine Al ?_
   refine AQ (fun e1 F1 L1 => GB k6 (Ab gv) = some r ∧ ae = F1 ∧ L1 = [] ∧ e1.sub [(161, .int .i64 k6)]) ?_ ?_
   ·refine Aq ?_
    refine AM (um (ua (BX ?_)))
    refine uv (Bc (v := .agg #[.int .i64 3, .slice none 0 0]) rfl (by intro w; kernel_rfl)) ?_
    refine A6 rfl zeroValue25 ?_; intro en hb414
    refine Bg (i := 0) sizeOf25 rfl rfl rfl (by simp [Value.oneCell']) rfl (Be rfl) (AJ rfl (Aa ?_))
    obtain ⟨eo, h421, tn⟩ := Aw ju
    refine AQ (fun e1 F1 L1 => ∃ (jw : Option Addr) (jx : Nat) (jz : Nat) (fl : LH), ae = F1 ∧ L1 = ((en, ce #[.int .i64 3, .slice jw jx jz] 25) :: (fl ++ [])) ∧ e1.sub [(17, .int .i64 k6), (18, .pointer (some ⟨en, 0, none⟩)), (161, .int .i64 k6)] ∧ AN K.w0.heap.size 32 1 (iE .i64) F1 jw jx jz eo fl) ?_ ?_
    ·clear tn
     refine AM (um (Aa ?_))
     refine Aq ?_
     obtain ⟨tq, r430⟩ := AW h421
     refine A9 (fun kb e1 F1 L1 => ∃ (k7 : Int), DD 0 9 k7 kb ∧ ∃ (cq : List Int) (gb : Option Addr) (gg : Nat) (gh : Nat) (fm : LH), CE k6 kb k7 cq = some eo ∧ ae = F1 ∧ L1 = ((en, ce #[.int .i64 3, .slice gb gg gh] 25) :: (fm ++ [])) ∧ e1.sub [(17, .int .i64 k6), (18, .pointer (some ⟨en, 0, none⟩)), (161, .int .i64 k6), (165, .int .i64 k7)] ∧ AN K.w0.heap.size 32 1 (iE .i64) F1 gb gg gh cq fm) _ (m0 (kc (ke kr)) ⟨_, DD.start _ _, [], none, 0, 0, [], r430, rfl, rfl, z4, AN.nil _ _ _ _ _⟩) ?_
     rintro kb e1 _ _ ⟨k7, fo, cq, gb, gg, gh, fm, kh, rfl, rfl, tr, ma⟩
     refine Az _ tr (AM (uv (A7 rfl rfl) ?_))
     refine Aa (Ar ?_)
     refine cQ (fun gy => ?_) fun gy => ?_
     ·obtain ⟨kb, rfl, mb⟩ := DD.succ fo gy
      rw [CE] at kh
      refine Al (Ar ?_)
      refine Aq ?_
      refine AM (um (ua (Aa (Ar ?_))))
      refine CF [(.still, 0), (.still, 1), (.still, 2), (.still, 3), (.still, 4), (.still, 5), (.still, 6), (.seq, 7), (.seq, 8), (.still, 9), (.seq, 10)] (by kernel_rfl) (by kernel_rfl) (trivial) (by rfl) (by kernel_rfl) (mS [18] rfl (Am BN rfl) (mL [168] ([(en, ce #[.int .i64 3, .slice gb gg gh] 25)]) rfl (s0 (s2 (s3 sr))) (fun H F' L' hF' hL' => Ao isAgg23 rfl ((Has.own 0 rfl).ext hF' hL') rfl) (mS [17] rfl (Bh rfl) (mS [19] rfl (Bh rfl) (mS (v := .int .i64 (Int.tmod k7 5)) [171] rfl (EN rfl rfl (by decide)) ?_)))))
      obtain ⟨g438, r439⟩ := AW kh
      refine mS (v := .int .i64 (shr k6 (Int.tmod k7 5))) [170, 172] rfl (SZ rfl rfl g438) (mS (v := .int .i64 (PC (shr k6 (Int.tmod k7 5)) 1)) [173] rfl (W8 rfl rfl) ?_)
      refine ⟨_, [(174, .int .i64 (PC (shr k6 (Int.tmod k7 5)) 1))], rfl, rfl, z1, by kernel_rfl, ?_⟩; intro H
      refine bA (cs := #[.int .i64 (PC (shr k6 (Int.tmod k7 5)) 1)]) FF [.int .i64 (PC (shr k6 (Int.tmod k7 5)) 1)] ?_; intro b440 hb440
      refine Aa ⟨_, rfl, AY.refl _, [1, 0], by kernel_rfl, .inl (.inr (fun d h => by cases h; rfl)), (fc (s0 (s1 (s2 (s3 sr)))) (fc sm nm)), ?_⟩
      refine ⟨_, [(169, .slice gb gg gh), (175, .slice (some ⟨b440, 0, none⟩) 1 1)], rfl, rfl, z2, by kernel_rfl, ?_⟩; intro H
      obtain ⟨l2, h441, g442, r443⟩ := E9 r439
      refine DB (xs := cq) (ys := [PC (shr k6 (Int.tmod k7 5)) 1]) (zs := l2) rfl FF rfl rfl (Nat.le_refl _) (fun _ => .c (.c .h)) ma (GO.box (vss := [[.int .i64 (PC (shr k6 (Int.tmod k7 5)) 1)]]) (ys := [PC (shr k6 (Int.tmod k7 5)) 1]) 0 rfl (Ad _) (.cons rfl .nil) rfl rfl) h441 g442 (by decide) ?_; intro kj kl km mc fp
      refine kO (kd kr) ?_
      refine Aa ⟨_, rfl, AY.refl _, [], by kernel_rfl, .inl (.inl rfl), nm, ?_⟩
      refine mS [18] rfl (Am BN rfl) ?_
      refine ⟨_, [(176, .slice kj kl km), (177, .pointer (some ⟨en, 1, none⟩))], rfl, rfl, z2, by kernel_rfl, ?_⟩; intro H
      refine Bt (i := 0) sizeOf23 rfl rfl rfl rfl (Be rfl) (AJ rfl ?_)
      refine Aa ⟨undef, rfl, AY.refl _, [], by kernel_rfl, .inl (.inl rfl), nm, ?_⟩
      refine DI ?_
      refine AM (um (um (um ?_)))
      obtain ⟨g450, r451⟩ := AW r443
      refine uv (PT rfl rfl g450) ?_
      obtain ⟨g452, tt⟩ := AW r451
      refine uv (A1 rfl rfl g452) (uv (EN rfl rfl (by decide)) (uv (Bv rfl rfl) (Aa ?_)))
      refine cQ (fun nu => ?_) fun nu => ?_
      ·have r455 := AO tt nu
       refine Ak (uv (Am BN rfl) (uv (Ao isAgg23 rfl (Has.own 0 rfl) rfl) (um ?_)))
       obtain ⟨x12, nv, tu, r458⟩ := Bj r455
       obtain ⟨b459, o460, c461, vs462, me, hs464, hle465, rfl, hl466, hc467⟩ := AN.at (Ad _) fp (L := (en, ce #[.int .i64 3, .slice kj kl km] 25) :: (mc ++ [])) (fC fP) nv.1 tu
       refine uv (AA underlying23 sizeOf32 rfl me rfl (AN.idx fp nv)) ?_
       obtain ⟨t3, h468, r469⟩ := B8 r458
       refine Cv (u := 2) sizeOf32 (Ad _) rfl me rfl rfl (fun _ => .c .h) fp h468 nv ?_; intro tv tw
       refine Aa (Av (id := 11) (Ak ?_))
       refine uv (A1 rfl rfl (DD.DZ fo gy tq)) ?_
       refine um (Aa ?_)
       exact le kr ⟨_, mb, t3, kj, kl, km, tv, r469, rfl, rfl, z4, tw⟩
      have r472 := AP tt nu
      refine Al (Av (id := 11) (Ak ?_))
      refine uv (A1 rfl rfl (DD.DZ fo gy tq)) ?_
      refine um (Aa ?_)
      exact le kr ⟨_, mb, l2, kj, kl, km, mc, r472, rfl, rfl, z4, fp⟩
     obtain rfl := DD.zero fo gy
     rw [CE] at kh
     refine AR (Aj (Aj ?_))
     refine Ay ?_
     obtain rfl := AH kh
     exact mi kr ⟨gb, gg, gh, fm, rfl, rfl, z3, ma⟩
    rintro e1 _ _ ⟨jw, jx, jz, fl, rfl, rfl, tx, mg⟩
    refine Az _ tx (AM (uv (As isAgg25 sizeOf25 rfl (Has.own 0 rfl) (Be rfl) rfl) (um (uv (EN rfl rfl (by decide)) (um (uv (EN rfl rfl (by decide)) ?_))))))
    obtain ⟨g474, r475⟩ := AW tn
    refine uv (A1 rfl rfl g474) ?_
    refine uv (Bc (v := .agg #[.int .i64 (Int.tmod k6 5), .int .i64 (2 + (Int.tmod k6 8))]) rfl (by intro w; kernel_rfl)) ?_
    refine um ?_
    obtain ⟨g476, r477⟩ := AW r475
    refine uv (PT rfl rfl g476) ?_
    obtain ⟨ok8, h478, tz⟩ := Aw r477
    refine Bi (Lt := fl ++ []) (Lr := [(en, ce #[.int .i64 3, .slice jw jx jz] 25)]) rfl call11 rfl rfl rfl (pT ((fC fP).trans (pA pR)) (lp (ln rfl))) (fun F2 h2 h3 => by rw [(AN.Bm mg).1]; exact KV (mg.row (Ad _) h2 (fun p hp => h3 p (List.mem_append_left _ hp))) h478) ?_
    refine uv (Cf rfl) (Aa ?_)
    refine AU rfl (fun nw => ?_) (fun nw => ?_)
    ·have r481 := bt tz nw
     refine AM (ua (Aa ?_))
     refine kW kn ?_
     refine Ap (AB (Ah (Ah (AB (Ah ?_)))))
     refine B2 results3 ?_
     obtain rfl := AH r481
     exact rfl
    have r482 := bf tz nw
    refine Al (Av (id := 9) ?_)
    exact mi kn ⟨r482, rfl, rfl, z1⟩
   rintro e1 _ _ ⟨u0, rfl, rfl, u3⟩
   refine Az _ u3 ?_
   rw [GB] at u0
   refine Ak (uv (A1 rfl rfl (DD.DZ gw jv g405)) ?_)
   refine um (Aa ?_)
   exact le kr ⟨_, tm, u0, rfl, rfl, z1⟩
  obtain rfl := DD.zero gw jv
  rw [Ab] at ju
  refine AR (Aj (Aj ?_))
  refine Ay ?_
  exact mi kr ⟨ju, rfl, rfl, (sn _)⟩
 rintro e1 _ _ ⟨u4, rfl, rfl, u5⟩
 refine Az _ u5 ?_
 rw [EY] at u4
 refine AQ (fun e1 F1 L1 => EB = some r ∧ ae = F1 ∧ L1 = [] ∧ e1.sub []) ?_ ?_
 ·refine AM (um (Aa ?_))
  refine Aq ?_
  obtain ⟨g487, r488⟩ := AW u4
  refine A9 (fun gz e1 F1 L1 => ∃ (k8 : Int), DD 0 33 k8 gz ∧ A2 gz k8 = some r ∧ ae = F1 ∧ L1 = [] ∧ e1.sub [(202, .int .i64 k8)]) _ (m0 kr ⟨_, DD.start _ _, r488, rfl, rfl, z1⟩) ?_
  rintro gz e1 _ _ ⟨k8, ia, ko, rfl, rfl, u6⟩
  refine Az _ u6 (AM (uv (A7 rfl rfl) ?_))
  refine Aa (Ar ?_)
  refine cQ (fun kt => ?_) fun kt => ?_
  ·obtain ⟨gz, rfl, u7⟩ := DD.succ ia kt
   rw [A2] at ko
   refine Al ?_
   refine AQ (fun e1 F1 L1 => Gr k8 (A2 gz) = some r ∧ ae = F1 ∧ L1 = [] ∧ e1.sub [(202, .int .i64 k8)]) ?_ ?_
   ·refine Aq ?_
    refine AM (um (ua (Aa (Ar ?_))))
    obtain ⟨du, r497⟩ := AW ko
    refine To (by kernel_rfl) ?_
    intro T hs hd
    have bm : ∀ (aa : Nat) (_ : K.w0.heap.size ≤ aa) (aj : Nat) (_ : K.w0.heap.size ≤ aj) (ak : Nat) (_ : K.w0.heap.size ≤ ak) (e9 : Env) (L9 : LH), e9.sub [(202, .int .i64 k8), (203, .bool (decide (k8 < 33))), (204, .int .i64 k8), (20, .int .i64 k8), (205, .agg #[.int .i64 1, .slice none 0 0]), (206, .slice (some ⟨aa, 0, none⟩) (Int.toNat 24) (Int.toNat 24)), (207, .agg #[.int .i64 6, .slice (some ⟨aa, 0, none⟩) (Int.toNat 24) (Int.toNat 24)]), (21, .pointer (some ⟨aj, 0, none⟩)), (22, .pointer (some ⟨ak, 0, none⟩))] → L9.Perm ([(ak, ce #[.int .i64 0, .slice none 0 0] 25), (aj, ce #[.int .i64 1, .slice none 0 0] 25), (aa, ce (madeCells (.int .i64 0 : Value).cells ((Int.toNat 24) * 1)) 32)]) → T 1 #[true, true, true, true, true, true, false] e9 ae L9 := by
      intro aa ai aj fq ak mh e9 L9 af ah
      refine hs [6] (by kernel_rfl) (by decide) (fc (⟨_, rfl, ?_⟩) nm)
      · refine Bw _ af (AV ah (Bg (i := 0) sizeOf25 rfl rfl rfl (by simp [Value.oneCell']) rfl (Be rfl) (AJ rfl ?_)))
        obtain ⟨l3, h518, r519⟩ := B8 r497
        have mj : AN K.w0.heap.size 32 1 (iE .i64) ae (some ⟨aa, 0, none⟩) (Int.toNat 24) (Int.toNat 24) l3 [(aa, ce (madeCells (.int .i64 0 : Value).cells ((Int.toNat 24) * 1)) 32)] := by rw [h518]; exact AN.made (Ad _) (by decide) (fun _ => rfl) ai (WK du)
        generalize ku : ([(aa, ce (madeCells (.int .i64 0 : Value).cells ((Int.toNat 24) * 1)) 32)] : LH) = Lb520 at mj
        refine AV (L' := Lb520 ++ [(ak, ce #[.int .i64 6, .slice (some ⟨aa, 0, none⟩) (Int.toNat 24) (Int.toNat 24)] 25), (aj, ce #[.int .i64 1, .slice none 0 0] 25)]) (by rw [← ku]; exact (fC (fC fO))) ?_
        refine AV (L' := (ak, ce #[.int .i64 6, .slice (some ⟨aa, 0, none⟩) (Int.toNat 24) (Int.toNat 24)] 25) :: ((aj, ce #[.int .i64 1, .slice none 0 0] 25) :: (Lb520 ++ []))) (List.Perm.symm (fC (fC fP))) (Aa (hd (by kernel_rfl) ?_))
        obtain ⟨ep, dg, h531, u9⟩ := Bs r519
        refine AQ (fun e1 F1 L1 => ∃ (dh : Option Addr) (di : Nat) (dk : Nat) (bn : LH) (bo : LH), ae = F1 ∧ L1 = ((ak, ce #[.int .i64 6, .slice (some ⟨aa, 0, none⟩) (Int.toNat 24) (Int.toNat 24)] 25) :: ((aj, ce #[.int .i64 1, .slice dh di dk] 25) :: (bn ++ (bo ++ [])))) ∧ e1.sub [(20, .int .i64 k8), (21, .pointer (some ⟨aj, 0, none⟩)), (22, .pointer (some ⟨ak, 0, none⟩)), (202, .int .i64 k8)] ∧ AN K.w0.heap.size 32 1 (iE .i64) F1 dh di dk ep bn ∧ AN K.w0.heap.size 32 1 (iE .i64) F1 (some ⟨aa, 0, none⟩) (Int.toNat 24) (Int.toNat 24) dg bo) ?_ ?_
        · clear u9
          refine Ar (Ak (uv (Bh rfl) (uv (Bh rfl) (Aa (Aq ?_)))))
          obtain ⟨ub, r542⟩ := AW h531
          refine A9 (fun kv e1 F1 L1 => ∃ (k9 : Int), DD 0 k8 k9 kv ∧ ∃ (cr : List Int) (aq : List Int) (kz : Option Addr) (l0 : Nat) (la : Nat) (fs : LH) (dv : LH), C8 kv k9 cr aq = some (ep, dg) ∧ ae = F1 ∧ L1 = ((ak, ce #[.int .i64 6, .slice (some ⟨aa, 0, none⟩) (Int.toNat 24) (Int.toNat 24)] 25) :: ((aj, ce #[.int .i64 1, .slice kz l0 la] 25) :: (fs ++ (dv ++ [])))) ∧ e1.sub [(20, .int .i64 k8), (21, .pointer (some ⟨aj, 0, none⟩)), (22, .pointer (some ⟨ak, 0, none⟩)), (202, .int .i64 k8), (208, .int .i64 k8), (209, .int .i64 k9)] ∧ AN K.w0.heap.size 32 1 (iE .i64) F1 kz l0 la cr fs ∧ AN K.w0.heap.size 32 1 (iE .i64) F1 (some ⟨aa, 0, none⟩) (Int.toNat 24) (Int.toNat 24) aq dv) _ (m0 (kc (kc (ke kr))) ⟨_, DD.start _ _, [], l3, none, 0, 0, [], Lb520, r542, rfl, rfl, z6, AN.nil _ _ _ _ _, mj⟩) ?_
          rintro kv e1 _ _ ⟨k9, ft, cr, aq, kz, l0, la, fs, dv, lg, rfl, rfl, uc, ml, er⟩
          refine Az _ uc (Ar (Ak (uv (A7 rfl rfl) (Aa (Ar ?_)))))
          refine cQ (fun ib => ?_) fun ib => ?_
          · obtain ⟨kv, rfl, mn⟩ := DD.succ ft ib
            rw [C8] at lg
            refine Al (Ar (Aq (Ar (Ak (uv (Bh rfl) (uv (Ej rfl) (Aa ?_)))))))
            refine Ar (Ak (uv (Am BN rfl) (uv (Ao isAgg23 rfl (Has.own 1 rfl) rfl) (uv (Bh rfl) (uv (EN rfl rfl (by decide)) ?_)))))
            obtain ⟨g550, r551⟩ := AW lg
            refine uv (PT rfl rfl g550) ?_
            refine bA (cs := #[.int .i64 (2 * (Int.tmod k9 2))]) FF [.int .i64 (2 * (Int.tmod k9 2))] ?_; intro b552 hb552
            obtain ⟨t4, h553, g554, ud⟩ := E9 r551
            refine DB (xs := cr) (ys := [2 * (Int.tmod k9 2)]) (zs := t4) rfl FF rfl rfl (Nat.le_refl _) (fun _ => .c (.c (.c .h))) ml (GO.box (vss := [[.int .i64 (2 * (Int.tmod k9 2))]]) (ys := [2 * (Int.tmod k9 2)]) 0 rfl (Ad _) (.cons rfl .nil) rfl rfl) h553 g554 (by decide) ?_; intro ny nz o0 ic mo
            refine kO (kd kr) (uv (Am BN rfl) (Bt (i := 1) sizeOf23 rfl rfl rfl rfl (Be rfl) (AJ rfl (Aa (Ar (Ak (uv (Bh rfl) ?_)))))))
            refine uv (A7 rfl rfl) (Aa ?_)
            refine cQ (fun o7 => ?_) fun o7 => ?_
            · have r563 := AO ud o7
              refine Ak (uv (Am BN rfl) (uv (Ao isAgg23 rfl (Has.own 0 rfl) rfl) (uv (Bh rfl) ?_)))
              obtain ⟨g564, r565⟩ := AW r563
              refine uv (FD rfl rfl g564) ?_
              obtain ⟨x13, o8, ue, r568⟩ := Bj r565
              obtain ⟨b569, o570, c571, vs572, mq, hs574, hle575, rfl, hl576, hc577⟩ := AN.at (Ad _) er (L := (ak, ce #[.int .i64 6, .slice (some ⟨aa, 0, none⟩) (Int.toNat 24) (Int.toNat 24)] 25) :: ((aj, ce #[.int .i64 1, .slice ny nz o0] 25) :: (ic ++ (dv ++ [])))) (fC (fC (fS fP))) o8.1 ue
              refine uv (AA underlying23 sizeOf32 rfl mq rfl (AN.idx er o8)) ?_
              obtain ⟨full, h578, r579⟩ := B8 r568
              refine Cv (u := 1) sizeOf32 (Ad _) rfl mq rfl rfl (fun _ => .c (.c (.s .h))) er h578 o8 ?_; intro uf ug
              refine Aa (Av (id := 15) (Ak (uv (A1 rfl rfl (DD.DZ ft ib ub)) (uv (Bh rfl) (Aa ?_)))))
              exact le kr ⟨_, mn, t4, full, ny, nz, o0, ic, uf, r579, rfl, rfl, z6, mo, ug⟩
            · have r582 := AP ud o7
              refine Al (Av (id := 15) (Ak (uv (A1 rfl rfl (DD.DZ ft ib ub)) (uv (Bh rfl) (Aa ?_)))))
              exact le kr ⟨_, mn, t4, aq, ny, nz, o0, ic, dv, r582, rfl, rfl, z6, mo, er⟩
          · obtain rfl := DD.zero ft ib
            rw [C8] at lg
            refine AR (Aj (Aj (Ay ?_)))
            obtain ⟨rfl, rfl⟩ := BK lg
            exact mi kr ⟨kz, l0, la, fs, dv, rfl, rfl, z4, ml, er⟩
        · rintro e1 _ _ ⟨dh, di, dk, bn, bo, rfl, rfl, uh, dw, db⟩
          refine Az _ uh (Ar ?_)
          obtain ⟨k10, h584, o9⟩ := Aw u9
          refine AQ (fun e1 F1 L1 => ae = F1 ∧ L1 = ((ak, ce #[.int .i64 6, .slice (some ⟨aa, 0, none⟩) (Int.toNat 24) (Int.toNat 24)] 25) :: ((aj, ce #[.int .i64 1, .slice dh di dk] 25) :: (bn ++ (bo ++ [])))) ∧ e1.sub [(20, .int .i64 k8), (21, .pointer (some ⟨aj, 0, none⟩)), (22, .pointer (some ⟨ak, 0, none⟩)), (202, .int .i64 k8), (253, .bool k10)]) ?_ ?_
          · clear o9
            refine Ak (uv (As isAgg25 sizeOf25 rfl (Has.own 1 rfl) (Be rfl) rfl) ?_)
            refine uv (Bc (v := .agg #[.int .i64 1, .int .i64 40]) rfl (by intro w; kernel_rfl)) ?_
            refine uv (Bh rfl) ?_
            obtain ⟨g586, r587⟩ := AW h584
            refine uv (FD rfl rfl g586) ?_
            obtain ⟨ok9, h588, ui⟩ := Aw r587
            refine Bi (Lt := bn ++ []) (Lr := (ak, ce #[.int .i64 6, .slice (some ⟨aa, 0, none⟩) (Int.toNat 24) (Int.toNat 24)] 25) :: ((aj, ce #[.int .i64 1, .slice dh di dk] 25) :: (bo ++ []))) rfl call5 rfl rfl rfl (pT ((fC (fC fP)).trans (pA pR)) (lp (ln rfl))) (fun F2 h2 h3 => by rw [(AN.Bm dw).1]; exact Ek (dw.row (Ad _) h2 (fun p hp => h3 p (List.mem_append_left _ hp))) h588) ?_
            refine uv (Cf rfl) (uv (Bh rfl) ?_)
            rcases Bf (!ok9) with bp | bp
            · have r591 := bt ui bp
              refine fB bp (fB bp (fB bp (fB bp (fB bp (fB bp (uv (Au (Es rfl bp) rfl) (uv (Bh rfl) ?_)))))))
              refine Ai (b' := true) 242 rfl rfl rfl rfl (Ai (b' := true) 242 rfl rfl rfl rfl (Ai (b' := true) 242 rfl rfl rfl rfl (Ai (b' := true) 242 rfl rfl rfl rfl (uv (Au rfl rfl) (uv (Bh rfl) (Ai (b' := true) 248 rfl rfl rfl rfl (Ai (b' := true) 248 rfl rfl rfl rfl ?_)))))))
              refine Ai (b' := true) 248 rfl rfl rfl rfl (Ai (b' := true) 248 rfl rfl rfl rfl (uv (Au rfl rfl) (Aa ?_)))
              obtain rfl := AH r591
              exact mi kr ⟨rfl, rfl, z5⟩
            · have r592 := bf ui bp
              refine nB bp (uv (As isAgg25 sizeOf25 rfl (Has.own 1 rfl) (Be rfl) rfl) (nB bp ?_))
              refine uv (Bc (v := .agg #[.int .i64 0, .int .i64 1]) rfl (by intro w; kernel_rfl)) ?_
              refine nB bp (uv (Bh rfl) (nB bp ?_))
              obtain ⟨g593, r594⟩ := AW r592
              refine uv (FD rfl rfl g593) (nB bp ?_)
              obtain ⟨ok10, h595, uj⟩ := Aw r594
              refine Bi (Lt := bn ++ []) (Lr := (ak, ce #[.int .i64 6, .slice (some ⟨aa, 0, none⟩) (Int.toNat 24) (Int.toNat 24)] 25) :: ((aj, ce #[.int .i64 1, .slice dh di dk] 25) :: (bo ++ []))) rfl call8 rfl rfl rfl (pT ((fC (fC fP)).trans (pA pR)) (lp (ln rfl))) (fun F2 h2 h3 => by rw [(AN.Bm dw).1]; exact E6 (dw.row (Ad _) h2 (fun p hp => h3 p (List.mem_append_left _ hp))) h595) ?_
              refine nB bp (uv (Cf rfl) (uv (At (Es rfl bp) rfl) (uv (Bh rfl) ?_)))
              rcases Bf (!ok10) with cx | cx
              · have r598 := bt uj cx
                refine fB cx (fB cx (fB cx (fB cx (uv (Au (Es rfl cx) rfl) (uv (Bh rfl) (Ai (b' := true) 248 rfl rfl rfl rfl (Ai (b' := true) 248 rfl rfl rfl rfl ?_)))))))
                refine Ai (b' := true) 248 rfl rfl rfl rfl (Ai (b' := true) 248 rfl rfl rfl rfl (uv (Au rfl rfl) (Aa ?_)))
                obtain rfl := AH r598
                exact mi kr ⟨rfl, rfl, z5⟩
              · have r599 := bf uj cx
                refine nB cx (uv (As isAgg25 sizeOf25 rfl (Has.own 0 rfl) (Be rfl) rfl) (nB cx ?_))
                refine uv (Bc (v := .agg #[.int .i64 0, .int .i64 0]) rfl (by intro w; kernel_rfl)) ?_
                refine nB cx ?_
                obtain ⟨ok11, h600, uk⟩ := Aw r599
                refine Bi (Lt := bo ++ []) (Lr := (ak, ce #[.int .i64 6, .slice (some ⟨aa, 0, none⟩) (Int.toNat 24) (Int.toNat 24)] 25) :: ((aj, ce #[.int .i64 1, .slice dh di dk] 25) :: (bn ++ []))) rfl call5 rfl rfl rfl (pT ((fC (fC (fS fP))).trans (pA pR)) (lp (ln rfl))) (fun F2 h2 h3 => by have h0 := Ek (db.row (Ad _) h2 (fun p hp => h3 p (List.mem_append_left _ hp))) h600; rw [← (AN.Bm db).1] at h0; exact h0) ?_
                refine nB cx (uv (Cf rfl) (uv (At (Es rfl cx) rfl) (uv (Bh rfl) ?_)))
                rcases Bf (!ok11) with cy | cy
                · have r603 := bt uk cy
                  refine fB cy (fB cy (fB cy (fB cy (uv (Au (Es rfl cy) rfl) (Aa ?_)))))
                  obtain rfl := AH r603
                  exact mi kr ⟨rfl, rfl, z5⟩
                · have r604 := bf uk cy
                  refine nB cy (uv (As isAgg25 sizeOf25 rfl (Has.own 0 rfl) (Be rfl) rfl) (nB cy ?_))
                  refine uv (Bc (v := .agg #[.int .i64 3, .int .i64 9]) rfl (by intro w; kernel_rfl)) ?_
                  refine nB cy ?_
                  obtain ⟨ok12, h605, r606⟩ := Aw r604
                  refine Bi (Lt := bo ++ []) (Lr := (ak, ce #[.int .i64 6, .slice (some ⟨aa, 0, none⟩) (Int.toNat 24) (Int.toNat 24)] 25) :: ((aj, ce #[.int .i64 1, .slice dh di dk] 25) :: (bn ++ []))) rfl call8 rfl rfl rfl (pT ((fC (fC (fS fP))).trans (pA pR)) (lp (ln rfl))) (fun F2 h2 h3 => by have h0 := E6 (db.row (Ad _) h2 (fun p hp => h3 p (List.mem_append_left _ hp))) h605; rw [← (AN.Bm db).1] at h0; exact h0) ?_
                  refine nB cy (uv (Cf rfl) (uv (At (Es rfl cy) rfl) (Aa ?_)))
                  obtain rfl := AH r606
                  exact mi kr ⟨rfl, rfl, z5⟩
          · rintro e1 _ _ ⟨rfl, rfl, uo⟩
            refine Az _ uo ?_
            refine AU rfl (fun oc => ?_) (fun oc => ?_)
            · have r609 := bt o9 oc
              refine Ar (Ak (uv (Ej rfl) (Aa (kW kn (Ap (Ah (AB ?_)))))))
              refine Ah (Ah (AB (Ah (B2 results3 ?_))))
              obtain rfl := AH r609
              exact rfl
            · have r610 := bf o9 oc
              refine Al ?_
              obtain ⟨k11, h611, od⟩ := Aw r610
              refine AQ (fun e1 F1 L1 => ae = F1 ∧ L1 = [] ∧ e1.sub [(202, .int .i64 k8), (271, .bool k11)]) ?_ ?_
              · clear od
                refine Ak (uv (As isAgg25 sizeOf25 rfl (Has.own 1 rfl) (Be rfl) rfl) ?_)
                obtain ⟨n2, h613, uq⟩ := Aw h611
                refine Bi (Lt := bn ++ []) (Lr := (ak, ce #[.int .i64 6, .slice (some ⟨aa, 0, none⟩) (Int.toNat 24) (Int.toNat 24)] 25) :: ((aj, ce #[.int .i64 1, .slice dh di dk] 25) :: (bo ++ []))) rfl call12 rfl rfl rfl (pT ((fC (fC fP)).trans (pA pR)) (lp (ln rfl))) (fun F2 h2 h3 => by rw [(AN.Bm dw).1]; exact EZ (dw.row (Ad _) h2 (fun p hp => h3 p (List.mem_append_left _ hp))) h613) ?_
                refine uv (Bv rfl rfl) (uv (Bh rfl) (uv (Ex rfl rfl) (uv (Bh rfl) ?_)))
                by_cases et : 0 < k8
                · have ur := AO uq et
                  refine nT et (uv (Bh rfl) (nT et (uv (A7 rfl rfl) (uv (Au (A5 rfl et) rfl) (uv (Qu underlying4 rfl rfl) (uv (Bh rfl) ?_))))))
                  by_cases bu : (decide (n2 = 0)) ≠ (decide (k8 < 31))
                  · have r618 := AO ur bu
                    refine fT bu (fT bu (fT bu (fT bu (fT bu (fT bu (uv (Au (A5 rfl bu) rfl) (Aa ?_)))))))
                    obtain rfl := AH r618
                    exact mi kn ⟨rfl, rfl, z2⟩
                  · have r619 := AP ur bu
                    refine nF bu (uv (As isAgg25 sizeOf25 rfl (Has.own 0 rfl) (Be rfl) rfl) (nF bu ?_))
                    obtain ⟨n3, h620, r621⟩ := Aw r619
                    refine Bi (Lt := bo ++ []) (Lr := (ak, ce #[.int .i64 6, .slice (some ⟨aa, 0, none⟩) (Int.toNat 24) (Int.toNat 24)] 25) :: ((aj, ce #[.int .i64 1, .slice dh di dk] 25) :: (bn ++ []))) rfl call12 rfl rfl rfl (pT ((fC (fC (fS fP))).trans (pA pR)) (lp (ln rfl))) (fun F2 h2 h3 => by have h0 := EZ (db.row (Ad _) h2 (fun p hp => h3 p (List.mem_append_left _ hp))) h620; rw [← (AN.Bm db).1] at h0; exact h0) ?_
                    refine nF bu (uv (Bv rfl rfl) (nF bu (uv (Bh rfl) (nF bu (uv (A7 rfl rfl) (nF bu (uv (Qu underlying4 rfl rfl) ?_)))))))
                    refine uv (At (AZ rfl bu) rfl) (Aa ?_)
                    obtain rfl := AH r621
                    exact mi kn ⟨rfl, rfl, z2⟩
                · have uu := AP uq et
                  refine fF et (fF et (uv (At (AZ rfl et) rfl) (uv (Qu underlying4 rfl rfl) (uv (Bh rfl) ?_))))
                  by_cases bw : (decide (n2 = 0)) ≠ false
                  · have r624 := AO uu bw
                    refine fT bw (fT bw (fT bw (fT bw (fT bw (fT bw (uv (Au (A5 rfl bw) rfl) (Aa ?_)))))))
                    obtain rfl := AH r624
                    exact mi kn ⟨rfl, rfl, z2⟩
                  · have r625 := AP uu bw
                    refine nF bw (uv (As isAgg25 sizeOf25 rfl (Has.own 0 rfl) (Be rfl) rfl) (nF bw ?_))
                    obtain ⟨n4, h626, r627⟩ := Aw r625
                    refine Bi (Lt := bo ++ []) (Lr := (ak, ce #[.int .i64 6, .slice (some ⟨aa, 0, none⟩) (Int.toNat 24) (Int.toNat 24)] 25) :: ((aj, ce #[.int .i64 1, .slice dh di dk] 25) :: (bn ++ []))) rfl call12 rfl rfl rfl (pT ((fC (fC (fS fP))).trans (pA pR)) (lp (ln rfl))) (fun F2 h2 h3 => by have h0 := EZ (db.row (Ad _) h2 (fun p hp => h3 p (List.mem_append_left _ hp))) h626; rw [← (AN.Bm db).1] at h0; exact h0) ?_
                    refine nF bw (uv (Bv rfl rfl) (nF bw (uv (Bh rfl) (nF bw (uv (A7 rfl rfl) (nF bw (uv (Qu underlying4 rfl rfl) ?_)))))))
                    refine uv (At (AZ rfl bw) rfl) (Aa ?_)
                    obtain rfl := AH r627
                    exact mi kn ⟨rfl, rfl, z2⟩
              · rintro e1 _ _ ⟨rfl, rfl, uw⟩
                refine Az _ uw ?_
                refine AU rfl (fun oe => ?_) (fun oe => ?_)
                · have r630 := bt od oe
                  refine Ar (Ak (uv (Ej rfl) (Aa (Ap (AB (Ah (Ah ?_)))))))
                  refine AB (Ah (B2 results3 ?_))
                  obtain rfl := AH r630
                  exact rfl
                · have r631 := bf od oe
                  refine Al (Av (id := 13) ?_)
                  exact mi kr ⟨r631, rfl, rfl, z1⟩
    have ao : ∀ (aa : Nat) (_ : K.w0.heap.size ≤ aa) (aj : Nat) (_ : K.w0.heap.size ≤ aj) (ak : Nat) (_ : K.w0.heap.size ≤ ak) (e9 : Env) (L9 : LH), e9.sub [(202, .int .i64 k8), (203, .bool (decide (k8 < 33))), (204, .int .i64 k8), (20, .int .i64 k8), (205, .agg #[.int .i64 1, .slice none 0 0]), (206, .slice (some ⟨aa, 0, none⟩) (Int.toNat 24) (Int.toNat 24)), (207, .agg #[.int .i64 6, .slice (some ⟨aa, 0, none⟩) (Int.toNat 24) (Int.toNat 24)]), (21, .pointer (some ⟨aj, 0, none⟩)), (22, .pointer (some ⟨ak, 0, none⟩))] → L9.Perm ([(ak, ce #[.int .i64 0, .slice none 0 0] 25), (aj, ce #[.int .i64 0, .slice none 0 0] 25), (aa, ce (madeCells (.int .i64 0 : Value).cells ((Int.toNat 24) * 1)) 32)]) → T 2 #[true, true, true, true, true, false, false] e9 ae L9 := by
      intro aa ai aj fq ak mh e9 L9 af ah
      refine hs [5] (by kernel_rfl) (by decide) (fc (⟨_, rfl, ?_⟩) nm)
      · refine Bw _ af (AV ah (Bg (i := 1) sizeOf25 rfl rfl rfl (by simp [Value.oneCell']) rfl (Be rfl) (AJ rfl (Aa ?_))))
        exact bm aa ai aj fq ak mh _ _ (sc rfl z8) pR
    have ct : ∀ (aa : Nat) (_ : K.w0.heap.size ≤ aa) (ay : Nat) (_ : K.w0.heap.size ≤ ay) (dd : Nat) (_ : K.w0.heap.size ≤ dd) (e9 : Env) (L9 : LH), e9.sub [(202, .int .i64 k8), (203, .bool (decide (k8 < 33))), (204, .int .i64 k8), (20, .int .i64 k8), (205, .agg #[.int .i64 1, .slice none 0 0]), (206, .slice (some ⟨aa, 0, none⟩) (Int.toNat 24) (Int.toNat 24)), (21, .pointer (some ⟨ay, 0, none⟩)), (22, .pointer (some ⟨dd, 0, none⟩))] → L9.Perm ([(dd, ce #[.int .i64 0, .slice none 0 0] 25), (ay, ce #[.int .i64 1, .slice none 0 0] 25), (aa, ce (madeCells (.int .i64 0 : Value).cells ((Int.toNat 24) * 1)) 32)]) → T 2 #[true, true, false, true, true, true, false] e9 ae L9 := by
      intro aa ai ay dm dd fv e9 L9 af ah
      refine hs [2] (by kernel_rfl) (by decide) (fc (⟨_, rfl, ?_⟩) nm)
      · refine Bw _ af (AV ah ?_)
        refine uv (Bc (v := .agg #[.int .i64 6, .slice (some ⟨aa, 0, none⟩) (Int.toNat 24) (Int.toNat 24)]) rfl (by intro w; kernel_rfl)) ?_
        refine Aa ?_
        exact bm aa ai ay dm dd fv _ _ (sc rfl z8) pR
    have cb : ∀ (aa : Nat) (_ : K.w0.heap.size ≤ aa) (aj : Nat) (_ : K.w0.heap.size ≤ aj) (e9 : Env) (L9 : LH), e9.sub [(202, .int .i64 k8), (203, .bool (decide (k8 < 33))), (204, .int .i64 k8), (20, .int .i64 k8), (205, .agg #[.int .i64 1, .slice none 0 0]), (206, .slice (some ⟨aa, 0, none⟩) (Int.toNat 24) (Int.toNat 24)), (207, .agg #[.int .i64 6, .slice (some ⟨aa, 0, none⟩) (Int.toNat 24) (Int.toNat 24)]), (21, .pointer (some ⟨aj, 0, none⟩))] → L9.Perm ([(aj, ce #[.int .i64 0, .slice none 0 0] 25), (aa, ce (madeCells (.int .i64 0 : Value).cells ((Int.toNat 24) * 1)) 32)]) → T 3 #[true, true, true, true, false, false, false] e9 ae L9 := by
      intro aa ai aj fq e9 L9 af ah
      refine hs [4] (by kernel_rfl) (by decide) (fc (⟨_, rfl, ?_⟩) nm)
      · refine Bw _ af (AV ah ?_)
        refine A6 rfl zeroValue25 ?_; intro b632 ux
        refine Aa ?_
        exact ao aa ai aj fq b632 ux _ _ (sc rfl z8) pR
    have cc : ∀ (aa : Nat) (_ : K.w0.heap.size ≤ aa) (ie : Nat) (_ : K.w0.heap.size ≤ ie) (e9 : Env) (L9 : LH), e9.sub [(202, .int .i64 k8), (203, .bool (decide (k8 < 33))), (204, .int .i64 k8), (20, .int .i64 k8), (205, .agg #[.int .i64 1, .slice none 0 0]), (206, .slice (some ⟨aa, 0, none⟩) (Int.toNat 24) (Int.toNat 24)), (207, .agg #[.int .i64 6, .slice (some ⟨aa, 0, none⟩) (Int.toNat 24) (Int.toNat 24)]), (22, .pointer (some ⟨ie, 0, none⟩))] → L9.Perm ([(ie, ce #[.int .i64 0, .slice none 0 0] 25), (aa, ce (madeCells (.int .i64 0 : Value).cells ((Int.toNat 24) * 1)) 32)]) → T 3 #[true, true, true, false, true, false, false] e9 ae L9 := by
      intro aa ai ie uy e9 L9 af ah
      refine hs [3] (by kernel_rfl) (by decide) (fc (⟨_, rfl, ?_⟩) nm)
      · refine Bw _ af (AV ah ?_)
        refine A6 rfl zeroValue25 ?_; intro b633 uz
        refine Aa ?_
        exact ao aa ai b633 uz ie uy _ _ (sc rfl z8) ((fC fO).trans (pC pR))
    have az : ∀ (aa : Nat) (_ : K.w0.heap.size ≤ aa) (ay : Nat) (_ : K.w0.heap.size ≤ ay) (dd : Nat) (_ : K.w0.heap.size ≤ dd) (e9 : Env) (L9 : LH), e9.sub [(202, .int .i64 k8), (203, .bool (decide (k8 < 33))), (204, .int .i64 k8), (20, .int .i64 k8), (205, .agg #[.int .i64 1, .slice none 0 0]), (206, .slice (some ⟨aa, 0, none⟩) (Int.toNat 24) (Int.toNat 24)), (21, .pointer (some ⟨ay, 0, none⟩)), (22, .pointer (some ⟨dd, 0, none⟩))] → L9.Perm ([(dd, ce #[.int .i64 0, .slice none 0 0] 25), (ay, ce #[.int .i64 0, .slice none 0 0] 25), (aa, ce (madeCells (.int .i64 0 : Value).cells ((Int.toNat 24) * 1)) 32)]) → T 3 #[true, true, false, true, true, false, false] e9 ae L9 := by
      intro aa ai ay dm dd fv e9 L9 af ah
      refine hs [2, 5] (by kernel_rfl) (by decide) (fc (⟨_, rfl, ?_⟩) (fc (⟨_, rfl, ?_⟩) nm))
      · refine Bw _ af (AV ah ?_)
        refine uv (Bc (v := .agg #[.int .i64 6, .slice (some ⟨aa, 0, none⟩) (Int.toNat 24) (Int.toNat 24)]) rfl (by intro w; kernel_rfl)) ?_
        refine Aa ?_
        exact ao aa ai ay dm dd fv _ _ (sc rfl z8) pR
      · refine Bw _ af (AV ah (Bg (i := 1) sizeOf25 rfl rfl rfl (by simp [Value.oneCell']) rfl (Be rfl) (AJ rfl (Aa ?_))))
        exact ct aa ai ay dm dd fv _ _ z8 pR
    have ff : ∀ (ba : Nat) (_ : K.w0.heap.size ≤ ba) (de : Nat) (_ : K.w0.heap.size ≤ de) (e9 : Env) (L9 : LH), e9.sub [(202, .int .i64 k8), (203, .bool (decide (k8 < 33))), (204, .int .i64 k8), (20, .int .i64 k8), (205, .agg #[.int .i64 1, .slice none 0 0]), (21, .pointer (some ⟨ba, 0, none⟩)), (22, .pointer (some ⟨de, 0, none⟩))] → L9.Perm ([(de, ce #[.int .i64 0, .slice none 0 0] 25), (ba, ce #[.int .i64 1, .slice none 0 0] 25)]) → T 3 #[true, false, false, true, true, true, false] e9 ae L9 := by
      intro ba dn de fw e9 L9 af ah
      refine hs [1] (by kernel_rfl) (by decide) (fc (⟨_, rfl, ?_⟩) nm)
      · refine Bw _ af (AV ah ?_)
        refine Nq rfl (Jz FF (by decide) rfl du) ?_; intro b634 va
        refine AJ rfl (Aa ?_)
        exact ct b634 va ba dn de fw _ _ z8 ((fC fO).trans (pC ((fC fO).trans (pC pR))))
    have cd : ∀ (ab : Nat) (_ : K.w0.heap.size ≤ ab) (df : Nat) (_ : K.w0.heap.size ≤ df) (ig : Nat) (_ : K.w0.heap.size ≤ ig) (e9 : Env) (L9 : LH), e9.sub [(202, .int .i64 k8), (203, .bool (decide (k8 < 33))), (204, .int .i64 k8), (20, .int .i64 k8), (206, .slice (some ⟨ab, 0, none⟩) (Int.toNat 24) (Int.toNat 24)), (207, .agg #[.int .i64 6, .slice (some ⟨ab, 0, none⟩) (Int.toNat 24) (Int.toNat 24)]), (21, .pointer (some ⟨df, 0, none⟩)), (22, .pointer (some ⟨ig, 0, none⟩))] → L9.Perm ([(ig, ce #[.int .i64 0, .slice none 0 0] 25), (df, ce #[.int .i64 0, .slice none 0 0] 25), (ab, ce (madeCells (.int .i64 0 : Value).cells ((Int.toNat 24) * 1)) 32)]) → T 3 #[false, true, true, true, true, false, false] e9 ae L9 := by
      intro ab ad df fx ig vb e9 L9 af ah
      refine hs [0] (by kernel_rfl) (by decide) (fc (⟨_, rfl, ?_⟩) nm)
      · refine Bw _ af (AV ah ?_)
        refine uv (Bc (v := .agg #[.int .i64 1, .slice none 0 0]) rfl (by intro w; kernel_rfl)) ?_
        refine Aa ?_
        exact ao ab ad df fx ig vb _ _ (sc rfl z8) pR
    have eu : ∀ (aa : Nat) (_ : K.w0.heap.size ≤ aa) (e9 : Env) (L9 : LH), e9.sub [(202, .int .i64 k8), (203, .bool (decide (k8 < 33))), (204, .int .i64 k8), (20, .int .i64 k8), (205, .agg #[.int .i64 1, .slice none 0 0]), (206, .slice (some ⟨aa, 0, none⟩) (Int.toNat 24) (Int.toNat 24)), (207, .agg #[.int .i64 6, .slice (some ⟨aa, 0, none⟩) (Int.toNat 24) (Int.toNat 24)])] → L9.Perm ([(aa, ce (madeCells (.int .i64 0 : Value).cells ((Int.toNat 24) * 1)) 32)]) → T 4 #[true, true, true, false, false, false, false] e9 ae L9 := by
      intro aa ai e9 L9 af ah
      refine hs [3, 4] (by kernel_rfl) (by decide) (fc (⟨_, rfl, ?_⟩) (fc (⟨_, rfl, ?_⟩) nm))
      · refine Bw _ af (AV ah ?_)
        refine A6 rfl zeroValue25 ?_; intro b635 vc
        refine Aa ?_
        exact cb aa ai b635 vc _ _ z8 pR
      · refine Bw _ af (AV ah ?_)
        refine A6 rfl zeroValue25 ?_; intro b636 vd
        refine Aa ?_
        exact cc aa ai b636 vd _ _ z8 pR
    have dp : ∀ (aa : Nat) (_ : K.w0.heap.size ≤ aa) (ay : Nat) (_ : K.w0.heap.size ≤ ay) (e9 : Env) (L9 : LH), e9.sub [(202, .int .i64 k8), (203, .bool (decide (k8 < 33))), (204, .int .i64 k8), (20, .int .i64 k8), (205, .agg #[.int .i64 1, .slice none 0 0]), (206, .slice (some ⟨aa, 0, none⟩) (Int.toNat 24) (Int.toNat 24)), (21, .pointer (some ⟨ay, 0, none⟩))] → L9.Perm ([(ay, ce #[.int .i64 0, .slice none 0 0] 25), (aa, ce (madeCells (.int .i64 0 : Value).cells ((Int.toNat 24) * 1)) 32)]) → T 4 #[true, true, false, true, false, false, false] e9 ae L9 := by
      intro aa ai ay dm e9 L9 af ah
      refine hs [2, 4] (by kernel_rfl) (by decide) (fc (⟨_, rfl, ?_⟩) (fc (⟨_, rfl, ?_⟩) nm))
      · refine Bw _ af (AV ah ?_)
        refine uv (Bc (v := .agg #[.int .i64 6, .slice (some ⟨aa, 0, none⟩) (Int.toNat 24) (Int.toNat 24)]) rfl (by intro w; kernel_rfl)) ?_
        refine Aa ?_
        exact cb aa ai ay dm _ _ z8 pR
      · refine Bw _ af (AV ah ?_)
        refine A6 rfl zeroValue25 ?_; intro b637 ve
        refine Aa ?_
        exact az aa ai ay dm b637 ve _ _ z8 pR
    have dq : ∀ (aa : Nat) (_ : K.w0.heap.size ≤ aa) (gi : Nat) (_ : K.w0.heap.size ≤ gi) (e9 : Env) (L9 : LH), e9.sub [(202, .int .i64 k8), (203, .bool (decide (k8 < 33))), (204, .int .i64 k8), (20, .int .i64 k8), (205, .agg #[.int .i64 1, .slice none 0 0]), (206, .slice (some ⟨aa, 0, none⟩) (Int.toNat 24) (Int.toNat 24)), (22, .pointer (some ⟨gi, 0, none⟩))] → L9.Perm ([(gi, ce #[.int .i64 0, .slice none 0 0] 25), (aa, ce (madeCells (.int .i64 0 : Value).cells ((Int.toNat 24) * 1)) 32)]) → T 4 #[true, true, false, false, true, false, false] e9 ae L9 := by
      intro aa ai gi mr e9 L9 af ah
      refine hs [2, 3] (by kernel_rfl) (by decide) (fc (⟨_, rfl, ?_⟩) (fc (⟨_, rfl, ?_⟩) nm))
      · refine Bw _ af (AV ah ?_)
        refine uv (Bc (v := .agg #[.int .i64 6, .slice (some ⟨aa, 0, none⟩) (Int.toNat 24) (Int.toNat 24)]) rfl (by intro w; kernel_rfl)) ?_
        refine Aa ?_
        exact cc aa ai gi mr _ _ z8 pR
      · refine Bw _ af (AV ah ?_)
        refine A6 rfl zeroValue25 ?_; intro b638 vf
        refine Aa ?_
        exact az aa ai b638 vf gi mr _ _ z8 ((fC fO).trans (pC pR))
    have dr : ∀ (ba : Nat) (_ : K.w0.heap.size ≤ ba) (de : Nat) (_ : K.w0.heap.size ≤ de) (e9 : Env) (L9 : LH), e9.sub [(202, .int .i64 k8), (203, .bool (decide (k8 < 33))), (204, .int .i64 k8), (20, .int .i64 k8), (205, .agg #[.int .i64 1, .slice none 0 0]), (21, .pointer (some ⟨ba, 0, none⟩)), (22, .pointer (some ⟨de, 0, none⟩))] → L9.Perm ([(de, ce #[.int .i64 0, .slice none 0 0] 25), (ba, ce #[.int .i64 0, .slice none 0 0] 25)]) → T 4 #[true, false, false, true, true, false, false] e9 ae L9 := by
      intro ba dn de fw e9 L9 af ah
      refine hs [1, 5] (by kernel_rfl) (by decide) (fc (⟨_, rfl, ?_⟩) (fc (⟨_, rfl, ?_⟩) nm))
      · refine Bw _ af (AV ah ?_)
        refine Nq rfl (Jz FF (by decide) rfl du) ?_; intro b639 vg
        refine AJ rfl (Aa ?_)
        exact az b639 vg ba dn de fw _ _ z8 ((fC fO).trans (pC ((fC fO).trans (pC pR))))
      · refine Bw _ af (AV ah (Bg (i := 1) sizeOf25 rfl rfl rfl (by simp [Value.oneCell']) rfl (Be rfl) (AJ rfl (Aa ?_))))
        exact ff ba dn de fw _ _ z7 pR
    have ew : ∀ (ab : Nat) (_ : K.w0.heap.size ≤ ab) (df : Nat) (_ : K.w0.heap.size ≤ df) (e9 : Env) (L9 : LH), e9.sub [(202, .int .i64 k8), (203, .bool (decide (k8 < 33))), (204, .int .i64 k8), (20, .int .i64 k8), (206, .slice (some ⟨ab, 0, none⟩) (Int.toNat 24) (Int.toNat 24)), (207, .agg #[.int .i64 6, .slice (some ⟨ab, 0, none⟩) (Int.toNat 24) (Int.toNat 24)]), (21, .pointer (some ⟨df, 0, none⟩))] → L9.Perm ([(df, ce #[.int .i64 0, .slice none 0 0] 25), (ab, ce (madeCells (.int .i64 0 : Value).cells ((Int.toNat 24) * 1)) 32)]) → T 4 #[false, true, true, true, false, false, false] e9 ae L9 := by
      intro ab ad df fx e9 L9 af ah
      refine hs [0, 4] (by kernel_rfl) (by decide) (fc (⟨_, rfl, ?_⟩) (fc (⟨_, rfl, ?_⟩) nm))
      · refine Bw _ af (AV ah ?_)
        refine uv (Bc (v := .agg #[.int .i64 1, .slice none 0 0]) rfl (by intro w; kernel_rfl)) ?_
        refine Aa ?_
        exact cb ab ad df fx _ _ z8 pR
      · refine Bw _ af (AV ah ?_)
        refine A6 rfl zeroValue25 ?_; intro b640 vh
        refine Aa ?_
        exact cd ab ad df fx b640 vh _ _ z8 pR
    have ey : ∀ (ab : Nat) (_ : K.w0.heap.size ≤ ab) (gj : Nat) (_ : K.w0.heap.size ≤ gj) (e9 : Env) (L9 : LH), e9.sub [(202, .int .i64 k8), (203, .bool (decide (k8 < 33))), (204, .int .i64 k8), (20, .int .i64 k8), (206, .slice (some ⟨ab, 0, none⟩) (Int.toNat 24) (Int.toNat 24)), (207, .agg #[.int .i64 6, .slice (some ⟨ab, 0, none⟩) (Int.toNat 24) (Int.toNat 24)]), (22, .pointer (some ⟨gj, 0, none⟩))] → L9.Perm ([(gj, ce #[.int .i64 0, .slice none 0 0] 25), (ab, ce (madeCells (.int .i64 0 : Value).cells ((Int.toNat 24) * 1)) 32)]) → T 4 #[false, true, true, false, true, false, false] e9 ae L9 := by
      intro ab ad gj mv e9 L9 af ah
      refine hs [0, 3] (by kernel_rfl) (by decide) (fc (⟨_, rfl, ?_⟩) (fc (⟨_, rfl, ?_⟩) nm))
      · refine Bw _ af (AV ah ?_)
        refine uv (Bc (v := .agg #[.int .i64 1, .slice none 0 0]) rfl (by intro w; kernel_rfl)) ?_
        refine Aa ?_
        exact cc ab ad gj mv _ _ z8 pR
      · refine Bw _ af (AV ah ?_)
        refine A6 rfl zeroValue25 ?_; intro b641 vi
        refine Aa ?_
        exact cd ab ad b641 vi gj mv _ _ z8 ((fC fO).trans (pC pR))
    have dt : ∀ (ab : Nat) (_ : K.w0.heap.size ≤ ab) (cu : Nat) (_ : K.w0.heap.size ≤ cu) (gk : Nat) (_ : K.w0.heap.size ≤ gk) (e9 : Env) (L9 : LH), e9.sub [(202, .int .i64 k8), (203, .bool (decide (k8 < 33))), (204, .int .i64 k8), (20, .int .i64 k8), (206, .slice (some ⟨ab, 0, none⟩) (Int.toNat 24) (Int.toNat 24)), (21, .pointer (some ⟨cu, 0, none⟩)), (22, .pointer (some ⟨gk, 0, none⟩))] → L9.Perm ([(gk, ce #[.int .i64 0, .slice none 0 0] 25), (cu, ce #[.int .i64 0, .slice none 0 0] 25), (ab, ce (madeCells (.int .i64 0 : Value).cells ((Int.toNat 24) * 1)) 32)]) → T 4 #[false, true, false, true, true, false, false] e9 ae L9 := by
      intro ab ad cu dx gk mw e9 L9 af ah
      refine hs [0, 2] (by kernel_rfl) (by decide) (fc (⟨_, rfl, ?_⟩) (fc (⟨_, rfl, ?_⟩) nm))
      · refine Bw _ af (AV ah ?_)
        refine uv (Bc (v := .agg #[.int .i64 1, .slice none 0 0]) rfl (by intro w; kernel_rfl)) ?_
        refine Aa ?_
        exact az ab ad cu dx gk mw _ _ z8 pR
      · refine Bw _ af (AV ah ?_)
        refine uv (Bc (v := .agg #[.int .i64 6, .slice (some ⟨ab, 0, none⟩) (Int.toNat 24) (Int.toNat 24)]) rfl (by intro w; kernel_rfl)) ?_
        refine Aa ?_
        exact cd ab ad cu dx gk mw _ _ z8 pR
    have ij : ∀ (aa : Nat) (_ : K.w0.heap.size ≤ aa) (e9 : Env) (L9 : LH), e9.sub [(202, .int .i64 k8), (203, .bool (decide (k8 < 33))), (204, .int .i64 k8), (20, .int .i64 k8), (205, .agg #[.int .i64 1, .slice none 0 0]), (206, .slice (some ⟨aa, 0, none⟩) (Int.toNat 24) (Int.toNat 24))] → L9.Perm ([(aa, ce (madeCells (.int .i64 0 : Value).cells ((Int.toNat 24) * 1)) 32)]) → T 5 #[true, true, false, false, false, false, false] e9 ae L9 := by
      intro aa ai e9 L9 af ah
      refine hs [2, 3, 4] (by kernel_rfl) (by decide) (fc (⟨_, rfl, ?_⟩) (fc (⟨_, rfl, ?_⟩) (fc (⟨_, rfl, ?_⟩) nm)))
      · refine Bw _ af (AV ah ?_)
        refine uv (Bc (v := .agg #[.int .i64 6, .slice (some ⟨aa, 0, none⟩) (Int.toNat 24) (Int.toNat 24)]) rfl (by intro w; kernel_rfl)) ?_
        refine Aa ?_
        exact eu aa ai _ _ z7 pR
      · refine Bw _ af (AV ah ?_)
        refine A6 rfl zeroValue25 ?_; intro b642 vj
        refine Aa ?_
        exact dp aa ai b642 vj _ _ z7 pR
      · refine Bw _ af (AV ah ?_)
        refine A6 rfl zeroValue25 ?_; intro b643 vk
        refine Aa ?_
        exact dq aa ai b643 vk _ _ z7 pR
    have ik : ∀ (ba : Nat) (_ : K.w0.heap.size ≤ ba) (e9 : Env) (L9 : LH), e9.sub [(202, .int .i64 k8), (203, .bool (decide (k8 < 33))), (204, .int .i64 k8), (20, .int .i64 k8), (205, .agg #[.int .i64 1, .slice none 0 0]), (21, .pointer (some ⟨ba, 0, none⟩))] → L9.Perm ([(ba, ce #[.int .i64 0, .slice none 0 0] 25)]) → T 5 #[true, false, false, true, false, false, false] e9 ae L9 := by
      intro ba dn e9 L9 af ah
      refine hs [1, 4] (by kernel_rfl) (by decide) (fc (⟨_, rfl, ?_⟩) (fc (⟨_, rfl, ?_⟩) nm))
      · refine Bw _ af (AV ah ?_)
        refine Nq rfl (Jz FF (by decide) rfl du) ?_; intro b644 vl
        refine AJ rfl (Aa ?_)
        exact dp b644 vl ba dn _ _ z7 ((fC fO).trans (pC pR))
      · refine Bw _ af (AV ah ?_)
        refine A6 rfl zeroValue25 ?_; intro b645 vm
        refine Aa ?_
        exact dr ba dn b645 vm _ _ z7 pR
    have il : ∀ (gl : Nat) (_ : K.w0.heap.size ≤ gl) (e9 : Env) (L9 : LH), e9.sub [(202, .int .i64 k8), (203, .bool (decide (k8 < 33))), (204, .int .i64 k8), (20, .int .i64 k8), (205, .agg #[.int .i64 1, .slice none 0 0]), (22, .pointer (some ⟨gl, 0, none⟩))] → L9.Perm ([(gl, ce #[.int .i64 0, .slice none 0 0] 25)]) → T 5 #[true, false, false, false, true, false, false] e9 ae L9 := by
      intro gl mx e9 L9 af ah
      refine hs [1, 3] (by kernel_rfl) (by decide) (fc (⟨_, rfl, ?_⟩) (fc (⟨_, rfl, ?_⟩) nm))
      · refine Bw _ af (AV ah ?_)
        refine Nq rfl (Jz FF (by decide) rfl du) ?_; intro b646 vn
        refine AJ rfl (Aa ?_)
        exact dq b646 vn gl mx _ _ z7 ((fC fO).trans (pC pR))
      · refine Bw _ af (AV ah ?_)
        refine A6 rfl zeroValue25 ?_; intro b647 vo
        refine Aa ?_
        exact dr b647 vo gl mx _ _ z7 ((fC fO).trans (pC pR))
    have og : ∀ (ab : Nat) (_ : K.w0.heap.size ≤ ab) (e9 : Env) (L9 : LH), e9.sub [(202, .int .i64 k8), (203, .bool (decide (k8 < 33))), (204, .int .i64 k8), (20, .int .i64 k8), (206, .slice (some ⟨ab, 0, none⟩) (Int.toNat 24) (Int.toNat 24)), (207, .agg #[.int .i64 6, .slice (some ⟨ab, 0, none⟩) (Int.toNat 24) (Int.toNat 24)])] → L9.Perm ([(ab, ce (madeCells (.int .i64 0 : Value).cells ((Int.toNat 24) * 1)) 32)]) → T 5 #[false, true, true, false, false, false, false] e9 ae L9 := by
      intro ab ad e9 L9 af ah
      refine hs [0, 3, 4] (by kernel_rfl) (by decide) (fc (⟨_, rfl, ?_⟩) (fc (⟨_, rfl, ?_⟩) (fc (⟨_, rfl, ?_⟩) nm)))
      · refine Bw _ af (AV ah ?_)
        refine uv (Bc (v := .agg #[.int .i64 1, .slice none 0 0]) rfl (by intro w; kernel_rfl)) ?_
        refine Aa ?_
        exact eu ab ad _ _ z7 pR
      · refine Bw _ af (AV ah ?_)
        refine A6 rfl zeroValue25 ?_; intro b648 vp
        refine Aa ?_
        exact ew ab ad b648 vp _ _ z7 pR
      · refine Bw _ af (AV ah ?_)
        refine A6 rfl zeroValue25 ?_; intro b649 vq
        refine Aa ?_
        exact ey ab ad b649 vq _ _ z7 pR
    have im : ∀ (ab : Nat) (_ : K.w0.heap.size ≤ ab) (cu : Nat) (_ : K.w0.heap.size ≤ cu) (e9 : Env) (L9 : LH), e9.sub [(202, .int .i64 k8), (203, .bool (decide (k8 < 33))), (204, .int .i64 k8), (20, .int .i64 k8), (206, .slice (some ⟨ab, 0, none⟩) (Int.toNat 24) (Int.toNat 24)), (21, .pointer (some ⟨cu, 0, none⟩))] → L9.Perm ([(cu, ce #[.int .i64 0, .slice none 0 0] 25), (ab, ce (madeCells (.int .i64 0 : Value).cells ((Int.toNat 24) * 1)) 32)]) → T 5 #[false, true, false, true, false, false, false] e9 ae L9 := by
      intro ab ad cu dx e9 L9 af ah
      refine hs [0, 2, 4] (by kernel_rfl) (by decide) (fc (⟨_, rfl, ?_⟩) (fc (⟨_, rfl, ?_⟩) (fc (⟨_, rfl, ?_⟩) nm)))
      · refine Bw _ af (AV ah ?_)
        refine uv (Bc (v := .agg #[.int .i64 1, .slice none 0 0]) rfl (by intro w; kernel_rfl)) ?_
        refine Aa ?_
        exact dp ab ad cu dx _ _ z7 pR
      · refine Bw _ af (AV ah ?_)
        refine uv (Bc (v := .agg #[.int .i64 6, .slice (some ⟨ab, 0, none⟩) (Int.toNat 24) (Int.toNat 24)]) rfl (by intro w; kernel_rfl)) ?_
        refine Aa ?_
        exact ew ab ad cu dx _ _ z7 pR
      · refine Bw _ af (AV ah ?_)
        refine A6 rfl zeroValue25 ?_; intro b650 vr
        refine Aa ?_
        exact dt ab ad cu dx b650 vr _ _ z7 pR
    have iq : ∀ (ab : Nat) (_ : K.w0.heap.size ≤ ab) (fg : Nat) (_ : K.w0.heap.size ≤ fg) (e9 : Env) (L9 : LH), e9.sub [(202, .int .i64 k8), (203, .bool (decide (k8 < 33))), (204, .int .i64 k8), (20, .int .i64 k8), (206, .slice (some ⟨ab, 0, none⟩) (Int.toNat 24) (Int.toNat 24)), (22, .pointer (some ⟨fg, 0, none⟩))] → L9.Perm ([(fg, ce #[.int .i64 0, .slice none 0 0] 25), (ab, ce (madeCells (.int .i64 0 : Value).cells ((Int.toNat 24) * 1)) 32)]) → T 5 #[false, true, false, false, true, false, false] e9 ae L9 := by
      intro ab ad fg ir e9 L9 af ah
      refine hs [0, 2, 3] (by kernel_rfl) (by decide) (fc (⟨_, rfl, ?_⟩) (fc (⟨_, rfl, ?_⟩) (fc (⟨_, rfl, ?_⟩) nm)))
      · refine Bw _ af (AV ah ?_)
        refine uv (Bc (v := .agg #[.int .i64 1, .slice none 0 0]) rfl (by intro w; kernel_rfl)) ?_
        refine Aa ?_
        exact dq ab ad fg ir _ _ z7 pR
      · refine Bw _ af (AV ah ?_)
        refine uv (Bc (v := .agg #[.int .i64 6, .slice (some ⟨ab, 0, none⟩) (Int.toNat 24) (Int.toNat 24)]) rfl (by intro w; kernel_rfl)) ?_
        refine Aa ?_
        exact ey ab ad fg ir _ _ z7 pR
      · refine Bw _ af (AV ah ?_)
        refine A6 rfl zeroValue25 ?_; intro b651 vt
        refine Aa ?_
        exact dt ab ad b651 vt fg ir _ _ z7 ((fC fO).trans (pC pR))
    have iu : ∀ (cv : Nat) (_ : K.w0.heap.size ≤ cv) (gm : Nat) (_ : K.w0.heap.size ≤ gm) (e9 : Env) (L9 : LH), e9.sub [(202, .int .i64 k8), (203, .bool (decide (k8 < 33))), (204, .int .i64 k8), (20, .int .i64 k8), (21, .pointer (some ⟨cv, 0, none⟩)), (22, .pointer (some ⟨gm, 0, none⟩))] → L9.Perm ([(gm, ce #[.int .i64 0, .slice none 0 0] 25), (cv, ce #[.int .i64 0, .slice none 0 0] 25)]) → T 5 #[false, false, false, true, true, false, false] e9 ae L9 := by
      intro cv dy gm my e9 L9 af ah
      refine hs [0, 1] (by kernel_rfl) (by decide) (fc (⟨_, rfl, ?_⟩) (fc (⟨_, rfl, ?_⟩) nm))
      · refine Bw _ af (AV ah ?_)
        refine uv (Bc (v := .agg #[.int .i64 1, .slice none 0 0]) rfl (by intro w; kernel_rfl)) ?_
        refine Aa ?_
        exact dr cv dy gm my _ _ z7 pR
      · refine Bw _ af (AV ah ?_)
        refine Nq rfl (Jz FF (by decide) rfl du) ?_; intro b652 vu
        refine AJ rfl (Aa ?_)
        exact dt b652 vu cv dy gm my _ _ z7 ((fC fO).trans (pC ((fC fO).trans (pC pR))))
    have hS0_ : ∀ (e9 : Env) (L9 : LH), e9.sub [(202, .int .i64 k8), (203, .bool (decide (k8 < 33))), (204, .int .i64 k8), (20, .int .i64 k8), (205, .agg #[.int .i64 1, .slice none 0 0])] → L9.Perm ([]) → T 6 #[true, false, false, false, false, false, false] e9 ae L9 := by
      intro e9 L9 af ah
      refine hs [1, 3, 4] (by kernel_rfl) (by decide) (fc (⟨_, rfl, ?_⟩) (fc (⟨_, rfl, ?_⟩) (fc (⟨_, rfl, ?_⟩) nm)))
      · refine Bw _ af (AV ah ?_)
        refine Nq rfl (Jz FF (by decide) rfl du) ?_; intro b653 vw
        refine AJ rfl (Aa ?_)
        exact ij b653 vw _ _ z6 pR
      · refine Bw _ af (AV ah ?_)
        refine A6 rfl zeroValue25 ?_; intro b654 vx
        refine Aa ?_
        exact ik b654 vx _ _ z6 pR
      · refine Bw _ af (AV ah ?_)
        refine A6 rfl zeroValue25 ?_; intro b655 vy
        refine Aa ?_
        exact il b655 vy _ _ z6 pR
    have hS1_ : ∀ (ab : Nat) (_ : K.w0.heap.size ≤ ab) (e9 : Env) (L9 : LH), e9.sub [(202, .int .i64 k8), (203, .bool (decide (k8 < 33))), (204, .int .i64 k8), (20, .int .i64 k8), (206, .slice (some ⟨ab, 0, none⟩) (Int.toNat 24) (Int.toNat 24))] → L9.Perm ([(ab, ce (madeCells (.int .i64 0 : Value).cells ((Int.toNat 24) * 1)) 32)]) → T 6 #[false, true, false, false, false, false, false] e9 ae L9 := by
      intro ab ad e9 L9 af ah
      refine hs [0, 2, 3, 4] (by kernel_rfl) (by decide) (fc (⟨_, rfl, ?_⟩) (fc (⟨_, rfl, ?_⟩) (fc (⟨_, rfl, ?_⟩) (fc (⟨_, rfl, ?_⟩) nm))))
      · refine Bw _ af (AV ah ?_)
        refine uv (Bc (v := .agg #[.int .i64 1, .slice none 0 0]) rfl (by intro w; kernel_rfl)) ?_
        refine Aa ?_
        exact ij ab ad _ _ z6 pR
      · refine Bw _ af (AV ah ?_)
        refine uv (Bc (v := .agg #[.int .i64 6, .slice (some ⟨ab, 0, none⟩) (Int.toNat 24) (Int.toNat 24)]) rfl (by intro w; kernel_rfl)) ?_
        refine Aa ?_
        exact og ab ad _ _ z6 pR
      · refine Bw _ af (AV ah ?_)
        refine A6 rfl zeroValue25 ?_; intro b656 vz
        refine Aa ?_
        exact im ab ad b656 vz _ _ z6 pR
      · refine Bw _ af (AV ah ?_)
        refine A6 rfl zeroValue25 ?_; intro b657 w4
        refine Aa ?_
        exact iq ab ad b657 w4 _ _ z6 pR
    have hS3_ : ∀ (cv : Nat) (_ : K.w0.heap.size ≤ cv) (e9 : Env) (L9 : LH), e9.sub [(202, .int .i64 k8), (203, .bool (decide (k8 < 33))), (204, .int .i64 k8), (20, .int .i64 k8), (21, .pointer (some ⟨cv, 0, none⟩))] → L9.Perm ([(cv, ce #[.int .i64 0, .slice none 0 0] 25)]) → T 6 #[false, false, false, true, false, false, false] e9 ae L9 := by
      intro cv dy e9 L9 af ah
      refine hs [0, 1, 4] (by kernel_rfl) (by decide) (fc (⟨_, rfl, ?_⟩) (fc (⟨_, rfl, ?_⟩) (fc (⟨_, rfl, ?_⟩) nm)))
      · refine Bw _ af (AV ah ?_)
        refine uv (Bc (v := .agg #[.int .i64 1, .slice none 0 0]) rfl (by intro w; kernel_rfl)) ?_
        refine Aa ?_
        exact ik cv dy _ _ z6 pR
      · refine Bw _ af (AV ah ?_)
        refine Nq rfl (Jz FF (by decide) rfl du) ?_; intro b658 w7
        refine AJ rfl (Aa ?_)
        exact im b658 w7 cv dy _ _ z6 ((fC fO).trans (pC pR))
      · refine Bw _ af (AV ah ?_)
        refine A6 rfl zeroValue25 ?_; intro b659 w8
        refine Aa ?_
        exact iu cv dy b659 w8 _ _ z6 pR
    have hS4_ : ∀ (fh : Nat) (_ : K.w0.heap.size ≤ fh) (e9 : Env) (L9 : LH), e9.sub [(202, .int .i64 k8), (203, .bool (decide (k8 < 33))), (204, .int .i64 k8), (20, .int .i64 k8), (22, .pointer (some ⟨fh, 0, none⟩))] → L9.Perm ([(fh, ce #[.int .i64 0, .slice none 0 0] 25)]) → T 6 #[false, false, false, false, true, false, false] e9 ae L9 := by
      intro fh iv e9 L9 af ah
      refine hs [0, 1, 3] (by kernel_rfl) (by decide) (fc (⟨_, rfl, ?_⟩) (fc (⟨_, rfl, ?_⟩) (fc (⟨_, rfl, ?_⟩) nm)))
      · refine Bw _ af (AV ah ?_)
        refine uv (Bc (v := .agg #[.int .i64 1, .slice none 0 0]) rfl (by intro w; kernel_rfl)) ?_
        refine Aa ?_
        exact il fh iv _ _ z6 pR
      · refine Bw _ af (AV ah ?_)
        refine Nq rfl (Jz FF (by decide) rfl du) ?_; intro b660 w9
        refine AJ rfl (Aa ?_)
        exact iq b660 w9 fh iv _ _ z6 ((fC fO).trans (pC pR))
      · refine Bw _ af (AV ah ?_)
        refine A6 rfl zeroValue25 ?_; intro b661 wb
        refine Aa ?_
        exact iu b661 wb fh iv _ _ z6 ((fC fO).trans (pC pR))
    refine hs [0, 1, 3, 4] (by kernel_rfl) (by decide) (fc (⟨_, rfl, ?_⟩) (fc (⟨_, rfl, ?_⟩) (fc (⟨_, rfl, ?_⟩) (fc (⟨_, rfl, ?_⟩) nm))))
    ·refine uv (Bc (v := .agg #[.int .i64 1, .slice none 0 0]) rfl (by intro w; kernel_rfl)) ?_
     refine Aa ?_
     exact hS0_ _ _ z5 pR
    ·refine Nq rfl (Jz FF (by decide) rfl du) ?_; intro b662 wc
     refine AJ rfl (Aa ?_)
     exact hS1_ b662 wc _ _ z5 pR
    ·refine A6 rfl zeroValue25 ?_; intro b663 we
     refine Aa ?_
     exact hS3_ b663 we _ _ z5 pR
    refine A6 rfl zeroValue25 ?_; intro b664 wg
    refine Aa ?_
    exact hS4_ b664 wg _ _ z5 pR
   rintro e1 _ _ ⟨wh, rfl, rfl, wi⟩
   refine Az _ wi ?_
   rw [Gr] at wh
   refine Ak (uv (A1 rfl rfl (DD.DZ ia kt g487)) ?_)
   refine um (Aa ?_)
   exact le kr ⟨_, u7, wh, rfl, rfl, z1⟩
  obtain rfl := DD.zero ia kt
  rw [A2] at ko
  refine AR (Aj (Aj ?_))
  refine Ay ?_
  exact mi kr ⟨ko, rfl, rfl, (sn _)⟩
 rintro e1 _ _ ⟨wj, rfl, rfl, wo⟩
 refine Az _ wo ?_
 rw [EB] at wj
 refine AM ?_
 refine uv (Bc (v := .agg #[.int .i64 0, .slice none 0 0]) rfl (by intro w; kernel_rfl)) ?_
 refine uv (Bc (v := .agg #[.int .i64 0, .int .i64 0]) rfl (by intro w; kernel_rfl)) ?_
 obtain ⟨ok13, h669, wq⟩ := Aw wj
 refine cV call5 (Ek (AL.nil _ _ _) h669) (um ?_)
 rcases Bf ok13 with cz | cz
 ·have r672 := bt wq cz
  refine nB cz ?_
  refine bA (cs := #[.string (sB [115])]) NB [.string (sB [115])] ?_; intro b673 wu
  refine nB cz ?_
  refine B1 0 rfl wu ?_; intro F674 hF675 wx
  refine AJ rfl ?_
  have h677 : AL 1 sE F674 (some ⟨b673, 0, none⟩) 1 [[115]] := AL.BS Pn (vss := [[.string (sB [115])]]) (xs := [[115]]) wx (.cons rfl .nil) rfl (by simp [maxLen])
  obtain ⟨n5, l4, h678, r679⟩ := Bs r672
  refine c0 call4 (EC h677 h678) ?_; rintro _ F680 _ hF681 wy ⟨a684, n688, c685, mz, rfl, rfl, fy⟩
  replace fy := fy.new fun p hp => wy p (by simp [hp])
  refine AJ (lp (ln rfl)) (nB cz ?_)
  refine uv (Bc (v := .agg #[.int .i64 0, .int .i64 1]) rfl (by intro w; kernel_rfl)) ?_
  refine nB cz ?_
  obtain ⟨ok14, h690, wz⟩ := Aw r679
  refine Bi (Lt := mz ++ []) (Lr := []) rfl call9 rfl rfl rfl (pT pR (lp (ln rfl))) (fun F2 h2 h3 => by rw [(AN.Bm fy).1]; exact GK (fy.row (Ad _) h2 (fun p hp => h3 p (List.mem_append_left _ hp))) (AL.nil _ _ _) h690) ?_
  refine uv (Au (Es rfl cz) rfl) (um ?_)
  rcases Bf ok14 with da | da
  ·have r693 := bt wz da
   refine nB da ?_
   refine bA (cs := #[.string (sB [115])]) NB [.string (sB [115])] ?_; intro b694 xa
   refine nB da ?_
   refine B1 0 rfl xa ?_; intro F695 hF696 hz697
   refine AJ rfl ?_
   have h698 : AL 1 sE F695 (some ⟨b694, 0, none⟩) 1 [[115]] := AL.BS Pn (vss := [[.string (sB [115])]]) (xs := [[115]]) hz697 (.cons rfl .nil) rfl (by simp [maxLen])
   obtain ⟨n6, l5, h699, r700⟩ := Bs r693
   refine c0 call4 (EC h698 h699) ?_; rintro _ F701 _ hF702 hn703 ⟨a705, n709, c706, Lb707, rfl, rfl, ga⟩
   replace ga := ga.new fun p hp => hn703 p (by simp [hp])
   refine AJ (lp (ln rfl)) (nB da ?_)
   refine uv (Bc (v := .agg #[.int .i64 0, .int .i64 1]) rfl (by intro w; kernel_rfl)) ?_
   refine nB da ?_
   obtain ⟨ok15, h711, r712⟩ := Aw r700
   refine Bi (Lt := Lb707 ++ []) (Lr := mz ++ []) rfl call10 rfl rfl rfl (pT pR (lp (ln rfl))) (fun F2 h2 h3 => by rw [(AN.Bm ga).1]; exact Hl (ga.row (Ad _) h2 (fun p hp => h3 p (List.mem_append_left _ hp))) (AL.nil _ _ _) h711) ?_
   refine uv (Au (Es rfl da) rfl) (um ?_)
   rcases Bf ok15 with fi | fi
   ·have r714 := bt r712 fi
    refine nB fi ?_
    obtain ⟨ok16, h715, r716⟩ := Aw r714
    refine cV call13 (BR h715) (uv (Au (Es rfl fi) rfl) ?_)
    refine ua (Aa ?_)
    refine kW kn (Ap (B2 results3 ?_))
    obtain rfl := AH r716
    exact rfl
   have r717 := bf r712 fi
   refine fB fi (uv (At (Es rfl fi) rfl) ?_)
   refine ua (Aa ?_)
   refine kW kn (Ap (B2 results3 ?_))
   obtain rfl := AH r717
   exact rfl
  have r718 := bf wz da
  refine fB da (fB da (fB da (fB da ?_)))
  refine uv (At (Es rfl da) rfl) ?_
  refine um (Ai (b' := false) 288 rfl rfl rfl rfl ?_)
  refine uv (At rfl rfl) ?_
  refine ua (Aa ?_)
  refine kW kn (Ap (B2 results3 ?_))
  obtain rfl := AH r718
  exact rfl
 have r719 := bf wq cz
 refine fB cz (fB cz (fB cz (fB cz ?_)))
 refine uv (At (Es rfl cz) rfl) ?_
 refine um (Ai (b' := false) 282 rfl rfl rfl rfl (Ai (b' := false) 282 rfl rfl rfl rfl (Ai (b' := false) 282 rfl rfl rfl rfl (Ai (b' := false) 282 rfl rfl rfl rfl ?_))))
 refine uv (At rfl rfl) ?_
 refine um (Ai (b' := false) 288 rfl rfl rfl rfl ?_)
 refine uv (At rfl rfl) ?_
 refine ua (Aa (Ap ?_))
 refine B2 results3 ?_
 obtain rfl := AH r719
 exact rfl
end Go.Proofs.YtkfbbjiniapooaaGreat
