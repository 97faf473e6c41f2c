/- The walks that this claim needs, printed by a program of mine; part 5. -/
import Derived.Test.YtbeeigejcihadaaGreatZRNR4
namespace Go.Proofs.YtbeeigejcihadaaGreat
open Go.SH Go.PL
open Tryz 
set_option maxHeartbeats 8000000 in
theorem KJ {F : FS} {r : Bool} (hr : Eh = some r) :
    Bv Tryz.prog 3 #[] F (.bool r) := by
 refine sp func3 ntmps3 fun K _ _ => ?_
 rw [Eh] at hr
 refine AJ (ua (Aa ?_))
 obtain ⟨h1, r2⟩ := Ij hr
 refine jF ([]) [] ?_ fun F205 hF206 => ?_
 ·clear r2
  refine AJ ?_
  refine bA (cs := #[vI (-2), vI (-1), vI 0, vI 1, vI 2, vI 3, vI 5, vI 6, vI 9, vI 10, vI 12, vI 20, vI 21, vI 200, vI 201, vI 9223372036854775807, vI (-9223372036854775808)]) Bp [vI (-2), vI (-1), vI 0, vI 1, vI 2, vI 3, vI 5, vI 6, vI 9, vI 10, vI 12, vI 20, vI 21, vI 200, vI 201, vI 9223372036854775807, vI (-9223372036854775808)] ?_; intro b3 hb3
  refine uv (AQ underlying22 rfl) ?_
  refine um (Aa ?_)
  refine Ap ?_
  refine Bk 0 rfl hb3 ?_; intro F4 hF5 hz6
  refine CU (L' := []) rfl ?_
  have h7 : Ar 1 eI F4 (aD b3) 17 [-2, -1, 0, 1, 2, 3, 5, 6, 9, 10, 12, 20, 21, 200, 201, 9223372036854775807, -9223372036854775808] := Ar.oI hz6
  obtain ⟨g8, r9⟩ := AB h1
  refine Bb (fun fu1 e1 F1 L1 => ∃ (k : Int), CC 0 17 k fu1 ∧ Bc fu1 k = some () ∧ AN F4 F1 ∧ L1 = [] ∧ e1.sub [(26, sL (aD b3) [-2, -1, 0, 1, 2, 3, 5, 6, 9, 10, 12, 20, 21, 200, 201, 9223372036854775807, -9223372036854775808].length 17), (27, vI 17), (28, vI k)]) _ (m0 kr ⟨_, CC.start _ _, r9, AN.refl _, rfl, z3⟩) ?_
  rintro fu1 e1 F14 _ ⟨k, tc, r12, td, rfl, he13⟩
  refine Az _ he13 ?_
  replace h7 := h7.m1 td
  refine AJ (uv (AV rfl rfl) ?_)
  refine Aa (Aq ?_)
  refine cQ (fun c17 => ?_) fun c17 => ?_
  ·obtain ⟨fu1, rfl, hk18⟩ := CC.succ tc c17
   rw [Bc] at r12
   refine Ao ?_
   obtain ⟨h19, r20⟩ := Ij r12
   refine jF ([]) [(26, sL (aD b3) [-2, -1, 0, 1, 2, 3, 5, 6, 9, 10, 12, 20, 21, 200, 201, 9223372036854775807, -9223372036854775808].length 17), (27, vI 17), (28, vI k)] ?_ fun F202 uy => ?_
   ·clear r20
    refine Ap (AJ ?_)
    obtain ⟨x, g21, hx22, r23⟩ := Bi h19
    obtain ⟨b24, o25, c26, vs27, ha28, hs29, hle30, rfl, hl31, hc32⟩ := Ar.ta kI h7 g21.1 hx22
    refine uv (Cx underlying22 sizeOf3 ha28 g21) (uv (AG isAgg3 rfl (hs29 _) (hc32 0 (by decide))) ?_)
    refine ua (BL (um (Aa ?_)))
    refine Ap ?_
    obtain ⟨g33, r34⟩ := AB r23
    refine Bb (fun uz e1 F1 L1 => ∃ (k2 : Int), CC 0 16 k2 uz ∧ A7 x uz k2 = some () ∧ AN F14 F1 ∧ L1 = [] ∧ e1.sub [(2, vI x), (26, sL (aD b3) [-2, -1, 0, 1, 2, 3, 5, 6, 9, 10, 12, 20, 21, 200, 201, 9223372036854775807, -9223372036854775808].length 17), (27, vI 17), (28, vI k), (32, vI k2)]) _ (m0 kr ⟨_, CC.start _ _, r34, AN.refl _, rfl, z5⟩) ?_
    rintro uz e1 F39 _ ⟨k2, te, r37, va, rfl, he38⟩
    refine Az _ he38 (AJ (uv (AV rfl rfl) ?_))
    refine Aa (Aq ?_)
    refine cQ (fun c42 => ?_) fun c42 => ?_
    ·obtain ⟨uz, rfl, hk43⟩ := CC.succ te c42
     rw [A7] at r37
     refine Ao (Aq ?_)
     refine Ap ?_
     refine AJ (um (ua (BL ?_)))
     obtain ⟨y, y2, n, n2, y3, h44, r45⟩ := Fx r37
     refine c0 call4 (Fl h44) ?_; rintro _ _ _ hF47 er ⟨gp, nf, na, pg, fy, jl, je, ga, dd, dx, et, rfl, rfl, rfl⟩
     have hb50 := er _ mz
     have hb51 := er _ (my mz)
     have hb52 := er _ (my (my mz))
     have hb53 := er _ (my (my (my mz)))
     have hb54 := er _ (my (my (my (my mz))))
     have hb55 := er _ (my (my (my (my (my mz)))))
     have hb56 := er _ (my (my (my (my (my (my mz))))))
     have hb57 := er _ (my (my (my (my (my (my (my mz)))))))
     have hb58 := er _ (my (my (my (my (my (my (my (my mz))))))))
     have hb59 := er _ (my (my (my (my (my (my (my (my (my mz)))))))))
     have hb60 := er _ (my (my (my (my (my (my (my (my (my (my mz))))))))))
     refine Aw (lb (lb (lb (lb (lb (lb (lb (lb (lb (lb (lb (ln rfl)))))))))))) ?_
     refine uv (BI (v := .agg #[vI 0, vI 0]) rfl (by intro w; kernel_rfl)) ?_
     refine uv (BI (v := .agg #[vI 2, vI 0]) rfl (by intro w; kernel_rfl)) ?_
     refine uv (BI (v := .agg #[vI 2, vI 1]) rfl (by intro w; kernel_rfl)) ?_
     refine bA (cs := #[vI 0, vI 0, vI 2, vI 0, vI 2, vI 1]) Nj [.agg #[vI 0, vI 0], .agg #[vI 2, vI 0], .agg #[vI 2, vI 1]] ?_; intro g0 hb61
     refine uv (BI (v := .agg #[vI 0, vI 2]) rfl (by intro w; kernel_rfl)) ?_
     refine Bh rfl zeroValue26 ?_; intro gq hb62
     refine Bh rfl zeroValue32 ?_; intro gr hb63
     refine Bh rfl zeroValue3 ?_; intro jf hb64
     refine Bh rfl zeroValue3 ?_; intro jg hb65
     refine Bh rfl zeroValue3 ?_; intro jh hb66
     refine Bh rfl zeroValue3 ?_; intro ji hb67
     refine A8 (i := 5) sizeOf26 rfl rfl rfl (by simp [Value.oneCell']) rfl (B2 rfl) (Aw rfl (ua (A8 (i := 4) sizeOf32 rfl rfl rfl (by simp [Value.oneCell']) rfl (B2 rfl) (Aw rfl (By (i := 3) sizeOf3 rfl rfl rfl rfl (B2 rfl) (Aw rfl (By (i := 2) sizeOf3 rfl rfl rfl rfl (B2 rfl) ?_)))))))
     refine Aw rfl (By (i := 1) sizeOf3 rfl rfl rfl rfl (B2 rfl) (Aw rfl (By (i := 0) sizeOf3 rfl rfl rfl rfl (B2 rfl) (Aw rfl ?_))))
     refine Aa (Aq ?_)
     refine Bg [(.still, 0), (.still, 1), (.still, 2), (.still, 3), (.still, 4), (.still, 5), (.still, 6), (.still, 7), (.still, 8), (.still, 9), (.still, 10), (.still, 11), (.still, 12), (.still, 13), (.still, 14), (.still, 15), (.still, 16), (.still, 17), (.still, 18), (.still, 19), (.still, 20), (.still, 21), (.still, 22), (.still, 23), (.still, 24), (.still, 25), (.still, 26), (.still, 27), (.still, 28), (.still, 29), (.still, 30), (.still, 31), (.still, 32), (.still, 33), (.still, 34), (.still, 35), (.still, 36), (.still, 37), (.still, 38), (.seq, 39), (.still, 40)] (by kernel_rfl) (by kernel_rfl) (Oo (by kernel_rfl)) (by rfl) (by kernel_rfl) (mS [4] rfl (Ah CI rfl) (mK [41] isAgg23 5 rfl rfl rfl rfl (mS (v := pO gp) [42] rfl (Ee.eq (EM (i := 0) underlying23 sizeOf22 rfl rfl (by decide)) rfl) (mK [43] isAgg22 7 rfl rfl rfl rfl (mS (v := .pointer (some ⟨nf, 1, none⟩)) [44] rfl (Ee.eq (EM (i := 1) underlying22 sizeOf3 rfl rfl (by decide)) rfl) (mS [4] rfl (Ah CI rfl) (mK [46] isAgg23 5 rfl rfl rfl rfl ?_)))))))
     refine mS (v := .pointer (some ⟨gp, 1, none⟩)) [47] rfl (Ee.eq (EM (i := 1) underlying23 sizeOf22 rfl rfl (by decide)) rfl) (mK [48] isAgg22 7 rfl rfl rfl rfl (mS (v := .pointer (some ⟨na, 1, none⟩)) [49] rfl (Ee.eq (EM (i := 1) underlying22 sizeOf3 rfl rfl (by decide)) rfl) (mS [4] rfl (Ah Df rfl) (mK [51] isAgg23 5 rfl rfl rfl rfl (mS (v := .pointer (some ⟨fy, 2, none⟩)) [52] rfl (Ee.eq (EM (i := 2) underlying23 sizeOf22 rfl rfl (by decide)) rfl) (mK [53] isAgg22 11 rfl rfl rfl rfl (mS (v := .pointer (some ⟨ga, 1, none⟩)) [54] rfl (Ee.eq (EM (i := 1) underlying22 sizeOf3 rfl rfl (by decide)) rfl) ?_)))))))
     refine mS [4] rfl (Ah Ke rfl) (mS [4] rfl (Ah Jt rfl) (mS [4] rfl (Ah BF rfl) (mK [58] isAgg24 5 rfl rfl rfl rfl (mS (v := pO dd) [59] rfl (Ee.eq (EM (i := 0) underlying24 sizeOf35 rfl rfl (by decide)) rfl) (mS [60] rfl (Ah GX rfl) (mK [61] isAgg22 15 rfl rfl rfl rfl (mS (v := .pointer (some ⟨dx, 1, none⟩)) [62] rfl (Ee.eq (EM (i := 1) underlying22 sizeOf3 rfl rfl (by decide)) rfl) ?_)))))))
     refine mS [4] rfl (Ah BF rfl) (mK [64] isAgg24 5 rfl rfl rfl rfl (mS (v := pO dd) [65] rfl (Ee.eq (EM (i := 0) underlying24 sizeOf35 rfl rfl (by decide)) rfl) (mS [66] rfl (Ah KO rfl) (mS [4] rfl (Ah BF rfl) (mK [68] isAgg24 5 rfl rfl rfl rfl (mS (v := .pointer (some ⟨dd, 3, none⟩)) [69] rfl (Ee.eq (EM (i := 1) underlying24 sizeOf35 rfl rfl (by decide)) rfl) (mS [70] rfl (Ah Ic rfl) ?_)))))))
     refine mS [5] rfl (AO rfl) (mS (v := .pointer (some ⟨g0, 2, none⟩)) [72] rfl (Ee.eq (EM (i := 1) underlying30 sizeOf29 rfl rfl (by decide)) rfl) (mS [73] rfl (Ah J6 rfl) (mS [5] rfl (AO rfl) (mS (v := .pointer (some ⟨g0, 4, none⟩)) [75] rfl (Ee.eq (EM (i := 2) underlying30 sizeOf29 rfl rfl (by decide)) rfl) (mS [76] rfl (Ah KW rfl) (mS [6] rfl (Ah LG rfl) (mS [6] rfl (Ah OD rfl) ?_)))))))
     refine ⟨_, [(7, pO jf), (8, pO jg), (9, pO jh), (10, pO ji), (45, .pointer (some ⟨nf, 1, none⟩)), (50, .pointer (some ⟨na, 1, none⟩)), (55, .pointer (some ⟨ga, 1, none⟩)), (56, .pointer (some ⟨gq, 2, none⟩)), (57, .pointer (some ⟨gq, 3, none⟩)), (63, .pointer (some ⟨dx, 1, none⟩)), (67, .pointer (some ⟨dd, 1, none⟩)), (71, .pointer (some ⟨dd, 5, none⟩)), (74, .pointer (some ⟨g0, 2, none⟩)), (77, .pointer (some ⟨g0, 5, none⟩)), (78, pO gr), (79, .pointer (some ⟨gr, 1, none⟩))], rfl, rfl, (sc rfl (sc rfl (sc rfl (sc rfl (sc rfl (sc rfl (sc rfl (sc rfl z8)))))))), by kernel_rfl, ?_⟩; intro H
     refine bA (cs := #[.pointer (some ⟨nf, 1, none⟩), .pointer (some ⟨na, 1, none⟩), .pointer (some ⟨ga, 1, none⟩), .pointer (some ⟨gq, 2, none⟩), .pointer (some ⟨gq, 3, none⟩), .pointer (some ⟨dx, 1, none⟩), .pointer (some ⟨dd, 1, none⟩), .pointer (some ⟨dd, 5, none⟩), .pointer (some ⟨g0, 2, none⟩), .pointer (some ⟨g0, 5, none⟩), pO gr, .pointer (some ⟨gr, 1, none⟩), pO jf, pO jg, pO jh, pO ji]) RM [.pointer (some ⟨nf, 1, none⟩), .pointer (some ⟨na, 1, none⟩), .pointer (some ⟨ga, 1, none⟩), .pointer (some ⟨gq, 2, none⟩), .pointer (some ⟨gq, 3, none⟩), .pointer (some ⟨dx, 1, none⟩), .pointer (some ⟨dd, 1, none⟩), .pointer (some ⟨dd, 5, none⟩), .pointer (some ⟨g0, 2, none⟩), .pointer (some ⟨g0, 5, none⟩), pO gr, .pointer (some ⟨gr, 1, none⟩), pO jf, pO jg, pO jh, pO ji] ?_; intro b68 hb68
     refine Aa ⟨_, rfl, AN.refl _, [17], by kernel_rfl, .inl (.inr (fun d h => by cases h; rfl)), (fc sm nm), ?_⟩
     refine mS [80] rfl (BB rfl) (Bo ?_)
     refine AU (fun e1 F1 L1 => ∃ (jj : Int) (bz : Int) (cb : Int) (ao : Int) (bc : Int) (cc : Int) (cf : Int) (jk : Int) (gw : Int) (bw : Int) (ah : Int) (ai : Int) (AW : Int) (hour : Int) (minute : Int) (to : Int), Bd k2 (A7 x uz) jj bz cb ao bc cc cf jk gw bw ah ai AW hour minute to = some () ∧ F39 = F1 ∧ L1 = [(ji, ce #[vI to] 3), (jh, ce #[vI minute] 3), (jg, ce #[vI hour] 3), (jf, ce #[vI AW] 3), (gr, ce #[vI ah, vI ai] 32), (gq, ce #[sL (aD gp) 3 3, sL (aD fy) 3 3, vI ao, vI bc, sL (aD dd) 2 2] 26), (g0, ce #[vI 0, vI 0, vI gw, vI 0, vI 2, vI bw] 29), (gp, ce #[sL (aD nf) 3 3, sL (aD na) 3 3, sL (aD pg) 3 3] 22), (nf, ce #[vI 0, vI jj, vI (-1)] 3), (na, ce #[vI 2, vI bz, vI 2] 3), (pg, ce #[vI (-1), vI 2, vI 0] 3), (fy, ce #[sL (aD jl) 1 1, sL (aD je) 1 1, sL (aD ga) 2 2] 22), (jl, ce #[vI 0] 3), (je, ce #[vI 1] 3), (ga, ce #[vI 1, vI cb] 3), (dd, ce #[sL (aD dx) 2 2, vI cf, vI 12, sL (aD et) 1 1, vI 1, vI jk] 35), (dx, ce #[vI 0, vI cc] 3), (et, ce #[vI 1] 3)] ∧ e1.sub [(2, vI x), (3, vI k2), (4, pO gq), (5, sL (aD g0) 3 3), (6, pO gr), (7, pO jf), (8, pO jg), (9, pO jh), (10, pO ji), (26, sL (aD b3) [-2, -1, 0, 1, 2, 3, 5, 6, 9, 10, 12, 20, 21, 200, 201, 9223372036854775807, -9223372036854775808].length 17), (27, vI 17), (28, vI k), (32, vI k2)]) ?_ ?_
     ·refine An (um (um ?_))
      by_cases c69 : k2 = 0
      ·have r70 := A5 r45 c69
       refine uv (Ee.eq (v' := pO b68) (EM (i := k2) underlying36 sizeOf33 rfl rfl (by have := c69; omega)) (by rw [c69]; rfl)) ?_
       refine uv (BM isAgg33 0) (um (uv (A9 rfl) (By (i := 9) sizeOf3 rfl rfl rfl rfl (B2 rfl) (Aw rfl (Aa ?_)))))
       exact mi (kd kr) ⟨x, 0, 2, n, n2, 2, 3, 20, 2, 1, 0, 2, 1, 7, 9, 2, r70, rfl, rfl, (sc rfl (sc rfl (sc rfl (sc rfl (sc rfl z8)))))⟩
      have r71 := A4 r45 c69
      by_cases c72 : k2 = 1
      ·have r73 := A5 r71 c72
       refine uv (Px c72 underlying36 sizeOf33) (uv (BM isAgg33 0) (um (uv (A9 rfl) (By (i := 10) sizeOf3 rfl rfl rfl rfl (B2 rfl) (Aw rfl (Aa ?_))))))
       exact mi (kd kr) ⟨2, x, 2, n, n2, 2, 3, 20, 2, 1, 0, 2, 1, 7, 9, 2, r73, rfl, rfl, (sc rfl (sc rfl (sc rfl (sc rfl (sc rfl z8)))))⟩
      have r74 := A4 r71 c72
      by_cases c75 : k2 = 2
      ·have r76 := A5 r74 c75
       refine uv (Px c75 underlying36 sizeOf33) (uv (BM isAgg33 0) (um (uv (A9 rfl) (By (i := 15) sizeOf3 rfl rfl rfl rfl (B2 rfl) (Aw rfl (Aa ?_))))))
       exact mi (kd kr) ⟨2, 0, x, n, n2, 2, 3, 20, 2, 1, 0, 2, 1, 7, 9, 2, r76, rfl, rfl, (sc rfl (sc rfl (sc rfl (sc rfl (sc rfl z8)))))⟩
      have r77 := A4 r74 c75
      by_cases c78 : k2 = 3
      ·have r79 := A5 r77 c78
       refine uv (Px c78 underlying36 sizeOf33) (uv (BM isAgg33 0) (um (uv (A9 rfl) (By (i := 6) sizeOf3 rfl rfl rfl rfl (B2 rfl) (Aw rfl (Aa ?_))))))
       exact mi (kd kr) ⟨2, 0, 2, x, n2, 2, 3, 20, 2, 1, 0, 2, 1, 7, 9, 2, r79, rfl, rfl, (sc rfl (sc rfl (sc rfl (sc rfl (sc rfl z8)))))⟩
      have r80 := A4 r77 c78
      by_cases c81 : k2 = 4
      ·have r82 := A5 r80 c81
       refine uv (Px c81 underlying36 sizeOf33) (uv (BM isAgg33 0) (um (uv (A9 rfl) (By (i := 6) sizeOf3 rfl rfl rfl rfl (B2 rfl) (Aw rfl (Aa ?_))))))
       exact mi (kd kr) ⟨2, 0, 2, n, x, 2, 3, 20, 2, 1, 0, 2, 1, 7, 9, 2, r82, rfl, rfl, (sc rfl (sc rfl (sc rfl (sc rfl (sc rfl z8)))))⟩
      have r83 := A4 r80 c81
      by_cases c84 : k2 = 5
      ·have r85 := A5 r83 c84
       refine uv (Px c84 underlying36 sizeOf33) (uv (BM isAgg33 0) (um (uv (A9 rfl) (By (i := 17) sizeOf3 rfl rfl rfl rfl (B2 rfl) (Aw rfl (Aa ?_))))))
       exact mi (kd kr) ⟨2, 0, 2, n, n2, x, 3, 20, 2, 1, 0, 2, 1, 7, 9, 2, r85, rfl, rfl, (sc rfl (sc rfl (sc rfl (sc rfl (sc rfl z8)))))⟩
      have r86 := A4 r83 c84
      by_cases c87 : k2 = 6
      ·have r88 := A5 r86 c87
       refine uv (Px c87 underlying36 sizeOf33) (uv (BM isAgg33 0) (um (uv (A9 rfl) (By (i := 16) sizeOf3 rfl rfl rfl rfl (B2 rfl) (Aw rfl (Aa ?_))))))
       exact mi (kd kr) ⟨2, 0, 2, n, n2, 2, x, 20, 2, 1, 0, 2, 1, 7, 9, 2, r88, rfl, rfl, (sc rfl (sc rfl (sc rfl (sc rfl (sc rfl z8)))))⟩
      have r89 := A4 r86 c87
      by_cases c90 : k2 = 7
      ·have r91 := A5 r89 c90
       refine uv (Px c90 underlying36 sizeOf33) (uv (BM isAgg33 0) (um (uv (A9 rfl) (By (i := 16) sizeOf3 rfl rfl rfl rfl (B2 rfl) (Aw rfl (Aa ?_))))))
       exact mi (kd kr) ⟨2, 0, 2, n, n2, 2, 3, x, 2, 1, 0, 2, 1, 7, 9, 2, r91, rfl, rfl, (sc rfl (sc rfl (sc rfl (sc rfl (sc rfl z8)))))⟩
      have r92 := A4 r89 c90
      by_cases c93 : k2 = 8
      ·have r94 := A5 r92 c93
       refine uv (Px c93 underlying36 sizeOf33) (uv (BM isAgg33 0) (um (uv (A9 rfl) (By (i := 7) sizeOf3 rfl rfl rfl rfl (B2 rfl) (Aw rfl (Aa ?_))))))
       exact mi (kd kr) ⟨2, 0, 2, n, n2, 2, 3, 20, x, 1, 0, 2, 1, 7, 9, 2, r94, rfl, rfl, (sc rfl (sc rfl (sc rfl (sc rfl (sc rfl z8)))))⟩
      have r95 := A4 r92 c93
      by_cases c96 : k2 = 9
      ·have r97 := A5 r95 c96
       refine uv (Px c96 underlying36 sizeOf33) (uv (BM isAgg33 0) (um (uv (A9 rfl) (By (i := 7) sizeOf3 rfl rfl rfl rfl (B2 rfl) (Aw rfl (Aa ?_))))))
       exact mi (kd kr) ⟨2, 0, 2, n, n2, 2, 3, 20, 2, x, 0, 2, 1, 7, 9, 2, r97, rfl, rfl, (sc rfl (sc rfl (sc rfl (sc rfl (sc rfl z8)))))⟩
      have r98 := A4 r95 c96
      by_cases c99 : k2 = 10
      ·have r100 := A5 r98 c99
       refine uv (Px c99 underlying36 sizeOf33) (uv (BM isAgg33 0) (um (uv (A9 rfl) (By (i := 5) sizeOf3 rfl rfl rfl rfl (B2 rfl) (Aw rfl (Aa ?_))))))
       exact mi (kd kr) ⟨2, 0, 2, n, n2, 2, 3, 20, 2, 1, x, 2, 1, 7, 9, 2, r100, rfl, rfl, (sc rfl (sc rfl (sc rfl (sc rfl (sc rfl z8)))))⟩
      have vb := A4 r98 c99
      by_cases tf : k2 = 11
      ·have r103 := A5 vb tf
       refine uv (Px tf underlying36 sizeOf33) (uv (BM isAgg33 0) (um (uv (A9 rfl) (By (i := 5) sizeOf3 rfl rfl rfl rfl (B2 rfl) (Aw rfl (Aa ?_))))))
       exact mi (kd kr) ⟨2, 0, 2, n, n2, 2, 3, 20, 2, 1, 0, x, 1, 7, 9, 2, r103, rfl, rfl, (sc rfl (sc rfl (sc rfl (sc rfl (sc rfl z8)))))⟩
      have vc := A4 vb tf
      by_cases tg : k2 = 12
      ·have r106 := A5 vc tg
       refine uv (Px tg underlying36 sizeOf33) (uv (BM isAgg33 0) (um (uv (A9 rfl) (By (i := 4) sizeOf3 rfl rfl rfl rfl (B2 rfl) (Aw rfl (Aa ?_))))))
       exact mi (kd kr) ⟨2, 0, 2, n, n2, 2, 3, 20, 2, 1, 0, 2, x, 7, 9, 2, r106, rfl, rfl, (sc rfl (sc rfl (sc rfl (sc rfl (sc rfl z8)))))⟩
      have vd := A4 vc tg
      by_cases th : k2 = 13
      ·have r109 := A5 vd th
       refine uv (Px th underlying36 sizeOf33) (uv (BM isAgg33 0) (um (uv (A9 rfl) (By (i := 3) sizeOf3 rfl rfl rfl rfl (B2 rfl) (Aw rfl (Aa ?_))))))
       exact mi (kd kr) ⟨2, 0, 2, n, n2, 2, 3, 20, 2, 1, 0, 2, 1, x, 9, 2, r109, rfl, rfl, (sc rfl (sc rfl (sc rfl (sc rfl (sc rfl z8)))))⟩
      have ve := A4 vd th
      by_cases ti : k2 = 14
      ·have r112 := A5 ve ti
       refine uv (Px ti underlying36 sizeOf33) (uv (BM isAgg33 0) (um (uv (A9 rfl) (By (i := 2) sizeOf3 rfl rfl rfl rfl (B2 rfl) (Aw rfl (Aa ?_))))))
       exact mi (kd kr) ⟨2, 0, 2, n, n2, 2, 3, 20, 2, 1, 0, 2, 1, 7, x, 2, r112, rfl, rfl, (sc rfl (sc rfl (sc rfl (sc rfl (sc rfl z8)))))⟩
      have r113 := A4 ve ti
      obtain ⟨g114, r115⟩ := AB r113
      refine uv (Px g114 underlying36 sizeOf33) (uv (BM isAgg33 0) (um (uv (A9 rfl) (By (i := 1) sizeOf3 rfl rfl rfl rfl (B2 rfl) (Aw rfl (Aa ?_))))))
      exact mi (kd kr) ⟨2, 0, 2, n, n2, 2, 3, 20, 2, 1, 0, 2, 1, 7, 9, x, r115, rfl, rfl, (sc rfl (sc rfl (sc rfl (sc rfl (sc rfl z8)))))⟩
     rintro e1 _ _ ⟨jj, bz, cb, ao, bc, cc, cf, jk, gw, bw, ah, ai, AW, hour, minute, to, vf, rfl, rfl, vg⟩
     refine Az _ vg ?_
     rw [Bd] at vf
     obtain ⟨k3, h118, vh⟩ := Av vf
     refine jF ([]) [(2, vI x), (26, sL (aD b3) [-2, -1, 0, 1, 2, 3, 5, 6, 9, 10, 12, 20, 21, 200, 201, 9223372036854775807, -9223372036854775808].length 17), (27, vI 17), (28, vI k), (32, vI k2), (133, .bool k3)] ?_ fun F195 vi => ?_
     ·clear vh
      refine Bk 8 rfl hb51 ?_; intro F120 rp vj
      refine CU (L' := [(ji, ce #[vI to] 3), (jh, ce #[vI minute] 3), (jg, ce #[vI hour] 3), (jf, ce #[vI AW] 3), (gr, ce #[vI ah, vI ai] 32), (gq, ce #[sL (aD gp) 3 3, sL (aD fy) 3 3, vI ao, vI bc, sL (aD dd) 2 2] 26), (g0, ce #[vI 0, vI 0, vI gw, vI 0, vI 2, vI bw] 29), (gp, ce #[sL (aD nf) 3 3, sL (aD na) 3 3, sL (aD pg) 3 3] 22), (na, ce #[vI 2, vI bz, vI 2] 3), (pg, ce #[vI (-1), vI 2, vI 0] 3), (fy, ce #[sL (aD jl) 1 1, sL (aD je) 1 1, sL (aD ga) 2 2] 22), (jl, ce #[vI 0] 3), (je, ce #[vI 1] 3), (ga, ce #[vI 1, vI cb] 3), (dd, ce #[sL (aD dx) 2 2, vI cf, vI 12, sL (aD et) 1 1, vI 1, vI jk] 35), (dx, ce #[vI 0, vI cc] 3), (et, ce #[vI 1] 3)]) rfl ?_
      have jm : Ar 1 eI F120 (aD nf) 3 [0, jj, -1] := Ar.oI vj
      refine Bk 8 rfl hb52 ?_; intro F124 ng vk
      refine CU (L' := [(ji, ce #[vI to] 3), (jh, ce #[vI minute] 3), (jg, ce #[vI hour] 3), (jf, ce #[vI AW] 3), (gr, ce #[vI ah, vI ai] 32), (gq, ce #[sL (aD gp) 3 3, sL (aD fy) 3 3, vI ao, vI bc, sL (aD dd) 2 2] 26), (g0, ce #[vI 0, vI 0, vI gw, vI 0, vI 2, vI bw] 29), (gp, ce (#[sL (aD nf) [0, jj, -1].length 3, sL (aD na) 3 3, sL (aD pg) 3 3]) 22), (pg, ce #[vI (-1), vI 2, vI 0] 3), (fy, ce #[sL (aD jl) 1 1, sL (aD je) 1 1, sL (aD ga) 2 2] 22), (jl, ce #[vI 0] 3), (je, ce #[vI 1] 3), (ga, ce #[vI 1, vI cb] 3), (dd, ce #[sL (aD dx) 2 2, vI cf, vI 12, sL (aD et) 1 1, vI 1, vI jk] 35), (dx, ce #[vI 0, vI cc] 3), (et, ce #[vI 1] 3)]) rfl ?_
      replace jm := jm.m1 ng
      have nh : Ar 1 eI F124 (aD na) 3 [2, bz, 2] := Ar.oI vk
      refine Bk 8 rfl hb53 ?_; intro F128 kt vl
      refine CU (L' := [(ji, ce #[vI to] 3), (jh, ce #[vI minute] 3), (jg, ce #[vI hour] 3), (jf, ce #[vI AW] 3), (gr, ce #[vI ah, vI ai] 32), (gq, ce #[sL (aD gp) 3 3, sL (aD fy) 3 3, vI ao, vI bc, sL (aD dd) 2 2] 26), (g0, ce #[vI 0, vI 0, vI gw, vI 0, vI 2, vI bw] 29), (gp, ce (#[sL (aD nf) [0, jj, -1].length 3, sL (aD na) [2, bz, 2].length 3, sL (aD pg) 3 3]) 22), (fy, ce #[sL (aD jl) 1 1, sL (aD je) 1 1, sL (aD ga) 2 2] 22), (jl, ce #[vI 0] 3), (je, ce #[vI 1] 3), (ga, ce #[vI 1, vI cb] 3), (dd, ce #[sL (aD dx) 2 2, vI cf, vI 12, sL (aD et) 1 1, vI 1, vI jk] 35), (dx, ce #[vI 0, vI cc] 3), (et, ce #[vI 1] 3)]) rfl ?_
      replace jm := jm.m1 kt
      replace nh := nh.m1 kt
      have tj : Ar 1 eI F128 (aD pg) 3 [-1, 2, 0] := Ar.oI vl
      refine Bk 7 rfl hb50 ?_; intro F132 gz vm
      refine CU (L' := [(ji, ce #[vI to] 3), (jh, ce #[vI minute] 3), (jg, ce #[vI hour] 3), (jf, ce #[vI AW] 3), (gr, ce #[vI ah, vI ai] 32), (gq, ce #[sL (aD gp) 3 3, sL (aD fy) 3 3, vI ao, vI bc, sL (aD dd) 2 2] 26), (g0, ce #[vI 0, vI 0, vI gw, vI 0, vI 2, vI bw] 29), (fy, ce #[sL (aD jl) 1 1, sL (aD je) 1 1, sL (aD ga) 2 2] 22), (jl, ce #[vI 0] 3), (je, ce #[vI 1] 3), (ga, ce #[vI 1, vI cb] 3), (dd, ce #[sL (aD dx) 2 2, vI cf, vI 12, sL (aD et) 1 1, vI 1, vI jk] 35), (dx, ce #[vI 0, vI cc] 3), (et, ce #[vI 1] 3)]) rfl ?_
      replace jm := jm.m1 gz
      replace nh := nh.m1 gz
      replace tj := tj.m1 gz
      have cj : Ar 1 eJ F132 (aD gp) 3 [[0, jj, -1], [2, bz, 2], [-1, 2, 0]] := Ar.BD kJ (vss := [[sL (aD nf) [0, jj, -1].length 3], [sL (aD na) [2, bz, 2].length 3], [sL (aD pg) [-1, 2, 0].length 3]]) (xs := [[0, jj, -1], [2, bz, 2], [-1, 2, 0]]) vm (.cons ⟨_, _, rfl, jm⟩ (.cons ⟨_, _, rfl, nh⟩ (.cons ⟨_, _, rfl, tj⟩ .nil))) rfl (by simp [maxLen])
      refine Bk 8 rfl hb55 ?_; intro F136 ni vn
      refine CU (L' := [(ji, ce #[vI to] 3), (jh, ce #[vI minute] 3), (jg, ce #[vI hour] 3), (jf, ce #[vI AW] 3), (gr, ce #[vI ah, vI ai] 32), (gq, ce (#[sL (aD gp) [[0, jj, -1], [2, bz, 2], [-1, 2, 0]].length 3, sL (aD fy) 3 3, vI ao, vI bc, sL (aD dd) 2 2]) 26), (g0, ce #[vI 0, vI 0, vI gw, vI 0, vI 2, vI bw] 29), (fy, ce #[sL (aD jl) 1 1, sL (aD je) 1 1, sL (aD ga) 2 2] 22), (je, ce #[vI 1] 3), (ga, ce #[vI 1, vI cb] 3), (dd, ce #[sL (aD dx) 2 2, vI cf, vI 12, sL (aD et) 1 1, vI 1, vI jk] 35), (dx, ce #[vI 0, vI cc] 3), (et, ce #[vI 1] 3)]) rfl ?_
      replace cj := cj.m2 ni
      have jn : Ar 1 eI F136 (aD jl) 1 [0] := Ar.oI vn
      refine Bk 8 rfl hb56 ?_; intro F140 ku vo
      refine CU (L' := [(ji, ce #[vI to] 3), (jh, ce #[vI minute] 3), (jg, ce #[vI hour] 3), (jf, ce #[vI AW] 3), (gr, ce #[vI ah, vI ai] 32), (gq, ce (#[sL (aD gp) [[0, jj, -1], [2, bz, 2], [-1, 2, 0]].length 3, sL (aD fy) 3 3, vI ao, vI bc, sL (aD dd) 2 2]) 26), (g0, ce #[vI 0, vI 0, vI gw, vI 0, vI 2, vI bw] 29), (fy, ce (#[sL (aD jl) [0].length 1, sL (aD je) 1 1, sL (aD ga) 2 2]) 22), (ga, ce #[vI 1, vI cb] 3), (dd, ce #[sL (aD dx) 2 2, vI cf, vI 12, sL (aD et) 1 1, vI 1, vI jk] 35), (dx, ce #[vI 0, vI cc] 3), (et, ce #[vI 1] 3)]) rfl ?_
      replace cj := cj.m2 ku
      replace jn := jn.m1 ku
      have nj : Ar 1 eI F140 (aD je) 1 [1] := Ar.oI vo
      refine Bk 8 rfl hb57 ?_; intro F144 ia vp
      refine CU (L' := [(ji, ce #[vI to] 3), (jh, ce #[vI minute] 3), (jg, ce #[vI hour] 3), (jf, ce #[vI AW] 3), (gr, ce #[vI ah, vI ai] 32), (gq, ce (#[sL (aD gp) [[0, jj, -1], [2, bz, 2], [-1, 2, 0]].length 3, sL (aD fy) 3 3, vI ao, vI bc, sL (aD dd) 2 2]) 26), (g0, ce #[vI 0, vI 0, vI gw, vI 0, vI 2, vI bw] 29), (fy, ce (#[sL (aD jl) [0].length 1, sL (aD je) [1].length 1, sL (aD ga) 2 2]) 22), (dd, ce #[sL (aD dx) 2 2, vI cf, vI 12, sL (aD et) 1 1, vI 1, vI jk] 35), (dx, ce #[vI 0, vI cc] 3), (et, ce #[vI 1] 3)]) rfl ?_
      replace cj := cj.m2 ia
      replace jn := jn.m1 ia
      replace nj := nj.m1 ia
      have tk : Ar 1 eI F144 (aD ga) 2 [1, cb] := Ar.oI vp
      refine Bk 7 rfl hb54 ?_; intro F148 gb vq
      refine CU (L' := [(ji, ce #[vI to] 3), (jh, ce #[vI minute] 3), (jg, ce #[vI hour] 3), (jf, ce #[vI AW] 3), (gr, ce #[vI ah, vI ai] 32), (gq, ce (#[sL (aD gp) [[0, jj, -1], [2, bz, 2], [-1, 2, 0]].length 3, sL (aD fy) 3 3, vI ao, vI bc, sL (aD dd) 2 2]) 26), (g0, ce #[vI 0, vI 0, vI gw, vI 0, vI 2, vI bw] 29), (dd, ce #[sL (aD dx) 2 2, vI cf, vI 12, sL (aD et) 1 1, vI 1, vI jk] 35), (dx, ce #[vI 0, vI cc] 3), (et, ce #[vI 1] 3)]) rfl ?_
      replace cj := cj.m2 gb
      replace jn := jn.m1 gb
      replace nj := nj.m1 gb
      replace tk := tk.m1 gb
      have du : Ar 1 eJ F148 (aD fy) 3 [[0], [1], [1, cb]] := Ar.BD kJ (vss := [[sL (aD jl) [0].length 1], [sL (aD je) [1].length 1], [sL (aD ga) [1, cb].length 2]]) (xs := [[0], [1], [1, cb]]) vq (.cons ⟨_, _, rfl, jn⟩ (.cons ⟨_, _, rfl, nj⟩ (.cons ⟨_, _, rfl, tk⟩ .nil))) rfl (by simp [maxLen])
      refine Bk 8 rfl hb59 ?_; intro F152 kv vr
      refine CU (L' := [(ji, ce #[vI to] 3), (jh, ce #[vI minute] 3), (jg, ce #[vI hour] 3), (jf, ce #[vI AW] 3), (gr, ce #[vI ah, vI ai] 32), (gq, ce (#[sL (aD gp) [[0, jj, -1], [2, bz, 2], [-1, 2, 0]].length 3, sL (aD fy) [[0], [1], [1, cb]].length 3, vI ao, vI bc, sL (aD dd) 2 2]) 26), (g0, ce #[vI 0, vI 0, vI gw, vI 0, vI 2, vI bw] 29), (dd, ce #[sL (aD dx) 2 2, vI cf, vI 12, sL (aD et) 1 1, vI 1, vI jk] 35), (et, ce #[vI 1] 3)]) rfl ?_
      replace cj := cj.m2 kv
      replace du := du.m2 kv
      have nk : Ar 1 eI F152 (aD dx) 2 [0, cc] := Ar.oI vr
      refine Bk 8 rfl hb60 ?_; intro F156 ib vt
      refine CU (L' := [(ji, ce #[vI to] 3), (jh, ce #[vI minute] 3), (jg, ce #[vI hour] 3), (jf, ce #[vI AW] 3), (gr, ce #[vI ah, vI ai] 32), (gq, ce (#[sL (aD gp) [[0, jj, -1], [2, bz, 2], [-1, 2, 0]].length 3, sL (aD fy) [[0], [1], [1, cb]].length 3, vI ao, vI bc, sL (aD dd) 2 2]) 26), (g0, ce #[vI 0, vI 0, vI gw, vI 0, vI 2, vI bw] 29), (dd, ce (#[sL (aD dx) [0, cc].length 2, vI cf, vI 12, sL (aD et) 1 1, vI 1, vI jk]) 35)]) rfl ?_
      replace cj := cj.m2 ib
      replace du := du.m2 ib
      replace nk := nk.m1 ib
      have tm : Ar 1 eI F156 (aD et) 1 [1] := Ar.oI vt
      refine Bk 7 rfl hb58 ?_; intro F160 gg vu
      refine CU (L' := [(ji, ce #[vI to] 3), (jh, ce #[vI minute] 3), (jg, ce #[vI hour] 3), (jf, ce #[vI AW] 3), (gr, ce #[vI ah, vI ai] 32), (gq, ce (#[sL (aD gp) [[0, jj, -1], [2, bz, 2], [-1, 2, 0]].length 3, sL (aD fy) [[0], [1], [1, cb]].length 3, vI ao, vI bc, sL (aD dd) 2 2]) 26), (g0, ce #[vI 0, vI 0, vI gw, vI 0, vI 2, vI bw] 29)]) rfl ?_
      replace cj := cj.m2 gg
      replace du := du.m2 gg
      replace nk := nk.m1 gg
      replace tm := tm.m1 gg
      have jo : Ar 3 eN F160 (aD dd) 2 [([0, cc], cf, 12), ([1], 1, jk)] := Ar.BD kN (vss := [[sL (aD dx) [0, cc].length 2, vI cf, vI 12], [sL (aD et) [1].length 1, vI 1, vI jk]]) (xs := [([0, cc], cf, 12), ([1], 1, jk)]) vu (.cons ⟨_, _, rfl, ⟨_, _, rfl, nk⟩, ⟨_, _, rfl, rfl, rfl⟩⟩ (.cons ⟨_, _, rfl, ⟨_, _, rfl, tm⟩, ⟨_, _, rfl, rfl, rfl⟩⟩ .nil)) rfl (by simp [maxLen])
      refine An (uv (CA isAgg26 sizeOf26 5) (uv (BM isAgg3 3) (uv (BM isAgg3 2) ?_)))
      obtain ⟨ok, h164, r165⟩ := Av h118
      refine cV call5 (CV cj du jo h164) (uv (Bz rfl) (um ?_))
      obtain ⟨nn, r167⟩ := AB r165
      refine nB nn (uv (CA isAgg26 sizeOf26 5) (nB nn (uv (BM isAgg3 0) (nB nn ?_))))
      obtain ⟨ok2, h168, r169⟩ := Av r167
      refine cV call6 (Gq cj du jo h168) (nB nn (uv (Bz rfl) (uv (AD (Gl rfl nn) rfl) (um ?_))))
      obtain ⟨np, r171⟩ := AB r169
      refine nB np (uv (CA isAgg26 sizeOf26 5) ?_)
      refine nB np (um (nB np ?_))
      obtain ⟨ok3, h172, r173⟩ := Av r171
      refine cT call7 (pT ((fC (fC (fC (fC (fC (fC fO)))))).trans (pC pR)) (lb (ln rfl))) (fun F2 h2 h3 => by exact GQ (cj.mono kJ h2) (du.mono kJ h2) (jo.mono kN h2) (Ar.BD kP (vss := [[vI 0, vI 0], [vI gw, vI 0], [vI 2, vI bw]]) (xs := ([(0, 0), (gw, 0), (2, bw)] : List (Int × Int))) (h3 (g0, ce #[vI 0, vI 0, vI gw, vI 0, vI 2, vI bw] 29) mz) (.cons ⟨_, _, rfl, rfl, rfl⟩ (.cons ⟨_, _, rfl, rfl, rfl⟩ (.cons ⟨_, _, rfl, rfl, rfl⟩ .nil))) rfl (by simp [maxLen])) h172) (nB np (uv (Bz rfl) (uv (AD (Gl rfl np) rfl) (um ?_))))
      obtain ⟨nq, r175⟩ := AB r173
      refine nB nq (uv (CA isAgg26 sizeOf26 5) (nB nq (uv (CA isAgg32 sizeOf32 4) (nB nq ?_))))
      obtain ⟨ok4, h176, r177⟩ := Av r175
      refine cV call8 (Gp cj du jo h176) (nB nq (uv (Bz rfl) (uv (AD (Gl rfl nq) rfl) (um ?_))))
      obtain ⟨jq, r179⟩ := AB r177
      refine nB jq (uv (CA isAgg26 sizeOf26 5) (nB jq ?_))
      refine uv (BI (v := .agg #[vI 1, vI 1]) rfl (by intro w; kernel_rfl)) ?_
      refine nB jq (uv (CA isAgg32 sizeOf32 4) (nB jq ?_))
      refine bA (cs := #[vI 1, vI 1, vI ah, vI ai]) HR [.agg #[vI 1, vI 1], .agg #[vI ah, vI ai]] ?_; intro b180 hb180
      refine nB jq ?_
      obtain ⟨ok5, h181, r182⟩ := Av r179
      refine cT call9 (pT pR (lb (ln rfl))) (fun F2 h2 h3 => by exact GP (cj.mono kJ h2) (du.mono kJ h2) (jo.mono kN h2) (Ar.BD kP (vss := [[vI 1, vI 1], [vI ah, vI ai]]) (xs := ([(1, 1), (ah, ai)] : List (Int × Int))) (h3 (b180, ce #[vI 1, vI 1, vI ah, vI ai] 32) mz) (.cons ⟨_, _, rfl, rfl, rfl⟩ (.cons ⟨_, _, rfl, rfl, rfl⟩ .nil)) rfl (by simp [maxLen])) h181) (nB jq (uv (Bz rfl) (uv (AD (Gl rfl jq) rfl) (um ?_))))
      obtain ⟨nr, r184⟩ := AB r182
      refine nB nr (uv (CA isAgg26 sizeOf26 6) (nB nr (uv (BM isAgg3 2) (nB nr ?_))))
      obtain ⟨ok6, h185, r186⟩ := Av r184
      refine cV call10 (Hv cj du jo h185) (nB nr (uv (Bz rfl) (uv (AD (Gl rfl nr) rfl) (um ?_))))
      obtain ⟨jr, vv⟩ := AB r186
      refine nB jr (um (nB jr ?_))
      refine uv (AV rfl rfl) ?_
      refine nB jr (um ?_)
      by_cases eo : k2 < 13
      ·have r190 := A5 vv eo
       refine nT eo (uv (CA isAgg26 sizeOf26 6) (nT eo (uv (BM isAgg3 4) (nT eo ?_))))
       obtain ⟨ok7, h191, r192⟩ := Av r190
       refine cV call11 (FN cj du jo h191) (nT eo (uv (Bz rfl) (nB jr (uv (AF (AX rfl eo) rfl) (uv (AD (Gl rfl jr) rfl) (Aa ?_))))))
       obtain rfl := AP r192
       exact mi kn ⟨((((((((((rp.trans ng).trans kt).trans gz).trans ni).trans ku).trans ia).trans gb).trans kv).trans ib).trans gg), rfl, z6⟩
      have r193 := A4 vv eo
      refine fF eo (fF eo (fF eo (fF eo (nB jr ?_))))
      refine uv (AD (AL rfl eo) rfl) (uv (AD (Gl rfl jr) rfl) (Aa ?_))
      obtain rfl := AP r193
      exact mi kn ⟨((((((((((rp.trans ng).trans kt).trans gz).trans ni).trans ku).trans ia).trans gb).trans kv).trans ib).trans gg), rfl, z6⟩
     obtain ⟨g198, r199⟩ := AB vh
     refine AR rfl (fun vw => absurd (g198.symm.trans vw) (by decide)) (fun vw => ?_)
     refine Ao (Ay (id := 3) (An ?_))
     refine uv (A0 rfl rfl (CC.Cs te c42 g33)) ?_
     refine um (Aa ?_)
     exact le kr ⟨_, hk43, r199, (va.trans vi), rfl, z5⟩
    obtain rfl := CC.zero te c42
    rw [A7] at r37
    refine AI (Am (Am ?_))
    refine At (Ay (id := 1) ?_)
    clear r37
    exact mi kr ⟨va, rfl, z3⟩
   refine An (uv (A0 rfl rfl (CC.Cs tc c17 g8)) ?_)
   refine um (Aa ?_)
   exact le kr ⟨_, hk18, r20, (td.trans uy), rfl, z3⟩
  obtain rfl := CC.zero tc c17
  rw [Bc] at r12
  refine AI (Am (Am ?_))
  refine At ?_
  clear r12
  exact mi kr ⟨(hF5.trans td), rfl, (sn _)⟩
 obtain ⟨h207, vx⟩ := Ij r2
 refine jF ([]) [] ?_ fun F548 hF549 => ?_
 ·clear vx
  refine AJ (um (Aa ?_))
  refine Ap ?_
  obtain ⟨g209, r210⟩ := AB h207
  refine Bb (fun fu4 e1 F1 L1 => ∃ (k4 : Int), CC 0 60 k4 fu4 ∧ AS fu4 k4 = some () ∧ AN F205 F1 ∧ L1 = [] ∧ e1.sub [(136, vI k4)]) _ (m0 kr ⟨_, CC.start _ _, r210, AN.refl _, rfl, z1⟩) ?_
  rintro fu4 e1 vy _ ⟨k4, ns, ph, rq, rfl, vz⟩
  refine Az _ vz (AJ (uv (AV rfl rfl) ?_))
  refine Aa (Aq ?_)
  refine cQ (fun pj => ?_) fun pj => ?_
  ·obtain ⟨fu4, rfl, hk219⟩ := CC.succ ns pj
   rw [AS] at ph
   refine Ao ?_
   obtain ⟨h220, r221⟩ := Ij ph
   refine jF ([]) [(136, vI k4)] ?_ fun F545 hF546 => ?_
   ·clear r221
    refine Ap ?_
    refine AJ (um (ua (BL (um ?_))))
    refine uv (EA rfl rfl (by decide)) ?_
    refine uv (BI (v := .agg #[sL none 0 0, sL none 0 0, vI 3, vI (Int.tmod k4 2), sL none 0 0]) rfl (by intro w; kernel_rfl)) ?_
    refine Bh rfl zeroValue26 ?_; intro cg hb222
    refine A8 (i := 0) sizeOf26 rfl rfl rfl (by simp [Value.oneCell']) rfl (B2 rfl) (Aw rfl (Aa ?_))
    obtain ⟨kz, l0, h235, r236⟩ := BT h220
    refine AU (fun e1 F1 L1 => ∃ (ic : Option Addr) (ie : Nat) (ig : Nat) (dy : LH) (ij : Option Addr) (ik : Nat) (il : Nat) (dz : LH), AN vy F1 ∧ L1 = ((cg, ce #[sL ic ie ig, sL ij ik il, vI 3, vI (Int.tmod k4 2), sL none 0 0] 26) :: (dy ++ (dz ++ []))) ∧ e1.sub [(12, vI k4), (13, pO cg), (136, vI k4)] ∧ C0 K.w0.heap.size 22 3 1 eI F1 ic ie ig kz dy ∧ AM K.w0.heap.size 22 1 eJ F1 ij ik il l0 dz) ?_ ?_
    ·clear r236
     refine AJ (um ?_)
     refine uv (EA rfl rfl (by decide)) ?_
     obtain ⟨g237, r238⟩ := AB h235
     refine uv (A0 rfl rfl g237) ?_
     refine um (Aa ?_)
     refine Ap ?_
     obtain ⟨g251, r252⟩ := AB r238
     refine Bb (fun fu5 e1 F1 L1 => ∃ (k5 : Int), CC 0 (2 + (Int.tmod k4 2)) k5 fu5 ∧ ∃ (eu : List (List Int)) (di : List (List Int)) (pk : Option Addr) (pn : Nat) (po : Nat) (la : LH) (ew : Option Addr) (ey : Nat) (ez : Nat) (de : LH), Dy k4 fu5 k5 eu di = some (kz, l0) ∧ AN vy F1 ∧ L1 = ((cg, ce #[sL pk pn po, sL ew ey ez, vI 3, vI (Int.tmod k4 2), sL none 0 0] 26) :: (la ++ (de ++ []))) ∧ e1.sub [(12, vI k4), (13, pO cg), (136, vI k4), (144, vI (2 + (Int.tmod k4 2))), (145, vI k5)] ∧ C0 K.w0.heap.size 22 3 1 eI F1 pk pn po eu la ∧ AM K.w0.heap.size 22 1 eJ F1 ew ey ez di de) _ (m0 (kc (ke (ke kr))) ⟨_, CC.start _ _, [], [], none, 0, 0, [], none, 0, 0, [], r252, AN.refl _, rfl, z5, C0.nil _ _ _ _ _ _, AM.nil _ _ _ _ _⟩) ?_
     rintro fu5 e1 nt _ ⟨k5, nu, eu, di, pk, pn, po, la, ew, ey, ez, de, pq, rr, rfl, he256, ru, cw⟩
     refine Az _ he256 (AJ (uv (AV rfl rfl) ?_))
     refine Aa (Aq ?_)
     refine cQ (fun pr => ?_) fun pr => ?_
     ·obtain ⟨fu5, rfl, hk261⟩ := CC.succ nu pr
      rw [Dy] at pq
      refine Ao ?_
      obtain ⟨im, iq, h274, r275⟩ := BT pq
      refine AU (fun e1 F1 L1 => ∃ (pt : Option Addr) (pv : Nat) (pw : Nat) (ld : LH) (px : Option Addr) (py : Nat) (pz : Nat) (lg : LH), AN nt F1 ∧ L1 = ((cg, ce #[sL pt pv pw, sL px py pz, vI 3, vI (Int.tmod k4 2), sL none 0 0] 26) :: (ld ++ (lg ++ []))) ∧ e1.sub [(12, vI k4), (13, pO cg), (136, vI k4), (144, vI (2 + (Int.tmod k4 2))), (145, vI k5)] ∧ C0 K.w0.heap.size 22 3 1 eI F1 pt pv pw im ld ∧ AM K.w0.heap.size 22 1 eJ F1 px py pz iq lg) ?_ ?_
      ·clear r275
       refine Ap ?_
       refine AJ (um (ua (BL ?_)))
       refine uv (Ah CI rfl) (uv (BM isAgg23 0) ?_)
       refine bA (cs := #[sL none 0 0]) Fm [sL none 0 0] ?_; intro b276 hb276
       obtain ⟨b, h277, g278, r279⟩ := DS h274
       refine Ku (fC (fC fP)) ru ?_; intro ry Lo283 Lc284 hO280 rz
       refine kO (kf (fS (fS fO)) (kf (fS (fS fO)) kr)) ?_
       refine Cq (xs := ry) (ys := [(none, 0, 0)]) (zs := ry ++ [(none, 0, 0)]) rfl Fm rfl rfl (Nat.le_refl _) (fun _ => .c (.c .h)) hO280 (Fg.box (vss := [[sL none 0 0]]) (ys := [(none, 0, 0)]) 0 rfl Cv (.cons rfl .nil) rfl rfl) rfl (RP rz h277 g278) (by decide) ?_; intro fa fb fe Lo288 hO289
       refine kO (kd kr) ?_
       refine Dv (p := fun X => C0 K.w0.heap.size 22 3 1 eI nt fa fb fe b X) (Jr.Rt rz rfl hO289 h277) (pT ((fC fP).trans (pA ((fC fP).trans (pA pR)))) (lp (lp (ln rfl)))) ?_; intro Lb291 hz292
       refine kO (kf (fS fO) kr) (uv (Ah CI rfl) (By (i := 0) sizeOf23 rfl rfl rfl rfl (B2 rfl) (Aw rfl (Aa ?_))))
       obtain ⟨ir, h295, r296⟩ := Av r279
       refine AU (fun e1 F1 L1 => ∃ (ff : LH), nt = F1 ∧ L1 = ((cg, ce #[sL fa fb fe, sL ew ey ez, vI 3, vI (Int.tmod k4 2), sL none 0 0] 26) :: (ff ++ (de ++ []))) ∧ e1.sub [(12, vI k4), (13, pO cg), (14, vI k5), (136, vI k4), (144, vI (2 + (Int.tmod k4 2))), (145, vI k5)] ∧ C0 K.w0.heap.size 22 3 1 eI F1 fa fb fe ir ff) ?_ ?_
       ·clear r296
        refine AJ (um ?_)
        refine uv (EA rfl rfl (by decide)) ?_
        obtain ⟨g297, r298⟩ := AB h295
        refine uv (A0 rfl rfl g297) ?_
        refine um (Aa ?_)
        refine Ap ?_
        obtain ⟨g301, r302⟩ := AB r298
        refine Bb (fun fu6 e1 F1 L1 => ∃ (k6 : Int), CC 0 (2 + (Int.tmod k4 2)) k6 fu6 ∧ ∃ (fg : List (List Int)) (iu : LH), Dq k4 k5 fu6 k6 fg = some ir ∧ nt = F1 ∧ L1 = ((cg, ce #[sL fa fb fe, sL ew ey ez, vI 3, vI (Int.tmod k4 2), sL none 0 0] 26) :: (iu ++ (de ++ []))) ∧ e1.sub [(12, vI k4), (13, pO cg), (14, vI k5), (136, vI k4), (144, vI (2 + (Int.tmod k4 2))), (145, vI k5), (155, vI (2 + (Int.tmod k4 2))), (156, vI k6)] ∧ C0 K.w0.heap.size 22 3 1 eI F1 fa fb fe fg iu) _ (m0 kr ⟨_, CC.start _ _, b, Lb291, r302, rfl, rfl, z8, hz292⟩) ?_
        rintro fu6 e1 _ _ ⟨k6, nv, fg, iu, q0, rfl, rfl, he306, nw⟩
        refine Az _ he306 (AJ (uv (AV rfl rfl) ?_))
        refine Aa (Aq ?_)
        refine cQ (fun qb => ?_) fun qb => ?_
        ·obtain ⟨fu6, rfl, hk309⟩ := CC.succ nv qb
         rw [Dq] at q0
         refine Ao (Aq ?_)
         refine Ap ?_
         refine AJ (um (ua (BL (um (um ?_)))))
         obtain ⟨g310, r311⟩ := AB q0
         refine uv (QL rfl rfl g310) ?_
         obtain ⟨g312, r313⟩ := AB r311
         refine uv (A0 rfl rfl g312) (um ?_)
         obtain ⟨g314, r315⟩ := AB r313
         refine uv (A0 rfl rfl g314) (uv (EA rfl rfl (by decide)) ?_)
         obtain ⟨g316, r317⟩ := AB r315
         refine uv (A0 rfl rfl g316) ?_
         obtain ⟨w, h318, r319⟩ := BC r317
         refine uv ((BB rfl).i h318) (Aa ?_)
         obtain ⟨w2, h320, r321⟩ := Av r319
         refine jE (((cg, ce #[sL fa fb fe, sL ew ey ez, vI 3, vI (Int.tmod k4 2), sL none 0 0] 26) :: (iu ++ (de ++ [])))) [(12, vI k4), (13, pO cg), (14, vI k5), (16, vI w2), (136, vI k4), (144, vI (2 + (Int.tmod k4 2))), (145, vI k5), (155, vI (2 + (Int.tmod k4 2))), (156, vI k6)] ?_ ?_
         ·clear r321
          refine AJ (um (um ?_))
          refine uv (BO rfl rfl) (Aa ?_)
          refine cQ (fun tn => ?_) fun tn => ?_
          ·have r323 := A5 h320 tn
           refine An (ua (Aa ?_))
           obtain rfl := AP r323
           exact mi kr ⟨rfl, rfl, (sc rfl z8)⟩
          have r324 := A4 h320 tn
          refine AJ (um (um ?_))
          obtain ⟨g325, r326⟩ := AB r324
          refine uv (A0 rfl rfl g325) (um ?_)
          obtain ⟨g327, r328⟩ := AB r326
          refine uv (QL rfl rfl g327) ?_
          obtain ⟨g329, r330⟩ := AB r328
          refine uv (A0 rfl rfl g329) (uv (EA rfl rfl (by decide)) (uv (BO rfl rfl) (Aa ?_)))
          refine cQ (fun tp => ?_) fun tp => ?_
          ·have r332 := A5 r330 tp
           refine An (ua (Aa ?_))
           obtain rfl := AP r332
           exact mi kr ⟨rfl, rfl, (sc rfl z8)⟩
          have r333 := A4 r330 tp
          refine Ao ?_
          obtain rfl := AP r333
          exact mi kr ⟨rfl, rfl, (sc rfl z8)⟩
         obtain ⟨x2, ny, hx336, r337⟩ := Bi r321
         have nz := (C0.A6 nw).1
         refine I2 (fC fP) nw hx336 ?_; intro hs338 o0 Lc340 a341 n342 c343 Lb344 s5 lh hz347 hI348
         refine kW (kf (fS (fS (fS fO))) kr) (Bg [(.still, 0), (.still, 1), (.still, 2), (.still, 3), (.still, 4), (.still, 5), (.still, 6), (.still, 7), (.still, 8), (.seq, 9), (.seq, 10), (.still, 11), (.seq, 12)] (by kernel_rfl) (by kernel_rfl) (trivial) (by rfl) (by kernel_rfl) (mS [13] rfl (Ah CI rfl) (mK [178] isAgg23 0 rfl rfl rfl rfl (mS [14] rfl (AO rfl) (mS [13] rfl (Ah CI rfl) (mK [181] isAgg23 0 rfl rfl rfl rfl (mS [14] rfl (AO rfl) ?_)))))))
         obtain ⟨b351, o352, c353, vs354, ha355, hs356, hle357, rfl, hl358, hc359⟩ := AM.at Cv lh (L := o0 ++ []) fP ny.1 s5
         refine mS [182, 183] rfl (BQ underlying23 sizeOf22 rfl ha355 rfl (KV nz ny)) (mL [184] (o0 ++ []) rfl (s0 (s1 (s4 (s3 (s3 (s3 sr)))))) (fun H F' L' tq tr => AG isAgg22 rfl (hs356.ext tq tr) (hc359 0 (by decide))) (mS [16] rfl (AO rfl) ?_))
         refine ⟨_, [(186, vI w2)], rfl, rfl, z1, by kernel_rfl, ?_⟩; intro H
         refine bA (cs := #[vI w2]) Bp [vI w2] ?_; intro b360 hb360
         refine Aa ⟨_, rfl, AN.refl _, [7, 6, 5, 4, 3, 2, 1, 0], by kernel_rfl, .inl (.inr (fun d h => by cases h; rfl)), (fc (s0 (s1 (s1 (s4 (s3 (s3 (s3 sr))))))) (fc sm (fc sm (fc (s0 (s1 (s2 (s3 (s3 (s3 (s3 sr))))))) (fc sm (fc sm (fc (s0 (s1 (s2 (s3 (s3 (s3 (s3 sr))))))) (fc sm nm)))))))), ?_⟩
         refine ⟨_, [(185, sL a341 n342 c343), (187, sL (aD b360) 1 1)], rfl, rfl, z2, by kernel_rfl, ?_⟩; intro H
         obtain ⟨l, h361, g362, r363⟩ := DS r337
         refine Cq (xs := x2) (ys := [w2]) (zs := l) rfl Bp rfl rfl (Nat.le_refl _) (fun _ => .c (.c (.s .h))) hz347 (Fg.box (vss := [[vI w2]]) (ys := [w2]) 0 rfl kI (.cons rfl .nil) rfl rfl) h361 g362 (by decide) ?_; intro tt tu tv Lb366 hz367
         refine kO (kd kr) ?_
         refine Aa ⟨_, rfl, AN.refl _, [2, 1, 0], by kernel_rfl, .inl (.inr (fun d h => by cases h; rfl)), (fc sm (fc (s0 (s2 (s3 (s3 (s3 (s3 sr)))))) (fc sm nm))), ?_⟩
         obtain ⟨b370, o371, c372, vs373, s6, hs375, hle376, rfl, hl377, hc378⟩ := AM.at Cv lh (L := o0 ++ []) fP ny.1 s5
         refine mS [179, 180] rfl (BQ underlying23 sizeOf22 rfl s6 rfl (KV nz ny)) ?_
         refine ⟨_, [(188, sL tt tu tv), (189, .pointer (some ⟨b370, o371 + (k5 : Int).toNat * 1, none⟩))], rfl, rfl, z2, by kernel_rfl, ?_⟩; intro H
         refine EH (zs := hs338.set (k5 : Int).toNat (tt, tu, tv)) (u := (tt, tu, tv)) sizeOf22 Cv rfl s6 rfl rfl (fun _ => .c .h) lh rfl (QO nz lh ny) ?_; intro Lo379 hO380
         obtain ⟨l2, h381, r382⟩ := BC r363
         refine Dv (p := fun X => C0 K.w0.heap.size 22 3 1 eI nt fa fb fe l2 X) (K3.back hI348 hO380 hz367 h381) (pT ((fC fP).trans (pA ((fC fP).trans (pA ((fC fP).trans (pA pR)))))) (lp (lp (lp (ln rfl))))) ?_; intro Lb383 hz384
         refine kO (kf (fS fO) kr) ?_
         refine Aa ⟨undef, rfl, AN.refl _, [], by kernel_rfl, .inl (.inl rfl), nm, ?_⟩
         refine Bo ?_
         refine Ay (id := 9) (An ?_)
         refine uv (A0 rfl rfl (CC.Cs nv qb g301)) ?_
         refine um (Aa ?_)
         exact le kr ⟨_, hk309, l2, Lb383, r382, rfl, rfl, z8, hz384⟩
        obtain rfl := CC.zero nv qb
        rw [Dq] at q0
        refine AI (Am (Am ?_))
        refine At ?_
        obtain rfl := AP q0
        exact mi kr ⟨iu, rfl, rfl, z6, nw⟩
       rintro e1 _ _ ⟨ff, rfl, rfl, he385, cy⟩
       refine Az _ he385 (Bg [(.pre, 2), (.pre, 3), (.pre, 4), (.still, 0), (.still, 1), (.still, 7), (.still, 8), (.still, 9), (.still, 10), (.still, 11), (.seq, 5), (.alloc (ce #[vI 0] 3) (fun b => sL (aD b) 1 1) [], 2), (.alloc (ce #[vI 1, vI 2] 3) (fun b => sL (aD b) 2 2) [], 3), (.alloc (ce #[vI 2] 3) (fun b => sL (aD b) 1 1) [], 4), (.seq, 6), (.seq, 12), (.still, 13), (.seq, 14), (.seq, 15), (.still, 16), (.seq, 17)] (by kernel_rfl) (by kernel_rfl) (⟨⟨_, _, rfl, rfl, rfl, rfl, rfl, JQ rfl (Ef Bp [vI 0] rfl (by decide) (by simp [Value.cells]) (by decide))⟩, ⟨⟨_, _, rfl, rfl, rfl, rfl, rfl, JQ rfl (Ef Bp [vI 1, vI 2] rfl (by decide) (by simp [Value.cells]) (by decide))⟩, ⟨⟨_, _, rfl, rfl, rfl, rfl, rfl, JQ rfl (Ef Bp [vI 2] rfl (by decide) (by simp [Value.cells]) (by decide))⟩, trivial⟩⟩⟩) (by rfl) (by kernel_rfl) ?_)
       refine ⟨⟨_, rfl, (sn _), by kernel_rfl⟩, ?_⟩
       refine ⟨⟨_, rfl, (sn _), by kernel_rfl⟩, ?_⟩
       refine ⟨⟨_, rfl, (sn _), by kernel_rfl⟩, ?_⟩
       refine mS [13] rfl (Ah Df rfl) (mK [191] isAgg23 0 rfl rfl rfl rfl (mS [12] rfl (AO rfl) ?_))
       obtain ⟨g386, r387⟩ := AB r296
       refine mS (v := vI (Int.tdiv k4 2)) [198] rfl (Mp rfl rfl g386) (mS [14] rfl (AO rfl) ?_)
       obtain ⟨g388, r389⟩ := AB r387
       refine mS (v := vI ((Int.tdiv k4 2) + k5)) [199, 200] rfl (A0 rfl rfl g388) (mS (v := vI (Int.tmod ((Int.tdiv k4 2) + k5) 5)) [201] rfl (EA rfl rfl (by decide)) ?_)
       refine ⟨_, [], rfl, rfl, (sn _), by kernel_rfl, ?_⟩; intro H
       refine bA (cs := #[vI 0, vI 1]) Bp [vI 0, vI 1] ?_; intro iv hb390
       refine Aa ⟨_, rfl, AN.refl _, [11, 10, 9, 8, 7, 1, 0], by kernel_rfl, .inl (.inr (fun d h => by cases h; rfl)), (fc sm (fc sm (fc sm (fc sm (fc sm (fc (s0 (s1 (s2 (s3 (s3 sr))))) (fc sm nm))))))), ?_⟩
       refine KT rfl ?_; intro iw hb391
       refine GI (L' := (iw, ce #[vI 0] 3) :: ((iv, ce #[vI 0, vI 1] 3) :: ((cg, ce #[sL fa fb fe, sL ew ey ez, vI 3, vI (Int.tmod k4 2), sL none 0 0] 26) :: (ff ++ (de ++ []))))) rfl ?_
       refine KT rfl ?_; intro js hb392
       refine GI (L' := (js, ce #[vI 1, vI 2] 3) :: ((iw, ce #[vI 0] 3) :: ((iv, ce #[vI 0, vI 1] 3) :: ((cg, ce #[sL fa fb fe, sL ew ey ez, vI 3, vI (Int.tmod k4 2), sL none 0 0] 26) :: (ff ++ (de ++ [])))))) rfl ?_
       refine KT rfl ?_; intro ml hb393
       refine GI (L' := (ml, ce #[vI 2] 3) :: ((js, ce #[vI 1, vI 2] 3) :: ((iw, ce #[vI 0] 3) :: ((iv, ce #[vI 0, vI 1] 3) :: ((cg, ce #[sL fa fb fe, sL ew ey ez, vI 3, vI (Int.tmod k4 2), sL none 0 0] 26) :: (ff ++ (de ++ []))))))) rfl ?_
       refine ⟨_, [(193, sL (aD iw) 1 1), (194, sL (aD js) 2 2), (195, sL (aD ml) 1 1), (196, sL (aD iv) 2 2)], rfl, rfl, z4, by kernel_rfl, ?_⟩; intro H
       refine bA (cs := #[sL (aD iw) 1 1, sL (aD js) 2 2, sL (aD ml) 1 1, sL (aD iv) 2 2, sL none 0 0]) Fm [sL (aD iw) 1 1, sL (aD js) 2 2, sL (aD ml) 1 1, sL (aD iv) 2 2, sL none 0 0] ?_; intro b394 hb394
       refine Aa ⟨_, rfl, AN.refl _, [11, 10, 9, 8, 7, 1, 0], by kernel_rfl, .inl (.inr (fun d h => by cases h; rfl)), (fc sm (fc sm (fc sm (fc sm (fc sm (fc (s0 (s1 (s1 (s1 (s1 (s1 (s2 (s3 (s3 sr))))))))) (fc sm nm))))))), ?_⟩
       refine ⟨_, [(197, sL (aD b394) 5 5), (202, vI (Int.tmod ((Int.tdiv k4 2) + k5) 5))], rfl, rfl, z2, by kernel_rfl, ?_⟩; intro H
       refine Br 3 rfl hb391 ?_; intro F395 lj hz397
       refine Aw rfl ?_
       replace cy := cy.m1 lj
       replace cw := cw.m2 lj
       have gu : Ar 1 eI F395 (aD iw) 1 [0] := Ar.oI hz397
       refine Br 2 rfl hb392 ?_; intro F399 iy hz401
       refine Aw rfl ?_
       replace gu := gu.m1 iy
       replace cy := cy.m1 iy
       replace cw := cw.m2 iy
       have jt : Ar 1 eI F399 (aD js) 2 [1, 2] := Ar.oI hz401
       refine Br 1 rfl hb393 ?_; intro F403 gh hz405
       refine Aw rfl ?_
       replace gu := gu.m1 gh
       replace jt := jt.m1 gh
       replace cy := cy.m1 gh
       replace cw := cw.m2 gh
       have o1 : Ar 1 eI F403 (aD ml) 1 [2] := Ar.oI hz405
       refine Br 1 rfl hb390 ?_; intro F407 fh hz409
       refine Aw rfl ?_
       replace gu := gu.m1 fh
       replace jt := jt.m1 fh
       replace o1 := o1.m1 fh
       replace cy := cy.m1 fh
       replace cw := cw.m2 fh
       have tw : Ar 1 eI F407 (aD iv) 2 [0, 1] := Ar.oI hz409
       refine Br 0 rfl hb394 ?_; intro F411 eb hz413
       refine Aw rfl ?_
       replace gu := gu.m1 eb
       replace jt := jt.m1 eb
       replace o1 := o1.m1 eb
       replace tw := tw.m1 eb
       replace cy := cy.m1 eb
       replace cw := cw.m2 eb
       have h414 : Ar 1 eJ F411 (aD b394) 5 [[0], [1, 2], [2], [0, 1], []] := Ar.BD kJ (vss := [[sL (aD iw) [0].length 1], [sL (aD js) [1, 2].length 2], [sL (aD ml) [2].length 1], [sL (aD iv) [0, 1].length 2], [sL none 0 0]]) (xs := [[0], [1, 2], [2], [0, 1], []]) hz413 (.cons ⟨_, _, rfl, gu⟩ (.cons ⟨_, _, rfl, jt⟩ (.cons ⟨_, _, rfl, o1⟩ (.cons ⟨_, _, rfl, tw⟩ (.cons ⟨_, _, rfl, Ar.nil _ _ _⟩ .nil))))) rfl (by simp [maxLen])
       obtain ⟨x3, g415, hx416, r417⟩ := Bi r389
       obtain ⟨b418, o419, c420, vs421, ha422, hs423, hle424, ⟨qc, qd, rfl, h429⟩, hl425, hc426⟩ := Ar.ta kJ h414 g415.1 hx416
       refine uv (Cx underlying23 sizeOf22 ha422 g415) ?_
       refine Aa ⟨_, rfl, ((((lj.trans iy).trans gh).trans fh).trans eb), [1, 0], by kernel_rfl, .inl (.inr (fun d h => by cases h; rfl)), (fc (s0 (s2 (s3 (s3 sr)))) (fc sm nm)), ?_⟩
       refine mL [203] ([]) rfl sm (fun H F' L' tq tr => AG isAgg22 rfl ((hs423 _).ext tq tr) (hc426 0 (by decide))) ?_
       refine ⟨_, [(204, sL qc x3.length qd)], rfl, rfl, z1, by kernel_rfl, ?_⟩; intro H
       refine bA (cs := #[sL qc x3.length qd]) Fm [sL qc x3.length qd] ?_; intro b430 hb430
       refine Aa ⟨_, rfl, AN.refl _, [1, 0], by kernel_rfl, .inl (.inr (fun d h => by cases h; rfl)), (fc (s0 (s1 (s2 (s3 (s3 sr))))) (fc sm nm)), ?_⟩
       refine ⟨_, [(192, sL ew ey ez), (205, sL (aD b430) 1 1)], rfl, rfl, z2, by kernel_rfl, ?_⟩; intro H
       obtain ⟨l3, h431, g432, r433⟩ := DS r417
       refine Cq (xs := di) (ys := [x3]) (zs := l3) rfl Fm rfl rfl (Nat.le_refl _) (fun _ => .c (.c (.s .h))) cw (Fg.box (vss := [[sL qc x3.length qd]]) (ys := [x3]) 0 rfl kJ (.cons ⟨_, _, rfl, h429⟩ .nil) rfl rfl) h431 g432 (by decide) ?_; intro a434 n438 c435 Lb436 hz437
       refine kO (kd kr) ?_
       refine Aa ⟨_, rfl, AN.refl _, [], by kernel_rfl, .inl (.inl rfl), nm, ?_⟩
       refine mS [13] rfl (Ah Df rfl) ?_
       refine ⟨_, [(206, sL a434 n438 c435), (207, .pointer (some ⟨cg, 1, none⟩))], rfl, rfl, z2, by kernel_rfl, ?_⟩; intro H
       refine By (i := 0) sizeOf23 rfl rfl rfl rfl (B2 rfl) (Aw rfl ?_)
       refine Aa ⟨undef, rfl, AN.refl _, [], by kernel_rfl, .inl (.inl rfl), nm, ?_⟩
       refine Bo (Ay (id := 7) ?_)
       obtain ⟨rfl, rfl⟩ := B9 r433
       exact mi kr ⟨fa, fb, fe, ff, a434, n438, c435, Lb436, ((((lj.trans iy).trans gh).trans fh).trans eb), rfl, z5, cy, hz437⟩
      rintro e1 F441 _ ⟨pt, pv, pw, ld, px, py, pz, lg, hF442, rfl, he440, hz265, hz271⟩
      refine Az _ he440 (An (uv (A0 rfl rfl (CC.Cs nu pr g251)) ?_))
      refine um (Aa ?_)
      exact le kr ⟨_, hk261, im, iq, pt, pv, pw, ld, px, py, pz, lg, r275, (rr.trans hF442), rfl, z5, hz265, hz271⟩
     obtain rfl := CC.zero nu pr
     rw [Dy] at pq
     refine AI (Am (Am ?_))
     refine At ?_
     obtain ⟨rfl, rfl⟩ := B9 pq
     exact mi kr ⟨pk, pn, po, la, ew, ey, ez, de, rr, rfl, z3, ru, cw⟩
    rintro e1 F444 _ ⟨ic, ie, ig, dy, ij, ik, il, dz, hF445, rfl, he443, lk, ll⟩
    refine Az _ he443 ?_
    obtain ⟨gi, h452, r453⟩ := Av r236
    refine AU (fun e1 F1 L1 => ∃ (tx : Option Addr) (tz : Nat) (u0 : Nat) (o2 : LH), AN F444 F1 ∧ L1 = ((cg, ce #[sL ic ie ig, sL ij ik il, vI 3, vI (Int.tmod k4 2), sL tx tz u0] 26) :: (dy ++ (dz ++ (o2 ++ [])))) ∧ e1.sub [(12, vI k4), (13, pO cg), (136, vI k4)] ∧ AM K.w0.heap.size 35 3 eN F1 tx tz u0 gi o2) ?_ ?_
    ·clear r453
     refine AJ (um ?_)
     refine uv (EA rfl rfl (by decide)) ?_
     obtain ⟨g454, r455⟩ := AB h452
     refine uv (A0 rfl rfl g454) ?_
     refine um (Aa ?_)
     refine Ap ?_
     obtain ⟨g462, r463⟩ := AB r455
     refine Bb (fun fu7 e1 F1 L1 => ∃ (k7 : Int), CC 0 (1 + (Int.tmod k4 2)) k7 fu7 ∧ ∃ (ct : List ((List Int) × Int × Int)) (iz : Option Addr) (j0 : Nat) (j1 : Nat) (fi : LH), Dx k4 fu7 k7 ct = some gi ∧ AN F444 F1 ∧ L1 = ((cg, ce #[sL ic ie ig, sL ij ik il, vI 3, vI (Int.tmod k4 2), sL iz j0 j1] 26) :: (dy ++ (dz ++ (fi ++ [])))) ∧ e1.sub [(12, vI k4), (13, pO cg), (136, vI k4), (211, vI (1 + (Int.tmod k4 2))), (212, vI k7)] ∧ AM K.w0.heap.size 35 3 eN F1 iz j0 j1 ct fi) _ (m0 (kc (ka (ka (ke kr)))) ⟨_, CC.start _ _, [], none, 0, 0, [], r463, AN.refl _, rfl, z5, AM.nil _ _ _ _ _⟩) ?_
     rintro fu7 e1 F468 _ ⟨k7, o3, ct, iz, j0, j1, fi, qe, s7, rfl, he467, cx⟩
     refine Az _ he467 (AJ (uv (AV rfl rfl) ?_))
     refine Aa (Aq ?_)
     refine cQ (fun qf => ?_) fun qf => ?_
     ·obtain ⟨fu7, rfl, hk472⟩ := CC.succ o3 qf
      rw [Dx] at qe
      refine Ao (Aq ?_)
      refine Ap ?_
      refine AJ (um (ua (Aa ?_)))
      refine Bg [(.pre, 2), (.pre, 3), (.pre, 4), (.still, 0), (.still, 1), (.still, 7), (.still, 8), (.still, 9), (.still, 10), (.still, 11), (.still, 14), (.still, 15), (.still, 16), (.still, 17), (.still, 18), (.still, 19), (.still, 20), (.still, 21), (.still, 22), (.seq, 5), (.alloc (ce #[vI 0] 3) (fun b => sL (aD b) 1 1) [], 2), (.alloc (ce #[vI 2, vI 0] 3) (fun b => sL (aD b) 2 2) [], 3), (.alloc (ce #[vI 1] 3) (fun b => sL (aD b) 1 1) [], 4), (.seq, 6), (.seq, 12), (.still, 13), (.still, 23), (.seq, 24), (.seq, 25), (.still, 26), (.seq, 27)] (by kernel_rfl) (by kernel_rfl) (⟨⟨_, _, rfl, rfl, rfl, rfl, rfl, JQ rfl (Ef Bp [vI 0] rfl (by decide) (by simp [Value.cells]) (by decide))⟩, ⟨⟨_, _, rfl, rfl, rfl, rfl, rfl, JQ rfl (Ef Bp [vI 2, vI 0] rfl (by decide) (by simp [Value.cells]) (by decide))⟩, ⟨⟨_, _, rfl, rfl, rfl, rfl, rfl, JQ rfl (Ef Bp [vI 1] rfl (by decide) (by simp [Value.cells]) (by decide))⟩, trivial⟩⟩⟩) (by rfl) (by kernel_rfl) ?_
      refine ⟨⟨_, rfl, (sn _), by kernel_rfl⟩, ?_⟩
      refine ⟨⟨_, rfl, (sn _), by kernel_rfl⟩, ?_⟩
      refine ⟨⟨_, rfl, (sn _), by kernel_rfl⟩, ?_⟩
      refine mS [13] rfl (Ah BF rfl) (mK [215] isAgg24 0 rfl rfl rfl rfl (mS [12] rfl (AO rfl) ?_))
      obtain ⟨g473, r474⟩ := AB qe
      refine mS (v := vI (Int.tdiv k4 3)) [222] rfl (Mp rfl rfl g473) (mS [17] rfl (AO rfl) ?_)
      obtain ⟨g475, r476⟩ := AB r474
      refine mS (v := vI ((Int.tdiv k4 3) + k7)) [223, 224] rfl (A0 rfl rfl g475) (mS (v := vI (Int.tmod ((Int.tdiv k4 3) + k7) 4)) [225] rfl (EA rfl rfl (by decide)) (mS [12] rfl (AO rfl) (mS [17] rfl (AO rfl) ?_)))
      obtain ⟨g477, r478⟩ := AB r476
      refine mS (v := vI (k4 + k7)) [229, 230] rfl (A0 rfl rfl g477) (mS (v := vI (Int.tmod (k4 + k7) 3)) [231] rfl (EA rfl rfl (by decide)) ?_)
      obtain ⟨g479, r480⟩ := AB r478
      refine mS (v := vI (1 + (Int.tmod (k4 + k7) 3))) [232] rfl (A0 rfl rfl g479) (mS [12] rfl (AO rfl) ?_)
      obtain ⟨g481, r482⟩ := AB r480
      refine mS (v := vI (Int.tdiv k4 4)) [234] rfl (Mp rfl rfl g481) (mS (v := vI (Int.tmod (Int.tdiv k4 4) 14)) [235] rfl (EA rfl rfl (by decide)) ?_)
      obtain ⟨g483, r484⟩ := AB r482
      refine mS (v := vI (2 + (Int.tmod (Int.tdiv k4 4) 14))) [236] rfl (A0 rfl rfl g483) ?_
      refine ⟨_, [], rfl, rfl, (sn _), by kernel_rfl, ?_⟩; intro H
      refine bA (cs := #[vI 1, vI 2]) Bp [vI 1, vI 2] ?_; intro j2 hb485
      refine Aa ⟨_, rfl, AN.refl _, [22, 21, 20, 19, 18, 17, 16, 15, 14, 11, 10, 9, 8, 7, 1, 0], by kernel_rfl, .inl (.inr (fun d h => by cases h; rfl)), (fc sm (fc sm (fc sm (fc sm (fc sm (fc sm (fc sm (fc sm (fc sm (fc sm (fc sm (fc sm (fc sm (fc sm (fc (s0 (s1 (s2 (s3 (s3 (s3 sr)))))) (fc sm nm)))))))))))))))), ?_⟩
      refine KT rfl ?_; intro j3 hb486
      refine GI (L' := (j3, ce #[vI 0] 3) :: ((j2, ce #[vI 1, vI 2] 3) :: ((cg, ce #[sL ic ie ig, sL ij ik il, vI 3, vI (Int.tmod k4 2), sL iz j0 j1] 26) :: (dy ++ (dz ++ (fi ++ [])))))) rfl ?_
      refine KT rfl ?_; intro ju hb487
      refine GI (L' := (ju, ce #[vI 2, vI 0] 3) :: ((j3, ce #[vI 0] 3) :: ((j2, ce #[vI 1, vI 2] 3) :: ((cg, ce #[sL ic ie ig, sL ij ik il, vI 3, vI (Int.tmod k4 2), sL iz j0 j1] 26) :: (dy ++ (dz ++ (fi ++ []))))))) rfl ?_
      refine KT rfl ?_; intro mn hb488
      refine GI (L' := (mn, ce #[vI 1] 3) :: ((ju, ce #[vI 2, vI 0] 3) :: ((j3, ce #[vI 0] 3) :: ((j2, ce #[vI 1, vI 2] 3) :: ((cg, ce #[sL ic ie ig, sL ij ik il, vI 3, vI (Int.tmod k4 2), sL iz j0 j1] 26) :: (dy ++ (dz ++ (fi ++ [])))))))) rfl ?_
      refine ⟨_, [(217, sL (aD j3) 1 1), (218, sL (aD ju) 2 2), (219, sL (aD mn) 1 1), (220, sL (aD j2) 2 2)], rfl, rfl, z4, by kernel_rfl, ?_⟩; intro H
      refine bA (cs := #[sL (aD j3) 1 1, sL (aD ju) 2 2, sL (aD mn) 1 1, sL (aD j2) 2 2]) Fm [sL (aD j3) 1 1, sL (aD ju) 2 2, sL (aD mn) 1 1, sL (aD j2) 2 2] ?_; intro b489 hb489
      refine Aa ⟨_, rfl, AN.refl _, [22, 21, 20, 19, 18, 17, 16, 15, 14, 11, 10, 9, 8, 7, 1, 0], by kernel_rfl, .inl (.inr (fun d h => by cases h; rfl)), (fc sm (fc sm (fc sm (fc sm (fc sm (fc sm (fc sm (fc sm (fc sm (fc sm (fc sm (fc sm (fc sm (fc sm (fc (s0 (s1 (s1 (s1 (s1 (s1 (s2 (s3 (s3 (s3 sr)))))))))) (fc sm nm)))))))))))))))), ?_⟩
      refine ⟨_, [(221, sL (aD b489) 4 4), (226, vI (Int.tmod ((Int.tdiv k4 3) + k7) 4))], rfl, rfl, z2, by kernel_rfl, ?_⟩; intro H
      refine Br 3 rfl hb486 ?_; intro F490 o4 hz492
      refine Aw rfl ?_
      replace cx := cx.m3 o4
      have gv : Ar 1 eI F490 (aD j3) 1 [0] := Ar.oI hz492
      refine Br 2 rfl hb487 ?_; intro F494 lq hz496
      refine Aw rfl ?_
      replace gv := gv.m1 lq
      replace cx := cx.m3 lq
      have jv : Ar 1 eI F494 (aD ju) 2 [2, 0] := Ar.oI hz496
      refine Br 1 rfl hb488 ?_; intro F498 j4 hz500
      refine Aw rfl ?_
      replace gv := gv.m1 j4
      replace jv := jv.m1 j4
      replace cx := cx.m3 j4
      have o6 : Ar 1 eI F498 (aD mn) 1 [1] := Ar.oI hz500
      refine Br 1 rfl hb485 ?_; intro F502 gj hz504
      refine Aw rfl ?_
      replace gv := gv.m1 gj
      replace jv := jv.m1 gj
      replace o6 := o6.m1 gj
      replace cx := cx.m3 gj
      have u1 : Ar 1 eI F502 (aD j2) 2 [1, 2] := Ar.oI hz504
      refine Br 0 rfl hb489 ?_; intro F506 fj hz508
      refine Aw rfl ?_
      replace gv := gv.m1 fj
      replace jv := jv.m1 fj
      replace o6 := o6.m1 fj
      replace u1 := u1.m1 fj
      replace cx := cx.m3 fj
      have h509 : Ar 1 eJ F506 (aD b489) 4 [[0], [2, 0], [1], [1, 2]] := Ar.BD kJ (vss := [[sL (aD j3) [0].length 1], [sL (aD ju) [2, 0].length 2], [sL (aD mn) [1].length 1], [sL (aD j2) [1, 2].length 2]]) (xs := [[0], [2, 0], [1], [1, 2]]) hz508 (.cons ⟨_, _, rfl, gv⟩ (.cons ⟨_, _, rfl, jv⟩ (.cons ⟨_, _, rfl, o6⟩ (.cons ⟨_, _, rfl, u1⟩ .nil)))) rfl (by simp [maxLen])
      obtain ⟨x4, g510, hx511, r512⟩ := Bi r484
      obtain ⟨b513, o514, c515, vs516, ha517, hs518, hle519, ⟨mo, mq, rfl, h524⟩, hl520, hc521⟩ := Ar.ta kJ h509 g510.1 hx511
      refine uv (Cx underlying23 sizeOf22 ha517 g510) ?_
      refine Aa ⟨_, rfl, ((((o4.trans lq).trans j4).trans gj).trans fj), [22, 21, 20, 19, 18, 17, 16, 15, 14, 1, 0], by kernel_rfl, .inl (.inr (fun d h => by cases h; rfl)), (fc sm (fc sm (fc sm (fc sm (fc sm (fc sm (fc sm (fc sm (fc sm (fc (s0 (s2 (s3 (s3 (s3 sr))))) (fc sm nm))))))))))), ?_⟩
      refine mL [227] ([]) rfl sm (fun H F' L' tq tr => AG isAgg22 rfl ((hs518 _).ext tq tr) (hc521 0 (by decide))) ?_
      refine mS (v := .agg #[sL mo x4.length mq, vI (1 + (Int.tmod (k4 + k7) 3)), vI (2 + (Int.tmod (Int.tdiv k4 4) 14))]) [228, 233, 237] rfl (BI (v := .agg #[sL mo x4.length mq, vI (1 + (Int.tmod (k4 + k7) 3)), vI (2 + (Int.tmod (Int.tdiv k4 4) 14))]) rfl (by intro w; kernel_rfl)) ?_
      refine ⟨_, [(238, .agg #[sL mo x4.length mq, vI (1 + (Int.tmod (k4 + k7) 3)), vI (2 + (Int.tmod (Int.tdiv k4 4) 14))])], rfl, rfl, z1, by kernel_rfl, ?_⟩; intro H
      refine bA (cs := #[sL mo x4.length mq, vI (1 + (Int.tmod (k4 + k7) 3)), vI (2 + (Int.tmod (Int.tdiv k4 4) 14))]) Kj [.agg #[sL mo x4.length mq, vI (1 + (Int.tmod (k4 + k7) 3)), vI (2 + (Int.tmod (Int.tdiv k4 4) 14))]] ?_; intro b525 hb525
      refine Aa ⟨_, rfl, AN.refl _, [1, 0], by kernel_rfl, .inl (.inr (fun d h => by cases h; rfl)), (fc (s0 (s1 (s2 (s3 (s3 (s3 sr)))))) (fc sm nm)), ?_⟩
      refine ⟨_, [(216, sL iz j0 j1), (239, sL (aD b525) 1 1)], rfl, rfl, z2, by kernel_rfl, ?_⟩; intro H
      obtain ⟨l4, h526, g527, r528⟩ := DS r512
      refine Cq (xs := ct) (ys := [(x4, 1 + (Int.tmod (k4 + k7) 3), 2 + (Int.tmod (Int.tdiv k4 4) 14))]) (zs := l4) rfl Kj rfl rfl (Nat.le_refl _) (fun _ => .c (.c (.s (.s .h)))) cx (Fg.box (vss := [[sL mo x4.length mq, vI (1 + (Int.tmod (k4 + k7) 3)), vI (2 + (Int.tmod (Int.tdiv k4 4) 14))]]) (ys := [(x4, 1 + (Int.tmod (k4 + k7) 3), 2 + (Int.tmod (Int.tdiv k4 4) 14))]) 0 rfl kN (.cons ⟨_, _, rfl, ⟨_, _, rfl, h524⟩, ⟨_, _, rfl, rfl, rfl⟩⟩ .nil) rfl rfl) h526 g527 (by decide) ?_; intro a529 n533 c530 Lb531 hz532
      refine kO (kd kr) ?_
      refine Aa ⟨_, rfl, AN.refl _, [], by kernel_rfl, .inl (.inl rfl), nm, ?_⟩
      refine mS [13] rfl (Ah BF rfl) ?_
      refine ⟨_, [(240, sL a529 n533 c530), (241, .pointer (some ⟨cg, 4, none⟩))], rfl, rfl, z2, by kernel_rfl, ?_⟩; intro H
      refine By (i := 0) sizeOf24 rfl rfl rfl rfl (B2 rfl) (Aw rfl ?_)
      refine Aa ⟨undef, rfl, AN.refl _, [], by kernel_rfl, .inl (.inl rfl), nm, ?_⟩
      refine Bo ?_
      refine Ay (id := 11) (An ?_)
      refine uv (A0 rfl rfl (CC.Cs o3 qf g462)) ?_
      refine um (Aa ?_)
      exact le kr ⟨_, hk472, l4, a529, n533, c530, Lb531, r528, (((((s7.trans o4).trans lq).trans j4).trans gj).trans fj), rfl, z5, hz532⟩
     obtain rfl := CC.zero o3 qf
     rw [Dx] at qe
     refine AI (Am (Am ?_))
     refine At ?_
     obtain rfl := AP qe
     exact mi kr ⟨iz, j0, j1, fi, s7, rfl, z3, cx⟩
    rintro e1 F536 _ ⟨tx, tz, u0, o2, o7, rfl, he535, s8⟩
    refine Az _ he535 ?_
    replace lk := lk.m1 o7
    replace ll := ll.m2 o7
    refine AJ (uv (CA isAgg26 sizeOf26 0) (um ?_))
    obtain ⟨ok8, h538, r539⟩ := Av r453
    refine Bn rfl call12 rfl rfl rfl (pT ((fC fP).trans (pA ((fC fP).trans (pA ((fC fP).trans (pA pR)))))) (lp (lp (lp (ln rfl))))) (fun F2 h2 h3 => by rw [(C0.A6 lk).1]; rw [(AM.A6 ll).1]; rw [(AM.A6 s8).1]; exact M7 (lk.row kI h2 (aL h3)) (ll.row kJ h2 (aL (aR h3))) (s8.row kN h2 (aL (aR (aR h3)))) h538) ?_
    refine uv (Bz rfl) (Aa ?_)
    obtain ⟨g541, r542⟩ := AB r539
    refine AR rfl (fun c543 => absurd (g541.symm.trans c543) (by decide)) (fun c543 => ?_)
    refine Ao (Ay (id := 5) ?_)
    clear r542
    exact mi kn ⟨(hF445.trans o7), rfl, z1⟩
   refine An (uv (A0 rfl rfl (CC.Cs ns pj g209)) ?_)
   refine um (Aa ?_)
   exact le kr ⟨_, hk219, r221, (rq.trans hF546), rfl, z1⟩
  obtain rfl := CC.zero ns pj
  rw [AS] at ph
  refine AI (Am (Am ?_))
  refine At ?_
  clear ph
  exact mi kr ⟨rq, rfl, (sn _)⟩
 obtain ⟨h550, r551⟩ := Ij vx
 refine jF ([]) [] ?_ fun F1039 hF1040 => ?_
 ·clear r551
  refine AJ (um (Aa ?_))
  refine Ap ?_
  obtain ⟨g552, r553⟩ := AB h550
  refine Bb (fun fu8 e1 F1 L1 => ∃ (k8 : Int), CC 0 8 k8 fu8 ∧ AY fu8 k8 = some () ∧ AN F548 F1 ∧ L1 = [] ∧ e1.sub [(248, vI k8)]) _ (m0 kr ⟨_, CC.start _ _, r553, AN.refl _, rfl, z1⟩) ?_
  rintro fu8 e1 fk _ ⟨k8, o8, qg, s9, rfl, he557⟩
  refine Az _ he557 (AJ (uv (AV rfl rfl) ?_))
  refine Aa (Aq ?_)
  refine cQ (fun qh => ?_) fun qh => ?_
  ·obtain ⟨fu8, rfl, hk562⟩ := CC.succ o8 qh
   rw [AY] at qg
   refine Ao ?_
   obtain ⟨h563, r564⟩ := Ij qg
   refine jF ([]) [(248, vI k8)] ?_ fun F1036 u2 => ?_
   ·clear r564
    refine Ap ?_
    refine AJ (um (ua (Aa (Aq ?_))))
    obtain ⟨g565, r566⟩ := AB h563
    refine Bg [(.pre, 6), (.still, 0), (.still, 1), (.pre, 2), (.still, 3), (.seq, 4), (.alloc (ce (madeCells (sL none 0 0 : Value).cells (Int.toNat k8 * 1)) 22) (fun b => sL (aD b) (Int.toNat k8) (Int.toNat k8)) [(252, vI k8)], 2), (.still, 5), (.alloc (.cells (.agg #[sL none 0 0, sL none 0 0, vI 0, vI 0, sL none 0 0] : Value).cells 26 (0, 0)) (fun b => pO b) [], 6), (.seq, 7)] (by kernel_rfl) (by kernel_rfl) (⟨⟨_, _, rfl, rfl, rfl, rfl, rfl, OJ Fm (by decide) rfl g565⟩, ⟨⟨_, _, rfl, rfl, rfl, rfl, rfl, EI zeroValue26⟩, trivial⟩⟩) (by rfl) (by kernel_rfl) ?_
    refine ⟨⟨[], rfl, sn _, by kernel_rfl⟩, ?_⟩
    refine mS [18] rfl (AO rfl) (mS [18] rfl (AO rfl) ?_)
    refine ⟨⟨_, rfl, z1, by kernel_rfl⟩, ?_⟩
    refine mS [18] rfl (AO rfl) ?_
    refine ⟨_, [(254, vI k8)], rfl, rfl, z1, by kernel_rfl, ?_⟩; intro H
    obtain ⟨g567, r568⟩ := AB r566
    obtain ⟨l5, h569, r570⟩ := BC r568
    refine Hs (R := LI) (z0 := (none, 0, 0)) (zs := List.replicate (k8 : Int).toNat (none, 0, 0)) rfl Fm (by decide) Cv (fun _ => rfl) rfl g567 rfl (fun _ => .n) ?_; intro aq aa gk hO575
    have hz573 : C0 K.w0.heap.size 22 3 1 eI fk aq aa aa l5 gk := C0.made hO575 h569
    refine Aa ⟨_, rfl, AN.refl _, [1, 0], by kernel_rfl, .inl (.inr (fun d h => by cases h; rfl)), (fc sm (fc sm nm)), ?_⟩
    refine KT rfl ?_; intro ak hb577
    refine GI (L' := (ak, ce (madeCells (sL none 0 0 : Value).cells ((Int.toNat k8) * 1)) 22) :: (gk ++ [])) rfl ?_
    refine mS (v := .agg #[sL (aD ak) (Int.toNat k8) (Int.toNat k8), sL aq aa aa, vI k8, vI 0, sL none 0 0]) [251, 253, 255] rfl (BI (v := .agg #[sL (aD ak) (Int.toNat k8) (Int.toNat k8), sL aq aa aa, vI k8, vI 0, sL none 0 0]) rfl (by intro w; kernel_rfl)) ?_
    refine FT rfl ?_; intro ar hb578
    refine GI (L' := (ar, ce #[sL none 0 0, sL none 0 0, vI 0, vI 0, sL none 0 0] 26) :: ((ak, ce (madeCells (sL none 0 0 : Value).cells ((Int.toNat k8) * 1)) 22) :: (gk ++ []))) rfl ?_
    refine ⟨_, [(19, pO ar), (256, .agg #[sL (aD ak) (Int.toNat k8) (Int.toNat k8), sL aq aa aa, vI k8, vI 0, sL none 0 0])], rfl, rfl, z2, by kernel_rfl, ?_⟩; intro H
    obtain ⟨l6, h579, r580⟩ := BC r570
    have hO583 := AM.made (nb := K.w0.heap.size) (E := 22) (n := (Int.toNat k8)) (F := fk) (z := ((none, 0, 0) : Hd)) Cv (by decide) (fun _ => rfl) hb577 (OT g565)
    have sa : C0 K.w0.heap.size 22 3 1 eI fk (aD ak) (Int.toNat k8) (Int.toNat k8) l6 [(ak, ce (madeCells (sL none 0 0 : Value).cells ((Int.toNat k8) * 1)) 22)] := C0.made hO583 h579
    generalize qi : ([(ak, ce (madeCells (sL none 0 0 : Value).cells ((Int.toNat k8) * 1)) 22)] : LH) = Lb581 at sa
    refine BA (L' := Lb581 ++ ((ar, ce #[sL none 0 0, sL none 0 0, vI 0, vI 0, sL none 0 0] 26) :: (gk ++ []))) (by rw [← qi]; exact (fC fO)) ?_
    refine BA (L' := (ar, ce #[sL none 0 0, sL none 0 0, vI 0, vI 0, sL none 0 0] 26) :: (Lb581 ++ (gk ++ []))) (List.Perm.symm (fC fP)) (A8 (i := 0) sizeOf26 rfl rfl rfl (by simp [Value.oneCell']) rfl (B2 rfl) (Aw rfl ?_))
    refine Aa ⟨undef, rfl, AN.refl _, [], by kernel_rfl, .inl (.inl rfl), nm, ?_⟩
    refine Bo ?_
    refine AJ (ua (Aa ?_))
    obtain ⟨j5, j6, qj, h595, r596⟩ := Ia r580
    refine AU (fun e1 F1 L1 => ∃ (au : LH) (av : LH) (qk : Option Addr) (u3 : Nat) (ql : Nat) (o9 : LH), fk = F1 ∧ L1 = ((ar, ce #[sL (aD ak) (Int.toNat k8) (Int.toNat k8), sL aq aa aa, vI k8, vI 0, sL none 0 0] 26) :: (au ++ (av ++ (o9 ++ [])))) ∧ e1.sub [(18, vI k8), (19, pO ar), (20, sL qk u3 ql), (248, vI k8)] ∧ C0 K.w0.heap.size 22 3 1 eI F1 (aD ak) (Int.toNat k8) (Int.toNat k8) j5 au ∧ C0 K.w0.heap.size 22 3 1 eI F1 aq aa aa j6 av ∧ AM K.w0.heap.size 3 1 eI F1 qk u3 ql qj o9) ?_ ?_
    ·clear r596
     refine AJ (um (um (Aa ?_)))
     refine Ap ?_
     obtain ⟨g607, r608⟩ := AB h595
     refine Bb (fun fu9 e1 F1 L1 => ∃ (k9 : Int), CC 0 k8 k9 fu9 ∧ ∃ (dk : List (List Int)) (fl : List (List Int)) (lr : List Int) (ec : LH) (lu : LH) (qn : Option Addr) (qo : Nat) (qp : Nat) (lv : LH), Du k8 fu9 k9 dk fl lr = some (j5, j6, qj) ∧ fk = F1 ∧ L1 = ((ar, ce #[sL (aD ak) (Int.toNat k8) (Int.toNat k8), sL aq aa aa, vI k8, vI 0, sL none 0 0] 26) :: (ec ++ (lu ++ (lv ++ [])))) ∧ e1.sub [(18, vI k8), (19, pO ar), (20, sL qn qo qp), (248, vI k8), (257, vI k8), (258, vI k9)] ∧ C0 K.w0.heap.size 22 3 1 eI F1 (aD ak) (Int.toNat k8) (Int.toNat k8) dk ec ∧ C0 K.w0.heap.size 22 3 1 eI F1 aq aa aa fl lu ∧ AM K.w0.heap.size 3 1 eI F1 qn qo qp lr lv) _ (m0 (kc (ka (ka (ke kr)))) ⟨_, CC.start _ _, l6, l5, [], Lb581, gk, none, 0, 0, [], r608, rfl, rfl, z6, sa, hz573, AM.nil _ _ _ _ _⟩) ?_
     rintro fu9 e1 _ _ ⟨k9, oc, dk, fl, lr, ec, lu, qn, qo, qp, lv, qq, rfl, rfl, he612, sb, od, sd⟩
     refine Az _ he612 (AJ (uv (AV rfl rfl) ?_))
     refine Aa (Aq ?_)
     refine cQ (fun qs => ?_) fun qs => ?_
     ·obtain ⟨fu9, rfl, hk615⟩ := CC.succ oc qs
      rw [Du] at qq
      refine Ao ?_
      obtain ⟨fm, fo, oe, h626, r627⟩ := Ia qq
      refine AU (fun e1 F1 L1 => ∃ (lx : LH) (ly : LH) (qt : Option Addr) (qu : Nat) (qw : Nat) (ma : LH), fk = F1 ∧ L1 = ((ar, ce #[sL (aD ak) (Int.toNat k8) (Int.toNat k8), sL aq aa aa, vI k8, vI 0, sL none 0 0] 26) :: (lx ++ (ly ++ (ma ++ [])))) ∧ e1.sub [(18, vI k8), (19, pO ar), (20, sL qt qu qw), (248, vI k8), (257, vI k8), (258, vI k9)] ∧ C0 K.w0.heap.size 22 3 1 eI F1 (aD ak) (Int.toNat k8) (Int.toNat k8) fm lx ∧ C0 K.w0.heap.size 22 3 1 eI F1 aq aa aa fo ly ∧ AM K.w0.heap.size 3 1 eI F1 qt qu qw oe ma) ?_ ?_
      ·clear r627
       refine Ap ?_
       refine AJ (um (ua (BL (um (um ?_)))))
       refine bA (cs := #[vI k9]) Bp [vI k9] ?_; intro b628 hb628
       obtain ⟨se, h629, g630, r631⟩ := DS h626
       refine Cq (xs := lr) (ys := [k9]) (zs := se) rfl Bp rfl rfl (Nat.le_refl _) (fun _ => .c (.c (.s (.s .h)))) sd (Fg.box (vss := [[vI k9]]) (ys := [k9]) 0 rfl kI (.cons rfl .nil) rfl rfl) h629 g630 (by decide) ?_; intro a632 n636 c633 j7 hz635
       refine kO (kd kr) ?_
       refine ua (BL ?_)
       refine uv (Ah Df rfl) (uv (BM isAgg23 0) ?_)
       refine um (um ?_)
       refine bA (cs := #[vI k9]) Bp [vI k9] ?_; intro mr hb638
       obtain ⟨x5, u4, hx640, r641⟩ := Bi r631
       have sf := (C0.A6 od).1
       refine Mv (fC (fC (fS fP))) od hx640 ?_; intro hs642 og oh a645 n646 c647 oi hh649 oj hz651 hI652
       refine kO (kf (fS (fS (fS fO))) (kf (fS (fS (fS fO))) kr)) ?_
       obtain ⟨b655, o656, c657, vs658, sg, hs660, hle661, rfl, hl662, hc663⟩ := AM.at Cv oj (L := (mr, ce #[vI k9] 3) :: ((ar, ce #[sL (aD ak) (Int.toNat k8) (Int.toNat k8), sL aq aa aa, vI k8, vI 0, sL none 0 0] 26) :: (og ++ (oi ++ (oh ++ (ec ++ (j7 ++ []))))))) (fC (fC fP)) u4.1 hh649
       refine uv (Cx underlying23 sizeOf22 sg (KV sf u4)) ?_
       have sh : AM K.w0.heap.size 3 1 eI fk (aD mr) 1 1 [k9] [(mr, ce #[vI k9] 3)] := AM.BD (vss := [[vI k9]]) kI hb638 (.cons rfl .nil) rfl rfl (by simp [maxLen])
       generalize qx : ([(mr, ce #[vI k9] 3)] : LH) = Lb664 at sh
       refine BA (L' := Lb664 ++ ((ar, ce #[sL (aD ak) (Int.toNat k8) (Int.toNat k8), sL aq aa aa, vI k8, vI 0, sL none 0 0] 26) :: (og ++ (oi ++ (oh ++ (ec ++ (j7 ++ []))))))) (by rw [← qx]; exact fO) ?_
       refine BA (L' := (ar, ce #[sL (aD ak) (Int.toNat k8) (Int.toNat k8), sL aq aa aa, vI k8, vI 0, sL none 0 0] 26) :: (Lb664 ++ (og ++ (oi ++ (oh ++ (ec ++ (j7 ++ []))))))) (List.Perm.symm (fC fP)) ?_
       refine EH (zs := hs642.set (k9 : Int).toNat (((aD mr), 1, 1) : Hd)) (u := (((aD mr), 1, 1) : Hd)) sizeOf22 Cv rfl sg rfl rfl (fun _ => .c (.s .h)) oj rfl (QO sf oj u4) ?_; intro Lo667 hO668
       refine kO (kc (ka (ka (kx kr)))) ?_
       obtain ⟨b_2, h669, r670⟩ := BC r641
       refine Dv (p := fun X => C0 K.w0.heap.size 22 3 1 eI fk aq aa aa b_2 X) (K3.back hI652 hO668 sh h669) (pT ((fC (fS fP)).trans (pA ((fC fP).trans (pA ((fC fP).trans (pA pR)))))) (lp (lp (lp (ln rfl))))) ?_; intro si hz672
       refine kO (kf (fS fO) kr) ?_
       refine BL (um (um (Aa ?_)))
       refine Ap ?_
       obtain ⟨g675, r676⟩ := AB r670
       refine Bb (fun qy e1 F1 L1 => ∃ (bk : Int), CC 0 k8 bk qy ∧ ∃ (fp : List (List Int)) (mb : LH), C7 k9 se b_2 qy bk fp = some (fm, fo, oe) ∧ fk = F1 ∧ L1 = ((ar, ce #[sL (aD ak) (Int.toNat k8) (Int.toNat k8), sL aq aa aa, vI k8, vI 0, sL none 0 0] 26) :: (mb ++ (si ++ (j7 ++ [])))) ∧ e1.sub [(18, vI k8), (19, pO ar), (20, sL a632 n636 c633), (21, vI k9), (248, vI k8), (257, vI k8), (258, vI k9), (271, vI k8), (272, vI bk)] ∧ C0 K.w0.heap.size 22 3 1 eI F1 (aD ak) (Int.toNat k8) (Int.toNat k8) fp mb) _ (m0 (kc (kg (fS fP) kr)) ⟨_, CC.start _ _, dk, ec, r676, rfl, rfl, (sc rfl z8), sb⟩) ?_
       rintro qy e1 _ _ ⟨bk, oo, fp, mb, qz, rfl, rfl, he680, oq⟩
       refine Az _ he680 (AJ (uv (AV rfl rfl) ?_))
       refine Aa (Aq ?_)
       refine cQ (fun r0 => ?_) fun r0 => ?_
       ·obtain ⟨qy, rfl, hk683⟩ := CC.succ oo r0
        rw [C7] at qz
        refine Ao (Aq ?_)
        refine Ap ?_
        refine AJ (um (ua (Aa ?_)))
        obtain ⟨x6, ot, hx685, r686⟩ := Bi qz
        have ou := (C0.A6 oq).1
        refine I2 (fC fP) oq hx685 ?_; intro hs687 ow Lc689 a690 n691 c692 Lb693 sj mc hz696 hI697
        refine kW (kf (fS (fS (fS fO))) kr) (Bg [(.still, 0), (.still, 1), (.still, 2), (.still, 3), (.still, 4), (.still, 5), (.still, 6), (.still, 7), (.still, 8), (.still, 9), (.still, 10), (.still, 11), (.still, 12), (.still, 13), (.still, 14), (.still, 15), (.seq, 16), (.seq, 17), (.still, 18), (.seq, 19)] (by kernel_rfl) (by kernel_rfl) (trivial) (by rfl) (by kernel_rfl) (mS [19] rfl (Ah CI rfl) (mK [275] isAgg23 0 rfl rfl rfl rfl (mS [21] rfl (AO rfl) (mS [19] rfl (Ah CI rfl) (mK [278] isAgg23 0 rfl rfl rfl rfl (mS [21] rfl (AO rfl) ?_)))))))
        obtain ⟨b700, o701, c702, vs703, ha704, hs705, hle706, rfl, hl707, hc708⟩ := AM.at Cv mc (L := ow ++ []) fP ot.1 sj
        refine mS [279, 280] rfl (BQ underlying23 sizeOf22 rfl ha704 rfl (KV ou ot)) (mL [281] (ow ++ []) rfl (s0 (s1 (s4 (s3 (s3 (s3 (s3 sr))))))) (fun H F' L' tq tr => AG isAgg22 rfl (hs705.ext tq tr) (hc708 0 (by decide))) (mS [21] rfl (AO rfl) (mS [22] rfl (AO rfl) ?_)))
        obtain ⟨g709, r710⟩ := AB r686
        refine mS (v := vI (k9 - bk)) [283, 284] rfl (DP rfl rfl g709) (mS [22] rfl (AO rfl) (mS [21] rfl (AO rfl) ?_))
        obtain ⟨g711, r712⟩ := AB r710
        refine mS (v := vI (bk - k9)) [286, 287] rfl (DP rfl rfl g711) (mS (v := vI (if bk - k9 > k9 - bk then bk - k9 else k9 - bk)) [285, 288] rfl (OK rfl rfl) (mS (v := vI (if (if bk - k9 > k9 - bk then bk - k9 else k9 - bk) < 1 then (if bk - k9 > k9 - bk then bk - k9 else k9 - bk) else 1)) [289] rfl (PA rfl rfl) ?_))
        refine ⟨_, [(290, vI (if (if bk - k9 > k9 - bk then bk - k9 else k9 - bk) < 1 then (if bk - k9 > k9 - bk then bk - k9 else k9 - bk) else 1))], rfl, rfl, z1, by kernel_rfl, ?_⟩; intro H
        refine bA (cs := #[vI (if (if bk - k9 > k9 - bk then bk - k9 else k9 - bk) < 1 then (if bk - k9 > k9 - bk then bk - k9 else k9 - bk) else 1)]) Bp [vI (if (if bk - k9 > k9 - bk then bk - k9 else k9 - bk) < 1 then (if bk - k9 > k9 - bk then bk - k9 else k9 - bk) else 1)] ?_; intro b713 hb713
        refine Aa ⟨_, rfl, AN.refl _, [7, 6, 5, 4, 3, 2, 1, 0], by kernel_rfl, .inl (.inr (fun d h => by cases h; rfl)), (fc (s0 (s1 (s1 (s4 (s3 (s3 (s3 (s3 sr)))))))) (fc sm (fc sm (fc (s0 (s1 (s2 (s3 (s3 (s3 (s3 (s3 sr)))))))) (fc sm (fc sm (fc (s0 (s1 (s2 (s3 (s3 (s3 (s3 (s3 sr)))))))) (fc sm nm)))))))), ?_⟩
        refine ⟨_, [(282, sL a690 n691 c692), (291, sL (aD b713) 1 1)], rfl, rfl, z2, by kernel_rfl, ?_⟩; intro H
        obtain ⟨l7, h714, g715, r716⟩ := DS r712
        refine Cq (xs := x6) (ys := [if (if bk - k9 > k9 - bk then bk - k9 else k9 - bk) < 1 then (if bk - k9 > k9 - bk then bk - k9 else k9 - bk) else 1]) (zs := l7) rfl Bp rfl rfl (Nat.le_refl _) (fun _ => .c (.c (.s .h))) hz696 (Fg.box (vss := [[vI (if (if bk - k9 > k9 - bk then bk - k9 else k9 - bk) < 1 then (if bk - k9 > k9 - bk then bk - k9 else k9 - bk) else 1)]]) (ys := [if (if bk - k9 > k9 - bk then bk - k9 else k9 - bk) < 1 then (if bk - k9 > k9 - bk then bk - k9 else k9 - bk) else 1]) 0 rfl kI (.cons rfl .nil) rfl rfl) h714 g715 (by decide) ?_; intro u5 u6 u7 Lb719 hz720
        refine kO (kd kr) ?_
        refine Aa ⟨_, rfl, AN.refl _, [2, 1, 0], by kernel_rfl, .inl (.inr (fun d h => by cases h; rfl)), (fc sm (fc (s0 (s2 (s3 (s3 (s3 (s3 (s3 sr))))))) (fc sm nm))), ?_⟩
        obtain ⟨b723, o724, c725, vs726, sk, hs728, hle729, rfl, hl730, hc731⟩ := AM.at Cv mc (L := ow ++ []) fP ot.1 sj
        refine mS [276, 277] rfl (BQ underlying23 sizeOf22 rfl sk rfl (KV ou ot)) ?_
        refine ⟨_, [(292, sL u5 u6 u7), (293, .pointer (some ⟨b723, o724 + (k9 : Int).toNat * 1, none⟩))], rfl, rfl, z2, by kernel_rfl, ?_⟩; intro H
        refine EH (zs := hs687.set (k9 : Int).toNat (u5, u6, u7)) (u := (u5, u6, u7)) sizeOf22 Cv rfl sk rfl rfl (fun _ => .c .h) mc rfl (QO ou mc ot) ?_; intro Lo732 hO733
        obtain ⟨l8, h734, r735⟩ := BC r716
        refine Dv (p := fun X => C0 K.w0.heap.size 22 3 1 eI fk (aD ak) (Int.toNat k8) (Int.toNat k8) l8 X) (K3.back hI697 hO733 hz720 h734) (pT ((fC fP).trans (pA ((fC fP).trans (pA ((fC fP).trans (pA pR)))))) (lp (lp (lp (ln rfl))))) ?_; intro Lb736 hz737
        refine kO (kf (fS fO) kr) ?_
        refine Aa ⟨undef, rfl, AN.refl _, [], by kernel_rfl, .inl (.inl rfl), nm, ?_⟩
        refine Bo ?_
        refine Ay (id := 17) (An ?_)
        refine uv (A0 rfl rfl (CC.Cs oo r0 g675)) ?_
        refine um (Aa ?_)
        exact le kr ⟨_, hk683, l8, Lb736, r735, rfl, rfl, (sc rfl z8), hz737⟩
       obtain rfl := CC.zero oo r0
       rw [C7] at qz
       refine AI (Am (Am ?_))
       refine At (Ay (id := 15) ?_)
       obtain ⟨rfl, rfl, rfl⟩ := Kw qz
       exact mi kr ⟨mb, si, a632, n636, c633, j7, rfl, rfl, z6, oq, hz672, hz635⟩
      rintro e1 _ _ ⟨lx, ly, qt, qu, qw, ma, rfl, rfl, he738, hz617, hz619, hz623⟩
      refine Az _ he738 (An (uv (A0 rfl rfl (CC.Cs oc qs g607)) ?_))
      refine um (Aa ?_)
      exact le kr ⟨_, hk615, fm, fo, oe, lx, ly, qt, qu, qw, ma, r627, rfl, rfl, z6, hz617, hz619, hz623⟩
     obtain rfl := CC.zero oc qs
     rw [Du] at qq
     refine AI (Am (Am ?_))
     refine At ?_
     obtain ⟨rfl, rfl, rfl⟩ := Kw qq
     exact mi kr ⟨ec, lu, qn, qo, qp, lv, rfl, rfl, z4, sb, od, sd⟩
    rintro e1 _ _ ⟨au, av, qk, u3, ql, o9, rfl, rfl, he739, ad, ae, sq⟩
    refine Az _ he739 (AJ ?_)
    obtain ⟨y4, y5, n3, n4, y6, h740, r741⟩ := Fx r596
    refine c0 call4 (Fl h740) ?_; rintro _ _ _ hF743 ef ⟨az, fq, ep, dv, aw, cu, cr, ck, b754, b755, b756, rfl, rfl, rfl⟩
    have hb746 := ef _ mz
    have hb747 := ef _ (my mz)
    have hb748 := ef _ (my (my mz))
    have hb749 := ef _ (my (my (my mz)))
    have hb750 := ef _ (my (my (my (my mz))))
    have hb751 := ef _ (my (my (my (my (my mz)))))
    have hb752 := ef _ (my (my (my (my (my (my mz))))))
    have hb753 := ef _ (my (my (my (my (my (my (my mz)))))))
    refine Aw (lb (lb (lb (lb (lb (lb (lb (lb (lb (lb (lb (ln rfl)))))))))))) ?_
    obtain ⟨y7, y8, n5, n6, y9, h757, r758⟩ := Fx r741
    refine c0 call4 (Fl h757) ?_; rintro _ _ _ hF760 cz ⟨ax, bu, bp, bo, al, bh, bg, ba, aj, ay, u9, rfl, rfl, rfl⟩
    have hb763 := cz _ mz
    have hb764 := cz _ (my mz)
    have hb765 := cz _ (my (my mz))
    have hb766 := cz _ (my (my (my mz)))
    have hb767 := cz _ (my (my (my (my mz))))
    have hb768 := cz _ (my (my (my (my (my mz)))))
    have hb769 := cz _ (my (my (my (my (my (my mz))))))
    have hb770 := cz _ (my (my (my (my (my (my (my mz)))))))
    have hb771 := cz _ (my (my (my (my (my (my (my (my mz))))))))
    have hb772 := cz _ (my (my (my (my (my (my (my (my (my mz)))))))))
    have hb773 := cz _ (my (my (my (my (my (my (my (my (my (my mz))))))))))
    refine Aw (lb (lb (lb (lb (lb (lb (lb (lb (lb (lb (lb (ln rfl)))))))))))) ?_
    refine Bh rfl zeroValue26 ?_; intro bq hb774
    refine Bh rfl zeroValue26 ?_; intro br hb775
    refine A8 (i := 1) sizeOf26 rfl rfl rfl (by simp [Value.oneCell']) rfl (B2 rfl) (Aw rfl (A8 (i := 0) sizeOf26 rfl rfl rfl (by simp [Value.oneCell']) rfl (B2 rfl) (Aw rfl (BL (uv (Ah BF rfl) (By (i := 1) sizeOf24 rfl rfl rfl rfl (B2 rfl) (Aw rfl ?_)))))))
    refine Aa ?_
    obtain ⟨gl, dt, h785, r786⟩ := BT r758
    refine AU (fun e1 F1 L1 => ∃ (bl : Option Addr) (bm : Nat) (bn : Nat) (bd : LH) (cn : Option Addr) (cp : Nat), AN fk F1 ∧ L1 = ((br, ce #[sL (aD ax) 3 3, sL (aD al) 3 3, vI n5, vI n6, sL (aD aj) 2 2] 26) :: ((bq, ce #[sL (aD az) 3 3, sL (aD aw) 3 3, vI n3, vI n4, sL bl bm bn] 26) :: ((ax, ce #[sL (aD bu) 3 3, sL (aD bp) 3 3, sL (aD bo) 3 3] 22) :: ((bu, ce #[vI 0, vI 2, vI (-1)] 3) :: ((bp, ce #[vI 2, vI 0, vI 2] 3) :: ((bo, ce #[vI (-1), vI 2, vI 0] 3) :: ((al, ce #[sL (aD bh) 1 1, sL (aD bg) 1 1, sL (aD ba) 2 2] 22) :: ((bh, ce #[vI 0] 3) :: ((bg, ce #[vI 1] 3) :: ((ba, ce #[vI 1, vI 2] 3) :: ((aj, ce #[sL (aD ay) 2 2, vI 3, vI 12, sL cn dt.length cp, vI 1, vI 20] 35) :: ((ay, ce #[vI 0, vI 2] 3) :: ((az, ce #[sL (aD fq) 3 3, sL (aD ep) 3 3, sL (aD dv) 3 3] 22) :: ((fq, ce #[vI 0, vI 2, vI (-1)] 3) :: ((ep, ce #[vI 2, vI 0, vI 2] 3) :: ((dv, ce #[vI (-1), vI 2, vI 0] 3) :: ((aw, ce #[sL (aD cu) 1 1, sL (aD cr) 1 1, sL (aD ck) 2 2] 22) :: ((cu, ce #[vI 0] 3) :: ((cr, ce #[vI 1] 3) :: ((ck, ce #[vI 1, vI 2] 3) :: ((ar, ce #[sL (aD ak) (Int.toNat k8) (Int.toNat k8), sL aq aa aa, vI k8, vI 0, sL none 0 0] 26) :: (au ++ (av ++ (bd ++ [])))))))))))))))))))))))) ∧ e1.sub [(18, vI k8), (19, pO ar), (23, pO bq), (24, pO br), (248, vI k8)] ∧ AM K.w0.heap.size 35 3 eN F1 bl bm bn gl bd ∧ Ar 1 eI F1 cn cp dt) ?_ ?_
    ·clear r786
     refine AJ (um (um (Aa ?_)))
     refine Ap (kW (kc (kc (kc (kc (kc (kc (kc (kc (kc (kc (kc (kc (kc (kc (kc (kc (kc (kc (kc (kc (kc (kd (kd (kd kr)))))))))))))))))))))))) ?_)
     obtain rfl := (AM.A6 sq).1
     refine LB (Nat.le_refl _) kI (fC (fC (fC (fC (fC (fC (fC (fC (fC (fC (fC (fC (fC (fC (fC (fC (fC (fC (fC (fC (fC (fC (fS (fS fP)))))))))))))))))))))))) sq ?_; intro F787 hF788 jw
     refine Bk 12 rfl hb773 ?_; intro F790 ss hz792
     refine CU (L' := (br, ce #[sL (aD ax) 3 3, sL (aD al) 3 3, vI n5, vI n6, sL (aD aj) 2 2] 26) :: ((bq, ce #[sL (aD az) 3 3, sL (aD aw) 3 3, vI n3, vI n4, sL none 0 0] 26) :: ((ax, ce #[sL (aD bu) 3 3, sL (aD bp) 3 3, sL (aD bo) 3 3] 22) :: ((bu, ce #[vI 0, vI 2, vI (-1)] 3) :: ((bp, ce #[vI 2, vI 0, vI 2] 3) :: ((bo, ce #[vI (-1), vI 2, vI 0] 3) :: ((al, ce #[sL (aD bh) 1 1, sL (aD bg) 1 1, sL (aD ba) 2 2] 22) :: ((bh, ce #[vI 0] 3) :: ((bg, ce #[vI 1] 3) :: ((ba, ce #[vI 1, vI 2] 3) :: ((aj, ce #[sL (aD ay) 2 2, vI 3, vI 12, sL (aD u9) 1 1, vI 1, vI 20] 35) :: ((ay, ce #[vI 0, vI 2] 3) :: ((az, ce #[sL (aD fq) 3 3, sL (aD ep) 3 3, sL (aD dv) 3 3] 22) :: ((fq, ce #[vI 0, vI 2, vI (-1)] 3) :: ((ep, ce #[vI 2, vI 0, vI 2] 3) :: ((dv, ce #[vI (-1), vI 2, vI 0] 3) :: ((aw, ce #[sL (aD cu) 1 1, sL (aD cr) 1 1, sL (aD ck) 2 2] 22) :: ((cu, ce #[vI 0] 3) :: ((cr, ce #[vI 1] 3) :: ((ck, ce #[vI 1, vI 2] 3) :: ((ar, ce #[sL (aD ak) (Int.toNat k8) (Int.toNat k8), sL aq aa aa, vI k8, vI 0, sL none 0 0] 26) :: (au ++ (av ++ []))))))))))))))))))))))) rfl ?_
     replace jw := jw.m1 ss
     have h793 : Ar 1 eI F790 (aD u9) 1 [1] := Ar.oI hz792
     obtain ⟨g803, r804⟩ := AB h785
     refine NL (fun rb e1 F1 L1 => ∃ (nc : Int), CC 0 k8 nc rb ∧ ∃ (cv : List ((List Int) × Int × Int)) (me : List Int) (re : Option Addr) (rf : Nat) (rh : Nat) (mg : LH) (ri : Option Addr) (rj : Nat), C6 qj rb nc cv me = some (gl, dt) ∧ AN F790 F1 ∧ L1 = ((br, ce #[sL (aD ax) 3 3, sL (aD al) 3 3, vI n5, vI n6, sL (aD aj) 2 2] 26) :: ((bq, ce #[sL (aD az) 3 3, sL (aD aw) 3 3, vI n3, vI n4, sL re rf rh] 26) :: ((ax, ce #[sL (aD bu) 3 3, sL (aD bp) 3 3, sL (aD bo) 3 3] 22) :: ((bu, ce #[vI 0, vI 2, vI (-1)] 3) :: ((bp, ce #[vI 2, vI 0, vI 2] 3) :: ((bo, ce #[vI (-1), vI 2, vI 0] 3) :: ((al, ce #[sL (aD bh) 1 1, sL (aD bg) 1 1, sL (aD ba) 2 2] 22) :: ((bh, ce #[vI 0] 3) :: ((bg, ce #[vI 1] 3) :: ((ba, ce #[vI 1, vI 2] 3) :: ((aj, ce #[sL (aD ay) 2 2, vI 3, vI 12, sL ri me.length rj, vI 1, vI 20] 35) :: ((ay, ce #[vI 0, vI 2] 3) :: ((az, ce #[sL (aD fq) 3 3, sL (aD ep) 3 3, sL (aD dv) 3 3] 22) :: ((fq, ce #[vI 0, vI 2, vI (-1)] 3) :: ((ep, ce #[vI 2, vI 0, vI 2] 3) :: ((dv, ce #[vI (-1), vI 2, vI 0] 3) :: ((aw, ce #[sL (aD cu) 1 1, sL (aD cr) 1 1, sL (aD ck) 2 2] 22) :: ((cu, ce #[vI 0] 3) :: ((cr, ce #[vI 1] 3) :: ((ck, ce #[vI 1, vI 2] 3) :: ((ar, ce #[sL (aD ak) (Int.toNat k8) (Int.toNat k8), sL aq aa aa, vI k8, vI 0, sL none 0 0] 26) :: (au ++ (av ++ (mg ++ [])))))))))))))))))))))))) ∧ e1.sub [(18, vI k8), (19, pO ar), (20, sL qk qj.length ql), (23, pO bq), (24, pO br), (248, vI k8), (299, vI k8), (300, vI nc)] ∧ AM K.w0.heap.size 35 3 eN F1 re rf rh cv mg ∧ Ar 1 eI F1 ri rj me) _ (m0 (kc (kc (kc (kc (kc (kc (kc (kc (kc (kc (kc (kc (kc (kc (kc (kc (kc (kc (kc (kc (kc (ka (ka (ke kr)))))))))))))))))))))))) ⟨_, CC.start _ _, [], [1], none, 0, 0, [], (aD u9), 1, r804, AN.refl _, rfl, z8, AM.nil _ _ _ _ _, h793⟩) ?_
     rintro rb e1 F809 _ ⟨nc, mh, cv, me, re, rf, rh, mg, ri, rj, rk, oy, rfl, he808, mj, h802⟩
     refine Az _ he808 ?_
     replace jw := jw.m1 oy
     refine AJ (uv (AV rfl rfl) ?_)
     refine Aa (Aq ?_)
     refine cQ (fun oz => ?_) fun oz => ?_
     ·obtain ⟨rb, rfl, hk813⟩ := CC.succ mh oz
      rw [C6] at rk
      refine Ao (Aq ?_)
      refine Ap ?_
      refine AJ (um (ua (BL ?_)))
      refine uv (Ah BF rfl) (uv (BM isAgg24 1) (um (uv (EA rfl rfl (by decide)) ?_)))
      refine bA (cs := #[vI (Int.tmod nc 3)]) Bp [vI (Int.tmod nc 3)] ?_; intro p0 hb814
      refine uv (BI (v := .agg #[sL (aD p0) 1 1, vI 1, vI 30]) rfl (by intro w; kernel_rfl)) ?_
      refine bA (cs := #[sL (aD p0) 1 1, vI 1, vI 30]) Kj [.agg #[sL (aD p0) 1 1, vI 1, vI 30]] ?_; intro b815 hb815
      refine Br 1 rfl hb814 ?_; intro F816 p3 hz818
      refine Aw rfl ?_
      replace jw := jw.m1 p3
      replace mj := mj.m3 p3
      have h819 : Ar 1 eI F816 (aD p0) 1 [Int.tmod nc 3] := Ar.oI hz818
      obtain ⟨c, h820, g821, r822⟩ := DS rk
      refine Cq (xs := cv) (ys := [([Int.tmod nc 3], 1, 30)]) (zs := c) rfl Kj rfl rfl (Nat.le_refl _) (fun _ => .c (.c (.c (.c (.c (.c (.c (.c (.c (.c (.c (.c (.c (.c (.c (.c (.c (.c (.c (.c (.c (.c (.s (.s .h)))))))))))))))))))))))) mj (Fg.box (vss := [[sL (aD p0) [Int.tmod nc 3].length 1, vI 1, vI 30]]) (ys := [([Int.tmod nc 3], 1, 30)]) 0 rfl kN (.cons ⟨_, _, rfl, ⟨_, _, rfl, h819⟩, ⟨_, _, rfl, rfl, rfl⟩⟩ .nil) rfl rfl) h820 g821 (by decide) ?_; intro a823 n827 c824 Lb825 hz826
      refine kO (kd kr) (uv (Ah BF rfl) (By (i := 1) sizeOf24 rfl rfl rfl rfl (B2 rfl) (Aw rfl (Aa (Bg [(.still, 0), (.still, 1), (.still, 2), (.still, 3), (.still, 4), (.still, 5), (.still, 6), (.still, 7), (.seq, 8)] (by kernel_rfl) (by kernel_rfl) (trivial) (by rfl) (by kernel_rfl) (mS [24] rfl (Ah BF rfl) (mK [312] isAgg24 0 rfl rfl rfl rfl ?_)))))))
      refine mS [20] rfl (AO rfl) (mS [25] rfl (AO rfl) (mS (v := vI (nc + 1)) [315] rfl (A0 rfl rfl (CC.Cs mh oz g803)) ?_))
      obtain ⟨g829, r830⟩ := AB r822
      obtain ⟨p4, h831, r832⟩ := BC r830
      obtain ⟨ub, uc, h835, p5⟩ := Ar.slice kI jw g829 h831
      refine mS (v := sL ub p4.length uc) [314, 316] rfl ((J2 (l := 0) (h := nc + 1) underlying22 sizeOf3 rfl (.inl ⟨rfl, rfl⟩) (.inr ⟨_, rfl, rfl⟩) p5.1).eq p5.2) (mS (v := .pointer (some ⟨aj, 3, none⟩)) [313] rfl (Ee.eq (EM (i := 1) underlying24 sizeOf35 rfl rfl (by decide)) rfl) (mS [318] rfl (Ah GX rfl) ?_))
      refine ⟨_, [(317, sL ub p4.length uc), (319, .pointer (some ⟨aj, 3, none⟩))], rfl, rfl, z2, by kernel_rfl, ?_⟩; intro H
      refine By (i := 10) sizeOf22 rfl rfl rfl rfl (B2 rfl) (Aw rfl ?_)
      refine Aa ⟨undef, rfl, AN.refl _, [], by kernel_rfl, .inl (.inl rfl), nm, ?_⟩
      refine Bo ?_
      refine Ay (id := 19) (An ?_)
      refine uv (A0 rfl rfl (CC.Cs mh oz g803)) ?_
      refine um (Aa ?_)
      refine lf ?_
      exact mf kr ⟨_, hk813, c, p4, a823, n827, c824, Lb825, ub, uc, r832, (oy.trans p3), rfl, z8, hz826, h835⟩
     obtain rfl := CC.zero mh oz
     rw [C6] at rk
     refine AI (Am (Am ?_))
     refine At ?_
     obtain ⟨rfl, rfl⟩ := B9 rk
     exact mi kr ⟨re, rf, rh, mg, ri, rj, ((hF788.trans ss).trans oy), rfl, z5, mj, h802⟩
    rintro e1 F838 _ ⟨bl, bm, bn, bd, cn, cp, p6, rfl, he837, ab, bb⟩
    refine Az _ he837 ?_
    replace ad := ad.m1 p6
    replace ae := ae.m1 p6
    refine Aq (Aq ?_)
    refine Bk 13 rfl hb747 ?_; intro F840 j8 hz842
    refine CU (L' := (br, ce #[sL (aD ax) 3 3, sL (aD al) 3 3, vI n5, vI n6, sL (aD aj) 2 2] 26) :: ((bq, ce #[sL (aD az) 3 3, sL (aD aw) 3 3, vI n3, vI n4, sL bl bm bn] 26) :: ((ax, ce #[sL (aD bu) 3 3, sL (aD bp) 3 3, sL (aD bo) 3 3] 22) :: ((bu, ce #[vI 0, vI 2, vI (-1)] 3) :: ((bp, ce #[vI 2, vI 0, vI 2] 3) :: ((bo, ce #[vI (-1), vI 2, vI 0] 3) :: ((al, ce #[sL (aD bh) 1 1, sL (aD bg) 1 1, sL (aD ba) 2 2] 22) :: ((bh, ce #[vI 0] 3) :: ((bg, ce #[vI 1] 3) :: ((ba, ce #[vI 1, vI 2] 3) :: ((aj, ce #[sL (aD ay) 2 2, vI 3, vI 12, sL cn dt.length cp, vI 1, vI 20] 35) :: ((ay, ce #[vI 0, vI 2] 3) :: ((az, ce #[sL (aD fq) 3 3, sL (aD ep) 3 3, sL (aD dv) 3 3] 22) :: ((ep, ce #[vI 2, vI 0, vI 2] 3) :: ((dv, ce #[vI (-1), vI 2, vI 0] 3) :: ((aw, ce #[sL (aD cu) 1 1, sL (aD cr) 1 1, sL (aD ck) 2 2] 22) :: ((cu, ce #[vI 0] 3) :: ((cr, ce #[vI 1] 3) :: ((ck, ce #[vI 1, vI 2] 3) :: ((ar, ce #[sL (aD ak) (Int.toNat k8) (Int.toNat k8), sL aq aa aa, vI k8, vI 0, sL none 0 0] 26) :: (au ++ (av ++ (bd ++ []))))))))))))))))))))))) rfl ?_
    replace bb := bb.m1 j8
    replace ad := ad.m1 j8
    replace ae := ae.m1 j8
    replace ab := ab.m3 j8
    have jx : Ar 1 eI F840 (aD fq) 3 [0, 2, -1] := Ar.oI hz842
    refine Bk 13 rfl hb748 ?_; intro F844 gm hz846
    refine CU (L' := (br, ce #[sL (aD ax) 3 3, sL (aD al) 3 3, vI n5, vI n6, sL (aD aj) 2 2] 26) :: ((bq, ce #[sL (aD az) 3 3, sL (aD aw) 3 3, vI n3, vI n4, sL bl bm bn] 26) :: ((ax, ce #[sL (aD bu) 3 3, sL (aD bp) 3 3, sL (aD bo) 3 3] 22) :: ((bu, ce #[vI 0, vI 2, vI (-1)] 3) :: ((bp, ce #[vI 2, vI 0, vI 2] 3) :: ((bo, ce #[vI (-1), vI 2, vI 0] 3) :: ((al, ce #[sL (aD bh) 1 1, sL (aD bg) 1 1, sL (aD ba) 2 2] 22) :: ((bh, ce #[vI 0] 3) :: ((bg, ce #[vI 1] 3) :: ((ba, ce #[vI 1, vI 2] 3) :: ((aj, ce #[sL (aD ay) 2 2, vI 3, vI 12, sL cn dt.length cp, vI 1, vI 20] 35) :: ((ay, ce #[vI 0, vI 2] 3) :: ((az, ce (#[sL (aD fq) [0, 2, -1].length 3, sL (aD ep) 3 3, sL (aD dv) 3 3]) 22) :: ((dv, ce #[vI (-1), vI 2, vI 0] 3) :: ((aw, ce #[sL (aD cu) 1 1, sL (aD cr) 1 1, sL (aD ck) 2 2] 22) :: ((cu, ce #[vI 0] 3) :: ((cr, ce #[vI 1] 3) :: ((ck, ce #[vI 1, vI 2] 3) :: ((ar, ce #[sL (aD ak) (Int.toNat k8) (Int.toNat k8), sL aq aa aa, vI k8, vI 0, sL none 0 0] 26) :: (au ++ (av ++ (bd ++ [])))))))))))))))))))))) rfl ?_
    replace bb := bb.m1 gm
    replace jx := jx.m1 gm
    replace ad := ad.m1 gm
    replace ae := ae.m1 gm
    replace ab := ab.m3 gm
    have p7 : Ar 1 eI F844 (aD ep) 3 [2, 0, 2] := Ar.oI hz846
    refine Bk 13 rfl hb749 ?_; intro F848 fs hz850
    refine CU (L' := (br, ce #[sL (aD ax) 3 3, sL (aD al) 3 3, vI n5, vI n6, sL (aD aj) 2 2] 26) :: ((bq, ce #[sL (aD az) 3 3, sL (aD aw) 3 3, vI n3, vI n4, sL bl bm bn] 26) :: ((ax, ce #[sL (aD bu) 3 3, sL (aD bp) 3 3, sL (aD bo) 3 3] 22) :: ((bu, ce #[vI 0, vI 2, vI (-1)] 3) :: ((bp, ce #[vI 2, vI 0, vI 2] 3) :: ((bo, ce #[vI (-1), vI 2, vI 0] 3) :: ((al, ce #[sL (aD bh) 1 1, sL (aD bg) 1 1, sL (aD ba) 2 2] 22) :: ((bh, ce #[vI 0] 3) :: ((bg, ce #[vI 1] 3) :: ((ba, ce #[vI 1, vI 2] 3) :: ((aj, ce #[sL (aD ay) 2 2, vI 3, vI 12, sL cn dt.length cp, vI 1, vI 20] 35) :: ((ay, ce #[vI 0, vI 2] 3) :: ((az, ce (#[sL (aD fq) [0, 2, -1].length 3, sL (aD ep) [2, 0, 2].length 3, sL (aD dv) 3 3]) 22) :: ((aw, ce #[sL (aD cu) 1 1, sL (aD cr) 1 1, sL (aD ck) 2 2] 22) :: ((cu, ce #[vI 0] 3) :: ((cr, ce #[vI 1] 3) :: ((ck, ce #[vI 1, vI 2] 3) :: ((ar, ce #[sL (aD ak) (Int.toNat k8) (Int.toNat k8), sL aq aa aa, vI k8, vI 0, sL none 0 0] 26) :: (au ++ (av ++ (bd ++ []))))))))))))))))))))) rfl ?_
    replace bb := bb.m1 fs
    replace jx := jx.m1 fs
    replace p7 := p7.m1 fs
    replace ad := ad.m1 fs
    replace ae := ae.m1 fs
    replace ab := ab.m3 fs
    have ud : Ar 1 eI F848 (aD dv) 3 [-1, 2, 0] := Ar.oI hz850
    refine Bk 12 rfl hb746 ?_; intro F852 eg hz854
    refine CU (L' := (br, ce #[sL (aD ax) 3 3, sL (aD al) 3 3, vI n5, vI n6, sL (aD aj) 2 2] 26) :: ((bq, ce #[sL (aD az) 3 3, sL (aD aw) 3 3, vI n3, vI n4, sL bl bm bn] 26) :: ((ax, ce #[sL (aD bu) 3 3, sL (aD bp) 3 3, sL (aD bo) 3 3] 22) :: ((bu, ce #[vI 0, vI 2, vI (-1)] 3) :: ((bp, ce #[vI 2, vI 0, vI 2] 3) :: ((bo, ce #[vI (-1), vI 2, vI 0] 3) :: ((al, ce #[sL (aD bh) 1 1, sL (aD bg) 1 1, sL (aD ba) 2 2] 22) :: ((bh, ce #[vI 0] 3) :: ((bg, ce #[vI 1] 3) :: ((ba, ce #[vI 1, vI 2] 3) :: ((aj, ce #[sL (aD ay) 2 2, vI 3, vI 12, sL cn dt.length cp, vI 1, vI 20] 35) :: ((ay, ce #[vI 0, vI 2] 3) :: ((aw, ce #[sL (aD cu) 1 1, sL (aD cr) 1 1, sL (aD ck) 2 2] 22) :: ((cu, ce #[vI 0] 3) :: ((cr, ce #[vI 1] 3) :: ((ck, ce #[vI 1, vI 2] 3) :: ((ar, ce #[sL (aD ak) (Int.toNat k8) (Int.toNat k8), sL aq aa aa, vI k8, vI 0, sL none 0 0] 26) :: (au ++ (av ++ (bd ++ [])))))))))))))))))))) rfl ?_
    replace bb := bb.m1 eg
    replace jx := jx.m1 eg
    replace p7 := p7.m1 eg
    replace ud := ud.m1 eg
    replace ad := ad.m1 eg
    replace ae := ae.m1 eg
    replace ab := ab.m3 eg
    have bj : Ar 1 eJ F852 (aD az) 3 [[0, 2, -1], [2, 0, 2], [-1, 2, 0]] := Ar.BD kJ (vss := [[sL (aD fq) [0, 2, -1].length 3], [sL (aD ep) [2, 0, 2].length 3], [sL (aD dv) [-1, 2, 0].length 3]]) (xs := [[0, 2, -1], [2, 0, 2], [-1, 2, 0]]) hz854 (.cons ⟨_, _, rfl, jx⟩ (.cons ⟨_, _, rfl, p7⟩ (.cons ⟨_, _, rfl, ud⟩ .nil))) rfl (by simp [maxLen])
    refine Bk 13 rfl hb751 ?_; intro F856 gn hz858
    refine CU (L' := (br, ce #[sL (aD ax) 3 3, sL (aD al) 3 3, vI n5, vI n6, sL (aD aj) 2 2] 26) :: ((bq, ce (#[sL (aD az) [[0, 2, -1], [2, 0, 2], [-1, 2, 0]].length 3, sL (aD aw) 3 3, vI n3, vI n4, sL bl bm bn]) 26) :: ((ax, ce #[sL (aD bu) 3 3, sL (aD bp) 3 3, sL (aD bo) 3 3] 22) :: ((bu, ce #[vI 0, vI 2, vI (-1)] 3) :: ((bp, ce #[vI 2, vI 0, vI 2] 3) :: ((bo, ce #[vI (-1), vI 2, vI 0] 3) :: ((al, ce #[sL (aD bh) 1 1, sL (aD bg) 1 1, sL (aD ba) 2 2] 22) :: ((bh, ce #[vI 0] 3) :: ((bg, ce #[vI 1] 3) :: ((ba, ce #[vI 1, vI 2] 3) :: ((aj, ce #[sL (aD ay) 2 2, vI 3, vI 12, sL cn dt.length cp, vI 1, vI 20] 35) :: ((ay, ce #[vI 0, vI 2] 3) :: ((aw, ce #[sL (aD cu) 1 1, sL (aD cr) 1 1, sL (aD ck) 2 2] 22) :: ((cr, ce #[vI 1] 3) :: ((ck, ce #[vI 1, vI 2] 3) :: ((ar, ce #[sL (aD ak) (Int.toNat k8) (Int.toNat k8), sL aq aa aa, vI k8, vI 0, sL none 0 0] 26) :: (au ++ (av ++ (bd ++ []))))))))))))))))))) rfl ?_
    replace bb := bb.m1 gn
    replace bj := bj.m2 gn
    replace ad := ad.m1 gn
    replace ae := ae.m1 gn
    replace ab := ab.m3 gn
    have jz : Ar 1 eI F856 (aD cu) 1 [0] := Ar.oI hz858
    refine Bk 13 rfl hb752 ?_; intro F860 ft hz862
    refine CU (L' := (br, ce #[sL (aD ax) 3 3, sL (aD al) 3 3, vI n5, vI n6, sL (aD aj) 2 2] 26) :: ((bq, ce (#[sL (aD az) [[0, 2, -1], [2, 0, 2], [-1, 2, 0]].length 3, sL (aD aw) 3 3, vI n3, vI n4, sL bl bm bn]) 26) :: ((ax, ce #[sL (aD bu) 3 3, sL (aD bp) 3 3, sL (aD bo) 3 3] 22) :: ((bu, ce #[vI 0, vI 2, vI (-1)] 3) :: ((bp, ce #[vI 2, vI 0, vI 2] 3) :: ((bo, ce #[vI (-1), vI 2, vI 0] 3) :: ((al, ce #[sL (aD bh) 1 1, sL (aD bg) 1 1, sL (aD ba) 2 2] 22) :: ((bh, ce #[vI 0] 3) :: ((bg, ce #[vI 1] 3) :: ((ba, ce #[vI 1, vI 2] 3) :: ((aj, ce #[sL (aD ay) 2 2, vI 3, vI 12, sL cn dt.length cp, vI 1, vI 20] 35) :: ((ay, ce #[vI 0, vI 2] 3) :: ((aw, ce (#[sL (aD cu) [0].length 1, sL (aD cr) 1 1, sL (aD ck) 2 2]) 22) :: ((ck, ce #[vI 1, vI 2] 3) :: ((ar, ce #[sL (aD ak) (Int.toNat k8) (Int.toNat k8), sL aq aa aa, vI k8, vI 0, sL none 0 0] 26) :: (au ++ (av ++ (bd ++ [])))))))))))))))))) rfl ?_
    replace bb := bb.m1 ft
    replace bj := bj.m2 ft
    replace jz := jz.m1 ft
    replace ad := ad.m1 ft
    replace ae := ae.m1 ft
    replace ab := ab.m3 ft
    have p8 : Ar 1 eI F860 (aD cr) 1 [1] := Ar.oI hz862
    refine Bk 13 rfl hb753 ?_; intro F864 eh hz866
    refine CU (L' := (br, ce #[sL (aD ax) 3 3, sL (aD al) 3 3, vI n5, vI n6, sL (aD aj) 2 2] 26) :: ((bq, ce (#[sL (aD az) [[0, 2, -1], [2, 0, 2], [-1, 2, 0]].length 3, sL (aD aw) 3 3, vI n3, vI n4, sL bl bm bn]) 26) :: ((ax, ce #[sL (aD bu) 3 3, sL (aD bp) 3 3, sL (aD bo) 3 3] 22) :: ((bu, ce #[vI 0, vI 2, vI (-1)] 3) :: ((bp, ce #[vI 2, vI 0, vI 2] 3) :: ((bo, ce #[vI (-1), vI 2, vI 0] 3) :: ((al, ce #[sL (aD bh) 1 1, sL (aD bg) 1 1, sL (aD ba) 2 2] 22) :: ((bh, ce #[vI 0] 3) :: ((bg, ce #[vI 1] 3) :: ((ba, ce #[vI 1, vI 2] 3) :: ((aj, ce #[sL (aD ay) 2 2, vI 3, vI 12, sL cn dt.length cp, vI 1, vI 20] 35) :: ((ay, ce #[vI 0, vI 2] 3) :: ((aw, ce (#[sL (aD cu) [0].length 1, sL (aD cr) [1].length 1, sL (aD ck) 2 2]) 22) :: ((ar, ce #[sL (aD ak) (Int.toNat k8) (Int.toNat k8), sL aq aa aa, vI k8, vI 0, sL none 0 0] 26) :: (au ++ (av ++ (bd ++ []))))))))))))))))) rfl ?_
    replace bb := bb.m1 eh
    replace bj := bj.m2 eh
    replace jz := jz.m1 eh
    replace p8 := p8.m1 eh
    replace ad := ad.m1 eh
    replace ae := ae.m1 eh
    replace ab := ab.m3 eh
    have ue : Ar 1 eI F864 (aD ck) 2 [1, 2] := Ar.oI hz866
    refine Bk 12 rfl hb750 ?_; intro F868 dm hz870
    refine CU (L' := (br, ce #[sL (aD ax) 3 3, sL (aD al) 3 3, vI n5, vI n6, sL (aD aj) 2 2] 26) :: ((bq, ce (#[sL (aD az) [[0, 2, -1], [2, 0, 2], [-1, 2, 0]].length 3, sL (aD aw) 3 3, vI n3, vI n4, sL bl bm bn]) 26) :: ((ax, ce #[sL (aD bu) 3 3, sL (aD bp) 3 3, sL (aD bo) 3 3] 22) :: ((bu, ce #[vI 0, vI 2, vI (-1)] 3) :: ((bp, ce #[vI 2, vI 0, vI 2] 3) :: ((bo, ce #[vI (-1), vI 2, vI 0] 3) :: ((al, ce #[sL (aD bh) 1 1, sL (aD bg) 1 1, sL (aD ba) 2 2] 22) :: ((bh, ce #[vI 0] 3) :: ((bg, ce #[vI 1] 3) :: ((ba, ce #[vI 1, vI 2] 3) :: ((aj, ce #[sL (aD ay) 2 2, vI 3, vI 12, sL cn dt.length cp, vI 1, vI 20] 35) :: ((ay, ce #[vI 0, vI 2] 3) :: ((ar, ce #[sL (aD ak) (Int.toNat k8) (Int.toNat k8), sL aq aa aa, vI k8, vI 0, sL none 0 0] 26) :: (au ++ (av ++ (bd ++ [])))))))))))))))) rfl ?_
    replace bb := bb.m1 dm
    replace bj := bj.m2 dm
    replace jz := jz.m1 dm
    replace p8 := p8.m1 dm
    replace ue := ue.m1 dm
    replace ad := ad.m1 dm
    replace ae := ae.m1 dm
    replace ab := ab.m3 dm
    have bx : Ar 1 eJ F868 (aD aw) 3 [[0], [1], [1, 2]] := Ar.BD kJ (vss := [[sL (aD cu) [0].length 1], [sL (aD cr) [1].length 1], [sL (aD ck) [1, 2].length 2]]) (xs := [[0], [1], [1, 2]]) hz870 (.cons ⟨_, _, rfl, jz⟩ (.cons ⟨_, _, rfl, p8⟩ (.cons ⟨_, _, rfl, ue⟩ .nil))) rfl (by simp [maxLen])
    refine Bk 3 rfl hb764 ?_; intro F872 fv hz874
    refine CU (L' := (br, ce #[sL (aD ax) 3 3, sL (aD al) 3 3, vI n5, vI n6, sL (aD aj) 2 2] 26) :: ((bq, ce (#[sL (aD az) [[0, 2, -1], [2, 0, 2], [-1, 2, 0]].length 3, sL (aD aw) [[0], [1], [1, 2]].length 3, vI n3, vI n4, sL bl bm bn]) 26) :: ((ax, ce #[sL (aD bu) 3 3, sL (aD bp) 3 3, sL (aD bo) 3 3] 22) :: ((bp, ce #[vI 2, vI 0, vI 2] 3) :: ((bo, ce #[vI (-1), vI 2, vI 0] 3) :: ((al, ce #[sL (aD bh) 1 1, sL (aD bg) 1 1, sL (aD ba) 2 2] 22) :: ((bh, ce #[vI 0] 3) :: ((bg, ce #[vI 1] 3) :: ((ba, ce #[vI 1, vI 2] 3) :: ((aj, ce #[sL (aD ay) 2 2, vI 3, vI 12, sL cn dt.length cp, vI 1, vI 20] 35) :: ((ay, ce #[vI 0, vI 2] 3) :: ((ar, ce #[sL (aD ak) (Int.toNat k8) (Int.toNat k8), sL aq aa aa, vI k8, vI 0, sL none 0 0] 26) :: (au ++ (av ++ (bd ++ []))))))))))))))) rfl ?_
    replace bb := bb.m1 fv
    replace bj := bj.m2 fv
    replace bx := bx.m2 fv
    replace ad := ad.m1 fv
    replace ae := ae.m1 fv
    replace ab := ab.m3 fv
    have kb : Ar 1 eI F872 (aD bu) 3 [0, 2, -1] := Ar.oI hz874
    refine Bk 3 rfl hb765 ?_; intro F876 ei hz878
    refine CU (L' := (br, ce #[sL (aD ax) 3 3, sL (aD al) 3 3, vI n5, vI n6, sL (aD aj) 2 2] 26) :: ((bq, ce (#[sL (aD az) [[0, 2, -1], [2, 0, 2], [-1, 2, 0]].length 3, sL (aD aw) [[0], [1], [1, 2]].length 3, vI n3, vI n4, sL bl bm bn]) 26) :: ((ax, ce (#[sL (aD bu) [0, 2, -1].length 3, sL (aD bp) 3 3, sL (aD bo) 3 3]) 22) :: ((bo, ce #[vI (-1), vI 2, vI 0] 3) :: ((al, ce #[sL (aD bh) 1 1, sL (aD bg) 1 1, sL (aD ba) 2 2] 22) :: ((bh, ce #[vI 0] 3) :: ((bg, ce #[vI 1] 3) :: ((ba, ce #[vI 1, vI 2] 3) :: ((aj, ce #[sL (aD ay) 2 2, vI 3, vI 12, sL cn dt.length cp, vI 1, vI 20] 35) :: ((ay, ce #[vI 0, vI 2] 3) :: ((ar, ce #[sL (aD ak) (Int.toNat k8) (Int.toNat k8), sL aq aa aa, vI k8, vI 0, sL none 0 0] 26) :: (au ++ (av ++ (bd ++ [])))))))))))))) rfl ?_
    replace bb := bb.m1 ei
    replace bj := bj.m2 ei
    replace bx := bx.m2 ei
    replace kb := kb.m1 ei
    replace ad := ad.m1 ei
    replace ae := ae.m1 ei
    replace ab := ab.m3 ei
    have p9 : Ar 1 eI F876 (aD bp) 3 [2, 0, 2] := Ar.oI hz878
    refine Bk 3 rfl hb766 ?_; intro F880 dp hz882
    refine CU (L' := (br, ce #[sL (aD ax) 3 3, sL (aD al) 3 3, vI n5, vI n6, sL (aD aj) 2 2] 26) :: ((bq, ce (#[sL (aD az) [[0, 2, -1], [2, 0, 2], [-1, 2, 0]].length 3, sL (aD aw) [[0], [1], [1, 2]].length 3, vI n3, vI n4, sL bl bm bn]) 26) :: ((ax, ce (#[sL (aD bu) [0, 2, -1].length 3, sL (aD bp) [2, 0, 2].length 3, sL (aD bo) 3 3]) 22) :: ((al, ce #[sL (aD bh) 1 1, sL (aD bg) 1 1, sL (aD ba) 2 2] 22) :: ((bh, ce #[vI 0] 3) :: ((bg, ce #[vI 1] 3) :: ((ba, ce #[vI 1, vI 2] 3) :: ((aj, ce #[sL (aD ay) 2 2, vI 3, vI 12, sL cn dt.length cp, vI 1, vI 20] 35) :: ((ay, ce #[vI 0, vI 2] 3) :: ((ar, ce #[sL (aD ak) (Int.toNat k8) (Int.toNat k8), sL aq aa aa, vI k8, vI 0, sL none 0 0] 26) :: (au ++ (av ++ (bd ++ []))))))))))))) rfl ?_
    replace bb := bb.m1 dp
    replace bj := bj.m2 dp
    replace bx := bx.m2 dp
    replace kb := kb.m1 dp
    replace p9 := p9.m1 dp
    replace ad := ad.m1 dp
    replace ae := ae.m1 dp
    replace ab := ab.m3 dp
    have uf : Ar 1 eI F880 (aD bo) 3 [-1, 2, 0] := Ar.oI hz882
    refine Bk 2 rfl hb763 ?_; intro F884 df hz886
    refine CU (L' := (br, ce #[sL (aD ax) 3 3, sL (aD al) 3 3, vI n5, vI n6, sL (aD aj) 2 2] 26) :: ((bq, ce (#[sL (aD az) [[0, 2, -1], [2, 0, 2], [-1, 2, 0]].length 3, sL (aD aw) [[0], [1], [1, 2]].length 3, vI n3, vI n4, sL bl bm bn]) 26) :: ((al, ce #[sL (aD bh) 1 1, sL (aD bg) 1 1, sL (aD ba) 2 2] 22) :: ((bh, ce #[vI 0] 3) :: ((bg, ce #[vI 1] 3) :: ((ba, ce #[vI 1, vI 2] 3) :: ((aj, ce #[sL (aD ay) 2 2, vI 3, vI 12, sL cn dt.length cp, vI 1, vI 20] 35) :: ((ay, ce #[vI 0, vI 2] 3) :: ((ar, ce #[sL (aD ak) (Int.toNat k8) (Int.toNat k8), sL aq aa aa, vI k8, vI 0, sL none 0 0] 26) :: (au ++ (av ++ (bd ++ [])))))))))))) rfl ?_
    replace bb := bb.m1 df
    replace bj := bj.m2 df
    replace bx := bx.m2 df
    replace kb := kb.m1 df
    replace p9 := p9.m1 df
    replace uf := uf.m1 df
    replace ad := ad.m1 df
    replace ae := ae.m1 df
    replace ab := ab.m3 df
    have dw : Ar 1 eJ F884 (aD ax) 3 [[0, 2, -1], [2, 0, 2], [-1, 2, 0]] := Ar.BD kJ (vss := [[sL (aD bu) [0, 2, -1].length 3], [sL (aD bp) [2, 0, 2].length 3], [sL (aD bo) [-1, 2, 0].length 3]]) (xs := [[0, 2, -1], [2, 0, 2], [-1, 2, 0]]) hz886 (.cons ⟨_, _, rfl, kb⟩ (.cons ⟨_, _, rfl, p9⟩ (.cons ⟨_, _, rfl, uf⟩ .nil))) rfl (by simp [maxLen])
    refine Bk 3 rfl hb768 ?_; intro F888 ej hz890
    refine CU (L' := (br, ce (#[sL (aD ax) [[0, 2, -1], [2, 0, 2], [-1, 2, 0]].length 3, sL (aD al) 3 3, vI n5, vI n6, sL (aD aj) 2 2]) 26) :: ((bq, ce (#[sL (aD az) [[0, 2, -1], [2, 0, 2], [-1, 2, 0]].length 3, sL (aD aw) [[0], [1], [1, 2]].length 3, vI n3, vI n4, sL bl bm bn]) 26) :: ((al, ce #[sL (aD bh) 1 1, sL (aD bg) 1 1, sL (aD ba) 2 2] 22) :: ((bg, ce #[vI 1] 3) :: ((ba, ce #[vI 1, vI 2] 3) :: ((aj, ce #[sL (aD ay) 2 2, vI 3, vI 12, sL cn dt.length cp, vI 1, vI 20] 35) :: ((ay, ce #[vI 0, vI 2] 3) :: ((ar, ce #[sL (aD ak) (Int.toNat k8) (Int.toNat k8), sL aq aa aa, vI k8, vI 0, sL none 0 0] 26) :: (au ++ (av ++ (bd ++ []))))))))))) rfl ?_
    replace bb := bb.m1 ej
    replace bj := bj.m2 ej
    replace bx := bx.m2 ej
    replace dw := dw.m2 ej
    replace ad := ad.m1 ej
    replace ae := ae.m1 ej
    replace ab := ab.m3 ej
    have kh : Ar 1 eI F888 (aD bh) 1 [0] := Ar.oI hz890
    refine Bk 3 rfl hb769 ?_; intro F892 dq hz894
    refine CU (L' := (br, ce (#[sL (aD ax) [[0, 2, -1], [2, 0, 2], [-1, 2, 0]].length 3, sL (aD al) 3 3, vI n5, vI n6, sL (aD aj) 2 2]) 26) :: ((bq, ce (#[sL (aD az) [[0, 2, -1], [2, 0, 2], [-1, 2, 0]].length 3, sL (aD aw) [[0], [1], [1, 2]].length 3, vI n3, vI n4, sL bl bm bn]) 26) :: ((al, ce (#[sL (aD bh) [0].length 1, sL (aD bg) 1 1, sL (aD ba) 2 2]) 22) :: ((ba, ce #[vI 1, vI 2] 3) :: ((aj, ce #[sL (aD ay) 2 2, vI 3, vI 12, sL cn dt.length cp, vI 1, vI 20] 35) :: ((ay, ce #[vI 0, vI 2] 3) :: ((ar, ce #[sL (aD ak) (Int.toNat k8) (Int.toNat k8), sL aq aa aa, vI k8, vI 0, sL none 0 0] 26) :: (au ++ (av ++ (bd ++ [])))))))))) rfl ?_
    replace bb := bb.m1 dq
    replace bj := bj.m2 dq
    replace bx := bx.m2 dq
    replace dw := dw.m2 dq
    replace kh := kh.m1 dq
    replace ad := ad.m1 dq
    replace ae := ae.m1 dq
    replace ab := ab.m3 dq
    have pa : Ar 1 eI F892 (aD bg) 1 [1] := Ar.oI hz894
    refine Bk 3 rfl hb770 ?_; intro F896 dg hz898
    refine CU (L' := (br, ce (#[sL (aD ax) [[0, 2, -1], [2, 0, 2], [-1, 2, 0]].length 3, sL (aD al) 3 3, vI n5, vI n6, sL (aD aj) 2 2]) 26) :: ((bq, ce (#[sL (aD az) [[0, 2, -1], [2, 0, 2], [-1, 2, 0]].length 3, sL (aD aw) [[0], [1], [1, 2]].length 3, vI n3, vI n4, sL bl bm bn]) 26) :: ((al, ce (#[sL (aD bh) [0].length 1, sL (aD bg) [1].length 1, sL (aD ba) 2 2]) 22) :: ((aj, ce #[sL (aD ay) 2 2, vI 3, vI 12, sL cn dt.length cp, vI 1, vI 20] 35) :: ((ay, ce #[vI 0, vI 2] 3) :: ((ar, ce #[sL (aD ak) (Int.toNat k8) (Int.toNat k8), sL aq aa aa, vI k8, vI 0, sL none 0 0] 26) :: (au ++ (av ++ (bd ++ []))))))))) rfl ?_
    replace bb := bb.m1 dg
    replace bj := bj.m2 dg
    replace bx := bx.m2 dg
    replace dw := dw.m2 dg
    replace kh := kh.m1 dg
    replace pa := pa.m1 dg
    replace ad := ad.m1 dg
    replace ae := ae.m1 dg
    replace ab := ab.m3 dg
    have ug : Ar 1 eI F896 (aD ba) 2 [1, 2] := Ar.oI hz898
    refine Bk 2 rfl hb767 ?_; intro F900 da hz902
    refine CU (L' := (br, ce (#[sL (aD ax) [[0, 2, -1], [2, 0, 2], [-1, 2, 0]].length 3, sL (aD al) 3 3, vI n5, vI n6, sL (aD aj) 2 2]) 26) :: ((bq, ce (#[sL (aD az) [[0, 2, -1], [2, 0, 2], [-1, 2, 0]].length 3, sL (aD aw) [[0], [1], [1, 2]].length 3, vI n3, vI n4, sL bl bm bn]) 26) :: ((aj, ce #[sL (aD ay) 2 2, vI 3, vI 12, sL cn dt.length cp, vI 1, vI 20] 35) :: ((ay, ce #[vI 0, vI 2] 3) :: ((ar, ce #[sL (aD ak) (Int.toNat k8) (Int.toNat k8), sL aq aa aa, vI k8, vI 0, sL none 0 0] 26) :: (au ++ (av ++ (bd ++ [])))))))) rfl ?_
    replace bb := bb.m1 da
    replace bj := bj.m2 da
    replace bx := bx.m2 da
    replace dw := dw.m2 da
    replace kh := kh.m1 da
    replace pa := pa.m1 da
    replace ug := ug.m1 da
    replace ad := ad.m1 da
    replace ae := ae.m1 da
    replace ab := ab.m3 da
    have pb : Ar 1 eJ F900 (aD al) 3 [[0], [1], [1, 2]] := Ar.BD kJ (vss := [[sL (aD bh) [0].length 1], [sL (aD bg) [1].length 1], [sL (aD ba) [1, 2].length 2]]) (xs := [[0], [1], [1, 2]]) hz902 (.cons ⟨_, _, rfl, kh⟩ (.cons ⟨_, _, rfl, pa⟩ (.cons ⟨_, _, rfl, ug⟩ .nil))) rfl (by simp [maxLen])
    refine Bk 3 rfl hb772 ?_; intro F904 dr hz906
    refine CU (L' := (br, ce (#[sL (aD ax) [[0, 2, -1], [2, 0, 2], [-1, 2, 0]].length 3, sL (aD al) [[0], [1], [1, 2]].length 3, vI n5, vI n6, sL (aD aj) 2 2]) 26) :: ((bq, ce (#[sL (aD az) [[0, 2, -1], [2, 0, 2], [-1, 2, 0]].length 3, sL (aD aw) [[0], [1], [1, 2]].length 3, vI n3, vI n4, sL bl bm bn]) 26) :: ((aj, ce #[sL (aD ay) 2 2, vI 3, vI 12, sL cn dt.length cp, vI 1, vI 20] 35) :: ((ar, ce #[sL (aD ak) (Int.toNat k8) (Int.toNat k8), sL aq aa aa, vI k8, vI 0, sL none 0 0] 26) :: (au ++ (av ++ (bd ++ []))))))) rfl ?_
    replace bb := bb.m1 dr
    replace bj := bj.m2 dr
    replace bx := bx.m2 dr
    replace dw := dw.m2 dr
    replace pb := pb.m2 dr
    replace ad := ad.m1 dr
    replace ae := ae.m1 dr
    replace ab := ab.m3 dr
    have uh : Ar 1 eI F904 (aD ay) 2 [0, 2] := Ar.oI hz906
    refine Bk 2 rfl hb771 ?_; intro F908 dh hz910
    refine CU (L' := (br, ce (#[sL (aD ax) [[0, 2, -1], [2, 0, 2], [-1, 2, 0]].length 3, sL (aD al) [[0], [1], [1, 2]].length 3, vI n5, vI n6, sL (aD aj) 2 2]) 26) :: ((bq, ce (#[sL (aD az) [[0, 2, -1], [2, 0, 2], [-1, 2, 0]].length 3, sL (aD aw) [[0], [1], [1, 2]].length 3, vI n3, vI n4, sL bl bm bn]) 26) :: ((ar, ce #[sL (aD ak) (Int.toNat k8) (Int.toNat k8), sL aq aa aa, vI k8, vI 0, sL none 0 0] 26) :: (au ++ (av ++ (bd ++ [])))))) rfl ?_
    replace bb := bb.m1 dh
    replace bj := bj.m2 dh
    replace bx := bx.m2 dh
    replace dw := dw.m2 dh
    replace pb := pb.m2 dh
    replace uh := uh.m1 dh
    replace ad := ad.m1 dh
    replace ae := ae.m1 dh
    replace ab := ab.m3 dh
    have h911 : Ar 3 eN F908 (aD aj) 2 [([0, 2], 3, 12), (dt, 1, 20)] := Ar.BD kN (vss := [[sL (aD ay) [0, 2].length 2, vI 3, vI 12], [sL cn dt.length cp, vI 1, vI 20]]) (xs := [([0, 2], 3, 12), (dt, 1, 20)]) hz910 (.cons ⟨_, _, rfl, ⟨_, _, rfl, uh⟩, ⟨_, _, rfl, rfl, rfl⟩⟩ (.cons ⟨_, _, rfl, ⟨_, _, rfl, bb⟩, ⟨_, _, rfl, rfl, rfl⟩⟩ .nil)) rfl (by simp [maxLen])
    obtain ⟨ux, h912, r913⟩ := Av r786
    obtain ⟨mu, r915⟩ := AB r913
    obtain ⟨ui, r917⟩ := AB r915
    obtain ⟨j9, h918, r919⟩ := Av r917
    obtain ⟨mv, r921⟩ := AB r919
    obtain ⟨ja, h922, r923⟩ := Av r921
    obtain ⟨kj, r925⟩ := AB r923
    obtain ⟨jb, h926, r927⟩ := Av r925
    obtain ⟨rl, r929⟩ := AB r927
    obtain ⟨jc, h930, r931⟩ := Av r929
    obtain ⟨rm, r933⟩ := AB r931
    obtain ⟨jd, h934, r935⟩ := Av r933
    obtain ⟨kl, r937⟩ := AB r935
    obtain ⟨y10, y11, n7, n8, y12, h938, r939⟩ := Fx r937
    obtain ⟨g955, r956⟩ := AB r939
    obtain ⟨uj, r958⟩ := AB r956
    obtain ⟨mw, h960, r961⟩ := Av r958
    refine Az [(18, vI k8), (19, pO ar), (23, pO bq), (24, pO br), (248, vI k8)] z5 ?_
    refine P1 [⟨[], 321, fun _ => .agg #[sL (aD ak) (Int.toNat k8) (Int.toNat k8), sL aq aa aa, vI k8, vI 0, sL none 0 0], fun _ => []⟩, ⟨[0], 322, fun _ => .bool ux, fun _ => []⟩, ⟨[0, 1], 323, fun _ => .bool (!ux), fun _ => []⟩, ⟨[0, 1, 2], 324, fun _ => .bool (!ux), fun _ => []⟩, ⟨[0, 1, 2, 3], 325, fun _ => .agg #[sL (aD ak) (Int.toNat k8) (Int.toNat k8), sL aq aa aa, vI k8, vI 0, sL none 0 0], fun _ => []⟩, ⟨[0, 1, 2, 3], 326, fun _ => vI k8, fun _ => []⟩, ⟨[0, 1, 2, 3, 5], 327, fun _ => vI (k8 - 1), fun _ => []⟩, ⟨[0, 1, 2, 3, 4, 5, 6], 328, fun _ => .bool j9, fun _ => []⟩, ⟨[0, 1, 2, 3, 4, 5, 6, 7], 329, fun _ => .bool (!j9), fun _ => []⟩, ⟨[0, 1, 2, 3, 4, 5, 6, 7, 8], 330, fun _ => .bool (!j9), fun _ => []⟩, ⟨[0, 1, 2, 3, 4, 5, 6, 7, 8, 9], 331, fun _ => .bool (!j9), fun _ => []⟩, ⟨[0, 1, 2, 3, 4, 5, 6, 7, 8, 9, 10], 332, fun _ => .agg (#[sL (aD az) [[0, 2, -1], [2, 0, 2], [-1, 2, 0]].length 3, sL (aD aw) [[0], [1], [1, 2]].length 3, vI n3, vI n4, sL bl bm bn]), fun _ => []⟩, ⟨[0, 1, 2, 3, 4, 5, 6, 7, 8, 9, 10], 333, fun _ => vI k8, fun _ => []⟩, ⟨[0, 1, 2, 3, 4, 5, 6, 7, 8, 9, 10, 12], 334, fun _ => vI (k8 - 1), fun _ => []⟩, ⟨[0, 1, 2, 3, 4, 5, 6, 7, 8, 9, 10, 11, 12, 13], 335, fun _ => .bool ja, fun _ => []⟩, ⟨[0, 1, 2, 3, 4, 5, 6, 7, 8, 9, 10, 11, 12, 13, 14], 336, fun _ => .bool (!ja), fun _ => []⟩, ⟨[0, 1, 2, 3, 4, 5, 6, 7, 8, 9, 10, 11, 12, 13, 14, 15], 337, fun _ => .bool (!ja), fun _ => []⟩, ⟨[0, 1, 2, 3, 4, 5, 6, 7, 8, 9, 10, 11, 12, 13, 14, 15, 16], 338, fun _ => .bool (!ja), fun _ => []⟩, ⟨[0, 1, 2, 3, 4, 5, 6, 7, 8, 9, 10, 11, 12, 13, 14, 15, 16, 17], 339, fun _ => .agg (#[sL (aD az) [[0, 2, -1], [2, 0, 2], [-1, 2, 0]].length 3, sL (aD aw) [[0], [1], [1, 2]].length 3, vI n3, vI n4, sL bl bm bn]), fun _ => []⟩, ⟨[0, 1, 2, 3, 4, 5, 6, 7, 8, 9, 10, 11, 12, 13, 14, 15, 16, 17], 340, fun _ => vI k8, fun _ => []⟩, ⟨[0, 1, 2, 3, 4, 5, 6, 7, 8, 9, 10, 11, 12, 13, 14, 15, 16, 17, 19], 341, fun _ => vI (k8 - 1), fun _ => []⟩, ⟨[0, 1, 2, 3, 4, 5, 6, 7, 8, 9, 10, 11, 12, 13, 14, 15, 16, 17, 19, 20], 342, fun _ => .agg #[vI (k8 - 1), vI 0], fun _ => []⟩, ⟨[0, 1, 2, 3, 4, 5, 6, 7, 8, 9, 10, 11, 12, 13, 14, 15, 16, 17, 18, 19, 20, 21], 343, fun _ => .bool jb, fun _ => []⟩, ⟨[0, 1, 2, 3, 4, 5, 6, 7, 8, 9, 10, 11, 12, 13, 14, 15, 16, 17, 18, 19, 20, 21, 22], 344, fun _ => .bool (!jb), fun _ => []⟩, ⟨[0, 1, 2, 3, 4, 5, 6, 7, 8, 9, 10, 11, 12, 13, 14, 15, 16, 17, 18, 19, 20, 21, 22, 23], 345, fun _ => .bool (!jb), fun _ => []⟩, ⟨[0, 1, 2, 3, 4, 5, 6, 7, 8, 9, 10, 11, 12, 13, 14, 15, 16, 17, 18, 19, 20, 21, 22, 23, 24], 346, fun _ => .bool (!jb), fun _ => []⟩, ⟨[0, 1, 2, 3, 4, 5, 6, 7, 8, 9, 10, 11, 12, 13, 14, 15, 16, 17, 18, 19, 20, 21, 22, 23, 24, 25], 347, fun _ => .agg (#[sL (aD az) [[0, 2, -1], [2, 0, 2], [-1, 2, 0]].length 3, sL (aD aw) [[0], [1], [1, 2]].length 3, vI n3, vI n4, sL bl bm bn]), fun _ => []⟩, ⟨[0, 1, 2, 3, 4, 5, 6, 7, 8, 9, 10, 11, 12, 13, 14, 15, 16, 17, 18, 19, 20, 21, 22, 23, 24, 25, 26], 348, fun _ => .bool jc, fun _ => []⟩, ⟨[0, 1, 2, 3, 4, 5, 6, 7, 8, 9, 10, 11, 12, 13, 14, 15, 16, 17, 18, 19, 20, 21, 22, 23, 24, 25, 26, 27], 349, fun _ => .bool (!jc), fun _ => []⟩, ⟨[0, 1, 2, 3, 4, 5, 6, 7, 8, 9, 10, 11, 12, 13, 14, 15, 16, 17, 18, 19, 20, 21, 22, 23, 24, 25, 26, 27, 28], 350, fun _ => .bool (!jc), fun _ => []⟩, ⟨[0, 1, 2, 3, 4, 5, 6, 7, 8, 9, 10, 11, 12, 13, 14, 15, 16, 17, 18, 19, 20, 21, 22, 23, 24, 25, 26, 27, 28, 29], 351, fun _ => .bool (!jc), fun _ => []⟩, ⟨[0, 1, 2, 3, 4, 5, 6, 7, 8, 9, 10, 11, 12, 13, 14, 15, 16, 17, 18, 19, 20, 21, 22, 23, 24, 25, 26, 27, 28, 29, 30], 352, fun _ => .agg (#[sL (aD ax) [[0, 2, -1], [2, 0, 2], [-1, 2, 0]].length 3, sL (aD al) [[0], [1], [1, 2]].length 3, vI n5, vI n6, sL (aD aj) [([0, 2], 3, 12), (dt, 1, 20)].length 2]), fun _ => []⟩, ⟨[0, 1, 2, 3, 4, 5, 6, 7, 8, 9, 10, 11, 12, 13, 14, 15, 16, 17, 18, 19, 20, 21, 22, 23, 24, 25, 26, 27, 28, 29, 30, 31], 353, fun _ => .bool jd, fun _ => []⟩, ⟨[0, 1, 2, 3, 4, 5, 6, 7, 8, 9, 10, 11, 12, 13, 14, 15, 16, 17, 18, 19, 20, 21, 22, 23, 24, 25, 26, 27, 28, 29, 30, 31, 32], 354, fun _ => .bool (!jd), fun _ => []⟩, ⟨[0, 1, 2, 3, 4, 5, 6, 7, 8, 9, 10, 11, 12, 13, 14, 15, 16, 17, 18, 19, 20, 21, 22, 23, 24, 25, 26, 27, 28, 29, 30, 31, 32, 33], 355, fun _ => .bool (!jd), fun _ => []⟩, ⟨[0, 1, 2, 3, 4, 5, 6, 7, 8, 9, 10, 11, 12, 13, 14, 15, 16, 17, 18, 19, 20, 21, 22, 23, 24, 25, 26, 27, 28, 29, 30, 31, 32, 33, 34], 356, fun _ => .bool (!jd), fun _ => []⟩, ⟨[0, 1, 2, 3, 4, 5, 6, 7, 8, 9, 10, 11, 12, 13, 14, 15, 16, 17, 18, 19, 20, 21, 22, 23, 24, 25, 26, 27, 28, 29, 30, 31, 32, 33, 34, 35], 357, fun β => .agg #[sL (aD (β 36 0)) 3 3, sL (aD (β 36 4)) 3 3, vI n7, vI n8, sL (aD (β 36 8)) 2 2], fun β => [((β 36 0), ce #[sL (aD (β 36 1)) 3 3, sL (aD (β 36 2)) 3 3, sL (aD (β 36 3)) 3 3] 22), ((β 36 1), ce #[vI 0, vI 2, vI (-1)] 3), ((β 36 2), ce #[vI 2, vI 0, vI 2] 3), ((β 36 3), ce #[vI (-1), vI 2, vI 0] 3), ((β 36 4), ce #[sL (aD (β 36 5)) 1 1, sL (aD (β 36 6)) 1 1, sL (aD (β 36 7)) 2 2] 22), ((β 36 5), ce #[vI 0] 3), ((β 36 6), ce #[vI 1] 3), ((β 36 7), ce #[vI 1, vI 2] 3), ((β 36 8), ce #[sL (aD (β 36 9)) 2 2, vI 3, vI 12, sL (aD (β 36 10)) 1 1, vI 1, vI 20] 35), ((β 36 9), ce #[vI 0, vI 2] 3), ((β 36 10), ce #[vI 1] 3)]⟩, ⟨[0, 1, 2, 3, 4, 5, 6, 7, 8, 9, 10, 11, 12, 13, 14, 15, 16, 17, 18, 19, 20, 21, 22, 23, 24, 25, 26, 27, 28, 29, 30, 31, 32, 33, 34, 35], 358, fun _ => vI k8, fun _ => []⟩, ⟨[0, 1, 2, 3, 4, 5, 6, 7, 8, 9, 10, 11, 12, 13, 14, 15, 16, 17, 18, 19, 20, 21, 22, 23, 24, 25, 26, 27, 28, 29, 30, 31, 32, 33, 34, 35, 37], 359, fun _ => vI (3 * k8), fun _ => []⟩, ⟨[0, 1, 2, 3, 4, 5, 6, 7, 8, 9, 10, 11, 12, 13, 14, 15, 16, 17, 18, 19, 20, 21, 22, 23, 24, 25, 26, 27, 28, 29, 30, 31, 32, 33, 34, 35, 37, 38], 360, fun β => sL (aD (β 39 0)) (Int.toNat (3 * k8)) (Int.toNat (3 * k8)), fun β => [((β 39 0), ce (madeCells (.agg #[vI 0, vI 0] : Value).cells ((Int.toNat (3 * k8)) * 2)) 29)]⟩, ⟨[0, 1, 2, 3, 4, 5, 6, 7, 8, 9, 10, 11, 12, 13, 14, 15, 16, 17, 18, 19, 20, 21, 22, 23, 24, 25, 26, 27, 28, 29, 30, 31, 32, 33, 34, 35, 36, 37, 38, 39], 361, fun _ => .bool mw, fun _ => []⟩, ⟨[0, 1, 2, 3, 4, 5, 6, 7, 8, 9, 10, 11, 12, 13, 14, 15, 16, 17, 18, 19, 20, 21, 22, 23, 24, 25, 26, 27, 28, 29, 30, 31, 32, 33, 34, 35, 36, 37, 38, 39, 40], 362, fun _ => .bool (!mw), fun _ => []⟩, ⟨[0, 1, 2, 3, 4, 5, 6, 7, 8, 9, 10, 11, 12, 13, 14, 15, 16, 17, 18, 19, 20, 21, 22, 23, 24, 25, 26, 27, 28, 29, 30, 31, 32, 33, 34, 35, 36, 37, 38, 39, 40, 41], 363, fun _ => .bool (!mw), fun _ => []⟩] (by kernel_rfl) (by kernel_rfl) (.cons ?_ (.cons ?_ (.cons ?_ (.cons ?_ (.cons ?_ (.cons ?_ (.cons ?_ (.cons ?_ (.cons ?_ (.cons ?_ (.cons ?_ (.cons ?_ (.cons ?_ (.cons ?_ (.cons ?_ (.cons ?_ (.cons ?_ (.cons ?_ (.cons ?_ (.cons ?_ (.cons ?_ (.cons ?_ (.cons ?_ (.cons ?_ (.cons ?_ (.cons ?_ (.cons ?_ (.cons ?_ (.cons ?_ (.cons ?_ (.cons ?_ (.cons ?_ (.cons ?_ (.cons ?_ (.cons ?_ (.cons ?_ (.cons ?_ (.cons ?_ (.cons ?_ (.cons ?_ (.cons ?_ (.cons ?_ (.cons ?_ .nil))))))))))))))))))))))))))))))))))))))))))) ?_
    ·refine ⟨fun β cq h => by simp (disch := simp) only [and_self], _, rfl, fun β Lr Q hk => ?_⟩
     refine Aw (lb (lb (lb (lp (lp (lp (ln rfl))))))) (uv (CA isAgg26 sizeOf26 2) ?_)
     refine Aa ⟨rfl, _, rfl, hk (fun _ => K.w0.heap.size) (fun _ => Nat.le_refl _) _ (pT pR (lb (lb (lb (lp (lp (lp (ln rfl))))))))⟩
    ·refine ⟨fun β cq h => by simp (disch := simp) only [and_self], _, rfl, fun β Lr Q hk => ?_⟩
     refine Aw (lb (lb (lb (lp (lp (lp (ln rfl))))))) ?_
     refine Bn rfl call5 rfl rfl rfl (pT ((fC (fC (fC fP))).trans (pA ((fC (fC (fC fP))).trans (pA pR)))) (lp (lp (ln rfl)))) (fun F2 h2 h3 => by have h0 := CV (ad.row kI h2 (aL h3)) (ae.row kI h2 (aL (aR h3))) (Ar.nil (a := none) _ _ _) h912; rw [← (C0.A6 ad).1] at h0; rw [← (C0.A6 ae).1] at h0; exact h0) ?_
     refine Aa ⟨rfl, _, rfl, hk (fun _ => K.w0.heap.size) (fun _ => Nat.le_refl _) _ (pT pR (lb (lb (lb (lp (lp (lp (ln rfl))))))))⟩
    ·refine ⟨fun β cq h => by simp (disch := simp) only [and_self], _, rfl, fun β Lr Q hk => ?_⟩
     refine Aw (lb (lb (lb (lp (lp (lp (ln rfl))))))) (uv (Bz rfl) ?_)
     refine Aa ⟨rfl, _, rfl, hk (fun _ => K.w0.heap.size) (fun _ => Nat.le_refl _) _ (pT pR (lb (lb (lb (lp (lp (lp (ln rfl))))))))⟩
    ·refine ⟨fun β cq h => by simp (disch := simp) only [and_self], _, rfl, fun β Lr Q hk => ?_⟩
     refine Aw (lb (lb (lb (lp (lp (lp (ln rfl))))))) (um ?_)
     refine Aa ⟨rfl, _, rfl, hk (fun _ => K.w0.heap.size) (fun _ => Nat.le_refl _) _ (pT pR (lb (lb (lb (lp (lp (lp (ln rfl))))))))⟩
    ·refine ⟨fun β cq h => by simp (disch := simp) only [and_self], _, rfl, fun β Lr Q hk => ?_⟩
     refine Aw (lb (lb (lb (lp (lp (lp (ln rfl))))))) (nB mu (uv (CA isAgg26 sizeOf26 2) ?_))
     refine Aa ⟨rfl, _, rfl, hk (fun _ => K.w0.heap.size) (fun _ => Nat.le_refl _) _ (pT pR (lb (lb (lb (lp (lp (lp (ln rfl))))))))⟩
    ·refine ⟨fun β cq h => by simp (disch := simp) only [and_self], _, rfl, fun β Lr Q hk => ?_⟩
     refine Aw (lb (lb (lb (lp (lp (lp (ln rfl))))))) ?_
     refine nB mu (um ?_)
     refine Aa ⟨rfl, _, rfl, hk (fun _ => K.w0.heap.size) (fun _ => Nat.le_refl _) _ (pT pR (lb (lb (lb (lp (lp (lp (ln rfl))))))))⟩
    ·refine ⟨fun β cq h => by simp (disch := simp) only [and_self], _, rfl, fun β Lr Q hk => ?_⟩
     refine Aw (lb (lb (lb (lp (lp (lp (ln rfl))))))) (nB mu (uv (DP rfl rfl ui) ?_))
     refine Aa ⟨rfl, _, rfl, hk (fun _ => K.w0.heap.size) (fun _ => Nat.le_refl _) _ (pT pR (lb (lb (lb (lp (lp (lp (ln rfl))))))))⟩
    ·refine ⟨fun β cq h => by simp (disch := simp) only [and_self], _, rfl, fun β Lr Q hk => ?_⟩
     refine Aw (lb (lb (lb (lp (lp (lp (ln rfl))))))) (nB mu ?_)
     refine Bn rfl call6 rfl rfl rfl (pT ((fC (fC (fC fP))).trans (pA ((fC (fC (fC fP))).trans (pA pR)))) (lp (lp (ln rfl)))) (fun F2 h2 h3 => by have h0 := Gq (ad.row kI h2 (aL h3)) (ae.row kI h2 (aL (aR h3))) (Ar.nil (a := none) _ _ _) h918; rw [← (C0.A6 ad).1] at h0; rw [← (C0.A6 ae).1] at h0; exact h0) ?_
     refine Aa ⟨rfl, _, rfl, hk (fun _ => K.w0.heap.size) (fun _ => Nat.le_refl _) _ (pT pR (lb (lb (lb (lp (lp (lp (ln rfl))))))))⟩
    ·refine ⟨fun β cq h => by simp (disch := simp) only [and_self], _, rfl, fun β Lr Q hk => ?_⟩
     refine Aw (lb (lb (lb (lp (lp (lp (ln rfl))))))) (nB mu (uv (Bz rfl) ?_))
     refine Aa ⟨rfl, _, rfl, hk (fun _ => K.w0.heap.size) (fun _ => Nat.le_refl _) _ (pT pR (lb (lb (lb (lp (lp (lp (ln rfl))))))))⟩
    ·refine ⟨fun β cq h => by simp (disch := simp) only [and_self], _, rfl, fun β Lr Q hk => ?_⟩
     refine Aw (lb (lb (lb (lp (lp (lp (ln rfl))))))) (uv (AD (Gl rfl mu) rfl) ?_)
     refine Aa ⟨rfl, _, rfl, hk (fun _ => K.w0.heap.size) (fun _ => Nat.le_refl _) _ (pT pR (lb (lb (lb (lp (lp (lp (ln rfl))))))))⟩
    ·refine ⟨fun β cq h => by simp (disch := simp) only [and_self], _, rfl, fun β Lr Q hk => ?_⟩
     refine Aw (lb (lb (lb (lp (lp (lp (ln rfl))))))) (um ?_)
     refine Aa ⟨rfl, _, rfl, hk (fun _ => K.w0.heap.size) (fun _ => Nat.le_refl _) _ (pT pR (lb (lb (lb (lp (lp (lp (ln rfl))))))))⟩
    ·refine ⟨fun β cq h => by simp (disch := simp) only [and_self], _, rfl, fun β Lr Q hk => ?_⟩
     refine Aw (lb (lb (lb (lp (lp (lp (ln rfl))))))) (nB mv (uv (CA isAgg26 sizeOf26 1) ?_))
     refine Aa ⟨rfl, _, rfl, hk (fun _ => K.w0.heap.size) (fun _ => Nat.le_refl _) _ (pT pR (lb (lb (lb (lp (lp (lp (ln rfl))))))))⟩
    ·refine ⟨fun β cq h => by simp (disch := simp) only [and_self], _, rfl, fun β Lr Q hk => ?_⟩
     refine Aw (lb (lb (lb (lp (lp (lp (ln rfl))))))) ?_
     refine nB mv (um ?_)
     refine Aa ⟨rfl, _, rfl, hk (fun _ => K.w0.heap.size) (fun _ => Nat.le_refl _) _ (pT pR (lb (lb (lb (lp (lp (lp (ln rfl))))))))⟩
    ·refine ⟨fun β cq h => by simp (disch := simp) only [and_self], _, rfl, fun β Lr Q hk => ?_⟩
     refine Aw (lb (lb (lb (lp (lp (lp (ln rfl))))))) (nB mv (uv (DP rfl rfl ui) ?_))
     refine Aa ⟨rfl, _, rfl, hk (fun _ => K.w0.heap.size) (fun _ => Nat.le_refl _) _ (pT pR (lb (lb (lb (lp (lp (lp (ln rfl))))))))⟩
    ·refine ⟨fun β cq h => by simp (disch := simp) only [and_self], _, rfl, fun β Lr Q hk => ?_⟩
     refine Aw (lb (lb (lb (lp (lp (lp (ln rfl))))))) (nB mv ?_)
     refine Bn rfl call5 rfl rfl rfl (pT ((fC (fC (fC (fS (fS fP))))).trans (pA pR)) (lp (ln rfl))) (fun F2 h2 h3 => by rw [(AM.A6 ab).1]; exact CV (bj.mono kJ h2) (bx.mono kJ h2) (ab.row kN h2 (aL h3)) h922) ?_
     refine Aa ⟨rfl, _, rfl, hk (fun _ => K.w0.heap.size) (fun _ => Nat.le_refl _) _ (pT pR (lb (lb (lb (lp (lp (lp (ln rfl))))))))⟩
    ·refine ⟨fun β cq h => by simp (disch := simp) only [and_self], _, rfl, fun β Lr Q hk => ?_⟩
     refine Aw (lb (lb (lb (lp (lp (lp (ln rfl))))))) (nB mv (uv (Bz rfl) ?_))
     refine Aa ⟨rfl, _, rfl, hk (fun _ => K.w0.heap.size) (fun _ => Nat.le_refl _) _ (pT pR (lb (lb (lb (lp (lp (lp (ln rfl))))))))⟩
    ·refine ⟨fun β cq h => by simp (disch := simp) only [and_self], _, rfl, fun β Lr Q hk => ?_⟩
     refine Aw (lb (lb (lb (lp (lp (lp (ln rfl))))))) (uv (AD (Gl rfl mv) rfl) ?_)
     refine Aa ⟨rfl, _, rfl, hk (fun _ => K.w0.heap.size) (fun _ => Nat.le_refl _) _ (pT pR (lb (lb (lb (lp (lp (lp (ln rfl))))))))⟩
    ·refine ⟨fun β cq h => by simp (disch := simp) only [and_self], _, rfl, fun β Lr Q hk => ?_⟩
     refine Aw (lb (lb (lb (lp (lp (lp (ln rfl))))))) (um ?_)
     refine Aa ⟨rfl, _, rfl, hk (fun _ => K.w0.heap.size) (fun _ => Nat.le_refl _) _ (pT pR (lb (lb (lb (lp (lp (lp (ln rfl))))))))⟩
    ·refine ⟨fun β cq h => by simp (disch := simp) only [and_self], _, rfl, fun β Lr Q hk => ?_⟩
     refine Aw (lb (lb (lb (lp (lp (lp (ln rfl))))))) (nB kj (uv (CA isAgg26 sizeOf26 1) ?_))
     refine Aa ⟨rfl, _, rfl, hk (fun _ => K.w0.heap.size) (fun _ => Nat.le_refl _) _ (pT pR (lb (lb (lb (lp (lp (lp (ln rfl))))))))⟩
    ·refine ⟨fun β cq h => by simp (disch := simp) only [and_self], _, rfl, fun β Lr Q hk => ?_⟩
     refine Aw (lb (lb (lb (lp (lp (lp (ln rfl))))))) ?_
     refine nB kj (um ?_)
     refine Aa ⟨rfl, _, rfl, hk (fun _ => K.w0.heap.size) (fun _ => Nat.le_refl _) _ (pT pR (lb (lb (lb (lp (lp (lp (ln rfl))))))))⟩
    ·refine ⟨fun β cq h => by simp (disch := simp) only [and_self], _, rfl, fun β Lr Q hk => ?_⟩
     refine Aw (lb (lb (lb (lp (lp (lp (ln rfl))))))) (nB kj (uv (DP rfl rfl ui) ?_))
     refine Aa ⟨rfl, _, rfl, hk (fun _ => K.w0.heap.size) (fun _ => Nat.le_refl _) _ (pT pR (lb (lb (lb (lp (lp (lp (ln rfl))))))))⟩
    ·refine ⟨fun β cq h => by simp (disch := simp) only [and_self], _, rfl, fun β Lr Q hk => ?_⟩
     refine Aw (lb (lb (lb (lp (lp (lp (ln rfl))))))) (nB kj ?_)
     refine uv (BI (v := .agg #[vI (k8 - 1), vI 0]) rfl (by intro w; kernel_rfl)) ?_
     refine Aa ⟨rfl, _, rfl, hk (fun _ => K.w0.heap.size) (fun _ => Nat.le_refl _) _ (pT pR (lb (lb (lb (lp (lp (lp (ln rfl))))))))⟩
    ·refine ⟨fun β cq h => by simp (disch := simp) only [and_self], _, rfl, fun β Lr Q hk => ?_⟩
     refine Aw (lb (lb (lb (lp (lp (lp (ln rfl))))))) (nB kj ?_)
     refine Bn rfl call8 rfl rfl rfl (pT ((fC (fC (fC (fS (fS fP))))).trans (pA pR)) (lp (ln rfl))) (fun F2 h2 h3 => by rw [(AM.A6 ab).1]; exact Gp (bj.mono kJ h2) (bx.mono kJ h2) (ab.row kN h2 (aL h3)) h926) ?_
     refine Aa ⟨rfl, _, rfl, hk (fun _ => K.w0.heap.size) (fun _ => Nat.le_refl _) _ (pT pR (lb (lb (lb (lp (lp (lp (ln rfl))))))))⟩
    ·refine ⟨fun β cq h => by simp (disch := simp) only [and_self], _, rfl, fun β Lr Q hk => ?_⟩
     refine Aw (lb (lb (lb (lp (lp (lp (ln rfl))))))) (nB kj (uv (Bz rfl) ?_))
     refine Aa ⟨rfl, _, rfl, hk (fun _ => K.w0.heap.size) (fun _ => Nat.le_refl _) _ (pT pR (lb (lb (lb (lp (lp (lp (ln rfl))))))))⟩
    ·refine ⟨fun β cq h => by simp (disch := simp) only [and_self], _, rfl, fun β Lr Q hk => ?_⟩
     refine Aw (lb (lb (lb (lp (lp (lp (ln rfl))))))) (uv (AD (Gl rfl kj) rfl) ?_)
     refine Aa ⟨rfl, _, rfl, hk (fun _ => K.w0.heap.size) (fun _ => Nat.le_refl _) _ (pT pR (lb (lb (lb (lp (lp (lp (ln rfl))))))))⟩
    ·refine ⟨fun β cq h => by simp (disch := simp) only [and_self], _, rfl, fun β Lr Q hk => ?_⟩
     refine Aw (lb (lb (lb (lp (lp (lp (ln rfl))))))) (um ?_)
     refine Aa ⟨rfl, _, rfl, hk (fun _ => K.w0.heap.size) (fun _ => Nat.le_refl _) _ (pT pR (lb (lb (lb (lp (lp (lp (ln rfl))))))))⟩
    ·refine ⟨fun β cq h => by simp (disch := simp) only [and_self], _, rfl, fun β Lr Q hk => ?_⟩
     refine Aw (lb (lb (lb (lp (lp (lp (ln rfl))))))) (nB rl (uv (CA isAgg26 sizeOf26 1) ?_))
     refine Aa ⟨rfl, _, rfl, hk (fun _ => K.w0.heap.size) (fun _ => Nat.le_refl _) _ (pT pR (lb (lb (lb (lp (lp (lp (ln rfl))))))))⟩
    ·refine ⟨fun β cq h => by simp (disch := simp) only [and_self], _, rfl, fun β Lr Q hk => ?_⟩
     refine Aw (lb (lb (lb (lp (lp (lp (ln rfl))))))) (nB rl ?_)
     refine Bn rfl call11 rfl rfl rfl (pT ((fC (fC (fC (fS (fS fP))))).trans (pA pR)) (lp (ln rfl))) (fun F2 h2 h3 => by rw [(AM.A6 ab).1]; exact FN (bj.mono kJ h2) (bx.mono kJ h2) (ab.row kN h2 (aL h3)) h930) ?_
     refine Aa ⟨rfl, _, rfl, hk (fun _ => K.w0.heap.size) (fun _ => Nat.le_refl _) _ (pT pR (lb (lb (lb (lp (lp (lp (ln rfl))))))))⟩
    ·refine ⟨fun β cq h => by simp (disch := simp) only [and_self], _, rfl, fun β Lr Q hk => ?_⟩
     refine Aw (lb (lb (lb (lp (lp (lp (ln rfl))))))) (nB rl (uv (Bz rfl) ?_))
     refine Aa ⟨rfl, _, rfl, hk (fun _ => K.w0.heap.size) (fun _ => Nat.le_refl _) _ (pT pR (lb (lb (lb (lp (lp (lp (ln rfl))))))))⟩
    ·refine ⟨fun β cq h => by simp (disch := simp) only [and_self], _, rfl, fun β Lr Q hk => ?_⟩
     refine Aw (lb (lb (lb (lp (lp (lp (ln rfl))))))) (uv (AD (Gl rfl rl) rfl) ?_)
     refine Aa ⟨rfl, _, rfl, hk (fun _ => K.w0.heap.size) (fun _ => Nat.le_refl _) _ (pT pR (lb (lb (lb (lp (lp (lp (ln rfl))))))))⟩
    ·refine ⟨fun β cq h => by simp (disch := simp) only [and_self], _, rfl, fun β Lr Q hk => ?_⟩
     refine Aw (lb (lb (lb (lp (lp (lp (ln rfl))))))) (um ?_)
     refine Aa ⟨rfl, _, rfl, hk (fun _ => K.w0.heap.size) (fun _ => Nat.le_refl _) _ (pT pR (lb (lb (lb (lp (lp (lp (ln rfl))))))))⟩
    ·refine ⟨fun β cq h => by simp (disch := simp) only [and_self], _, rfl, fun β Lr Q hk => ?_⟩
     refine Aw (lb (lb (lb (lp (lp (lp (ln rfl))))))) (nB rm (uv (CA isAgg26 sizeOf26 0) ?_))
     refine Aa ⟨rfl, _, rfl, hk (fun _ => K.w0.heap.size) (fun _ => Nat.le_refl _) _ (pT pR (lb (lb (lb (lp (lp (lp (ln rfl))))))))⟩
    ·refine ⟨fun β cq h => by simp (disch := simp) only [and_self], _, rfl, fun β Lr Q hk => ?_⟩
     refine Aw (lb (lb (lb (lp (lp (lp (ln rfl))))))) (nB rm (cV call5 (CV dw pb h911 h934) ?_))
     refine Aa ⟨rfl, _, rfl, hk (fun _ => K.w0.heap.size) (fun _ => Nat.le_refl _) _ (pT pR (lb (lb (lb (lp (lp (lp (ln rfl))))))))⟩
    ·refine ⟨fun β cq h => by simp (disch := simp) only [and_self], _, rfl, fun β Lr Q hk => ?_⟩
     refine Aw (lb (lb (lb (lp (lp (lp (ln rfl))))))) (nB rm (uv (Bz rfl) ?_))
     refine Aa ⟨rfl, _, rfl, hk (fun _ => K.w0.heap.size) (fun _ => Nat.le_refl _) _ (pT pR (lb (lb (lb (lp (lp (lp (ln rfl))))))))⟩
    ·refine ⟨fun β cq h => by simp (disch := simp) only [and_self], _, rfl, fun β Lr Q hk => ?_⟩
     refine Aw (lb (lb (lb (lp (lp (lp (ln rfl))))))) (uv (AD (Gl rfl rm) rfl) ?_)
     refine Aa ⟨rfl, _, rfl, hk (fun _ => K.w0.heap.size) (fun _ => Nat.le_refl _) _ (pT pR (lb (lb (lb (lp (lp (lp (ln rfl))))))))⟩
    ·refine ⟨fun β cq h => by simp (disch := simp) only [and_self], _, rfl, fun β Lr Q hk => ?_⟩
     refine Aw (lb (lb (lb (lp (lp (lp (ln rfl))))))) (um ?_)
     refine Aa ⟨rfl, _, rfl, hk (fun _ => K.w0.heap.size) (fun _ => Nat.le_refl _) _ (pT pR (lb (lb (lb (lp (lp (lp (ln rfl))))))))⟩
    ·refine ⟨fun β cq h => by simp (disch := simp) only [h, and_self], _, rfl, fun β Lr Q hk => ?_⟩
     refine Aw (lb (lb (lb (lp (lp (lp (ln rfl))))))) (nB kl ?_)
     refine c0 call4 (Fl h938) ?_; rintro _ _ _ hF979 db ⟨b982, b983, b984, b985, b986, b987, b988, b989, b990, b991, b992, rfl, rfl, rfl⟩
     have hb982 := db _ mz
     have hb983 := db _ (my mz)
     have hb984 := db _ (my (my mz))
     have hb985 := db _ (my (my (my mz)))
     have hb986 := db _ (my (my (my (my mz))))
     have hb987 := db _ (my (my (my (my (my mz)))))
     have hb988 := db _ (my (my (my (my (my (my mz))))))
     have hb989 := db _ (my (my (my (my (my (my (my mz)))))))
     have hb990 := db _ (my (my (my (my (my (my (my (my mz))))))))
     have hb991 := db _ (my (my (my (my (my (my (my (my (my mz)))))))))
     have hb992 := db _ (my (my (my (my (my (my (my (my (my (my mz))))))))))
     refine Aw (lb (lb (lb (lb (lb (lb (lb (lb (lb (lb (lb (ln rfl)))))))))))) ?_
     refine Aa ⟨rfl, _, rfl, hk (fun k => [b982, b983, b984, b985, b986, b987, b988, b989, b990, b991, b992].getD k K.w0.heap.size) (SW (fc hb982 (fc hb983 (fc hb984 (fc hb985 (fc hb986 (fc hb987 (fc hb988 (fc hb989 (fc hb990 (fc hb991 (fc hb992 (fun _ h => nomatch h))))))))))))) _ (pT pR (lb (lb (lb (lb (lb (lb (lb (lb (lb (lb (lb (lb (lb (lb (lp (lp (lp (ln rfl)))))))))))))))))))⟩
    ·refine ⟨fun β cq h => by simp (disch := simp) only [and_self], _, rfl, fun β Lr Q hk => ?_⟩
     refine Aw (lb (lb (lb (lp (lp (lp (ln rfl))))))) ?_
     refine nB kl (um ?_)
     refine Aa ⟨rfl, _, rfl, hk (fun _ => K.w0.heap.size) (fun _ => Nat.le_refl _) _ (pT pR (lb (lb (lb (lp (lp (lp (ln rfl))))))))⟩
    ·refine ⟨fun β cq h => by simp (disch := simp) only [and_self], _, rfl, fun β Lr Q hk => ?_⟩
     refine Aw (lb (lb (lb (lp (lp (lp (ln rfl))))))) (nB kl (uv (QL rfl rfl g955) ?_))
     refine Aa ⟨rfl, _, rfl, hk (fun _ => K.w0.heap.size) (fun _ => Nat.le_refl _) _ (pT pR (lb (lb (lb (lp (lp (lp (ln rfl))))))))⟩
    ·refine ⟨fun β cq h => by simp (disch := simp) only [h, and_self], _, rfl, fun β Lr Q hk => ?_⟩
     refine Aw (lb (lb (lb (lp (lp (lp (ln rfl))))))) (nB kl ?_)
     refine R6 rfl (OJ Nj (by decide) rfl uj) ?_; intro b993 hb993
     refine Aw rfl ?_
     refine Aa ⟨rfl, _, rfl, hk (fun _ => b993) (fun _ => hb993) _ (pT pR (lb (lb (lb (lb (lp (lp (lp (ln rfl)))))))))⟩
    ·refine ⟨fun β cq h => by simp (disch := simp) only [and_self], _, rfl, fun β Lr Q hk => ?_⟩
     refine Aw (lb (lb (lb (lp (lp (lp (ln rfl))))))) (kO (kc (kc (kc (kf (fS (fS (fS fO))) (kf (fS (fS (fS fO))) (kf (fS (fS (fS fO))) (kf (fS (fS (fS fO))) (kf (fS (fS (fS fO))) (kf (fS (fS (fS fO))) (kf (fS (fS (fS fO))) (kf (fS (fS (fS fO))) (kf (fS (fS (fS fO))) (kf (fS (fS (fS fO))) (kf (fS (fS (fS fO))) (kf (fS (fS (fS fO))) kr))))))))))))))) (nB kl ?_))
     refine Bn rfl call7 rfl rfl rfl (pT ((fC (fC (fC fO))).trans (pC ((fC (fC (fC fO))).trans (pC ((fC (fC (fC fO))).trans (pC ((fC (fC (fC fO))).trans (pC ((fC (fC (fC fO))).trans (pC ((fC (fC (fC fO))).trans (pC ((fC (fC (fC fO))).trans (pC ((fC (fC (fC fO))).trans (pC ((fC (fC (fC fO))).trans (pC ((fC (fC (fC fO))).trans (pC ((fC (fC (fC fO))).trans (pC ((fC (fC (fC fO))).trans (pC pR)))))))))))))))))))))))) (lb (lb (lb (lb (lb (lb (lb (lb (lb (lb (lb (lb (ln rfl)))))))))))))) (fun F2 h2 h3 => by have h0 := GQ (Ar.BD kJ (vss := [[sL (aD (β 36 1)) 3 3], [sL (aD (β 36 2)) 3 3], [sL (aD (β 36 3)) 3 3]]) (xs := ([[0, 2, -1], [2, 0, 2], [-1, 2, 0]] : List (List Int))) (h3 ((β 36 0), ce #[sL (aD (β 36 1)) 3 3, sL (aD (β 36 2)) 3 3, sL (aD (β 36 3)) 3 3] 22) mz) (.cons ⟨_, _, rfl, (Ar.BD kI (vss := [[vI 0], [vI 2], [vI (-1)]]) (xs := ([0, 2, -1] : List Int)) (h3 ((β 36 1), ce #[vI 0, vI 2, vI (-1)] 3) (my mz)) (.cons rfl (.cons rfl (.cons rfl .nil))) rfl (by simp [maxLen]))⟩ (.cons ⟨_, _, rfl, (Ar.BD kI (vss := [[vI 2], [vI 0], [vI 2]]) (xs := ([2, 0, 2] : List Int)) (h3 ((β 36 2), ce #[vI 2, vI 0, vI 2] 3) (my (my mz))) (.cons rfl (.cons rfl (.cons rfl .nil))) rfl (by simp [maxLen]))⟩ (.cons ⟨_, _, rfl, (Ar.BD kI (vss := [[vI (-1)], [vI 2], [vI 0]]) (xs := ([-1, 2, 0] : List Int)) (h3 ((β 36 3), ce #[vI (-1), vI 2, vI 0] 3) (my (my (my mz)))) (.cons rfl (.cons rfl (.cons rfl .nil))) rfl (by simp [maxLen]))⟩ .nil))) rfl (by simp [maxLen])) (Ar.BD kJ (vss := [[sL (aD (β 36 5)) 1 1], [sL (aD (β 36 6)) 1 1], [sL (aD (β 36 7)) 2 2]]) (xs := ([[0], [1], [1, 2]] : List (List Int))) (h3 ((β 36 4), ce #[sL (aD (β 36 5)) 1 1, sL (aD (β 36 6)) 1 1, sL (aD (β 36 7)) 2 2] 22) (my (my (my (my mz))))) (.cons ⟨_, _, rfl, (Ar.BD kI (vss := [[vI 0]]) (xs := ([0] : List Int)) (h3 ((β 36 5), ce #[vI 0] 3) (my (my (my (my (my mz)))))) (.cons rfl .nil) rfl (by simp [maxLen]))⟩ (.cons ⟨_, _, rfl, (Ar.BD kI (vss := [[vI 1]]) (xs := ([1] : List Int)) (h3 ((β 36 6), ce #[vI 1] 3) (my (my (my (my (my (my mz))))))) (.cons rfl .nil) rfl (by simp [maxLen]))⟩ (.cons ⟨_, _, rfl, (Ar.BD kI (vss := [[vI 1], [vI 2]]) (xs := ([1, 2] : List Int)) (h3 ((β 36 7), ce #[vI 1, vI 2] 3) (my (my (my (my (my (my (my mz)))))))) (.cons rfl (.cons rfl .nil)) rfl (by simp [maxLen]))⟩ .nil))) rfl (by simp [maxLen])) (Ar.BD kN (vss := [[sL (aD (β 36 9)) 2 2, vI 3, vI 12], [sL (aD (β 36 10)) 1 1, vI 1, vI 20]]) (xs := ([([0, 2], 3, 12), ([1], 1, 20)] : List ((List Int) × Int × Int))) (h3 ((β 36 8), ce #[sL (aD (β 36 9)) 2 2, vI 3, vI 12, sL (aD (β 36 10)) 1 1, vI 1, vI 20] 35) (my (my (my (my (my (my (my (my mz))))))))) (.cons ⟨_, _, rfl, ⟨_, _, rfl, (Ar.BD kI (vss := [[vI 0], [vI 2]]) (xs := ([0, 2] : List Int)) (h3 ((β 36 9), ce #[vI 0, vI 2] 3) (my (my (my (my (my (my (my (my (my mz)))))))))) (.cons rfl (.cons rfl .nil)) rfl (by simp [maxLen]))⟩, ⟨_, _, rfl, rfl, rfl⟩⟩ (.cons ⟨_, _, rfl, ⟨_, _, rfl, (Ar.BD kI (vss := [[vI 1]]) (xs := ([1] : List Int)) (h3 ((β 36 10), ce #[vI 1] 3) (my (my (my (my (my (my (my (my (my (my mz))))))))))) (.cons rfl .nil) rfl (by simp [maxLen]))⟩, ⟨_, _, rfl, rfl, rfl⟩⟩ .nil)) rfl (by simp [maxLen])) (show Ar 2 eP F2 (aD (β 39 0)) (Int.toNat (3 * k8)) (List.replicate (Int.toNat (3 * k8)) (0, 0) : List (Int × Int)) from (AM.made (nb := 0) (E := 29) (F := F2) kP (by decide) (fun _ => ⟨_, _, rfl, rfl, rfl⟩) (Nat.zero_le _) (OT uj)).row kP (AN.refl _) fun p hp => by rw [List.mem_singleton.1 hp]; exact (h3 ((β 39 0), ce (madeCells (.agg #[vI 0, vI 0] : Value).cells ((Int.toNat (3 * k8)) * 2)) 29) (my (my (my (my (my (my (my (my (my (my (my mz))))))))))))) h960; rw [List.length_replicate] at h0; exact h0) ?_
     refine Aa ⟨rfl, _, rfl, hk (fun _ => K.w0.heap.size) (fun _ => Nat.le_refl _) _ (pT (pC (pC (pC ((fC (fC (fC (fC (fC (fC (fC (fC (fC (fC (fC (fC fP)))))))))))).trans (pA ((fC (fC (fC (fC (fC (fC (fC (fC (fC (fC (fC (fC fP)))))))))))).trans (pA ((fC (fC (fC (fC (fC (fC (fC (fC (fC (fC (fC (fC fP)))))))))))).trans (pA pR))))))))) (lb (lb (lb (lp (lp (lp (ln rfl))))))))⟩
    ·refine ⟨fun β cq h => by simp (disch := simp) only [and_self], _, rfl, fun β Lr Q hk => ?_⟩
     refine Aw (lb (lb (lb (lp (lp (lp (ln rfl))))))) (kO (kc (kc (kc (kf (fS (fS (fS fO))) (kf (fS (fS (fS fO))) (kf (fS (fS (fS fO))) (kf (fS (fS (fS fO))) (kf (fS (fS (fS fO))) (kf (fS (fS (fS fO))) (kf (fS (fS (fS fO))) (kf (fS (fS (fS fO))) (kf (fS (fS (fS fO))) (kf (fS (fS (fS fO))) (kf (fS (fS (fS fO))) (kf (fS (fS (fS fO))) kr))))))))))))))) (nB kl (uv (Bz rfl) ?_)))
     refine Aa ⟨rfl, _, rfl, hk (fun _ => K.w0.heap.size) (fun _ => Nat.le_refl _) _ (pT (pC (pC (pC ((fC (fC (fC (fC (fC (fC (fC (fC (fC (fC (fC (fC fP)))))))))))).trans (pA ((fC (fC (fC (fC (fC (fC (fC (fC (fC (fC (fC (fC fP)))))))))))).trans (pA ((fC (fC (fC (fC (fC (fC (fC (fC (fC (fC (fC (fC fP)))))))))))).trans (pA pR))))))))) (lb (lb (lb (lp (lp (lp (ln rfl))))))))⟩
    ·refine ⟨fun β cq h => by simp (disch := simp) only [and_self], _, rfl, fun β Lr Q hk => ?_⟩
     refine Aw (lb (lb (lb (lp (lp (lp (ln rfl))))))) (kO (kc (kc (kc (kf (fS (fS (fS fO))) (kf (fS (fS (fS fO))) (kf (fS (fS (fS fO))) (kf (fS (fS (fS fO))) (kf (fS (fS (fS fO))) (kf (fS (fS (fS fO))) (kf (fS (fS (fS fO))) (kf (fS (fS (fS fO))) (kf (fS (fS (fS fO))) (kf (fS (fS (fS fO))) (kf (fS (fS (fS fO))) (kf (fS (fS (fS fO))) kr))))))))))))))) (uv (AD (Gl rfl kl) rfl) ?_))
     refine Aa ⟨rfl, _, rfl, hk (fun _ => K.w0.heap.size) (fun _ => Nat.le_refl _) _ (pT (pC (pC (pC ((fC (fC (fC (fC (fC (fC (fC (fC (fC (fC (fC (fC fP)))))))))))).trans (pA ((fC (fC (fC (fC (fC (fC (fC (fC (fC (fC (fC (fC fP)))))))))))).trans (pA ((fC (fC (fC (fC (fC (fC (fC (fC (fC (fC (fC (fC fP)))))))))))).trans (pA pR))))))))) (lb (lb (lb (lp (lp (lp (ln rfl))))))))⟩
    intro β e9 L9 mx km ko
    replace km : e9.sub [(18, vI k8), (19, pO ar), (23, pO bq), (24, pO br), (248, vI k8), (321, .agg #[sL (aD ak) (Int.toNat k8) (Int.toNat k8), sL aq aa aa, vI k8, vI 0, sL none 0 0]), (322, .bool ux), (323, .bool (!ux)), (324, .bool (!ux)), (325, .agg #[sL (aD ak) (Int.toNat k8) (Int.toNat k8), sL aq aa aa, vI k8, vI 0, sL none 0 0]), (326, vI k8), (327, vI (k8 - 1)), (328, .bool j9), (329, .bool (!j9)), (330, .bool (!j9)), (331, .bool (!j9)), (332, .agg (#[sL (aD az) [[0, 2, -1], [2, 0, 2], [-1, 2, 0]].length 3, sL (aD aw) [[0], [1], [1, 2]].length 3, vI n3, vI n4, sL bl bm bn])), (333, vI k8), (334, vI (k8 - 1)), (335, .bool ja), (336, .bool (!ja)), (337, .bool (!ja)), (338, .bool (!ja)), (339, .agg (#[sL (aD az) [[0, 2, -1], [2, 0, 2], [-1, 2, 0]].length 3, sL (aD aw) [[0], [1], [1, 2]].length 3, vI n3, vI n4, sL bl bm bn])), (340, vI k8), (341, vI (k8 - 1)), (342, .agg #[vI (k8 - 1), vI 0]), (343, .bool jb), (344, .bool (!jb)), (345, .bool (!jb)), (346, .bool (!jb)), (347, .agg (#[sL (aD az) [[0, 2, -1], [2, 0, 2], [-1, 2, 0]].length 3, sL (aD aw) [[0], [1], [1, 2]].length 3, vI n3, vI n4, sL bl bm bn])), (348, .bool jc), (349, .bool (!jc)), (350, .bool (!jc)), (351, .bool (!jc)), (352, .agg (#[sL (aD ax) [[0, 2, -1], [2, 0, 2], [-1, 2, 0]].length 3, sL (aD al) [[0], [1], [1, 2]].length 3, vI n5, vI n6, sL (aD aj) [([0, 2], 3, 12), (dt, 1, 20)].length 2])), (353, .bool jd), (354, .bool (!jd)), (355, .bool (!jd)), (356, .bool (!jd)), (357, .agg #[sL (aD (β 36 0)) 3 3, sL (aD (β 36 4)) 3 3, vI n7, vI n8, sL (aD (β 36 8)) 2 2]), (358, vI k8), (359, vI (3 * k8)), (360, sL (aD (β 39 0)) (Int.toNat (3 * k8)) (Int.toNat (3 * k8))), (361, .bool mw), (362, .bool (!mw)), (363, .bool (!mw))] := km
    replace ko : L9.Perm (((β 36 0), ce #[sL (aD (β 36 1)) 3 3, sL (aD (β 36 2)) 3 3, sL (aD (β 36 3)) 3 3] 22) :: (((β 36 1), ce #[vI 0, vI 2, vI (-1)] 3) :: (((β 36 2), ce #[vI 2, vI 0, vI 2] 3) :: (((β 36 3), ce #[vI (-1), vI 2, vI 0] 3) :: (((β 36 4), ce #[sL (aD (β 36 5)) 1 1, sL (aD (β 36 6)) 1 1, sL (aD (β 36 7)) 2 2] 22) :: (((β 36 5), ce #[vI 0] 3) :: (((β 36 6), ce #[vI 1] 3) :: (((β 36 7), ce #[vI 1, vI 2] 3) :: (((β 36 8), ce #[sL (aD (β 36 9)) 2 2, vI 3, vI 12, sL (aD (β 36 10)) 1 1, vI 1, vI 20] 35) :: (((β 36 9), ce #[vI 0, vI 2] 3) :: (((β 36 10), ce #[vI 1] 3) :: (((β 39 0), ce (madeCells (.agg #[vI 0, vI 0] : Value).cells ((Int.toNat (3 * k8)) * 2)) 29) :: ((br, ce (#[sL (aD ax) [[0, 2, -1], [2, 0, 2], [-1, 2, 0]].length 3, sL (aD al) [[0], [1], [1, 2]].length 3, vI n5, vI n6, sL (aD aj) [([0, 2], 3, 12), (dt, 1, 20)].length 2]) 26) :: ((bq, ce (#[sL (aD az) [[0, 2, -1], [2, 0, 2], [-1, 2, 0]].length 3, sL (aD aw) [[0], [1], [1, 2]].length 3, vI n3, vI n4, sL bl bm bn]) 26) :: ((ar, ce #[sL (aD ak) (Int.toNat k8) (Int.toNat k8), sL aq aa aa, vI k8, vI 0, sL none 0 0] 26) :: (au ++ (av ++ (bd ++ [])))))))))))))))))) := ko
    have hb994 := mx 36 0; generalize β 36 0 = b994 at km ko hb994
    have hb995 := mx 36 1; generalize β 36 1 = b995 at km ko hb995
    have hb996 := mx 36 2; generalize β 36 2 = b996 at km ko hb996
    have hb997 := mx 36 3; generalize β 36 3 = b997 at km ko hb997
    have hb998 := mx 36 4; generalize β 36 4 = b998 at km ko hb998
    have hb999 := mx 36 5; generalize β 36 5 = b999 at km ko hb999
    have uk := mx 36 6; generalize β 36 6 = b1000 at km ko uk
    have uo := mx 36 7; generalize β 36 7 = b1001 at km ko uo
    have uq := mx 36 8; generalize β 36 8 = b1002 at km ko uq
    have ur := mx 36 9; generalize β 36 9 = b1003 at km ko ur
    have uu := mx 36 10; generalize β 36 10 = b1004 at km ko uu
    have pd := mx 39 0; generalize β 39 0 = b1005 at km ko pd
    clear mx; refine Re _ km ?_; refine BA ko ?_
    obtain ⟨l9, h1006, r1007⟩ := BC r961
    have uw : AM K.w0.heap.size 29 2 eP F908 (aD b1005) (Int.toNat (3 * k8)) (Int.toNat (3 * k8)) l9 [(b1005, ce (madeCells (.agg #[vI 0, vI 0] : Value).cells ((Int.toNat (3 * k8)) * 2)) 29)] := by rw [h1006]; exact AM.made kP (by decide) (fun _ => ⟨_, _, rfl, rfl, rfl⟩) pd (OT uj)
    generalize pe : ([(b1005, ce (madeCells (.agg #[vI 0, vI 0] : Value).cells ((Int.toNat (3 * k8)) * 2)) 29)] : LH) = Lb1008 at uw
    refine BA (L' := Lb1008 ++ ((b994, ce #[sL (aD b995) 3 3, sL (aD b996) 3 3, sL (aD b997) 3 3] 22) :: ((b995, ce #[vI 0, vI 2, vI (-1)] 3) :: ((b996, ce #[vI 2, vI 0, vI 2] 3) :: ((b997, ce #[vI (-1), vI 2, vI 0] 3) :: ((b998, ce #[sL (aD b999) 1 1, sL (aD b1000) 1 1, sL (aD b1001) 2 2] 22) :: ((b999, ce #[vI 0] 3) :: ((b1000, ce #[vI 1] 3) :: ((b1001, ce #[vI 1, vI 2] 3) :: ((b1002, ce #[sL (aD b1003) 2 2, vI 3, vI 12, sL (aD b1004) 1 1, vI 1, vI 20] 35) :: ((b1003, ce #[vI 0, vI 2] 3) :: ((b1004, ce #[vI 1] 3) :: ((br, ce (#[sL (aD ax) [[0, 2, -1], [2, 0, 2], [-1, 2, 0]].length 3, sL (aD al) [[0], [1], [1, 2]].length 3, vI n5, vI n6, sL (aD aj) [([0, 2], 3, 12), (dt, 1, 20)].length 2]) 26) :: ((bq, ce (#[sL (aD az) [[0, 2, -1], [2, 0, 2], [-1, 2, 0]].length 3, sL (aD aw) [[0], [1], [1, 2]].length 3, vI n3, vI n4, sL bl bm bn]) 26) :: ((ar, ce #[sL (aD ak) (Int.toNat k8) (Int.toNat k8), sL aq aa aa, vI k8, vI 0, sL none 0 0] 26) :: (au ++ (av ++ (bd ++ [])))))))))))))))))) (by rw [← pe]; exact (fC (fC (fC (fC (fC (fC (fC (fC (fC (fC (fC fO)))))))))))) ?_
    refine BA (L' := (b994, ce #[sL (aD b995) 3 3, sL (aD b996) 3 3, sL (aD b997) 3 3] 22) :: ((b995, ce #[vI 0, vI 2, vI (-1)] 3) :: ((b996, ce #[vI 2, vI 0, vI 2] 3) :: ((b997, ce #[vI (-1), vI 2, vI 0] 3) :: ((b998, ce #[sL (aD b999) 1 1, sL (aD b1000) 1 1, sL (aD b1001) 2 2] 22) :: ((b999, ce #[vI 0] 3) :: ((b1000, ce #[vI 1] 3) :: ((b1001, ce #[vI 1, vI 2] 3) :: ((b1002, ce #[sL (aD b1003) 2 2, vI 3, vI 12, sL (aD b1004) 1 1, vI 1, vI 20] 35) :: ((b1003, ce #[vI 0, vI 2] 3) :: ((b1004, ce #[vI 1] 3) :: ((br, ce (#[sL (aD ax) [[0, 2, -1], [2, 0, 2], [-1, 2, 0]].length 3, sL (aD al) [[0], [1], [1, 2]].length 3, vI n5, vI n6, sL (aD aj) [([0, 2], 3, 12), (dt, 1, 20)].length 2]) 26) :: ((bq, ce (#[sL (aD az) [[0, 2, -1], [2, 0, 2], [-1, 2, 0]].length 3, sL (aD aw) [[0], [1], [1, 2]].length 3, vI n3, vI n4, sL bl bm bn]) 26) :: ((ar, ce #[sL (aD ak) (Int.toNat k8) (Int.toNat k8), sL aq aa aa, vI k8, vI 0, sL none 0 0] 26) :: (Lb1008 ++ (au ++ (av ++ (bd ++ [])))))))))))))))))) (List.Perm.symm (fC (fC (fC (fC (fC (fC (fC (fC (fC (fC (fC (fC (fC (fC fP))))))))))))))) (Aa ?_)
    obtain ⟨g1012, r1013⟩ := AB r1007
    refine AR rfl (fun su => absurd (g1012.symm.trans su) (by decide)) (fun su => ?_)
    refine Ao ?_
    obtain ⟨k12, h1015, sv⟩ := Av r1013
    refine jE ([]) [(248, vI k8), (381, .bool k12)] ?_ ?_
    ·clear sv
     refine An (uv (CA isAgg26 sizeOf26 13) ?_)
     obtain ⟨n9, h1017, sw⟩ := Av h1015
     refine Bn rfl call13 rfl rfl rfl (pT ((fC (fC (fC (fC (fC (fC (fC (fC (fC (fC (fC (fC (fC (fC (fS fP))))))))))))))).trans (pA ((fC (fC (fC (fC (fC (fC (fC (fC (fC (fC (fC (fC (fC (fC (fS fP))))))))))))))).trans (pA pR)))) (lp (lp (ln rfl)))) (fun F2 h2 h3 => by have h0 := GL (ad.row kI h2 (aL h3)) (ae.row kI h2 (aL (aR h3))) (Ar.nil (a := none) _ _ _) h1017; rw [← (C0.A6 ad).1] at h0; rw [← (C0.A6 ae).1] at h0; exact h0) ?_
     refine uv (BO rfl rfl) (um (uv (CQ rfl rfl) (um ?_)))
     by_cases en : 0 < k8
     ·have r1020 := A5 sw en
      refine nT en (um (nT en ?_))
      refine uv (AV rfl rfl) (uv (AF (AX rfl en) rfl) (uv (OC underlying4 rfl rfl) (um ?_)))
      obtain ⟨fw, r1022⟩ := AB r1020
      refine nF fw (uv (CA isAgg26 sizeOf26 12) (nF fw ?_))
      obtain ⟨n10, h1023, r1024⟩ := Av r1022
      refine Bn rfl call13 rfl rfl rfl (pT ((fC (fC (fC (fC (fC (fC (fC (fC (fC (fC (fC (fC (fC (fC (fS (fS (fS fP))))))))))))))))).trans (pA pR)) (lp (ln rfl))) (fun F2 h2 h3 => by rw [(AM.A6 ab).1]; exact GL (bj.mono kJ h2) (bx.mono kJ h2) (ab.row kN h2 (aL h3)) h1023) ?_
      refine nF fw (uv (BO rfl rfl) ?_)
      refine nF fw (um (nF fw ?_))
      refine uv (AV rfl rfl) (nF fw (uv (OC underlying4 rfl rfl) (uv (AD (AL rfl fw) rfl) (Aa ?_))))
      obtain rfl := AP r1024
      exact mi kn ⟨rfl, rfl, z2⟩
     have r1025 := A4 sw en
     refine fF en (fF en ?_)
     refine uv (AD (AL rfl en) rfl) (uv (OC underlying4 rfl rfl) (um ?_))
     obtain ⟨fx, r1027⟩ := AB r1025
     refine nF fx (uv (CA isAgg26 sizeOf26 12) (nF fx ?_))
     obtain ⟨n11, h1028, r1029⟩ := Av r1027
     refine Bn rfl call13 rfl rfl rfl (pT ((fC (fC (fC (fC (fC (fC (fC (fC (fC (fC (fC (fC (fC (fC (fS (fS (fS fP))))))))))))))))).trans (pA pR)) (lp (ln rfl))) (fun F2 h2 h3 => by rw [(AM.A6 ab).1]; exact GL (bj.mono kJ h2) (bx.mono kJ h2) (ab.row kN h2 (aL h3)) h1028) ?_
     refine nF fx (uv (BO rfl rfl) ?_)
     refine nF fx (um (nF fx ?_))
     refine uv (AV rfl rfl) (nF fx (uv (OC underlying4 rfl rfl) (uv (AD (AL rfl fx) rfl) (Aa ?_))))
     obtain rfl := AP r1029
     exact mi kn ⟨rfl, rfl, z2⟩
    obtain ⟨g1032, r1033⟩ := AB sv
    refine AR rfl (fun sx => absurd (g1032.symm.trans sx) (by decide)) (fun sx => ?_)
    refine Ao (Ay (id := 13) ?_)
    clear r1033
    exact mi kr ⟨((((((((((((((((((p6.trans j8).trans gm).trans fs).trans eg).trans gn).trans ft).trans eh).trans dm).trans fv).trans ei).trans dp).trans df).trans ej).trans dq).trans dg).trans da).trans dr).trans dh), rfl, z1⟩
   refine An (uv (A0 rfl rfl (CC.Cs o8 qh g552)) ?_)
   refine um (Aa ?_)
   exact le kr ⟨_, hk562, r564, (s9.trans u2), rfl, z1⟩
  obtain rfl := CC.zero o8 qh
  rw [AY] at qg
  refine AI (Am (Am ?_))
  refine At ?_
  clear qg
  exact mi kr ⟨s9, rfl, (sn _)⟩
 refine AJ ?_
 refine uv (BI (v := .agg #[sL none 0 0, sL none 0 0, vI 0, vI 0, sL none 0 0]) rfl (by intro w; kernel_rfl)) ?_
 obtain ⟨ok16, h1041, r1042⟩ := Av r551
 refine cV call5 (CV (Ar.nil _ _ _) (Ar.nil _ _ _) (Ar.nil _ _ _) h1041) (um ?_)
 obtain ⟨pf, r1044⟩ := AB r1042
 refine nB pf ?_
 refine uv (BI (v := .agg #[sL none 0 0, sL none 0 0, vI 0, vI 0, sL none 0 0]) rfl (by intro w; kernel_rfl)) ?_
 refine nB pf ?_
 obtain ⟨ok17, h1045, r1046⟩ := Av r1044
 refine cV call9 (GP (Ar.nil _ _ _) (Ar.nil _ _ _) (Ar.nil _ _ _) (Ar.nil _ _ _) h1045) (uv (AF (Gl rfl pf) rfl) (um ?_))
 obtain ⟨sy, r1048⟩ := AB r1046
 refine nB sy ?_
 obtain ⟨ok18, h1049, r1050⟩ := Av r1048
 refine cV call14 (B0 h1049) (uv (AF (Gl rfl sy) rfl) ?_)
 refine ua (Aa (AA ?_))
 refine C3 results3 ?_
 obtain rfl := AP r1050
 exact rfl
end Go.Proofs.YtbeeigejcihadaaGreat
