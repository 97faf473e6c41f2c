/- The walks that this claim needs, printed by a program of mine; part 1. -/
import Derived.Test.YtfmapnhfamoecaaGreatZRShX
import Derived.Test.YtfmapnhfamoecaaGreatZRTf
import Derived.Test.YtfmapnhfamoecaaGreatZRTd
namespace Go.Proofs.YtfmapnhfamoecaaGreat
open Go.SH Go.PL
open Tryz 
variable {so : (List Int) → Option Bool} {Mz Md Qi Qs KF Kx : Array Value} {F : FS} {Mk KX Kw : FuncId} {a at_ b hi hour Ae last lo n r4 Cm start G2 v BC : Int} {G1 : LH} {A1 : List (Int × Int × Int)} {Bs : List (Int × Int)} {walks : List (List Int)} {hit metal Aw seq A5 : List Int} {MG KG YD Bq At N5 Dj Ar CR AW B0 E8 Hc AF : Nat} {QR YX : Nat × Nat} {Bp As Oz Dk Aq CV AX B5 AG : Option Addr}
theorem P9 (aa : Ax 1 (iE .u8) F Dk Dj metal) {r : List Int} {r2 r3 : Int} (hr : JE metal = some (r, r2, r3)) :
    SH.Spec Tryz.prog 6 #[.slice Dk metal.length Dj] F [] fun F' L' v => ∃ (rb : Nat) (ra : Option Addr) (rc : Nat), v = .pointer (some ⟨rb, 0, none⟩) ∧ L' = [(rb, ce #[.slice ra r.length rc, .int .i64 r2, .int .u32 r3] 137)] ∧ Ax 1 (iE .u8) F' ra rc r := by
 refine sp func6 ntmps6 fun K _ _ => ?_
 rw [JE] at hr
 refine AO (ua (Cj (um ?_)))
 refine uv (Bx (v := .agg #[.slice Dk metal.length Dj, .int .i64 0, .int .u32 0]) rfl (by intro w; kernel_rfl)) ?_
 refine BH rfl rfl ?_; intro b1 ab
 refine ua (Aa (Al ?_))
 refine Cq results6 ?_
 obtain ⟨rfl, rfl, rfl⟩ := KI hr
 exact ⟨_, _, _, rfl, rfl, aa⟩
set_option maxHeartbeats 1000000 in
theorem MR (ab : Ax 1 (iE .u8) F Dk Dj metal) {r r2 r3 : Int} (hr : Ed metal at_ G2 = some (r, r2, r3)) :
    SH.Spec Tryz.prog 115 #[.pointer (some ⟨MG, 0, none⟩)] F [(MG, ce #[.slice Dk metal.length Dj, .int .i64 at_, .int .u32 G2] 137)] fun _ L' v => v = .int .i64 r ∧ L' = [(MG, ce #[.slice Dk metal.length Dj, .int .i64 r2, .int .u32 r3] 137)] := by
 refine sp func115 ntmps115 fun K _ _ => ?_
 rw [Ed] at hr
 refine AO (ua (Aa ?_))
 obtain ⟨ad, aa, h1, r4⟩ := DA hr
 refine jE ([(MG, ce #[.slice Dk metal.length Dj, .int .i64 ad, .int .u32 aa] 137)]) [(0, .pointer (some ⟨MG, 0, none⟩))] ?_ ?_
 ·clear r4
  refine dW (wm (wv (A4 rfl) (wv (Ab Ms rfl) (wv (Aj isAgg3 rfl (Has.own 0 rfl) rfl) (wm (wv (A4 rfl) (wv (Ab Qb rfl) ?_)))))))
  refine wv (Aj isAgg22 rfl (Has.own 0 rfl) rfl) (wv (A3 underlying22 rfl) (wv (Dn rfl rfl) (DN ?_)))
  refine cQ (fun c5 => ?_) fun c5 => ?_
  ·have r6 := A8 h1 c5
   refine Ai (um (um (um ?_)))
   refine uv (A4 rfl) (uv (Ab Qa rfl) (uv (Aj isAgg135 rfl (Has.own 0 rfl) rfl) (uv (Y4 rfl rfl rfl) (uv (A4 rfl) (uv (Ab Ms rfl) (CN (i := 0) sizeOf3 rfl rfl rfl rfl (Ce rfl) (AK rfl ?_)))))))
   refine uv (A4 rfl) (uv (Ab Qa rfl) (CN (i := 0) sizeOf135 rfl rfl rfl rfl (Ce rfl) (AK rfl (Aa ?_))))
   obtain ⟨rfl, rfl⟩ := DH r6
   exact mi kr ⟨rfl, rfl, z1⟩
  have r7 := A9 h1 c5
  refine An ?_
  obtain ⟨rfl, rfl⟩ := DH r7
  exact mi kr ⟨rfl, rfl, z1⟩
 refine AO (um ?_)
 refine uv (A4 rfl) (uv (Ab Qa rfl) (uv (Aj isAgg135 rfl (Has.own 0 rfl) rfl) (uv (YV rfl rfl rfl) ?_)))
 obtain ⟨n, h9, au⟩ := DK r4
 refine uv ((Jj rfl).i h9) (Aa ?_)
 obtain ⟨n2, ae, al, ao⟩ := DA au
 refine jE ([(MG, ce #[.slice Dk metal.length Dj, .int .i64 ae, .int .u32 aa] 137)]) [(3, .int .u32 n2)] ?_ ?_
 ·clear ao
  refine AO (um ?_)
  refine uv (A4 rfl) (uv (Ab Qb rfl) (uv (Aj isAgg22 rfl (Has.own 0 rfl) rfl) (uv (A3 underlying22 rfl) (uv (JU rfl rfl) (Aa ?_)))))
  refine cQ (fun af => ?_) fun af => ?_
  ·have av := A8 al af
   refine dW ?_
   refine wm (wm ?_)
   refine wv (A4 rfl) (wv (Ab Qb rfl) (wv (Aj isAgg22 rfl (Has.own 0 rfl) rfl) (wm (wv (A4 rfl) (wv (Ab Ms rfl) (wv (Aj isAgg3 rfl (Has.own 0 rfl) rfl) ?_))))))
   obtain ⟨x, aq, ah, aw⟩ := Cb av
   obtain ⟨bl, bm, bn, ax, ai, aj, ar, rfl, ay, ak⟩ := Ax.at (Ad _) ab ([(MG, ce #[.slice Dk metal.length Dj, .int .i64 ad, .int .u32 aa] 137)]) aq.1 ah
   refine wv (AN underlying22 sizeOf5 rfl ai rfl aq) (wv (Aj isAgg5 rfl aj (ak 0 (by decide))) (wv (UR rfl underlying5 underlying135 rfl) (wv (YV rfl rfl rfl) (wv (Y4 rfl rfl rfl) ?_))))
   obtain ⟨n3, az, ba⟩ := DK aw
   refine wv ((Jj rfl).i az) ?_
   refine DN (Ai (um ?_))
   refine uv (A4 rfl) (uv (Ab Ms rfl) (uv (Aj isAgg3 rfl (Has.own 0 rfl) rfl) ?_))
   obtain ⟨bb, bc⟩ := A2 ba
   refine uv (Bd rfl rfl bb) (uv (A4 rfl) (uv (Ab Ms rfl) (CN (i := 0) sizeOf3 rfl rfl rfl rfl (Ce rfl) (AK rfl (Aa ?_)))))
   obtain ⟨rfl, rfl⟩ := DH bc
   exact mi kr ⟨rfl, rfl, z1⟩
  have bg := A9 al af
  refine An ?_
  obtain ⟨rfl, rfl⟩ := DH bg
  exact mi kr ⟨rfl, rfl, z1⟩
 refine AO (um (um ?_))
 refine uv (U3 rfl rfl (by decide)) (uv (aZ rfl rfl rfl) (uv (bH rfl rfl rfl) ?_))
 obtain ⟨bj, bk⟩ := A2 ao
 refine uv (O8 underlying135 underlying3 rfl bj) ?_
 refine ua (Aa (Al ?_))
 refine Cq results115 ?_
 obtain ⟨rfl, rfl, rfl⟩ := KI bk
 exact ⟨rfl, rfl⟩
theorem Ft (aa : Ax 1 (iE .u8) F Dk Dj metal) {r r2 r3 : Int} (hr : Cs metal at_ G2 n = some (r, r2, r3)) :
    SH.Spec Tryz.prog 40 #[.pointer (some ⟨MG, 0, none⟩), .int .i64 n] F [(MG, ce #[.slice Dk metal.length Dj, .int .i64 at_, .int .u32 G2] 137)] fun _ L' v => v = .int .i64 r ∧ L' = [(MG, ce #[.slice Dk metal.length Dj, .int .i64 r2, .int .u32 r3] 137)] := by
 refine sp func40 ntmps40 fun K _ _ => ?_
 rw [Cs] at hr
 refine AO (ua (Cj (um ?_)))
 obtain ⟨n2, ad, ab, h1, r4⟩ := IH hr
 refine cG call115 (MR aa h1) ?_; rintro _ F5 _ ai aj ak ⟨rfl, rfl⟩
 refine AK (lb (ln rfl)) (um ?_)
 obtain ⟨g9, ae⟩ := A2 r4
 refine uv (Bd rfl rfl g9) (uv (Uj rfl rfl) ?_)
 obtain ⟨af, ah⟩ := A2 ae
 refine uv (NG rfl rfl af) ?_
 refine ua (Aa (Al ?_))
 refine Cq results40 ?_
 obtain ⟨rfl, rfl, rfl⟩ := KI ah
 exact ⟨rfl, rfl⟩
theorem GX (aa : Ax 1 (iE .u8) F Dk Dj metal) {r r2 r3 : Int} (hr : CQ metal at_ G2 lo hi = some (r, r2, r3)) :
    SH.Spec Tryz.prog 39 #[.pointer (some ⟨MG, 0, none⟩), .int .i64 lo, .int .i64 hi] F [(MG, ce #[.slice Dk metal.length Dj, .int .i64 at_, .int .u32 G2] 137)] fun _ L' v => v = .int .i64 r ∧ L' = [(MG, ce #[.slice Dk metal.length Dj, .int .i64 r2, .int .u32 r3] 137)] := by
 refine sp func39 ntmps39 fun K _ _ => ?_
 rw [CQ] at hr
 refine AO (ua (Cj (um (um (um (um ?_))))))
 obtain ⟨g1, r4⟩ := A2 hr
 refine uv (Gl rfl rfl g1) ?_
 obtain ⟨n, ad, ab, h5, r6⟩ := IH r4
 refine cG call40 (Ft aa h5) ?_; rintro _ F7 _ ai ae aj ⟨rfl, rfl⟩
 refine AK (lb (ln rfl)) ?_
 obtain ⟨af, ah⟩ := A2 r6
 refine uv (Bd rfl rfl af) ?_
 refine ua (Aa (Al ?_))
 refine Cq results39 ?_
 obtain ⟨rfl, rfl, rfl⟩ := KI ah
 exact ⟨rfl, rfl⟩
set_option maxHeartbeats 1000000 in
theorem OJ {plots : Int} (aa : Ax 1 (iE .u8) F Dk Dj metal) {r : Int} {r2 : List Int} {r3 : Int} (hr : Ho metal at_ G2 plots = some (r, r2, r3, r4)) :
    SH.Spec Tryz.prog 7 #[.pointer (some ⟨MG, 0, none⟩), .int .i64 plots] F [(MG, ce #[.slice Dk metal.length Dj, .int .i64 at_, .int .u32 G2] 137)] fun F' L' v => ∃ (dk : Option Addr) (dm : Nat) (dn : Nat) (dp : LH), v = .agg #[.int .i64 r, .slice dk dm dn] ∧ L' = (MG, ce #[.slice Dk metal.length Dj, .int .i64 r3, .int .u32 r4] 137) :: (dp ++ []) ∧ A6 0 34 1 (iE .i64) F' dk dm dn r2 dp := by
 refine sp func7 ntmps7 fun K _ _ => ?_
 rw [Ho] at hr
 refine AO ?_
 refine Bj rfl zeroValue27 ?_; intro b1 ic
 refine Cj (um ?_)
 obtain ⟨n, ca, bk, h2, r5⟩ := IH hr
 refine GJ (Lb := [(MG, ce #[.slice Dk metal.length Dj, .int .i64 at_, .int .u32 G2] 137)]) (Lr := [(b1, ce #[.int .i64 0, .slice none 0 0] 27)]) rfl call39 rfl rfl rfl (((fC fO).trans (pC pR))) (GX aa h2) ?_; rintro _ F6 _ et ie ig ⟨rfl, rfl⟩
 replace aa := aa.mono (Ad _) et
 refine AK (lb (ln rfl)) ?_
 refine uv (Bx (v := .agg #[.int .i64 n, .slice none 0 0]) rfl (by intro w; kernel_rfl)) ?_
 refine Bj rfl zeroValue27 ?_; intro H5 eu
 refine Br (i := 0) sizeOf27 rfl rfl rfl (by simp [Value.oneCell']) rfl (Ce rfl) (AK rfl ?_)
 refine Cj (um (um ?_))
 refine uv (Ab I7 rfl) (uv (Aj isAgg3 rfl (Has.own 0 rfl) rfl) ?_)
 obtain ⟨ew, ey⟩ := A2 r5
 refine uv (P1 rfl rfl ew) (uv (Uj rfl rfl) ?_)
 obtain ⟨n2, cb, bl, fa, fb⟩ := IH ey
 refine GJ (Lb := [(MG, ce #[.slice Dk metal.length Dj, .int .i64 ca, .int .u32 bk] 137)]) (Lr := [(H5, ce #[.int .i64 n, .slice none 0 0] 27), (b1, ce #[.int .i64 0, .slice none 0 0] 27)]) rfl call39 rfl rfl rfl (((fC fO).trans (pC pR))) (GX aa fa) ?_; rintro _ dq _ cc fe ff ⟨rfl, rfl⟩
 replace aa := aa.mono (Ad _) cc
 refine AK (lb (ln rfl)) ?_
 refine ua (Cj (ua (Aa ?_)))
 obtain ⟨bm, ak, ad, fg, dr⟩ := IH fb
 refine AV (fun e1 F1 L1 => ∃ (bc : Option Addr) (bg : Nat) (bj : Nat) (ar : LH), AZ dq F1 ∧ L1 = ((MG, ce #[.slice Dk metal.length Dj, .int .i64 bm, .int .u32 ak] 137) :: ((H5, ce #[.int .i64 n, .slice bc bg bj] 27) :: ((b1, ce #[.int .i64 0, .slice none 0 0] 27) :: (ar ++ [])))) ∧ e1.sub [(0, .pointer (some ⟨MG, 0, none⟩)), (4, .pointer (some ⟨b1, 0, none⟩)), (5, .pointer (some ⟨H5, 0, none⟩))] ∧ A6 K.w0.heap.size 34 1 (iE .i64) F1 bc bg bj ad ar) ?_ ?_
 ·clear dr
  refine AO (um ?_)
  refine uv (Ab I7 rfl) (uv (Aj isAgg3 rfl (Has.own 1 rfl) rfl) ?_)
  obtain ⟨fh, fi⟩ := A2 fg
  refine uv (Zi rfl rfl fh) ?_
  refine um (Aa ?_)
  refine Am ?_
  obtain ⟨fj, fk⟩ := A2 fi
  refine Bk (fun bu e1 F1 L1 => ∃ (k : Int), Fp 0 (n2 * n) k bu ∧ ∃ (ah : Int) (ae : Int) (ab : List Int) (al : Int) (av : Option Addr) (aw : Nat) (ax : Nat) (af : LH), Ec metal bu ah ae ab al = some (bm, ak, ad) ∧ AZ dq F1 ∧ L1 = ((MG, ce #[.slice Dk metal.length Dj, .int .i64 ah, .int .u32 ae] 137) :: ((H5, ce #[.int .i64 n, .slice av aw ax] 27) :: ((b1, ce #[.int .i64 0, .slice none 0 0] 27) :: (af ++ [])))) ∧ e1.sub [(0, .pointer (some ⟨MG, 0, none⟩)), (4, .pointer (some ⟨b1, 0, none⟩)), (5, .pointer (some ⟨H5, 0, none⟩)), (7, .int .i64 al), (22, .int .i64 (n2 * n)), (23, .int .i64 k)] ∧ A6 K.w0.heap.size 34 1 (iE .i64) F1 av aw ax ab af) _ (m0 (kc (kc (kc (ke kr)))) ⟨_, Fp.start _ _, cb, bl, [], 10, none, 0, 0, [], fk, AZ.refl _, rfl, z6, A6.nil _ _ _ _ _⟩) ?_
  rintro bu e1 ij _ ⟨k, ay, ah, ae, ab, al, av, aw, ax, af, bx, az, rfl, cf, ai⟩
  refine AA _ cf ?_
  replace aa := aa.mono (Ad _) az
  refine AO (uv (Bg rfl rfl) ?_)
  refine Aa (Ao ?_)
  refine cQ (fun bz => ?_) fun bz => ?_
  ·obtain ⟨bu, rfl, cg⟩ := Fp.succ ay bz
   rw [Ec] at bx
   refine An (Ao ?_)
   refine Am (AO ?_)
   refine bA (cs := #[.int .i64 0, .int .i64 0, .int .i64 0, .int .i64 1, .int .i64 1, .int .i64 2]) CD [.int .i64 0, .int .i64 0, .int .i64 0, .int .i64 1, .int .i64 1, .int .i64 2] ?_; intro dt cj
   refine um ?_
   obtain ⟨n3, ba, ao, fl, fm⟩ := IH bx
   refine GJ (Lb := [(MG, ce #[.slice Dk metal.length Dj, .int .i64 ah, .int .u32 ae] 137)]) (Lr := (dt, ce #[.int .i64 0, .int .i64 0, .int .i64 0, .int .i64 1, .int .i64 1, .int .i64 2] 3) :: ((H5, ce #[.int .i64 n, .slice av aw ax] 27) :: ((b1, ce #[.int .i64 0, .slice none 0 0] 27) :: (af ++ [])))) rfl call40 rfl rfl rfl (((fC fO).trans (pC pR))) (Ft aa fl) ?_; rintro _ ik _ bn fo fp ⟨rfl, rfl⟩
   replace ai := ai.mono (Ad _) bn
   refine AK (lb (ln rfl)) ?_
   refine Bo 1 rfl cj ?_; intro fq bo cn
   refine AK rfl ?_
   replace ai := ai.mono (Ad _) bo
   have ft : Ax 1 (iE .i64) fq (some ⟨dt, 0, none⟩) 6 [0, 0, 0, 1, 1, 2] := Ax.BQ (Ad _) (vss := [[.int .i64 0], [.int .i64 0], [.int .i64 0], [.int .i64 1], [.int .i64 1], [.int .i64 2]]) (xs := [0, 0, 0, 1, 1, 2]) cn (.cons rfl (.cons rfl (.cons rfl (.cons rfl (.cons rfl (.cons rfl .nil)))))) rfl (by simp [maxLen])
   obtain ⟨x, du, cp, fv⟩ := Cb fm
   obtain ⟨il, im, iq, fw, cq, cr, dv, rfl, fx, ct⟩ := Ax.at (Ad _) ft ((MG, ce #[.slice Dk metal.length Dj, .int .i64 ba, .int .u32 ao] 137) :: ((H5, ce #[.int .i64 n, .slice av aw ax] 27) :: ((b1, ce #[.int .i64 0, .slice none 0 0] 27) :: (af ++ [])))) du.1 cp
   refine uv (AN underlying33 sizeOf3 rfl cq rfl du) (uv (Aj isAgg3 rfl cr (ct 0 (by decide))) ?_)
   refine ua (Aa ?_)
   obtain ⟨aq, p, dw, dx⟩ := DA fv
   refine jE (((MG, ce #[.slice Dk metal.length Dj, .int .i64 ba, .int .u32 ao] 137) :: ((H5, ce #[.int .i64 n, .slice av aw ax] 27) :: ((b1, ce #[.int .i64 0, .slice none 0 0] 27) :: (af ++ []))))) [(0, .pointer (some ⟨MG, 0, none⟩)), (4, .pointer (some ⟨b1, 0, none⟩)), (5, .pointer (some ⟨H5, 0, none⟩)), (7, .int .i64 aq), (8, .int .i64 p), (22, .int .i64 (n2 * n)), (23, .int .i64 k)] ?_ ?_
   ·clear dx
    refine AO (um ?_)
    refine uv (Dn rfl rfl) (Aa ?_)
    refine cQ (fun cu => ?_) fun cu => ?_
    ·have fy := A8 dw cu
     refine AO (um ?_)
     obtain ⟨ga, dy⟩ := A2 fy
     refine uv (Gl rfl rfl ga) ?_
     refine ua (Cj (um ?_))
     refine uv (Bg rfl rfl) (Aa ?_)
     refine cQ (fun cv => ?_) fun cv => ?_
     ·have gb := A8 dy cv
      refine Ai (ua (Aa ?_))
      obtain ⟨rfl, rfl⟩ := DH gb
      exact mi kr ⟨rfl, rfl, z7⟩
     have gg := A9 dy cv
     refine An ?_
     obtain ⟨rfl, rfl⟩ := DH gg
     exact mi kr ⟨rfl, rfl, z7⟩
    have gh := A9 dw cu
    refine An ?_
    obtain ⟨rfl, rfl⟩ := DH gh
    exact mi kr ⟨rfl, rfl, z7⟩
   refine Ai (uv (Ab Dd rfl) (uv (Aj isAgg25 rfl (Has.own 1 rfl) rfl) (um ?_)))
   refine bA (cs := #[.int .i64 p]) Mg [.int .i64 p] ?_; intro ir gi
   obtain ⟨t, gj, gk, gl⟩ := Hv dx
   refine Fg (xs := ab) (ys := [p]) (zs := t) rfl Mg rfl rfl (Nat.le_refl _) (fun _ => .c (.c (.c (.c .h)))) ai (HE.box (vss := [[.int .i64 p]]) (ys := [p]) 0 rfl (Ad _) (.cons rfl .nil) rfl rfl) gj gk (by decide) ?_; intro gm gp gq cw cx
   refine kO (kd kr) (uv (Ab Dd rfl) (CN (i := 1) sizeOf25 rfl rfl rfl rfl (Ce rfl) (AK rfl ?_)))
   refine Aa (Au (id := 1) (Ai ?_))
   refine uv (Bd rfl rfl (Fp.EP ay bz fj)) ?_
   refine um (Aa ?_)
   exact le kr ⟨_, cg, ba, ao, t, aq, gm, gp, gq, cw, gl, ((az.trans bn).trans bo), rfl, z6, cx⟩
  obtain rfl := Fp.zero ay bz
  rw [Ec] at bx
  refine AQ (Af (Af ?_))
  refine Av ?_
  obtain ⟨rfl, rfl, rfl⟩ := KI bx
  exact mi kr ⟨av, aw, ax, af, az, rfl, z3, ai⟩
 rintro e1 iu _ ⟨bc, bg, bj, ar, cy, rfl, cz, aj⟩
 refine AA _ cz ?_
 replace aa := aa.mono (Ad _) cy
 refine Ao (DB [(.still, 0), (.still, 1), (.still, 2), (.still, 3), (.still, 4), (.still, 5), (.still, 6), (.seq, 7), (.still, 8), (.seq, 9)] (by kernel_rfl) (by kernel_rfl) (trivial) (by rfl) (by kernel_rfl) (mS [5] rfl (Ab Dd rfl) (mL [43] ([(H5, ce #[.int .i64 n, .slice bc bg bj] 27)]) rfl (s0 (s1 (s2 (s1 (s3 sr))))) (fun H F' L' da db => Aj isAgg25 rfl ((Has.own 0 rfl).ext da db) rfl) (mS [0] rfl (B3 rfl) (mS [5] rfl (Ab Dd rfl) (mL [46] ([(H5, ce #[.int .i64 n, .slice bc bg bj] 27)]) rfl (s0 (s1 (s2 (s1 (s3 sr))))) (fun H F' L' da db => Aj isAgg25 rfl ((Has.own 0 rfl).ext da db) rfl) (mS [47] rfl ((A3 underlying25 rfl).i (A6.Je aj)) ?_)))))))
 obtain ⟨gr, gu⟩ := A2 dr
 refine mS (v := .int .i64 ((ad.length : Int) - 1)) [48] rfl (Gl rfl rfl gr) ?_
 refine ⟨_, [(45, .pointer (some ⟨MG, 0, none⟩)), (49, .int .i64 ((ad.length : Int) - 1))], rfl, rfl, z2, by kernel_rfl, ?_⟩; intro H
 obtain ⟨n4, gv, dz, gw, gz⟩ := IH gu
 refine cG call40 (Ft aa gw) ?_; rintro _ iv _ bp e9 ia ⟨rfl, rfl⟩
 replace aj := aj.mono (Ad _) bp
 refine AK (lb (ln rfl)) ?_
 refine Aa ⟨_, rfl, bp, [1, 0], by kernel_rfl, .inl (.inr (fun d h => by cases h; rfl)), (fc (s0 (s1 (s2 (s1 (s3 sr))))) (fc sm nm)), ?_⟩
 obtain ⟨x2, bb, bq, dd⟩ := Cb gz
 obtain ⟨de, df, ib, eg, au, eh, dg, rfl, ej, eo⟩ := A6.at (Ad _) aj (L := ar ++ []) fP bb.1 bq
 refine mS [44, 50] rfl (AN underlying25 sizeOf34 rfl au rfl (A6.idx aj bb)) ?_
 refine ⟨_, [(51, .pointer (some ⟨de, df + (n4 : Int).toNat * 1, none⟩))], rfl, rfl, z1, by kernel_rfl, ?_⟩; intro H
 obtain ⟨l, dh, di⟩ := DK dd
 refine GM (u := 0) sizeOf34 (Ad _) rfl au rfl rfl (fun _ => .c (.c (.c .h))) aj dh bb ?_; intro er br
 refine Aa ⟨undef, rfl, AZ.refl _, [], by kernel_rfl, .inl (.inl rfl), nm, ?_⟩
 refine EW (AO (uv (AL isAgg27 sizeOf27 rfl (Has.own 1 rfl) (Ce rfl) rfl) (Br (i := 2) sizeOf27 rfl rfl rfl (by simp [Value.oneCell']) rfl (Ce rfl) (AK rfl (Aa (kW (kf (fC (fC fO)) (kc (kd kr))) (Al ?_)))))))
 refine Jn results7 (Dp (cs := #[.int .i64 n, .slice bc bg bj]) isAgg27 sizeOf27 rfl (Has.own 0 rfl) (Ce rfl) rfl) (s1 (s2 (s4 sr))) ?_
 obtain ⟨rfl, rfl, rfl, rfl⟩ := bB di
 exact ⟨_, _, _, _, rfl, rfl, br.any⟩
theorem On (aa : Ax 1 (iE .u8) F Dk Dj metal) {r r2 r3 : Int} (hr : GS metal at_ G2 = some (r, r2, r3, r4)) :
    SH.Spec Tryz.prog 8 #[.pointer (some ⟨MG, 0, none⟩)] F [(MG, ce #[.slice Dk metal.length Dj, .int .i64 at_, .int .u32 G2] 137)] fun _ L' v => v = .agg #[.int .i64 r, .int .i64 r2] ∧ L' = [(MG, ce #[.slice Dk metal.length Dj, .int .i64 r3, .int .u32 r4] 137)] := by
 refine sp func8 ntmps8 fun K _ _ => ?_
 rw [GS] at hr
 refine AO ?_
 refine Bj rfl zeroValue31 ?_; intro b1 aq
 refine Cj (um ?_)
 obtain ⟨n, ae, ab, h2, r5⟩ := IH hr
 refine GJ (Lb := [(MG, ce #[.slice Dk metal.length Dj, .int .i64 at_, .int .u32 G2] 137)]) (Lr := [(b1, ce #[.int .i64 0, .int .i64 0] 31)]) rfl call40 rfl rfl rfl (((fC fO).trans (pC pR))) (Ft aa h2) ?_; rintro _ F6 _ af ar au ⟨rfl, rfl⟩
 replace aa := aa.mono (Ad _) af
 refine AK (lb (ln rfl)) (um ?_)
 obtain ⟨n2, ah, ad, ai, aj⟩ := IH r5
 refine cG call39 (GX aa ai) ?_; rintro _ av _ ak al ao ⟨rfl, rfl⟩
 refine AK (lb (ln rfl)) ?_
 refine uv (Bx (v := .agg #[.int .i64 n, .int .i64 n2]) rfl (by intro w; kernel_rfl)) ?_
 refine Br (i := 1) sizeOf31 rfl rfl rfl (by simp [Value.oneCell']) rfl (Ce rfl) (AK rfl (Aa (kW (kf (fC fO) kr) (Al (Jn results8 (Dp (cs := #[.int .i64 n, .int .i64 n2]) isAgg31 sizeOf31 rfl (Has.own 0 rfl) (Ce rfl) rfl) (s1 (s2 sr)) ?_)))))
 obtain ⟨rfl, rfl, rfl, rfl⟩ := bB aj
 exact ⟨rfl, rfl⟩
theorem Lx {s_ : List Int} (aa : Ax 1 (iE .i64) F B5 B0 s_) {r : Int} (hr : EE s_ v = some r) :
    Bw Tryz.prog 58 #[.slice B5 s_.length B0, .int .i64 v] F (.int .i64 r) := by
 refine sp func58 ntmps58 fun K _ _ => ?_
 rw [EE] at hr
 refine AO (ua (Aa ?_))
 refine AV (fun e1 F1 L1 => Gp = some r ∧ F = F1 ∧ L1 = [] ∧ e1.sub []) ?_ ?_
 ·refine AO (um ?_)
  refine uv (A3 underlying33 rfl) ?_
  refine um (Aa ?_)
  refine Am ?_
  refine Bk (fun aj e1 F1 L1 => LA s_ aj fun tl k => B6 v tl k = some r ∧ F = F1 ∧ L1 = [] ∧ e1.sub [(0, .slice B5 s_.length B0), (1, .int .i64 v), (7, .int .i64 (s_.length : Int)), (8, .int .i64 k)]) _ (m0 kr ⟨_, _, rfl, BP.start _, hr, rfl, rfl, z4⟩) ?_
  rintro aj e1 _ _ ⟨tl, k, ao, ab, r3, rfl, rfl, aq⟩
  refine AA _ aq (AO (uv (Bg rfl rfl) ?_))
  refine Aa (Ao ?_)
  refine cQ (fun c6 => ?_) fun c6 => ?_
  ·obtain ⟨x, az, rfl, ar, g9, au⟩ := BP.succ ab c6
   rw [B6] at r3
   refine An (Ao ?_)
   refine Am ?_
   refine AO (um (ua (Cj (um (um (um ?_))))))
   obtain ⟨H5, ba, bb, av, ad, ae, ak, rfl, aw, af⟩ := Ax.at (Ad _) aa ([]) g9.1 ar
   refine uv (AN underlying33 sizeOf3 rfl ad rfl g9) (uv (Aj isAgg3 rfl ae (af 0 (by decide))) (uv (Dn rfl rfl) (Aa ?_)))
   refine cQ (fun ah => ?_) fun ah => ?_
   ·have ax := A8 r3 ah
    refine AO (um (ua (Aa (Al (Ay (Ah (Ah (Ay (Ah ?_)))))))))
    refine Cq results58 ?_
    obtain rfl := AM ax
    exact rfl
   have ay := A9 r3 ah
   refine An (Au (id := 1) (Ai ?_))
   refine uv (Bd rfl rfl (BP.EP ab c6 (Ax.lt aa))) ?_
   refine um (Aa ?_)
   subst ao; exact le kr ⟨_, _, rfl, au, ay, rfl, rfl, z4⟩
  obtain rfl := BP.zero ab c6
  rw [B6] at r3
  refine AQ (Af (Af ?_))
  refine Av ?_
  exact mi kr ⟨r3, rfl, rfl, (sn _)⟩
 rintro e1 _ _ ⟨al, rfl, rfl, ai⟩
 refine AA _ ai ?_
 rw [Gp] at al
 refine AO (ua (Aa (Al ?_)))
 refine Cq results58 ?_
 obtain rfl := AM al
 exact rfl
theorem Cv {s_ : List Int} (aa : Ax 1 (iE .i64) F B5 B0 s_) {r : Bool} (hr : Bv s_ v = some r) :
    Bw Tryz.prog 18 #[.slice B5 s_.length B0, .int .i64 v] F (.bool r) := by
 refine sp func18 ntmps18 fun K _ _ => ?_
 rw [Bv] at hr
 refine AO (ua (Cj (um (um ?_))))
 obtain ⟨n, h1, r2⟩ := AI hr
 refine cV call58 (Lx aa h1) (uv (Hn rfl rfl) ?_)
 refine ua (Aa (Al ?_))
 refine Cq results18 ?_
 obtain rfl := AM r2
 exact rfl
theorem Gy {r : Bool} (hr : Gr n lo hi = some r) :
    Bw Tryz.prog 50 #[.int .i64 n, .int .i64 lo, .int .i64 hi] F (.bool r) := by
 refine sp func50 ntmps50 fun K _ _ => ?_
 rw [Gr] at hr
 refine AO (ua (Cj (um (um ?_))))
 refine uv (Hn rfl rfl) (um ?_)
 by_cases c1 : lo ≤ n
 ·have r2 := A8 hr c1
  refine nT c1 (um (nT c1 (um (nT c1 ?_))))
  refine uv (LG rfl rfl) (uv (AP (Bf rfl c1) rfl) ?_)
  refine ua (Aa (Al ?_))
  refine Cq results50 ?_
  obtain rfl := AM r2
  exact rfl
 have r3 := A9 hr c1
 refine fF c1 (fF c1 (fF c1 ?_))
 refine uv (AB (AU rfl c1) rfl) ?_
 refine ua (Aa (Al ?_))
 refine Cq results50 ?_
 obtain rfl := AM r3
 exact rfl
set_option maxHeartbeats 1000000 in
theorem J9 {s_ : List (List Int)} {f : (List Int) → Option Bool} (aa : Ax 1 (Cn 1 (iE .i64)) F B5 B0 s_) (aj : IQ Tryz.prog F Mk Mz Md (Cn 1 (iE .i64)) Value.bool f) {r : Int} (hr : Eu s_ f = some r) :
    Bw Tryz.prog 262 #[.slice B5 s_.length B0, .func (.func Mk) Mz Md] F (.int .i64 r) := by
 refine sp func262 ntmps262 fun K _ _ => ?_
 rw [Eu] at hr
 refine AO (ua (Aa ?_))
 refine AV (fun e1 F1 L1 => EY = some r ∧ F = F1 ∧ L1 = [] ∧ e1.sub []) ?_ ?_
 ·refine AO (um ?_)
  refine uv (A3 underlying36 rfl) ?_
  refine um (Aa ?_)
  refine Am ?_
  refine Bk (fun ak e1 F1 L1 => LA s_ ak fun tl k => Ch f tl k = some r ∧ F = F1 ∧ L1 = [] ∧ e1.sub [(0, .slice B5 s_.length B0), (1, .func (.func Mk) Mz Md), (7, .int .i64 (s_.length : Int)), (8, .int .i64 k)]) _ (m0 kr ⟨_, _, rfl, BP.start _, hr, rfl, rfl, z4⟩) ?_
  rintro ak e1 _ _ ⟨tl, k, ar, ab, r3, rfl, rfl, au⟩
  refine AA _ au (AO (uv (Bg rfl rfl) ?_))
  refine Aa (Ao ?_)
  refine cQ (fun c6 => ?_) fun c6 => ?_
  ·obtain ⟨x, bg, rfl, av, g9, aw⟩ := BP.succ ab c6
   rw [Ch] at r3
   refine An (Ao ?_)
   refine Am ?_
   refine AO (um (ua (Cj (um (um (um ?_))))))
   obtain ⟨H5, bj, bk, ax, ad, ae, al, ⟨bl, bm, rfl, ay⟩, az, af⟩ := Ax.at (Az (Ad _)) aa ([]) g9.1 av
   refine uv (AN underlying36 sizeOf33 rfl ad rfl g9) (uv (Aj isAgg33 rfl ae (af 0 (by decide))) ?_)
   obtain ⟨ok, ba, ao⟩ := AI r3
   refine FI rfl aj.1 rfl rfl rfl (aj.2 _ (AZ.refl _) _ _ _ ⟨_, _, rfl, ay⟩ ba) (Aa ?_)
   refine AY rfl (fun ah => ?_) (fun ah => ?_)
   ·have bb := bt ao ah
    refine AO (um (ua (Aa (Al (Ay (Ah (Ah (Ay (Ah ?_)))))))))
    refine Cq results262 ?_
    obtain rfl := AM bb
    exact rfl
   have bc := bf ao ah
   refine An (Au (id := 1) (Ai ?_))
   refine uv (Bd rfl rfl (BP.EP ab c6 (Ax.lt aa))) ?_
   refine um (Aa ?_)
   subst ar; exact le kr ⟨_, _, rfl, aw, bc, rfl, rfl, z4⟩
  obtain rfl := BP.zero ab c6
  rw [Ch] at r3
  refine AQ (Af (Af ?_))
  refine Av ?_
  exact mi kr ⟨r3, rfl, rfl, (sn _)⟩
 rintro e1 _ _ ⟨aq, rfl, rfl, ai⟩
 refine AA _ ai ?_
 rw [EY] at aq
 refine AO (ua (Aa (Al ?_)))
 refine Cq results262 ?_
 obtain rfl := AM aq
 exact rfl
theorem Jb {s_ : List (List Int)} {f : (List Int) → Option Bool} (aa : Ax 1 (Cn 1 (iE .i64)) F B5 B0 s_) (ab : IQ Tryz.prog F Mk Mz Md (Cn 1 (iE .i64)) Value.bool f) {r : Bool} (hr : Eb s_ f = some r) :
    Bw Tryz.prog 233 #[.slice B5 s_.length B0, .func (.func Mk) Mz Md] F (.bool r) := by
 refine sp func233 ntmps233 fun K _ _ => ?_
 rw [Eb] at hr
 refine AO (ua (Cj (um (um ?_))))
 obtain ⟨n, h1, r2⟩ := AI hr
 refine cV call262 (J9 aa ab h1) (uv (Hn rfl rfl) ?_)
 refine ua (Aa (Al ?_))
 refine Cq results233 ?_
 obtain rfl := AM r2
 exact rfl
theorem MS {ad : Option Addr} {ae : Nat} {x : List Int} {QH : Nat} {RI : Nat × Nat} (af : Ax 1 (iE .i64) F ad ae x) (aa : F QH = some (.cells #[.func (.func Kw) KF Kx] 335 RI)) (ab : IQ Tryz.prog F Kw KF Kx (Cn 1 (iE .i64)) Value.bool so) {r : Bool} (hr : EJ x so = some r) :
    Bw Tryz.prog 250 #[.slice ad x.length ae, .pointer (some ⟨QH, 0, none⟩)] F (.bool r) := by
 refine sp func250 ntmps250 fun K _ _ => ?_
 rw [EJ] at hr
 refine AO (ua (Cj ?_))
 refine uv (Aj isAgg335 rfl (Has.frozen aa) rfl) (um ?_)
 obtain ⟨ok, h1, r2⟩ := AI hr
 refine FI rfl ab.1 rfl rfl rfl (ab.2 _ (AZ.refl _) _ _ _ ⟨_, _, rfl, af⟩ h1) (uv (Cc rfl) ?_)
 refine ua (Aa (Al ?_))
 refine Cq results250 ?_
 obtain rfl := AM r2
 exact rfl
theorem NS {l : List (List Int)} (ab : Ax 1 (Cn 1 (iE .i64)) F Oz N5 l) (aa : IQ Tryz.prog F Kw KF Kx (Cn 1 (iE .i64)) Value.bool so) {r : Bool} (hr : GR l so = some r) :
    Bw Tryz.prog 225 #[.slice Oz l.length N5, .func (.func Kw) KF Kx] F (.bool r) := by
 refine sp func225 ntmps225 fun K _ _ => ?_
 rw [GR] at hr
 refine AO ?_
 refine BH rfl rfl ?_; intro b1 af
 refine ua (Cj (um ?_))
 refine uv (C8 rfl rfl) ?_
 refine Bo 0 rfl af ?_; intro F2 ad ah
 refine AK rfl ?_
 replace ab := ab.mono (Az (Ad _)) ad
 replace aa := aa.mono ad
 have ai : IQ Tryz.prog F2 250 #[] #[.pointer (some ⟨b1, 0, none⟩)] (Cn 1 (iE .i64)) Value.bool (fun ae : (List Int) => EJ ae so) := ⟨call250, fun F2 h2 vs ae r ha hr => by obtain ⟨a5, c6, rfl, h7⟩ := ha; exact MS h7 (h2 _ _ ah) (aa.mono h2) hr⟩
 obtain ⟨ok, h9, aj⟩ := AI hr
 refine cV call233 (Jb ab ai h9) (uv (Cc rfl) ?_)
 refine ua (Aa (Al ?_))
 refine Cq results225 ?_
 obtain rfl := AM aj
 exact rfl
theorem Lf {l : List Int} {ad : Nat} {aa : Nat × Nat} (_h_l : Ax 1 (iE .i64) F Oz N5 l) (ab : F ad = some (.cells #[.int .i64 n] 3 aa)) {r : Bool} (hr : EG l n = some r) :
    Bw Tryz.prog 226 #[.slice Oz l.length N5, .pointer (some ⟨ad, 0, none⟩)] F (.bool r) := by
 refine sp func226 ntmps226 fun K _ _ => ?_
 rw [EG] at hr
 refine AO (ua (Cj (um ?_)))
 refine uv (A3 underlying33 rfl) (uv (Aj isAgg3 rfl (Has.frozen ab) rfl) (uv (Dn rfl rfl) ?_))
 refine ua (Aa (Al ?_))
 refine Cq results226 ?_
 obtain rfl := AM hr
 exact rfl
set_option maxHeartbeats 1000000 in
theorem Mp {Ak : List (List Int)} {Ac : List ((List Int) × Int × Int)} (aa : Ax 1 (Cn 1 (iE .i64)) F AG AF walks) (_af : Ax 1 (Cn 1 (iE .i64)) F As At Ak) (_ae : Ax 3 (Cd (Cn 1 (iE .i64)) (Cd (iE .i64) (iE .i64))) F Aq Ar Ac) {r : Bool} (hr : Fm walks Ak Ae start Ac = some r) :
    Bw Tryz.prog 179 #[.agg #[.slice AG walks.length AF, .slice As Ak.length At, .int .i64 Ae, .int .i64 start, .slice Aq Ac.length Ar]] F (.bool r) := by
 refine sp func179 ntmps179 fun K _ _ => ?_
 rw [Fm] at hr
 refine AO ?_
 refine BH rfl rfl ?_; intro b1 bg
 refine ua (Cj ?_)
 refine uv (Ab I9 rfl) (uv (Aj isAgg36 rfl (Has.own 0 rfl) rfl) (uv (A3 underlying36 rfl) ?_))
 refine Bj rfl zeroValue3 ?_; intro b2 aq
 refine CN (i := 0) sizeOf3 rfl rfl rfl rfl (Ce rfl) (AK rfl (Cj (uv (Aj isAgg3 rfl (Has.own 0 rfl) rfl) ?_)))
 obtain ⟨ok, h3, r4⟩ := AI hr
 refine cV call50 (Gy h3) (um ?_)
 rcases Dc ok with c5 | c5
 ·have r6 := bt r4 c5
  refine nB c5 (uv (Ab UX rfl) (nB c5 (uv (Aj isAgg3 rfl (Has.own 1 rfl) rfl) (nB c5 ?_))))
  obtain ⟨ar, h7, r8⟩ := AI r6
  refine cV call50 (Gy h7) (uv (AP (IW rfl c5) rfl) (um ?_))
  rcases Dc ar with c9 | c9
  ·have ak := bt r8 c9
   refine nB c9 (uv (Ab II rfl) (nB c9 (uv (Aj isAgg37 rfl (Has.own 1 rfl) rfl) (nB c9 (uv (A3 underlying37 rfl) (nB c9 (uv (LG rfl rfl) ?_)))))))
   refine uv (AP (IW rfl c9) rfl) (um ?_)
   by_cases ab : (Ac.length : Int) ≤ 3
   ·have al := A8 ak ab
    refine nT ab (uv (Ab Kq rfl) (nT ab (uv (Aj isAgg36 rfl (Has.own 1 rfl) rfl) (nT ab (uv (A3 underlying36 rfl) (nT ab (uv (Aj isAgg3 rfl (Has.own 0 rfl) rfl) ?_)))))))
    refine nT ab (uv (Dn rfl rfl) (uv (AP (Bf rfl ab) rfl) (um ?_)))
    by_cases ad : (walks.length : Int) = (Ak.length : Int)
    ·have au := A8 al ad
     refine nT ad (uv (Ab Kq rfl) (nT ad (uv (Aj isAgg36 rfl (Has.own 1 rfl) rfl) (nT ad (uv (C8 rfl rfl) (nT ad ?_))))))
     refine Bo 0 rfl aq ?_; intro av ah ai
     refine AK rfl ?_
     replace aa := aa.mono (Az (Ad _)) ah
     have aj : IQ Tryz.prog av 226 #[] #[.pointer (some ⟨b2, 0, none⟩)] (Cn 1 (iE .i64)) Value.bool (fun ao : (List Int) => EG ao (Ak.length : Int)) := ⟨call226, fun F2 h2 vs ao r ha hr => by obtain ⟨bj, bk, rfl, aw⟩ := ha; exact Lf aw (h2 _ _ ai) hr⟩
     obtain ⟨bl, ax, ay⟩ := AI au
     refine cV call225 (NS aa aj ax) (uv (AP (Bf rfl ad) rfl) ?_)
     refine ua (Aa ?_)
     refine kW kn (Al (Cq results179 ?_))
     obtain rfl := AM ay
     exact rfl
    have az := A9 al ad
    refine fF ad (fF ad (fF ad (fF ad ?_)))
    refine uv (AB (AU rfl ad) rfl) ?_
    refine ua (Aa ?_)
    refine kW kn (Al (Cq results179 ?_))
    obtain rfl := AM az
    exact rfl
   have ba := A9 ak ab
   refine fF ab (fF ab (fF ab (fF ab (fF ab ?_))))
   refine uv (AB (AU rfl ab) rfl) ?_
   refine um (AH (b' := false) 27 rfl rfl rfl rfl (AH (b' := false) 27 rfl rfl rfl rfl (AH (b' := false) 27 rfl rfl rfl rfl (AH (b' := false) 27 rfl rfl rfl rfl ?_))))
   refine uv (AB rfl rfl) ?_
   refine ua (Aa ?_)
   refine kW kn (Al (Cq results179 ?_))
   obtain rfl := AM ba
   exact rfl
  have bb := bf r8 c9
  refine fB c9 (fB c9 (fB c9 (fB c9 ?_)))
  refine uv (AB (IW rfl c9) rfl) ?_
  refine um (AH (b' := false) 20 rfl rfl rfl rfl (AH (b' := false) 20 rfl rfl rfl rfl (AH (b' := false) 20 rfl rfl rfl rfl (AH (b' := false) 20 rfl rfl rfl rfl (AH (b' := false) 20 rfl rfl rfl rfl ?_)))))
  refine uv (AB rfl rfl) ?_
  refine um (AH (b' := false) 27 rfl rfl rfl rfl (AH (b' := false) 27 rfl rfl rfl rfl (AH (b' := false) 27 rfl rfl rfl rfl (AH (b' := false) 27 rfl rfl rfl rfl ?_))))
  refine uv (AB rfl rfl) ?_
  refine ua (Aa ?_)
  refine kW kn (Al (Cq results179 ?_))
  obtain rfl := AM bb
  exact rfl
 have bc := bf r4 c5
 refine fB c5 (fB c5 (fB c5 ?_))
 refine uv (AB (IW rfl c5) rfl) ?_
 refine um (AH (b' := false) 14 rfl rfl rfl rfl (AH (b' := false) 14 rfl rfl rfl rfl (AH (b' := false) 14 rfl rfl rfl rfl (AH (b' := false) 14 rfl rfl rfl rfl ?_))))
 refine uv (AB rfl rfl) ?_
 refine um (AH (b' := false) 20 rfl rfl rfl rfl (AH (b' := false) 20 rfl rfl rfl rfl (AH (b' := false) 20 rfl rfl rfl rfl (AH (b' := false) 20 rfl rfl rfl rfl (AH (b' := false) 20 rfl rfl rfl rfl ?_)))))
 refine uv (AB rfl rfl) ?_
 refine um (AH (b' := false) 27 rfl rfl rfl rfl (AH (b' := false) 27 rfl rfl rfl rfl (AH (b' := false) 27 rfl rfl rfl rfl (AH (b' := false) 27 rfl rfl rfl rfl ?_))))
 refine uv (AB rfl rfl) ?_
 refine ua (Aa ?_)
 refine kW kn (Al (Cq results179 ?_))
 obtain rfl := AM bc
 exact rfl
theorem NA {Ak : List (List Int)} {Ac : List ((List Int) × Int × Int)} {s_ : Int} (_h_walks : Ax 1 (Cn 1 (iE .i64)) F AG AF walks) (_h_hears : Ax 1 (Cn 1 (iE .i64)) F As At Ak) (_h_notices : Ax 3 (Cd (Cn 1 (iE .i64)) (Cd (iE .i64) (iE .i64))) F Aq Ar Ac) {r : Bool} (hr : Gs walks Ak Ae start Ac s_ = some r) :
    Bw Tryz.prog 180 #[.agg #[.slice AG walks.length AF, .slice As Ak.length At, .int .i64 Ae, .int .i64 start, .slice Aq Ac.length Ar], .int .i64 s_] F (.bool r) := by
 refine sp func180 ntmps180 fun K _ _ => ?_
 rw [Gs] at hr
 refine AO ?_
 refine BH rfl rfl ?_; intro b1 aa
 refine ua (Cj (um ?_))
 refine uv (Ab I9 rfl) (uv (Aj isAgg36 rfl (Has.own 0 rfl) rfl) (uv (A3 underlying36 rfl) ?_))
 obtain ⟨g2, r3⟩ := A2 hr
 refine uv (Gl rfl rfl g2) ?_
 obtain ⟨ok, h4, r5⟩ := AI r3
 refine cV call50 (Gy h4) ?_
 refine ua (Aa ?_)
 refine kW kn (Al (Cq results180 ?_))
 obtain rfl := AM r5
 exact rfl
set_option maxHeartbeats 1000000 in
theorem LX {Ak : List (List Int)} {Ac : List ((List Int) × Int × Int)} (ab : Ax 1 (Cn 1 (iE .i64)) F AG AF walks) (_h_hears : Ax 1 (Cn 1 (iE .i64)) F As At Ak) (_h_notices : Ax 3 (Cd (Cn 1 (iE .i64)) (Cd (iE .i64) (iE .i64))) F Aq Ar Ac) {r : Bool} (hr : Gf walks Ak Ae start Ac = some r) :
    Bw Tryz.prog 181 #[.agg #[.slice AG walks.length AF, .slice As Ak.length At, .int .i64 Ae, .int .i64 start, .slice Aq Ac.length Ar]] F (.bool r) := by
 refine sp func181 ntmps181 fun K _ _ => ?_
 rw [Gf] at hr
 refine AO ?_
 refine BH rfl rfl ?_; intro b1 dq
 refine ua (Aa ?_)
 refine AV (fun e1 F1 L1 => GB = some r ∧ F = F1 ∧ L1 = [] ∧ e1.sub []) ?_ ?_
 ·refine AO (uv (Ab Kq rfl) (uv (Aj isAgg36 rfl (Has.own 0 rfl) rfl) (uv (A3 underlying36 rfl) ?_)))
  refine um (Aa ?_)
  refine Am (kW kn ?_)
  refine Bk (fun bl e1 F1 L1 => LA walks bl fun tl k => BY tl k = some r ∧ F = F1 ∧ L1 = [] ∧ e1.sub [(8, .slice AG walks.length AF), (9, .int .i64 (walks.length : Int)), (10, .int .i64 k)]) _ (m0 kr ⟨_, _, rfl, BP.start _, hr, rfl, rfl, z3⟩) ?_
  rintro bl e1 _ _ ⟨tl, k, cr, ao, r4, rfl, rfl, ct⟩
  refine AA _ ct (AO (uv (Bg rfl rfl) ?_))
  refine Aa (Ao ?_)
  refine cQ (fun c7 => ?_) fun c7 => ?_
  ·obtain ⟨x, bm, rfl, cu, bn, cv⟩ := BP.succ ao c7
   rw [BY] at r4
   refine An ?_
   refine AV (fun e1 F1 L1 => GD k (BY bm) = some r ∧ F = F1 ∧ L1 = [] ∧ e1.sub [(8, .slice AG walks.length AF), (9, .int .i64 (walks.length : Int)), (10, .int .i64 k)]) ?_ ?_
   ·refine Am ?_
    refine AO (um ?_)
    obtain ⟨QM, dr, dt, cw, aq, ar, bo, ⟨bp, bq, rfl, br⟩, cx, au⟩ := Ax.at (Az (Ad _)) ab ([]) bn.1 cu
    refine uv (AN underlying36 sizeOf33 rfl aq rfl bn) (uv (Aj isAgg33 rfl ar (au 0 (by decide))) ?_)
    refine ua (ua (Cj (um ?_)))
    refine uv (A3 underlying33 rfl) ?_
    refine um (Aa ?_)
    refine Am ?_
    refine Bk (fun bu e1 F1 L1 => LA x bu fun bx k2 => C5 k (BY bm) bx k2 = some r ∧ F = F1 ∧ L1 = [] ∧ e1.sub [(3, .int .i64 k), (8, .slice AG walks.length AF), (9, .int .i64 (walks.length : Int)), (10, .int .i64 k), (15, .slice bp x.length bq), (16, .int .i64 (x.length : Int)), (17, .int .i64 k2)]) _ (m0 kr ⟨_, _, rfl, BP.start _, r4, rfl, rfl, z7⟩) ?_
    rintro bu e1 _ _ ⟨bx, k2, av, aj, ak, rfl, rfl, aw⟩
    refine AA _ aw (AO (uv (Bg rfl rfl) ?_))
    refine Aa (Ao ?_)
    refine cQ (fun al => ?_) fun al => ?_
    ·obtain ⟨x2, du, rfl, ax, bz, ay⟩ := BP.succ aj al
     rw [C5] at ak
     refine An (Ao ?_)
     refine Am ?_
     refine AO (um ?_)
     obtain ⟨dv, dw, dx, cy, az, ba, ca, rfl, cz, bb⟩ := Ax.at (Ad _) br ([]) bz.1 ax
     refine uv (AN underlying33 sizeOf3 rfl az rfl bz) (uv (Aj isAgg3 rfl ba (bb 0 (by decide))) ?_)
     refine ua (ua (Aa ?_))
     obtain ⟨k3, cb, bc⟩ := AI ak
     refine jE ([]) [(3, .int .i64 k), (8, .slice AG walks.length AF), (9, .int .i64 (walks.length : Int)), (10, .int .i64 k), (15, .slice bp x.length bq), (16, .int .i64 (x.length : Int)), (17, .int .i64 k2), (42, .bool k3)] ?_ ?_
     ·clear bc
      refine Ai (um (um ?_))
      refine uv (Dn rfl rfl) (um ?_)
      by_cases af : k = k2
      ·have cc := A8 cb af
       refine nT af (um (nT af ?_))
       refine uv (B8 rfl rfl) (uv (AP (Bf rfl af) rfl) (um ?_))
       by_cases aa : x2 ≠ 0
       ·have da := A8 cc aa
        refine fT aa (fT aa (fT aa (fT aa (fU (fU (fT aa (fT aa (fU (fU ?_)))))))))
        refine fU (fT aa ?_)
        refine uv (AP (Bf rfl aa) rfl) (Aa ?_)
        obtain rfl := AM da
        exact mi kr ⟨rfl, rfl, z8⟩
       have cf := A9 cc aa
       refine nF aa (um (nF aa (um (nF aa ?_))))
       refine uv (B8 rfl rfl) ?_
       refine nF aa (um ?_)
       by_cases ah : k ≠ k2
       ·have cg := A8 cf ah
        refine nT ah (um (nT ah ?_))
        refine uv (B8 rfl rfl) (nF aa (uv (AP (Bf rfl ah) rfl) ?_))
        refine nF aa (um ?_)
        by_cases ad : x2 ≠ (-1)
        ·have db := A8 cg ad
         refine nT ad (um (nT ad ?_))
         obtain ⟨ok, dd, de⟩ := AI db
         refine cV call50 (Gy dd) (nT ad (uv (Cc rfl) (nF aa (uv (AP (Bf rfl ad) rfl) (uv (AB (AU rfl aa) rfl) (Aa ?_))))))
         obtain rfl := AM de
         exact mi kr ⟨rfl, rfl, z8⟩
        have df := A9 cg ad
        refine fF ad (fF ad (fF ad (nF aa ?_)))
        refine uv (AB (AU rfl ad) rfl) (uv (AB (AU rfl aa) rfl) (Aa ?_))
        obtain rfl := AM df
        exact mi kr ⟨rfl, rfl, z8⟩
       have dg := A9 cf ah
       refine fF ah (fF ah (nF aa ?_))
       refine uv (AB (AU rfl ah) rfl) ?_
       refine nF aa (um (AH (b' := false) 37 rfl rfl rfl rfl (AH (b' := false) 37 rfl rfl rfl rfl (AH (b' := false) 37 rfl rfl rfl rfl (nF aa ?_)))))
       refine uv (AB rfl rfl) (uv (AB (AU rfl aa) rfl) (Aa ?_))
       obtain rfl := AM dg
       exact mi kr ⟨rfl, rfl, z8⟩
      have cj := A9 cb af
      refine fF af (fF af ?_)
      refine uv (AB (AU rfl af) rfl) ?_
      refine um (DU (b := false) 29 rfl rfl (um (DU (b := false) 29 rfl rfl (um (DU (b := false) 29 rfl rfl ?_)))))
      refine uv (B8 rfl rfl) ?_
      refine DU (b := false) 29 rfl rfl (um ?_)
      by_cases ai : k ≠ k2
      ·have cn := A8 cj ai
       refine nT ai (um (nT ai ?_))
       refine uv (B8 rfl rfl) (DU (b := false) 29 rfl rfl (uv (AP (Bf rfl ai) rfl) ?_))
       refine DU (b := false) 29 rfl rfl (um ?_)
       by_cases ae : x2 ≠ (-1)
       ·have dh := A8 cn ae
        refine nT ae (um (nT ae ?_))
        obtain ⟨dy, di, dk⟩ := AI dh
        refine cV call50 (Gy di) (nT ae (uv (Cc rfl) (DU (b := false) 29 rfl rfl (uv (AP (Bf rfl ae) rfl) (uv (AB rfl rfl) (Aa ?_))))))
        obtain rfl := AM dk
        exact mi kr ⟨rfl, rfl, z8⟩
       have dm := A9 cn ae
       refine fF ae (fF ae (fF ae (DU (b := false) 29 rfl rfl ?_)))
       refine uv (AB (AU rfl ae) rfl) (uv (AB rfl rfl) (Aa ?_))
       obtain rfl := AM dm
       exact mi kr ⟨rfl, rfl, z8⟩
      have EP := A9 cj ai
      refine fF ai (fF ai (DU (b := false) 29 rfl rfl ?_))
      refine uv (AB (AU rfl ai) rfl) ?_
      refine DU (b := false) 29 rfl rfl (um (AH (b' := false) 37 rfl rfl rfl rfl (AH (b' := false) 37 rfl rfl rfl rfl (AH (b' := false) 37 rfl rfl rfl rfl (DU (b := false) 29 rfl rfl ?_)))))
      refine uv (AB rfl rfl) (uv (AB rfl rfl) (Aa ?_))
      obtain rfl := AM EP
      exact mi kr ⟨rfl, rfl, z8⟩
     refine AY rfl (fun bg => ?_) (fun bg => ?_)
     ·have dn := bt bc bg
      refine AO (ua (Aa (Al (Ay (Ah (Ah (Ay (Ay (Ah ?_)))))))))
      refine Ah (Ay (Ah ?_))
      refine Cq results181 ?_
      obtain rfl := AM dn
      exact rfl
     have dp := bf bc bg
     refine An (Au (id := 3) (Ai ?_))
     refine uv (Bd rfl rfl (BP.EP aj al (Ax.lt br))) ?_
     refine um (Aa ?_)
     subst av; exact le kr ⟨_, _, rfl, ay, dp, rfl, rfl, z7⟩
    obtain rfl := BP.zero aj al
    rw [C5] at ak
    refine AQ (Af (Af ?_))
    refine Av (Au (id := 1) ?_)
    exact mi kr ⟨ak, rfl, rfl, z3⟩
   rintro e1 _ _ ⟨cp, rfl, rfl, bj⟩
   refine AA _ bj ?_
   rw [GD] at cp
   refine Ai (uv (Bd rfl rfl (BP.EP ao c7 (Ax.lt ab))) ?_)
   refine um (Aa ?_)
   subst cr; exact le kr ⟨_, _, rfl, cv, cp, rfl, rfl, z3⟩
  obtain rfl := BP.zero ao c7
  rw [BY] at r4
  refine AQ (Af (Af ?_))
  refine Av ?_
  exact mi kr ⟨r4, rfl, rfl, (sn _)⟩
 rintro e1 _ _ ⟨cq, rfl, rfl, bk⟩
 refine AA _ bk ?_
 rw [GB] at cq
 refine AO (ua (Aa (Al ?_)))
 refine Cq results181 ?_
 obtain rfl := AM cq
 exact rfl
set_option maxHeartbeats 1000000 in
theorem Jz {Ak : List (List Int)} {Ac : List ((List Int) × Int × Int)} {l : List Int} (_h_walks : Ax 1 (Cn 1 (iE .i64)) F AG AF walks) (_h_hears : Ax 1 (Cn 1 (iE .i64)) F As At Ak) (_h_notices : Ax 3 (Cd (Cn 1 (iE .i64)) (Cd (iE .i64) (iE .i64))) F Aq Ar Ac) (ab : Ax 1 (iE .i64) F Oz N5 l) {r : Int} (hr : FC walks Ak Ae start Ac l = some r) :
    Bw Tryz.prog 182 #[.agg #[.slice AG walks.length AF, .slice As Ak.length At, .int .i64 Ae, .int .i64 start, .slice Aq Ac.length Ar], .slice Oz l.length N5] F (.int .i64 r) := by
 refine sp func182 ntmps182 fun K _ _ => ?_
 rw [FC] at hr
 refine AO ?_
 refine BH rfl rfl ?_; intro b1 bz
 refine ua (Aa ?_)
 refine AV (fun e1 F1 L1 => He = some r ∧ F = F1 ∧ L1 = [] ∧ e1.sub []) ?_ ?_
 ·refine AO (um ?_)
  refine uv (A3 underlying33 rfl) ?_
  refine um (Aa ?_)
  refine Am ?_
  refine Bk (fun al e1 F1 L1 => LA l al fun tl k => Dw Ae l tl k = some r ∧ F = F1 ∧ L1 = [(b1, ce #[.slice AG walks.length AF, .slice As Ak.length At, .int .i64 Ae, .int .i64 start, .slice Aq Ac.length Ar] 39)] ∧ e1.sub [(1, .slice Oz l.length N5), (2, .pointer (some ⟨b1, 0, none⟩)), (7, .slice Oz l.length N5), (8, .int .i64 (l.length : Int)), (9, .int .i64 k)]) _ (m0 kr ⟨_, _, rfl, BP.start _, hr, rfl, rfl, z5⟩) ?_
  rintro al e1 _ _ ⟨tl, k, aw, ad, r4, rfl, rfl, ax⟩
  refine AA _ ax (AO (uv (Bg rfl rfl) ?_))
  refine Aa (Ao ?_)
  refine cQ (fun c7 => ?_) fun c7 => ?_
  ·obtain ⟨x, ca, rfl, ay, ao, az⟩ := BP.succ ad c7
   rw [Dw] at r4
   refine An (Ao ?_)
   refine Am ?_
   refine AO (um ?_)
   obtain ⟨QM, cb, cc, ba, ae, af, aq, rfl, bb, ah⟩ := Ax.at (Ad _) ab ([(b1, ce #[.slice AG walks.length AF, .slice As Ak.length At, .int .i64 Ae, .int .i64 start, .slice Aq Ac.length Ar] 39)]) ao.1 ay
   refine uv (AN underlying33 sizeOf3 rfl ae rfl ao) (uv (Aj isAgg3 rfl af (ah 0 (by decide))) ?_)
   refine ua (ua (Aa (Ao (AO (um ?_)))))
   refine uv (Ab UX rfl) (uv (Aj isAgg3 rfl (Has.own 0 rfl) rfl) ?_)
   obtain ⟨bc, bg⟩ := A2 r4
   refine uv (Gl rfl rfl bc) ?_
   obtain ⟨ok, bj, ar⟩ := AI bg
   refine cV call50 (Gy bj) (uv (Cc rfl) (Aa ?_))
   refine AY rfl (fun ai => ?_) (fun ai => ?_)
   ·have bk := bt ar ai
    refine AO (ua (Aa ?_))
    refine kW kn ?_
    refine Al (Ah (Ay (Ah (Ah (Ay (Ah ?_))))))
    refine Cq results182 ?_
    obtain rfl := AM bk
    exact rfl
   have bl := bf ar ai
   refine An (AO (um (um ?_)))
   obtain ⟨bm, bn⟩ := A2 bl
   obtain ⟨l2, bo, bp⟩ := DK bn
   obtain ⟨cf, cg, bq, aa⟩ := Ax.slice (Ad _) ab bm bo
   refine uv ((MM (l := 0) (h := k) underlying33 sizeOf3 rfl (.inl ⟨rfl, rfl⟩) (.inr ⟨_, rfl, rfl⟩) aa.1).eq aa.2) (um ?_)
   obtain ⟨cj, br, au⟩ := AI bp
   refine cV call18 (Cv bq br) (Aa ?_)
   refine AY rfl (fun aj => ?_) (fun aj => ?_)
   ·have bu := bt au aj
    refine AO (ua (Aa ?_))
    refine kW kn ?_
    refine Al (Ay (Ah (Ah (Ay (Ah ?_)))))
    refine Cq results182 ?_
    obtain rfl := AM bu
    exact rfl
   have bx := bf au aj
   refine An (Au (id := 1) (Ai ?_))
   refine uv (Bd rfl rfl (BP.EP ad c7 (Ax.lt ab))) ?_
   refine um (Aa ?_)
   subst aw; exact le kr ⟨_, _, rfl, az, bx, rfl, rfl, z5⟩
  obtain rfl := BP.zero ad c7
  rw [Dw] at r4
  refine AQ (Af (Af ?_))
  refine Av ?_
  exact mi kn ⟨r4, rfl, rfl, (sn _)⟩
 rintro e1 _ _ ⟨av, rfl, rfl, ak⟩
 refine AA _ ak ?_
 rw [He] at av
 refine AO (ua (Aa (Al ?_)))
 refine Cq results182 ?_
 obtain rfl := AM av
 exact rfl
set_option maxHeartbeats 1000000 in
theorem Nk {Ak : List (List Int)} {Ac : List ((List Int) × Int × Int)} {aa : Option Addr} {ab : Nat} {quarter : List Int} {words : Int} (ah : Ax 1 (Cn 1 (iE .i64)) F AG AF walks) (ai : Ax 1 (Cn 1 (iE .i64)) F As At Ak) (ad : Ax 3 (Cd (Cn 1 (iE .i64)) (Cd (iE .i64) (iE .i64))) F Aq Ar Ac) (ae : Ax 1 (iE .i64) F aa ab quarter) {r : Int} (hr : Gk walks Ak Ae start Ac quarter words hour = some r) :
    Bw Tryz.prog 183 #[.agg #[.slice AG walks.length AF, .slice As Ak.length At, .int .i64 Ae, .int .i64 start, .slice Aq Ac.length Ar], .agg #[.slice aa quarter.length ab, .int .i64 words, .int .i64 hour]] F (.int .i64 r) := by
 refine sp func183 ntmps183 fun K _ _ => ?_
 rw [Gk] at hr
 refine AO ?_
 refine BH rfl rfl ?_; intro b1 ba
 refine BH rfl rfl ?_; intro b2 bb
 refine ua (Aa (Ao (AO ?_)))
 refine uv (Ab MK rfl) (uv (Aj isAgg33 rfl (Has.own 0 rfl) rfl) (uv (A3 underlying33 rfl) (uv (Dn rfl rfl) (Aa ?_))))
 refine cQ (fun c3 => ?_) fun c3 => ?_
 ·have r4 := A8 hr c3
  refine AO (ua (Aa ?_))
  refine kW kn ?_
  refine Al (Ah ?_)
  refine Cq results183 ?_
  obtain rfl := AM r4
  exact rfl
 have r5 := A9 hr c3
 refine An (Ao (AO ?_))
 refine uv (AL isAgg39 sizeOf39 rfl (Has.own 1 rfl) (Ce rfl) rfl) (uv (Ab MK rfl) (uv (Aj isAgg33 rfl (Has.own 0 rfl) rfl) ?_))
 obtain ⟨n, h6, r7⟩ := AI r5
 refine cV call182 (Jz ah ai ad ae h6) ?_
 refine ua (Cj (um ?_))
 refine uv (B8 rfl rfl) (Aa ?_)
 refine cQ (fun c8 => ?_) fun c8 => ?_
 ·have r9 := A8 r7 c8
  refine AO (um (ua (Aa ?_)))
  refine kW kn ?_
  refine Al (Ah ?_)
  refine Cq results183 ?_
  obtain rfl := AM r9
  exact rfl
 have ao := A9 r7 c8
 refine An (Ao ?_)
 obtain ⟨k, aq, aj⟩ := AI ao
 refine jE ([]) [(26, .bool k)] ?_ ?_
 ·clear aj
  refine Ai (uv (Ab R0 rfl) (uv (Aj isAgg3 rfl (Has.own 0 rfl) rfl) ?_))
  obtain ⟨ok, ar, al⟩ := AI aq
  refine cV call50 (Gy ar) (uv (Cc rfl) (um ?_))
  rcases Dc (!ok) with af | af
  ·have au := bt al af
   refine fB af (fB af (fB af (fB af ?_)))
   refine uv (AP (IW rfl af) rfl) (Aa ?_)
   obtain rfl := AM au
   exact mi kn ⟨rfl, rfl, z1⟩
  have av := bf al af
  refine nB af (uv (Ab PI rfl) (nB af (uv (Aj isAgg3 rfl (Has.own 0 rfl) rfl) (nB af ?_))))
  obtain ⟨bc, aw, ax⟩ := AI av
  refine cV call50 (Gy aw) (nB af (uv (Cc rfl) (uv (AB (IW rfl af) rfl) (Aa ?_))))
  obtain rfl := AM ax
  exact mi kn ⟨rfl, rfl, z1⟩
 refine AY rfl (fun ak => ?_) (fun ak => ?_)
 ·have ay := bt aj ak
  refine AO (ua (Aa (Al (Ah ?_))))
  refine Cq results183 ?_
  obtain rfl := AM ay
  exact rfl
 have az := bf aj ak
 refine An (AO (ua (Aa (Al ?_))))
 refine Cq results183 ?_
 obtain rfl := AM az
 exact rfl
set_option maxHeartbeats 1000000 in
theorem Rf {Ak : List (List Int)} {Ac : List ((List Int) × Int × Int)} (ad : Ax 1 (Cn 1 (iE .i64)) F AG AF walks) (ab : Ax 1 (Cn 1 (iE .i64)) F As At Ak) (aa : Ax 3 (Cd (Cn 1 (iE .i64)) (Cd (iE .i64) (iE .i64))) F Aq Ar Ac) {r : Int} (hr : Jd walks Ak Ae start Ac = some r) :
    Bw Tryz.prog 122 #[.agg #[.slice AG walks.length AF, .slice As Ak.length At, .int .i64 Ae, .int .i64 start, .slice Aq Ac.length Ar]] F (.int .i64 r) := by
 refine sp func122 ntmps122 fun K _ _ => ?_
 rw [Jd] at hr
 refine AO ?_
 refine BH rfl rfl ?_; intro b1 dq
 refine ua (Aa (Ao ?_))
 refine Am (AO (uv (AL isAgg39 sizeOf39 rfl (Has.own 0 rfl) (Ce rfl) rfl) ?_))
 obtain ⟨ok, h2, r3⟩ := AI hr
 refine cV call179 (Mp ad ab aa h2) (uv (Cc rfl) ?_)
 refine ua (Aa ?_)
 refine AY rfl (fun c4 => ?_) (fun c4 => ?_)
 ·have r5 := bt r3 c4
  refine AO (ua (Aa ?_))
  refine kW kn ?_
  refine Al (Ay (Ah ?_))
  refine Cq results122 ?_
  obtain rfl := AM r5
  exact rfl
 have r6 := bf r3 c4
 refine AO (uv (AL isAgg39 sizeOf39 rfl (Has.own 0 rfl) (Ce rfl) rfl) (uv (Ab Sc rfl) (uv (Aj isAgg3 rfl (Has.own 0 rfl) rfl) ?_)))
 obtain ⟨dr, h7, r8⟩ := AI r6
 refine cV call180 (NA ad ab aa h7) (uv (Cc rfl) ?_)
 refine ua (Aa ?_)
 refine AY rfl (fun c9 => ?_) (fun c9 => ?_)
 ·have cq := bt r8 c9
  refine AO (ua (Aa ?_))
  refine kW kn ?_
  refine Al (Ay (Ah ?_))
  refine Cq results122 ?_
  obtain rfl := AM cq
  exact rfl
 have cr := bf r8 c9
 refine AO (uv (AL isAgg39 sizeOf39 rfl (Has.own 0 rfl) (Ce rfl) rfl) ?_)
 obtain ⟨dt, ct, bx⟩ := AI cr
 refine cV call181 (LX ad ab aa ct) (uv (Cc rfl) ?_)
 refine ua (Aa ?_)
 refine AY rfl (fun aq => ?_) (fun aq => ?_)
 ·have cu := bt bx aq
  refine AO (ua (Aa ?_))
  refine kW kn ?_
  refine Al (Ay (Ah ?_))
  refine Cq results122 ?_
  obtain rfl := AM cu
  exact rfl
 have cv := bf bx aq
 refine An (Au (id := 0) ?_)
 refine AV (fun e1 F1 L1 => Iy walks Ak Ae start Ac = some r ∧ F = F1 ∧ L1 = [(b1, ce #[.slice AG walks.length AF, .slice As Ak.length At, .int .i64 Ae, .int .i64 start, .slice Aq Ac.length Ar] 39)] ∧ e1.sub [(1, .pointer (some ⟨b1, 0, none⟩))]) ?_ ?_
 ·refine AO (uv (Ab I9 rfl) (uv (Aj isAgg36 rfl (Has.own 0 rfl) rfl) (uv (A3 underlying36 rfl) ?_)))
  refine um (Aa ?_)
  refine Am ?_
  refine Bk (fun bz e1 F1 L1 => LA Ak bz fun tl k => Ez walks Ak Ae start Ac tl = some r ∧ F = F1 ∧ L1 = [(b1, ce #[.slice AG walks.length AF, .slice As Ak.length At, .int .i64 Ae, .int .i64 start, .slice Aq Ac.length Ar] 39)] ∧ e1.sub [(1, .pointer (some ⟨b1, 0, none⟩)), (25, .slice As Ak.length At), (26, .int .i64 (Ak.length : Int)), (27, .int .i64 k)]) _ (m0 kr ⟨_, _, rfl, BP.start _, cv, rfl, rfl, z4⟩) ?_
  rintro bz e1 _ _ ⟨tl, k, ar, ah, aj, rfl, rfl, au⟩
  refine AA _ au (AO (uv (Bg rfl rfl) ?_))
  refine Aa (Ao ?_)
  refine cQ (fun ak => ?_) fun ak => ?_
  ·obtain ⟨x, du, rfl, av, ca, aw⟩ := BP.succ ah ak
   rw [Ez] at aj
   refine An (Ao ?_)
   refine Am (AO ?_)
   obtain ⟨dv, dw, dx, cw, ax, ay, cb, ⟨dy, dz, rfl, cx⟩, cy, az⟩ := Ax.at (Az (Ad _)) ab ([(b1, ce #[.slice AG walks.length AF, .slice As Ak.length At, .int .i64 Ae, .int .i64 start, .slice Aq Ac.length Ar] 39)]) ca.1 av
   refine uv (AN underlying36 sizeOf33 rfl ax rfl ca) (uv (Aj isAgg33 rfl ay (az 0 (by decide))) ?_)
   refine ua (Cj ?_)
   refine uv (AL isAgg39 sizeOf39 rfl (Has.own 0 rfl) (Ce rfl) rfl) (um ?_)
   obtain ⟨n, cz, cc⟩ := AI aj
   refine cV call182 (Jz ad ab aa cx cz) ?_
   refine ua (Cj (um ?_))
   refine uv (B8 rfl rfl) (Aa ?_)
   refine cQ (fun ba => ?_) fun ba => ?_
   ·have da := A8 cc ba
    refine AO (um (ua (Aa ?_)))
    refine kW kn ?_
    refine Al (Ay (Ah (Ah (Ay (Ah ?_)))))
    refine Cq results122 ?_
    obtain rfl := AM da
    exact rfl
   have db := A9 cc ba
   refine An (Au (id := 2) (Ai ?_))
   refine uv (Bd rfl rfl (BP.EP ah ak (Ax.lt ab))) ?_
   refine um (Aa ?_)
   subst ar; exact le kr ⟨_, _, rfl, aw, db, rfl, rfl, z4⟩
  obtain rfl := BP.zero ah ak
  rw [Ez] at aj
  refine AQ (Af (Af ?_))
  refine Av ?_
  exact mi kr ⟨aj, rfl, rfl, z1⟩
 rintro e1 _ _ ⟨cf, rfl, rfl, bb⟩
 refine AA _ bb ?_
 rw [Iy] at cf
 refine AO (ua (Aa ?_))
 refine AV (fun e1 F1 L1 => ∃ (Bs : Int), IF Bs = some r ∧ F = F1 ∧ L1 = [] ∧ e1.sub [(6, .int .i64 Bs)]) ?_ ?_
 ·refine AO (uv (Ab II rfl) (uv (Aj isAgg37 rfl (Has.own 0 rfl) rfl) (uv (A3 underlying37 rfl) ?_)))
  refine um (Aa ?_)
  refine Am ?_
  refine Bk (fun cg e1 F1 L1 => LA Ac cg fun cj k2 => ∃ (ae : Int), EB walks Ak Ae start Ac cj ae = some r ∧ F = F1 ∧ L1 = [(b1, ce #[.slice AG walks.length AF, .slice As Ak.length At, .int .i64 Ae, .int .i64 start, .slice Aq Ac.length Ar] 39)] ∧ e1.sub [(1, .pointer (some ⟨b1, 0, none⟩)), (6, .int .i64 ae), (39, .slice Aq Ac.length Ar), (40, .int .i64 (Ac.length : Int)), (41, .int .i64 k2)]) _ (m0 kr ⟨_, _, rfl, BP.start _, 0, cf, rfl, rfl, z5⟩) ?_
  rintro cg e1 _ _ ⟨cj, k2, bc, ai, ae, al, rfl, rfl, bg⟩
  refine AA _ bg (AO (uv (Bg rfl rfl) ?_))
  refine Aa (Ao ?_)
  refine cQ (fun ao => ?_) fun ao => ?_
  ·obtain ⟨x2, e9, rfl, bj, cn, bk⟩ := BP.succ ai ao
   rw [EB] at al
   refine An (Ao ?_)
   refine Am (AO ?_)
   obtain ⟨eg, eh, ej, dd, bl, bm, af, ⟨_, _, rfl, ⟨eo, er, rfl, de⟩, ⟨_, _, rfl, rfl, rfl⟩⟩, bn, bo⟩ := Ax.at (AD (Az (Ad _)) (AD (Ad _) (Ad _))) aa ([(b1, ce #[.slice AG walks.length AF, .slice As Ak.length At, .int .i64 Ae, .int .i64 start, .slice Aq Ac.length Ar] 39)]) cn.1 bj
   refine uv (AN underlying37 sizeOf41 rfl bl rfl cn) (uv (AL isAgg41 sizeOf41 rfl bm af (By af bn bo)) ?_)
   refine Bj rfl zeroValue41 ?_; intro et df
   refine Br (i := 0) sizeOf41 rfl rfl rfl (by simp [Value.oneCell']) rfl (Ce rfl) (AK rfl ?_)
   refine Aa (Ao (AO ?_))
   refine uv (AL isAgg39 sizeOf39 rfl (Has.own 1 rfl) (Ce rfl) rfl) (uv (AL isAgg41 sizeOf41 rfl (Has.own 0 rfl) (Ce rfl) rfl) ?_)
   obtain ⟨n2, dg, cp⟩ := AI al
   refine cV call183 (Nk ad ab aa de dg) ?_
   refine ua (Cj (um ?_))
   refine uv (B8 rfl rfl) (Aa ?_)
   refine cQ (fun bp => ?_) fun bp => ?_
   ·have dh := A8 cp bp
    refine AO (um (ua (Aa ?_)))
    refine kW kn ?_
    refine Al (Ah (Ay (Ah (Ah (Ay (Ah ?_))))))
    refine Cq results122 ?_
    obtain rfl := AM dh
    exact rfl
   have di := A9 cp bp
   refine An (Ai (um ?_))
   refine uv (Ab MK rfl) (uv (Aj isAgg33 rfl (Has.own 0 rfl) rfl) (uv (A3 underlying33 rfl) ?_))
   obtain ⟨dk, dm⟩ := A2 di
   refine uv (Bd rfl rfl dk) ?_
   refine ua (Aa (Au (id := 4) (Ai ?_)))
   refine uv (Bd rfl rfl (BP.EP ai ao (Ax.lt aa))) ?_
   refine um (Aa ?_)
   subst bc; exact le (kd kr) ⟨_, _, rfl, bk, ae + (x2.1.length : Int), dm, rfl, rfl, z5⟩
  obtain rfl := BP.zero ai ao
  rw [EB] at al
  refine AQ (Af (Af ?_))
  refine Av ?_
  exact mi kn ⟨ae, al, rfl, rfl, z1⟩
 rintro e1 _ _ ⟨Bs, bq, rfl, rfl, br⟩
 refine AA _ br ?_
 rw [IF] at bq
 refine Ao (AO (um ?_))
 refine uv (JU rfl rfl) (Aa ?_)
 refine cQ (fun bu => ?_) fun bu => ?_
 ·have dn := A8 bq bu
  refine AO (ua (Aa (Al (Ah ?_))))
  refine Cq results122 ?_
  obtain rfl := AM dn
  exact rfl
 have dp := A9 bq bu
 refine An (AO (ua (Aa (Al ?_))))
 refine Cq results122 ?_
 obtain rfl := AM dp
 exact rfl
set_option maxHeartbeats 1000000 in
theorem LJ {l : List Int} (af : Ax 1 (iE .i64) F Oz N5 l) {r : Int} (hr : E3 l = some r) :
    Bw Tryz.prog 126 #[.slice Oz l.length N5] F (.int .i64 r) := by
 refine sp func126 ntmps126 fun K _ _ => ?_
 rw [E3] at hr
 refine AO (ua (Cj (ua (Aa ?_))))
 obtain ⟨out, h1, r2⟩ := AI hr
 refine jE ([]) [(3, .int .i64 out)] ?_ ?_
 ·clear r2
  refine AO (um ?_)
  refine uv (A3 underlying33 rfl) ?_
  refine um (Aa ?_)
  refine Am ?_
  refine Bk (fun aq e1 F1 L1 => LA l aq fun tl k => ∃ (ab : Int), Cw tl ab = some out ∧ F = F1 ∧ L1 = [] ∧ e1.sub [(3, .int .i64 ab), (6, .slice Oz l.length N5), (7, .int .i64 (l.length : Int)), (8, .int .i64 k)]) _ (m0 kr ⟨_, _, rfl, BP.start _, -1, h1, rfl, rfl, z4⟩) ?_
  rintro aq e1 _ _ ⟨tl, k, ar, ae, ab, r5, rfl, rfl, az⟩
  refine AA _ az (AO (uv (Bg rfl rfl) ?_))
  refine Aa (Ao ?_)
  refine cQ (fun c8 => ?_) fun c8 => ?_
  ·obtain ⟨x, bm, rfl, ah, au, av⟩ := BP.succ ae c8
   rw [Cw] at r5
   refine An (Ao ?_)
   refine Am (AO ?_)
   obtain ⟨Vd, bn, bo, ba, ai, aj, aw, rfl, bb, ak⟩ := Ax.at (Ad _) af ([]) au.1 ah
   refine uv (AN underlying33 sizeOf3 rfl ai rfl au) (uv (Aj isAgg3 rfl aj (ak 0 (by decide))) ?_)
   refine ua (Aa ?_)
   obtain ⟨k2, ax, al⟩ := AI r5
   refine jE ([]) [(3, .int .i64 ab), (5, .int .i64 x), (6, .slice Oz l.length N5), (7, .int .i64 (l.length : Int)), (8, .int .i64 k), (22, .bool k2)] ?_ ?_
   ·clear al
    refine Ai (um ?_)
    refine uv (B8 rfl rfl) (um ?_)
    by_cases aa : x ≠ (-1)
    ·have ay := A8 ax aa
     refine nT aa (um (nT aa ?_))
     refine uv (Dn rfl rfl) ?_
     refine nT aa (um ?_)
     by_cases ad : ab = (-1)
     ·have bc := A8 ay ad
      refine fT ad (fT ad (fT ad (nT aa ?_)))
      refine uv (AP (Bf rfl ad) rfl) (uv (AP (Bf rfl aa) rfl) (Aa ?_))
      obtain rfl := AM bc
      exact mi kr ⟨rfl, rfl, z6⟩
     have bg := A9 ay ad
     refine nF ad (um (nF ad (um (nF ad ?_))))
     refine uv (Bg rfl rfl) (nT aa (uv (AB (AU rfl ad) rfl) (uv (AP (Bf rfl aa) rfl) (Aa ?_))))
     obtain rfl := AM bg
     exact mi kr ⟨rfl, rfl, z6⟩
    have bj := A9 ax aa
    refine fF aa (fF aa (fF aa (fU (fU (fU (fF aa ?_))))))
    refine uv (AB (AU rfl aa) rfl) (Aa ?_)
    obtain rfl := AM bj
    exact mi kr ⟨rfl, rfl, z6⟩
   refine AY rfl (fun ao => ?_) (fun ao => ?_)
   ·have bk := bt al ao
    refine Ai (um (ua (Aa (Au (id := 1) (Ai ?_)))))
    refine uv (Bd rfl rfl (BP.EP ae c8 (Ax.lt af))) ?_
    refine um (Aa ?_)
    subst ar; exact le kr ⟨_, _, rfl, av, x, bk, rfl, rfl, z4⟩
   have bl := bf al ao
   refine An (Au (id := 1) (Ai ?_))
   refine uv (Bd rfl rfl (BP.EP ae c8 (Ax.lt af))) ?_
   refine um (Aa ?_)
   subst ar; exact le kr ⟨_, _, rfl, av, ab, bl, rfl, rfl, z4⟩
  obtain rfl := BP.zero ae c8
  rw [Cw] at r5
  refine AQ (Af (Af ?_))
  refine Av ?_
  obtain rfl := AM r5
  exact mi kr ⟨rfl, rfl, z1⟩
 refine AO (um (ua (Aa (Al ?_))))
 refine Cq results126 ?_
 obtain rfl := AM r2
 exact rfl
set_option maxHeartbeats 1000000 in
theorem IT {w : List Int} (ad : w.length = 25) {r : List Int} (hr : De w = some r) :
    SH.Spec Tryz.prog 123 #[.agg (arr (cI .i64) w)] F [] fun _ L' v => v = .agg (arr (cI .i64) r) ∧ L' = [] ∧ r.length = 25 := by
 refine sp func123 ntmps123 fun K _ _ => ?_
 rw [De] at hr
 refine AO ?_
 refine BH rfl rfl ?_; intro b1 ib
 refine Bj rfl zeroValue152 ?_; intro b2 ic
 refine AK (L' := [(b2, ce (arr (cI .i64) (List.replicate 25 0)) 152), (b1, ce (arr (cI .i64) w) 152)]) rfl (Cj (uv (JM isAgg152 sizeOf152 rfl (Has.own 1 rfl) (EC (BU .i64) ad)) ?_))
 refine Bj rfl zeroValue152 ?_; intro b3 ie
 refine AK (L' := [(b3, ce (arr (cI .i64) (List.replicate 25 0)) 152), (b2, ce (arr (cI .i64) (List.replicate 25 0)) 152), (b1, ce (arr (cI .i64) w) 152)]) rfl (Hl (i := 0) sizeOf152 rfl rfl rfl (EC (BU .i64) List.length_replicate) (EC (BU .i64) ad) (LB (BU .i64)) (AK (L' := [(b3, ce (arr (cI .i64) w) 152), (b2, ce (arr (cI .i64) (List.replicate 25 0)) 152), (b1, ce (arr (cI .i64) w) 152)]) rfl (Aa ?_)))
 obtain ⟨out, h5, r6⟩ := AI hr
 refine AV (fun e1 F1 L1 => AZ F F1 ∧ L1 = [(b3, ce (arr (cI .i64) out) 152), (b2, ce (arr (cI .i64) (List.replicate 25 0)) 152)] ∧ e1.sub [(2, .pointer (some ⟨b2, 0, none⟩)), (3, .pointer (some ⟨b3, 0, none⟩))] ∧ out.length = 25) ?_ ?_
 ·clear r6
  refine AO (um (Aa ?_))
  refine Am ?_
  obtain ⟨g8, r9⟩ := A2 h5
  refine Bk (fun bx e1 F1 L1 => ∃ (k : Int), Fp 0 5 k bx ∧ ∃ (ae : List Int), CC w bx k ae = some out ∧ AZ F F1 ∧ L1 = [(b3, ce (arr (cI .i64) ae) 152), (b2, ce (arr (cI .i64) (List.replicate 25 0)) 152), (b1, ce (arr (cI .i64) w) 152)] ∧ e1.sub [(1, .pointer (some ⟨b1, 0, none⟩)), (2, .pointer (some ⟨b2, 0, none⟩)), (3, .pointer (some ⟨b3, 0, none⟩)), (8, .int .i64 k)] ∧ ae.length = 25) _ (m0 kr ⟨_, Fp.start _ _, w, r9, AZ.refl _, rfl, z4, ad⟩) ?_
  rintro bx e1 dz _ ⟨k, ao, ae, bz, au, rfl, cn, h7⟩
  refine AA _ cn (AO (uv (Bg rfl rfl) ?_))
  refine Aa (Ao ?_)
  refine cQ (fun ca => ?_) fun ca => ?_
  ·obtain ⟨bx, rfl, cp⟩ := Fp.succ ao ca
   rw [CC] at bz
   refine An ?_
   obtain ⟨ah, fj, e9⟩ := AI bz
   refine AV (fun e1 F1 L1 => AZ dz F1 ∧ L1 = [(b3, ce (arr (cI .i64) ah) 152), (b2, ce (arr (cI .i64) (List.replicate 25 0)) 152), (b1, ce (arr (cI .i64) w) 152)] ∧ e1.sub [(1, .pointer (some ⟨b1, 0, none⟩)), (2, .pointer (some ⟨b2, 0, none⟩)), (3, .pointer (some ⟨b3, 0, none⟩)), (8, .int .i64 k)] ∧ ah.length = 25) ?_ ?_
   ·clear e9
    refine Am ?_
    refine AO (um (ua (Cj (um (Aa ?_)))))
    refine Am ?_
    obtain ⟨fk, fl⟩ := A2 fj
    refine Bk (fun cb e1 F1 L1 => ∃ (k2 : Int), Fp 0 5 k2 cb ∧ ∃ (af : List Int), CG w k cb k2 af = some ah ∧ AZ dz F1 ∧ L1 = [(b3, ce (arr (cI .i64) af) 152), (b2, ce (arr (cI .i64) (List.replicate 25 0)) 152), (b1, ce (arr (cI .i64) w) 152)] ∧ e1.sub [(1, .pointer (some ⟨b1, 0, none⟩)), (2, .pointer (some ⟨b2, 0, none⟩)), (3, .pointer (some ⟨b3, 0, none⟩)), (4, .int .i64 k), (8, .int .i64 k), (11, .int .i64 k2)] ∧ af.length = 25) _ (m0 kr ⟨_, Fp.start _ _, ae, fl, AZ.refl _, rfl, z6, h7⟩) ?_
    rintro cb e1 eg _ ⟨k2, aq, af, cc, av, rfl, cq, eh⟩
    refine AA _ cq (AO (uv (Bg rfl rfl) ?_))
    refine Aa (Ao ?_)
    refine cQ (fun cf => ?_) fun cf => ?_
    ·obtain ⟨cb, rfl, cr⟩ := Fp.succ aq cf
     rw [CG] at cc
     refine An ?_
     obtain ⟨ai, fm, ej⟩ := AI cc
     refine AV (fun e1 F1 L1 => AZ eg F1 ∧ L1 = [(b3, ce (arr (cI .i64) ai) 152), (b2, ce (arr (cI .i64) (List.replicate 25 0)) 152), (b1, ce (arr (cI .i64) w) 152)] ∧ e1.sub [(1, .pointer (some ⟨b1, 0, none⟩)), (2, .pointer (some ⟨b2, 0, none⟩)), (3, .pointer (some ⟨b3, 0, none⟩)), (4, .int .i64 k), (8, .int .i64 k), (11, .int .i64 k2)] ∧ ai.length = 25) ?_ ?_
     ·clear ej
      refine Am ?_
      refine AO (um (ua (Cj (um (Aa ?_)))))
      refine Am ?_
      obtain ⟨eo, fo⟩ := A2 fm
      refine Bk (fun cg e1 F1 L1 => ∃ (k3 : Int), Fp 0 5 k3 cg ∧ ∃ (aa : List Int), Cf w k k2 cg k3 aa = some ai ∧ AZ eg F1 ∧ L1 = [(b3, ce (arr (cI .i64) aa) 152), (b2, ce (arr (cI .i64) (List.replicate 25 0)) 152), (b1, ce (arr (cI .i64) w) 152)] ∧ e1.sub [(1, .pointer (some ⟨b1, 0, none⟩)), (2, .pointer (some ⟨b2, 0, none⟩)), (3, .pointer (some ⟨b3, 0, none⟩)), (4, .int .i64 k), (5, .int .i64 k2), (8, .int .i64 k), (11, .int .i64 k2), (14, .int .i64 k3)] ∧ aa.length = 25) _ (m0 kr ⟨_, Fp.start _ _, af, fo, AZ.refl _, rfl, z8, eh⟩) ?_
      rintro cg e1 ig _ ⟨k3, aj, aa, cj, ar, rfl, ct, ak⟩
      refine AA _ ct (AO (uv (Bg rfl rfl) ?_))
      refine Aa (Ao ?_)
      refine cQ (fun aw => ?_) fun aw => ?_
      ·obtain ⟨cg, rfl, ax⟩ := Fp.succ aj aw
       rw [Cf] at cj
       refine An (Ao ?_)
       refine Am ?_
       refine AO (um (ua (Aa ?_)))
       obtain ⟨k4, fp, cu⟩ := AI cj
       refine jE ([(b3, ce (arr (cI .i64) aa) 152), (b2, ce (arr (cI .i64) (List.replicate 25 0)) 152), (b1, ce (arr (cI .i64) w) 152)]) [(1, .pointer (some ⟨b1, 0, none⟩)), (2, .pointer (some ⟨b2, 0, none⟩)), (3, .pointer (some ⟨b3, 0, none⟩)), (4, .int .i64 k), (5, .int .i64 k2), (6, .int .i64 k3), (8, .int .i64 k), (11, .int .i64 k2), (14, .int .i64 k3), (30, .bool k4)] ?_ ?_
       ·clear cu
        refine Ai (um (um ?_))
        obtain ⟨er, fq⟩ := A2 fp
        refine uv (Ci underlying152 sizeOf150 rfl rfl er) ?_
        obtain ⟨et, ft⟩ := A2 fq
        obtain ⟨x, ij, cv, eu⟩ := Cb ft
        have cw : (k * 5 + k3 : Int).toNat = (k : Int).toNat * 5 + (k3 : Int).toNat := by have := er; have := et; omega
        have cx := KD (BU .i64) ad cw cv (J7 (Em (FV (BU .i64) ad))) (Hm (Em (FV (BU .i64) ad)))
        refine uv (Ci underlying150 sizeOf3 rfl rfl et) (uv (Aj isAgg3 rfl (Has.own 2 rfl) ((cx).2.2 0 (by decide))) (uv (B8 rfl rfl) (um ?_)))
        by_cases ab : x ≠ (-1)
        ·have fv := A8 eu ab
         refine nT ab (um (nT ab (um (nT ab ?_))))
         obtain ⟨ew, fw⟩ := A2 fv
         refine uv (Ci underlying152 sizeOf150 rfl rfl ew) (nT ab ?_)
         obtain ⟨ey, fx⟩ := A2 fw
         obtain ⟨x2, ik, cy, fy⟩ := Cb fx
         have cz : (k3 * 5 + k2 : Int).toNat = (k3 : Int).toNat * 5 + (k2 : Int).toNat := by have := ew; have := ey; omega
         have da := KD (BU .i64) ad cz cy (J7 (Em (FV (BU .i64) ad))) (Hm (Em (FV (BU .i64) ad)))
         refine uv (Ci underlying150 sizeOf3 rfl rfl ey) (nT ab (uv (Aj isAgg3 rfl (Has.own 2 rfl) ((da).2.2 0 (by decide))) (nT ab (uv (B8 rfl rfl) (uv (AP (Bf rfl ab) rfl) (Aa ?_))))))
         obtain rfl := AM fy
         exact mi kr ⟨rfl, rfl, (sc rfl (sc rfl z8))⟩
        have ga := A9 eu ab
        refine fF ab (fF ab (fF ab (fF ab (fF ab (fF ab ?_)))))
        refine uv (AB (AU rfl ab) rfl) (Aa ?_)
        obtain rfl := AM ga
        exact mi kr ⟨rfl, rfl, (sc rfl (sc rfl z8))⟩
       refine AY rfl (fun db => ?_) (fun db => ?_)
       ·have gb := bt cu db
        refine DB [(.still, 0), (.still, 1), (.still, 2), (.still, 3), (.still, 4), (.still, 5), (.still, 6), (.still, 7), (.still, 8), (.still, 9), (.still, 10), (.still, 11), (.still, 12), (.still, 13), (.still, 14), (.still, 15), (.still, 16), (.still, 17), (.still, 20), (.seq, 18), (.seq, 19), (.still, 21), (.seq, 22)] (by kernel_rfl) (by kernel_rfl) (trivial) (by rfl) (by kernel_rfl) (mS [4] rfl (B3 rfl) (mS [5] rfl (B3 rfl) (mS [4] rfl (B3 rfl) (mS [5] rfl (B3 rfl) ?_))))
        obtain ⟨fa, gg⟩ := A2 gb
        refine mS [3, 33] rfl (Ci underlying152 sizeOf150 rfl rfl fa) ?_
        obtain ⟨fb, gh⟩ := A2 gg
        obtain ⟨x3, gi, dd, gj⟩ := Cb gh
        have de : (k * 5 + k2 : Int).toNat = (k : Int).toNat * 5 + (k2 : Int).toNat := by have := fa; have := fb; omega
        have df := KD (BU .i64) ak de dd (J7 (Em (FV (BU .i64) ak))) (Hm (Em (FV (BU .i64) ak)))
        refine mS [34, 35] rfl (Ci underlying150 sizeOf3 rfl rfl fb) (mL [36] ([(b3, ce (arr (cI .i64) aa) 152)]) rfl (s0 (s2 (s1 (s1 sr)))) (fun H F' L' ay az => Aj isAgg3 rfl ((Has.own 0 rfl).ext ay az) ((df).2.2 0 (by decide))) (mS [4] rfl (B3 rfl) (mS [6] rfl (B3 rfl) ?_)))
        obtain ⟨fe, gk⟩ := A2 gj
        refine mS [1, 38] rfl (Ci underlying152 sizeOf150 rfl rfl fe) ?_
        obtain ⟨ff, gl⟩ := A2 gk
        obtain ⟨x4, il, dg, gm⟩ := Cb gl
        have dh : (k * 5 + k3 : Int).toNat = (k : Int).toNat * 5 + (k3 : Int).toNat := by have := fe; have := ff; omega
        have di := KD (BU .i64) ad dh dg (J7 (Em (FV (BU .i64) ad))) (Hm (Em (FV (BU .i64) ad)))
        refine mS [39, 40] rfl (Ci underlying150 sizeOf3 rfl rfl ff) (mL [41] ([(b1, ce (arr (cI .i64) w) 152)]) rfl (s0 (s1 (s1 (s2 sr)))) (fun H F' L' ay az => Aj isAgg3 rfl ((Has.own 0 rfl).ext ay az) ((di).2.2 0 (by decide))) (mS [6] rfl (B3 rfl) (mS [5] rfl (B3 rfl) ?_)))
        obtain ⟨fg, gp⟩ := A2 gm
        refine mS [1, 43] rfl (Ci underlying152 sizeOf150 rfl rfl fg) ?_
        obtain ⟨fh, gq⟩ := A2 gp
        obtain ⟨x5, im, dk, gr⟩ := Cb gq
        have ba : (k3 * 5 + k2 : Int).toNat = (k3 : Int).toNat * 5 + (k2 : Int).toNat := by have := fg; have := fh; omega
        have bb := KD (BU .i64) ad ba dk (J7 (Em (FV (BU .i64) ad))) (Hm (Em (FV (BU .i64) ad)))
        refine mS [44, 45] rfl (Ci underlying150 sizeOf3 rfl rfl fh) (mL [46] ([(b1, ce (arr (cI .i64) w) 152)]) rfl (s0 (s1 (s1 (s2 sr)))) (fun H F' L' ay az => Aj isAgg3 rfl ((Has.own 0 rfl).ext ay az) ((bb).2.2 0 (by decide))) ?_)
        obtain ⟨dm, dn⟩ := A2 gr
        refine mS (v := .int .i64 (x4 + x5)) [42, 47] rfl (Bd rfl rfl dm) ?_
        obtain ⟨bc, dp⟩ := A2 dn
        refine mS [3, 31] rfl (Ci underlying152 sizeOf150 rfl rfl bc) ?_
        refine ⟨_, [(37, .int .i64 x3), (48, .int .i64 (x4 + x5))], rfl, rfl, z2, by kernel_rfl, ?_⟩; intro H
        refine bA (cs := #[.int .i64 x3, .int .i64 (x4 + x5)]) CD [.int .i64 x3, .int .i64 (x4 + x5)] ?_; intro bg bj
        refine Aa ⟨_, rfl, AZ.refl _, [20, 1, 0], by kernel_rfl, .inl (.inr (fun d h => by cases h; rfl)), (fc sm (fc sm (fc sm nm))), ?_⟩
        refine ⟨_, [(49, .slice (some ⟨bg, 0, none⟩) 2 2)], rfl, rfl, z1, by kernel_rfl, ?_⟩; intro H
        refine Bo 0 rfl bj ?_; intro dq al bk
        refine AK (L' := [(b3, ce (arr (cI .i64) aa) 152), (b2, ce (arr (cI .i64) (List.replicate 25 0)) 152), (b1, ce (arr (cI .i64) w) 152)]) rfl ?_
        have dr : Ax 1 (iE .i64) dq (some ⟨bg, 0, none⟩) 2 [x3, x4 + x5] := Ax.BQ (Ad _) (vss := [[.int .i64 x3], [.int .i64 (x4 + x5)]]) (xs := [x3, x4 + x5]) bk (.cons rfl (.cons rfl .nil)) rfl (by simp [maxLen])
        obtain ⟨n, dt, du⟩ := AI dp
        refine cV call126 (LJ dr dt) ?_
        refine Aa ⟨_, rfl, al, [20, 1, 0], by kernel_rfl, .inl (.inr (fun d h => by cases h; rfl)), (fc sm (fc sm (fc sm nm))), ?_⟩
        obtain ⟨bl, dv⟩ := A2 du
        have bm : (k * 5 + k2 : Int).toNat = (k : Int).toNat * 5 + (k2 : Int).toNat := by have := bc; have := bl; omega
        refine mS [32, 51] rfl (Ci underlying150 sizeOf3 rfl rfl bl) ?_
        refine ⟨_, [(50, .int .i64 n), (52, .pointer (some ⟨b3, 0 + (k : Int).toNat * 5 + (k2 : Int).toNat * 1, none⟩))], rfl, rfl, z2, by kernel_rfl, ?_⟩; intro H
        obtain ⟨l, bn, dw⟩ := DK dv
        have dx : l.length = 25 := by rw [bn, List.length_set]; exact ak
        refine Pr (i := 0) sizeOf3 (BU .i64) rfl rfl rfl rfl bm (by have := gi; have := ak; omega) ak ?_
        refine AK (L' := [(b3, ce (arr (cI .i64) l) 152), (b2, ce (arr (cI .i64) (List.replicate 25 0)) 152), (b1, ce (arr (cI .i64) w) 152)]) (by rw [bn]; rfl) ?_
        refine Aa ⟨undef, rfl, AZ.refl _, [], by kernel_rfl, .inl (.inl rfl), nm, ?_⟩
        refine EW ?_
        refine Au (id := 5) (Ai ?_)
        refine uv (Bd rfl rfl (Fp.EP aj aw eo)) ?_
        refine um (Aa ?_)
        exact le kr ⟨_, ax, l, dw, (ar.trans al), rfl, z8, dx⟩
       have dy := bf cu db
       refine An (Au (id := 5) (Ai ?_))
       refine uv (Bd rfl rfl (Fp.EP aj aw eo)) ?_
       refine um (Aa ?_)
       exact le kr ⟨_, ax, aa, dy, ar, rfl, z8, ak⟩
      obtain rfl := Fp.zero aj aw
      rw [Cf] at cj
      refine AQ (Af (Af ?_))
      refine Av (Au (id := 3) ?_)
      obtain rfl := AM cj
      exact mi kr ⟨ar, rfl, z6, ak⟩
     rintro e1 gu _ ⟨bo, rfl, bp, gv⟩
     refine AA _ bp (Ai (uv (Bd rfl rfl (Fp.EP aq cf fk)) ?_))
     refine um (Aa ?_)
     exact le kr ⟨_, cr, ai, ej, (av.trans bo), rfl, z6, gv⟩
    obtain rfl := Fp.zero aq cf
    rw [CG] at cc
    refine AQ (Af (Af ?_))
    refine Av (Au (id := 1) ?_)
    obtain rfl := AM cc
    exact mi kr ⟨av, rfl, z4, eh⟩
   rintro e1 gw _ ⟨bq, rfl, br, gz⟩
   refine AA _ br (Ai (uv (Bd rfl rfl (Fp.EP ao ca g8)) ?_))
   refine um (Aa ?_)
   exact le kr ⟨_, cp, ah, e9, (au.trans bq), rfl, z4, gz⟩
  obtain rfl := Fp.zero ao ca
  rw [CC] at bz
  refine AQ (Af (Af ?_))
  refine Av ?_
  obtain rfl := AM bz
  exact mi (kc (kc kn)) ⟨au, rfl, z2, h7⟩
 rintro e1 ia _ ⟨fi, rfl, bu, h4⟩
 refine AA _ bu (AO (uv (JM isAgg152 sizeOf152 rfl (Has.own 0 rfl) (EC (BU .i64) h4)) (Hl (i := 1) sizeOf152 rfl rfl rfl (EC (BU .i64) List.length_replicate) (EC (BU .i64) h4) (LB (BU .i64)) (AK (L' := [(b3, ce (arr (cI .i64) out) 152), (b2, ce (arr (cI .i64) out) 152)]) rfl (Aa (kW (kd kr) (Al ?_)))))))
 refine Jn results123 (Dp (cs := arr (cI .i64) out) isAgg152 sizeOf152 rfl (Has.own 0 rfl) (Hm (Em (FV (BU .i64) h4))) (Js (FV (BU .i64) h4) (Em (FV (BU .i64) h4)))) (s1 sr) ?_
 obtain rfl := AM r6
 exact ⟨rfl, rfl, h4⟩
set_option maxHeartbeats 1000000 in
theorem JZ {s_ : List Int} (aq : A6 0 3 1 (iE .i64) F B5 E8 B0 s_ G1) (af : ∀ args w, (callFunc KX args).run Tryz.prog w = .ok (.enter KX args) w) (al : GF Tryz.prog KX Qi Qs F (fun x : Int => #[.int .i64 x]) seq) {r : List Int} (hr : DT s_ seq = some r) :
    SH.Spec Tryz.prog 227 #[.slice B5 E8 B0, .func (.func KX) Qi Qs] F (G1 ++ []) fun F' L' v => ∃ (ra : Option Addr) (rn : Nat) (rc : Nat) (rL : LH), v = .slice ra rn rc ∧ L' = rL ++ [] ∧ A6 0 3 1 (iE .i64) F' ra rn rc r rL := by
 refine sp func227 ntmps227 fun K _ _ => ?_
 rw [DT] at hr
 refine Fi (L' := G1 ++ []) (by simp) (AO ?_)
 refine BH rfl rfl ?_; intro b1 cf
 refine ua (Aa ?_)
 obtain ⟨ax, h8, r9⟩ := AI hr
 refine AV (fun e1 F1 L1 => ∃ (a2 : Option Addr) (n6 : Nat) (c3 : Nat) (ar : LH), AZ F F1 ∧ L1 = ((b1, ce #[.slice a2 n6 c3] 33) :: (ar ++ [])) ∧ e1.sub [(2, .pointer (some ⟨b1, 0, none⟩))] ∧ A6 0 3 1 (iE .i64) F1 a2 n6 c3 ax ar) ?_ ?_
 ·clear r9
  refine AO (um (Aa ?_))
  refine Am ?_
  refine I8 (encs := (fun x : Int => #[.int .i64 x])) (xs := seq) rfl af rfl (fun _ => rfl) al (fun pre F1 L1 => ∃ (tl : List Int) (ah : List Int) (ai : Option Addr) (aj : Nat) (ak : Nat) (aa : LH), seq = pre ++ tl ∧ Bt tl ah = some ax ∧ L1 = ((b1, ce #[.slice ai aj ak] 33) :: (aa ++ [])) ∧ A6 0 3 1 (iE .i64) F1 ai aj ak ah aa) (fun _ _ _ => False) ?_ ?_ ?_ ?_ ?_ ?_
  ·rintro pre F1 F2 L1 ⟨tl, ah, ai, aj, ak, aa, ab, bk, rfl, ad⟩ hx; exact ⟨tl, ah, ai, aj, ak, aa, ab, bk, rfl, ad.mono (Ad _) hx⟩
  ·intro c F1 F2 L1 h hx; exact h
  ·exact ⟨_, s_, B5, E8, B0, G1, rfl, h8, rfl, aq⟩
  ·rintro cg bl bm bn bo bp ay bq pre x cj ae cn _ br ⟨tl, ah, ai, aj, ak, aa, ab, az, rfl, ad⟩
   obtain rfl := MC ab ae
   rw [Bt] at az
   refine AA [(2, .pointer (some ⟨b1, 0, none⟩)), (6, .func (.func KX) Qi Qs), (7, .int .i64 x)] (by exact z3) ?_
   refine Ai (ua (Aa ?_))
   refine ⟨rfl, ?_⟩
   refine Am (Ai (uv (Aj isAgg33 rfl (Has.own 0 rfl) rfl) (um ?_)))
   refine bA (cs := #[.int .i64 x]) CD [.int .i64 x] ?_; intro cp bu
   obtain ⟨ba, bx, bz, ca⟩ := Hv az
   refine Fg (xs := ah) (ys := [x]) (zs := ba) rfl CD rfl rfl (Nat.zero_le _) (fun _ => .c (.c .h)) ad (HE.box (vss := [[.int .i64 x]]) (ys := [x]) 0 rfl (Ad _) (.cons rfl .nil) rfl rfl) bx bz (by decide) ?_; intro bb bc bg ao au
   refine kO (kd kr) (CN (i := 0) sizeOf33 rfl rfl rfl rfl (Ce rfl) (AK rfl ?_))
   refine Aa (Au (id := 1) ?_)
   refine ⟨(b1, ce #[.slice bb bc bg] 33) :: (ao ++ []), ⟨_, .refl _, sr⟩, ?_⟩; exact ⟨_, ba, bb, bc, bg, ao, (by rw [ae]; simp), ca, rfl, au⟩
  ·rintro cq _ av ⟨tl, ah, ai, aj, ak, aa, ab, bj, rfl, ad⟩
   obtain rfl := Oe ab; rw [Bt] at bj
   refine Au (id := 0) ?_
   obtain rfl := AM bj
   exact mi kr ⟨ai, aj, ak, aa, av, rfl, z1, ad⟩
  intro c F1 L1 hx h; exact h.elim
 rintro e1 cr _ ⟨a2, n6, c3, ar, cb, rfl, aw, cc⟩
 refine AA _ aw (AO (uv (Aj isAgg33 rfl (Has.own 0 rfl) rfl) ?_))
 refine ua (Aa ?_)
 refine kW (kd kr) (Al (Cq results227 ?_))
 obtain rfl := AM r9
 exact ⟨_, _, _, _, rfl, rfl, cc⟩
theorem Mj (aa : ∀ args w, (callFunc KX args).run Tryz.prog w = .ok (.enter KX args) w) (ab : GF Tryz.prog KX Qi Qs F (fun x : Int => #[.int .i64 x]) seq) {r : List Int} (hr : Ff seq = some r) :
    SH.Spec Tryz.prog 184 #[.func (.func KX) Qi Qs] F [] fun F' L' v => ∃ (ra : Option Addr) (rn : Nat) (rc : Nat) (rL : LH), v = .slice ra rn rc ∧ L' = rL ++ [] ∧ A6 0 3 1 (iE .i64) F' ra rn rc r rL := by
 refine sp func184 ntmps184 fun K _ _ => ?_
 rw [Ff] at hr
 refine AO (ua (Cj (um ?_)))
 obtain ⟨l, h1, r2⟩ := AI hr
 refine c0 call227 (JZ (A6.nil 0 _ _ _ _) aa ab h1) ?_; rintro _ F3 _ ae af ⟨a7, ah, c8, ai, rfl, rfl, ad⟩
 refine AK (lp (ln rfl)) ?_
 refine ua (Aa (Al ?_))
 refine Cq results184 ?_
 obtain rfl := AM r2
 exact ⟨_, _, _, _, rfl, rfl, ad.any⟩
theorem LK {x : Int} {r : Bool} (hr : GV x = some r) :
    Bw Tryz.prog 279 #[.int .i64 x] F (.bool r) := by
 refine sp func279 ntmps279 fun K _ _ => ?_
 rw [GV] at hr
 refine AO (ua (Cj (um (um ?_))))
 refine uv (B8 rfl rfl) ?_
 refine ua (Aa (Al ?_))
 refine Cq results279 ?_
 obtain rfl := AM hr
 exact rfl
theorem PZ {x y : Int} {r : Bool} (hr : GH x y = some r) :
    Bw Tryz.prog 257 #[.int .i64 x, .int .i64 y] F (.bool r) := by
 refine sp func257 ntmps257 fun K _ _ => ?_
 rw [GH] at hr
 refine AO (ua (Cj (um ?_)))
 obtain ⟨ok, h1, r2⟩ := AI hr
 refine cV call279 (LK h1) (um ?_)
 rcases Dc ok with c3 | c3
 ·have r4 := bt r2 c3
  refine nB c3 (um (nB c3 ?_))
  obtain ⟨aa, h5, r6⟩ := AI r4
  refine cV call279 (LK h5) (nB c3 (uv (Cc rfl) (uv (AP (IW rfl c3) rfl) (um ?_))))
  rcases Dc (!aa) with c7 | c7
  ·have r8 := bt r6 c7
   refine fB c7 (fB c7 (fB c7 ?_))
   refine uv (AP (IW rfl c7) rfl) ?_
   refine ua (Aa (Al ?_))
   refine Cq results257 ?_
   obtain rfl := AM r8
   exact rfl
  have r9 := bf r6 c7
  refine nB c7 (um (nB c7 (um (nB c7 ?_))))
  refine uv (Bg rfl rfl) (uv (AB (IW rfl c7) rfl) ?_)
  refine ua (Aa (Al ?_))
  refine Cq results257 ?_
  obtain rfl := AM r9
  exact rfl
 have ab := bf r2 c3
 refine fB c3 (fB c3 (fB c3 ?_))
 refine uv (AB (IW rfl c3) rfl) ?_
 refine um (DU (b := false) 12 rfl rfl (um (DU (b := false) 12 rfl rfl (um (DU (b := false) 12 rfl rfl ?_)))))
 refine uv (Bg rfl rfl) (uv (AB rfl rfl) ?_)
 refine ua (Aa (Al ?_))
 refine Cq results257 ?_
 obtain rfl := AM ab
 exact rfl
set_option maxHeartbeats 1000000 in
theorem Im {s_ : List Int} (bc : A6 Hc 3 1 (iE .i64) F B5 E8 B0 s_ G1) {r : List Int} (hr : BS s_ a b = some r) :
    SH.Spec Tryz.prog 251 #[.slice B5 E8 B0, .int .i64 a, .int .i64 b] F (G1 ++ []) fun F' L' v => ∃ (rL : LH), v = .tuple #[] ∧ L' = rL ++ [] ∧ A6 Hc 3 1 (iE .i64) F' B5 E8 B0 r rL := by
 refine sp func251 ntmps251 fun K _ _ => ?_
 rw [BS] at hr
 refine Fi (L' := G1 ++ []) (by simp) ?_
 refine AO (um ?_)
 obtain ⟨g1, r2⟩ := A2 hr
 refine uv (Bd rfl rfl g1) ?_
 refine ua (Aa ?_)
 refine Am ?_
 obtain ⟨g5, r6⟩ := A2 r2
 refine Bk (fun ax e1 F1 L1 => ∃ (i : Int), Fp (a + 1) b i ax ∧ ∃ (data : List Int) (ay : LH), Bn a ax i data = some r ∧ F = F1 ∧ L1 = (ay ++ []) ∧ e1.sub [(0, .slice B5 E8 B0), (1, .int .i64 a), (2, .int .i64 b), (6, .int .i64 i)] ∧ A6 Hc 3 1 (iE .i64) F1 B5 E8 B0 data ay) _ (m0 kr ⟨_, Fp.start _ _, s_, G1, r6, rfl, rfl, z4, bc⟩) ?_
 rintro ax e1 _ _ ⟨i, bg, data, ay, r9, rfl, rfl, bj, df⟩
 refine AA _ bj ?_
 refine Ao (AO (um (um ?_)))
 refine uv (Bg rfl rfl) (Aa ?_)
 refine cQ (fun az => ?_) fun az => ?_
 ·obtain ⟨ax, rfl, bk⟩ := Fp.succ bg az
  rw [Bn] at r9
  refine An ?_
  obtain ⟨ae, dy, dg⟩ := AI r9
  refine AV (fun e1 F1 L1 => ∃ (ai : LH), F = F1 ∧ L1 = (ai ++ []) ∧ e1.sub [(0, .slice B5 E8 B0), (1, .int .i64 a), (2, .int .i64 b), (6, .int .i64 i)] ∧ A6 Hc 3 1 (iE .i64) F1 B5 E8 B0 ae ai) ?_ ?_
  ·clear dg
   refine Am ?_
   refine AO (um (ua (Aa ?_)))
   refine Am ?_
   refine Bk (fun ba e1 F1 L1 => ∃ (af : List Int) (j : Int) (aa : LH), Be a ba af j = some ae ∧ F = F1 ∧ L1 = (aa ++ []) ∧ e1.sub [(0, .slice B5 E8 B0), (1, .int .i64 a), (2, .int .i64 b), (6, .int .i64 i), (7, .int .i64 j)] ∧ A6 Hc 3 1 (iE .i64) F1 B5 E8 B0 af aa) FU (m0 kr ⟨data, i, ay, dy, rfl, rfl, z5, df⟩) ?_
   rintro ba e1 _ _ ⟨af, j, aa, bb, rfl, rfl, bl, ab⟩
   refine AA _ bl ?_
   rcases ba with _ | ba
   ·rw [Be] at bb; cases bb
   rw [Be] at bb
   refine Ao ?_
   obtain ⟨k, dh, bm⟩ := AI bb
   refine jE ((aa ++ [])) [(0, .slice B5 E8 B0), (1, .int .i64 a), (2, .int .i64 b), (6, .int .i64 i), (7, .int .i64 j), (30, .bool k)] ?_ ?_
   ·clear bm
    refine Qr (by kernel_rfl) (by kernel_rfl) (by kernel_rfl) ?_
    refine wm (wm ?_)
    refine wv (JU rfl rfl) (wm ?_)
    by_cases ad : a < j
    ·have dz := A8 dh ad
     refine Cl (b := true) 19 rfl (Env.KM rfl ad) (wm (Cl (b := true) 19 rfl (Env.KM rfl ad) (wm (Cl (b := true) 19 rfl (Env.KM rfl ad) ?_))))
     obtain ⟨x, di, bn, e9⟩ := Cb dz
     obtain ⟨gg, gh, gi, eg, bo, bp, dk, rfl, eh, bq⟩ := A6.at (Ad _) ab (L := aa ++ []) fP di.1 bn
     refine wv (AN underlying33 sizeOf3 rfl bo rfl (A6.idx ab di)) (Cl (b := true) 19 rfl (Env.KM rfl ad) (wv (Aj isAgg3 rfl bp (bq 0 (by decide))) ?_))
     refine Cl (b := true) 19 rfl (Env.KM rfl ad) (wm (Cl (b := true) 19 rfl (Env.KM rfl ad) (wm (Cl (b := true) 19 rfl (Env.KM rfl ad) ?_))))
     obtain ⟨ej, eo⟩ := A2 e9
     refine wv (Gl rfl rfl ej) (Cl (b := true) 19 rfl (Env.KM rfl ad) ?_)
     obtain ⟨x2, dm, br, er⟩ := Cb eo
     obtain ⟨gj, gk, gl, et, bu, bx, dn, rfl, eu, bz⟩ := A6.at (Ad _) ab (L := aa ++ []) fP dm.1 br
     refine wv (AN underlying33 sizeOf3 rfl bu rfl (A6.idx ab dm)) (Cl (b := true) 19 rfl (Env.KM rfl ad) (wv (Aj isAgg3 rfl bx (bz 0 (by decide))) (Cl (b := true) 19 rfl (Env.KM rfl ad) ?_)))
     obtain ⟨ok, ew, ey⟩ := AI er
     refine Ie rfl call257 rfl rfl rfl (PZ ew) (wv (AP (Bf rfl ad) rfl) (DN ?_))
     obtain rfl := AM ey
     exact mi kr ⟨rfl, rfl, z6⟩
    have fa := A9 dh ad
    refine BO (b' := false) 19 rfl (Env.KP rfl ad) rfl rfl (BO (b' := false) 19 rfl (Env.KP rfl ad) rfl rfl (BO (b' := false) 19 rfl (Env.KP rfl ad) rfl rfl (BO (b' := false) 19 rfl (Env.KP rfl ad) rfl rfl (BO (b' := false) 19 rfl (Env.KP rfl ad) rfl rfl (BO (b' := false) 19 rfl (Env.KP rfl ad) rfl rfl (BO (b' := false) 19 rfl (Env.KP rfl ad) rfl rfl (BO (b' := false) 19 rfl (Env.KP rfl ad) rfl rfl (BO (b' := false) 19 rfl (Env.KP rfl ad) rfl rfl (BO (b' := false) 19 rfl (Env.KP rfl ad) rfl rfl ?_)))))))))
    refine wv (AB (AU rfl ad) rfl) (DN ?_)
    obtain rfl := AM fa
    exact mi kr ⟨rfl, rfl, z6⟩
   refine AY rfl (fun ca => ?_) (fun ca => ?_)
   ·have fb := bt bm ca
    refine An (Ao ?_)
    refine Am (DB [(.still, 0), (.still, 1), (.still, 2), (.still, 3), (.still, 4), (.still, 5), (.still, 6), (.still, 7), (.still, 8), (.still, 9), (.still, 10), (.still, 11), (.still, 12), (.still, 13), (.still, 14), (.seq, 15), (.still, 16), (.seq, 17)] (by kernel_rfl) (by kernel_rfl) (trivial) (by rfl) (by kernel_rfl) (mS [0] rfl (B3 rfl) (mS [7] rfl (B3 rfl) (mS [0] rfl (B3 rfl) (mS [7] rfl (B3 rfl) ?_)))))
    obtain ⟨fe, ff⟩ := A2 fb
    refine mS (v := .int .i64 (j - 1)) [36] rfl (Gl rfl rfl fe) (mS [0] rfl (B3 rfl) (mS [7] rfl (B3 rfl) ?_))
    obtain ⟨fg, fh⟩ := A2 ff
    refine mS (v := .int .i64 (j - 1)) [39] rfl (Gl rfl rfl fg) ?_
    obtain ⟨x3, dp, cb, fi⟩ := Cb fh
    obtain ⟨gm, gp, gq, fj, cc, cf, dq, rfl, fk, cg⟩ := A6.at (Ad _) ab (L := aa ++ []) fP dp.1 cb
    refine mS [38, 40] rfl (AN underlying33 sizeOf3 rfl cc rfl (A6.idx ab dp)) (mL [41] (aa ++ []) rfl (s0 sr) (fun H F' L' cj cn => Aj isAgg3 rfl (cf.ext cj cn) (cg 0 (by decide))) (mS [0] rfl (B3 rfl) (mS [7] rfl (B3 rfl) ?_)))
    obtain ⟨x4, al, ao, fl⟩ := Cb fi
    obtain ⟨gr, gu, gv, fm, cp, cq, dr, rfl, fo, cr⟩ := A6.at (Ad _) ab (L := aa ++ []) fP al.1 ao
    refine mS [43, 44] rfl (AN underlying33 sizeOf3 rfl cp rfl (A6.idx ab al)) (mL [45] (aa ++ []) rfl (s0 sr) (fun H F' L' cj cn => Aj isAgg3 rfl (cq.ext cj cn) (cr 0 (by decide))) ?_)
    obtain ⟨fp, fq, gw, ft, aq, fv, dt, rfl, fw, fx⟩ := A6.at (Ad _) ab (L := aa ++ []) fP al.1 ao
    refine mS [33, 34] rfl (AN underlying33 sizeOf3 rfl aq rfl (A6.idx ab al)) ?_
    refine ⟨_, [(42, .int .i64 x3), (47, .pointer (some ⟨fp, fq + (j : Int).toNat * 1, none⟩))], rfl, rfl, z2, by kernel_rfl, ?_⟩; intro H
    obtain ⟨l, fy, ga⟩ := DK fl
    refine GM (u := x3) sizeOf3 (Ad _) rfl aq rfl rfl (fun _ => .h) ab fy al ?_; intro ct ah
    refine Aa ⟨undef, rfl, AZ.refl _, [4, 3, 2], by kernel_rfl, .inl (.inr (fun d h => by cases h)), (fc sm (fc sm (fc sm nm))), ?_⟩
    obtain ⟨x5, ak, ar, cu⟩ := Cb ga
    obtain ⟨cv, cw, gb, du, aj, dv, cx, rfl, dw, dx⟩ := A6.at (Ad _) ah (L := ct ++ []) fP ak.1 ar
    refine mS [35, 37] rfl (AN underlying33 sizeOf3 rfl aj rfl (A6.idx ah ak)) ?_
    refine ⟨_, [(46, .int .i64 x4), (48, .pointer (some ⟨cv, cw + (j - 1 : Int).toNat * 1, none⟩))], rfl, rfl, z2, by kernel_rfl, ?_⟩; intro H
    obtain ⟨l2, cy, cz⟩ := DK cu
    refine GM (u := x4) sizeOf3 (Ad _) rfl aj rfl rfl (fun _ => .h) ah cy ak ?_; intro au av
    refine Aa ⟨undef, rfl, AZ.refl _, [], by kernel_rfl, .inl (.inl rfl), nm, ?_⟩
    refine EW ?_
    refine Au (id := 3) (Ai (um ?_))
    obtain ⟨da, db⟩ := A2 cz
    refine uv (Gl rfl rfl da) ?_
    refine ua (Aa ?_)
    exact le kr ⟨l2, j - 1, au, db, rfl, rfl, z5, av⟩
   have dd := bf bm ca
   refine AQ (Af (Af ?_))
   refine Av (Au (id := 1) ?_)
   obtain rfl := AM dd
   exact mi kr ⟨aa, rfl, rfl, z4, ab⟩
  rintro e1 _ _ ⟨ai, rfl, rfl, aw, de⟩
  refine AA _ aw ?_
  refine Ai (um ?_)
  refine uv (Bd rfl rfl (Fp.EP bg az g5)) ?_
  refine ua (Aa ?_)
  exact le kr ⟨_, bk, ae, ai, dg, rfl, rfl, z4, de⟩
 obtain rfl := Fp.zero bg az
 rw [Bn] at r9
 refine AQ (Af (Af ?_))
 refine Av (Q5 (.inr rfl) results251 ?_)
 obtain rfl := AM r9
 exact ⟨_, rfl, rfl, df⟩
set_option maxHeartbeats 1000000 in
theorem Od {x r : Int} (hr : Jr x = some r) :
    Bw Tryz.prog 261 #[.int .u64 x] F (.int .i64 r) := by
 refine sp func261 ntmps261 fun K _ _ => ?_
 rw [Jr] at hr
 refine AO (ua (Aa ?_))
 obtain ⟨x2, n, h1, r2⟩ := DA hr
 refine jE ([]) [(0, .int .u64 x2), (2, .int .i64 n)] ?_ ?_
 ·clear r2
  refine AO (um ?_)
  refine uv (Hn rfl rfl) (Aa ?_)
  refine cQ (fun c3 => ?_) fun c3 => ?_
  ·have r4 := A8 h1 c3
   refine AO (um ?_)
   refine uv (U3 rfl rfl (by decide)) ?_
   refine ua (Aa (Ai (ua (Aa ?_))))
   obtain ⟨rfl, rfl⟩ := DH r4
   exact mi kr ⟨rfl, rfl, z2⟩
  have r5 := A9 h1 c3
  refine An ?_
  obtain ⟨rfl, rfl⟩ := DH r5
  exact mi kr ⟨rfl, rfl, z2⟩
 obtain ⟨x3, n2, h7, r8⟩ := DA r2
 refine jE ([]) [(0, .int .u64 x3), (2, .int .i64 n2)] ?_ ?_
 ·clear r8
  refine AO (um ?_)
  refine uv (Hn rfl rfl) (Aa ?_)
  refine cQ (fun c9 => ?_) fun c9 => ?_
  ·have af := A8 h7 c9
   refine AO (um ?_)
   refine uv (U3 rfl rfl (by decide)) ?_
   refine ua (Aa (Ai (um ?_)))
   obtain ⟨ah, ai⟩ := A2 af
   refine uv (Bd rfl rfl ah) ?_
   refine ua (Aa ?_)
   obtain ⟨rfl, rfl⟩ := DH ai
   exact mi kr ⟨rfl, rfl, z2⟩
  have aj := A9 h7 c9
  refine An ?_
  obtain ⟨rfl, rfl⟩ := DH aj
  exact mi kr ⟨rfl, rfl, z2⟩
 obtain ⟨x4, n3, ad, ae⟩ := DA r8
 refine jE ([]) [(0, .int .u64 x4), (2, .int .i64 n3)] ?_ ?_
 ·clear ae
  refine AO (um ?_)
  refine uv (Hn rfl rfl) (Aa ?_)
  refine cQ (fun ab => ?_) fun ab => ?_
  ·have ak := A8 ad ab
   refine AO (um ?_)
   refine uv (U3 rfl rfl (by decide)) ?_
   refine ua (Aa (Ai (um ?_)))
   obtain ⟨al, ao⟩ := A2 ak
   refine uv (Bd rfl rfl al) ?_
   refine ua (Aa ?_)
   obtain ⟨rfl, rfl⟩ := DH ao
   exact mi kr ⟨rfl, rfl, z2⟩
  have aq := A9 ad ab
  refine An ?_
  obtain ⟨rfl, rfl⟩ := DH aq
  exact mi kr ⟨rfl, rfl, z2⟩
 refine AO (um (um ?_))
 refine uv (UR rfl underlying367 underlying5 rfl) ?_
 obtain ⟨x5, ar, aa, au⟩ := Cb ae
 refine uv (Uz underlying9 (congrArg (fun s => some (Value.string s)) T3) rfl ar.1 aa (TT _ (List.mem_of_getElem? aa))) ?_
 obtain ⟨av, aw⟩ := A2 au
 refine uv (O8 underlying5 underlying3 rfl av) ?_
 obtain ⟨ax, ay⟩ := A2 aw
 refine uv (Bd rfl rfl ax) ?_
 refine ua (Aa (Al ?_))
 refine Cq results261 ?_
 obtain rfl := AM ay
 exact rfl
theorem PD {x r : Int} (hr : FP x = some r) :
    Bw Tryz.prog 229 #[.int .u64 x] F (.int .i64 r) := by
 refine sp func229 ntmps229 fun K _ _ => ?_
 rw [FP] at hr
 refine AO (ua (Aa (Ao ?_)))
 refine AY rfl (fun c1 => nomatch c1) (fun c1 => ?_)
 refine An (AO (um ?_))
 obtain ⟨n, h2, r3⟩ := AI hr
 refine cV call261 (Od h2) ?_
 refine ua (Aa (Al ?_))
 refine Cq results229 ?_
 obtain rfl := AM r3
 exact rfl
theorem Jm {ab : (List Int) → Int → Int → Int → Option ((List Int))} (_ah : ∀ {B5 : Option Addr} {E8 B0 : Nat} {G1 : LH} {s_ : List Int} {Hc : Nat} {a b aa : Int} {F : FS} (_ : A6 Hc 3 1 (iE .i64) F B5 E8 B0 s_ G1) {r : List Int} , ab s_ a b aa = some r → SH.Spec Tryz.prog 228 #[.slice B5 E8 B0, .int .i64 a, .int .i64 b, .int .i64 aa] F (G1 ++ []) fun F' L' v => ∃ (rL : LH), v = .tuple #[] ∧ L' = rL ++ [] ∧ A6 Hc 3 1 (iE .i64) F' B5 E8 B0 r rL) {s_ : List Int} {aa : Int} (ae : A6 Hc 3 1 (iE .i64) F B5 E8 B0 s_ G1) {r : List Int} (hr : Du ab s_ a b aa = some r) :
    SH.Spec Tryz.prog 228 #[.slice B5 E8 B0, .int .i64 a, .int .i64 b, .int .i64 aa] F (G1 ++ []) fun F' L' v => ∃ (rL : LH), v = .tuple #[] ∧ L' = rL ++ [] ∧ A6 Hc 3 1 (iE .i64) F' B5 E8 B0 r rL := by
 refine sp func228 ntmps228 fun K _ _ => ?_
 rw [Du] at hr
 refine Fi (L' := G1 ++ []) (by simp) ?_
 refine AO (ua (Cj (ua (Aa ?_))))
 refine Am ?_
 refine Bk (fun ad e1 F1 L1 => BM s_ a b ad = some r ∧ F = F1 ∧ L1 = (G1 ++ []) ∧ e1.sub [(0, .slice B5 E8 B0), (1, .int .i64 a), (2, .int .i64 b), (3, .int .i64 aa), (8, .bool true), (9, .bool true)]) FU (m0 kr ⟨hr, rfl, rfl, z6⟩) ?_
 rintro ad e1 _ _ ⟨r3, rfl, rfl, ai⟩
 refine AA _ ai ?_
 rcases ad with _ | ad
 ·rw [BM] at r3; cases r3
 rw [BM] at r3
 refine Am ?_
 refine AO (um (um ?_))
 obtain ⟨g5, r6⟩ := A2 r3
 refine uv (Gl rfl rfl g5) ?_
 refine ua (Aa (Ao (AO (um ?_))))
 refine uv (LG rfl rfl) (Aa ?_)
 obtain ⟨g8, r9⟩ := A2 r6
 refine RD rfl (fun c7 => ?_) (fun c7 => absurd g8 c7)
 refine AO (um (um (um ?_)))
 obtain ⟨au, aj, ak⟩ := AI r9
 refine GJ (Lb := G1 ++ []) (Lr := []) rfl call251 rfl rfl rfl (pT pR (lp (ln rfl))) (Im ae aj) ?_; rintro _ av _ al ao aq ⟨ar, rfl, rfl, af⟩
 refine AK (lp (ln rfl)) ?_
 refine Aa (Al (Ah (Ay (Ah (Ay ?_)))))
 refine Q5 (.inl rfl) results228 ?_
 obtain rfl := AM ak
 exact ⟨_, rfl, rfl, af⟩
theorem JK : ∀ (fu : Nat) {B5 : Option Addr} {E8 B0 : Nat} {G1 : LH} {s_ : List Int} {Hc : Nat} {a b aa : Int} {F : FS} (_ : A6 Hc 3 1 (iE .i64) F B5 E8 B0 s_ G1) {r : List Int} , BD fu s_ a b aa = some r → SH.Spec Tryz.prog 228 #[.slice B5 E8 B0, .int .i64 a, .int .i64 b, .int .i64 aa] F (G1 ++ []) fun F' L' v => ∃ (rL : LH), v = .tuple #[] ∧ L' = rL ++ [] ∧ A6 Hc 3 1 (iE .i64) F' B5 E8 B0 r rL := by
  intro fu
  induction fu with
  | zero => intros; rename_i hr; rw [BD] at hr; cases hr
  | succ fu ih => intros; rename_i hr; rw [BD] at hr; exact Jm ih (by assumption) hr
theorem LV {s_ : List Int} (aa : A6 Hc 3 1 (iE .i64) F B5 E8 B0 s_ G1) {r : List Int} (hr : DM s_ = some r) :
    SH.Spec Tryz.prog 185 #[.slice B5 E8 B0] F (G1 ++ []) fun F' L' v => ∃ (rL : LH), v = .tuple #[] ∧ L' = rL ++ [] ∧ A6 Hc 3 1 (iE .i64) F' B5 E8 B0 r rL := by
 refine sp func185 ntmps185 fun K _ _ => ?_
 rw [DM] at hr
 refine Fi (L' := G1 ++ []) (by simp) ?_
 refine AO (um ?_)
 refine uv ((A3 underlying33 rfl).i (A6.Je aa)) ?_
 refine ua (Aa (Ai (um (um (um ?_)))))
 refine uv (UR rfl underlying3 underlying319 rfl) ?_
 obtain ⟨n, h1, r2⟩ := AI hr
 refine cV call229 (PD h1) ?_
 obtain ⟨ad, h3, r4⟩ := AI r2
 refine GJ (Lb := G1 ++ []) (Lr := []) rfl call228 rfl rfl rfl (pT pR (lp (ln rfl))) ((JK FU) aa h3) ?_; rintro _ F5 _ ae af ah ⟨ai, rfl, rfl, ab⟩
 refine AK (lp (ln rfl)) (Aa (Q5 (.inr rfl) results185 ?_))
 obtain rfl := AM r4
 exact ⟨_, rfl, rfl, ab⟩
theorem M4 (aa : ∀ args w, (callFunc KX args).run Tryz.prog w = .ok (.enter KX args) w) (ad : GF Tryz.prog KX Qi Qs F (fun x : Int => #[.int .i64 x]) seq) {r : List Int} (hr : Eh seq = some r) :
    SH.Spec Tryz.prog 124 #[.func (.func KX) Qi Qs] F [] fun F' L' v => ∃ (ra : Option Addr) (rn : Nat) (rc : Nat) (rL : LH), v = .slice ra rn rc ∧ L' = rL ++ [] ∧ A6 0 3 1 (iE .i64) F' ra rn rc r rL := by
 refine sp func124 ntmps124 fun K _ _ => ?_
 rw [Eh] at hr
 refine AO (ua (Cj (um ?_)))
 obtain ⟨l, h1, r2⟩ := AI hr
 refine c0 call184 (Mj aa ad h1) ?_; rintro _ F3 _ ar af ⟨a7, au, c8, ah, rfl, rfl, ab⟩
 replace ab := ab.new fun p hp => af p (by simp [hp])
 refine AK (lp (ln rfl)) ?_
 refine ua (Cj (um ?_))
 obtain ⟨s_, ai, aj⟩ := AI r2
 refine GJ (Lb := ah ++ []) (Lr := []) rfl call185 rfl rfl rfl (pT pR (lp (ln rfl))) (LV ab ai) ?_; rintro _ av _ ak al ao ⟨aq, rfl, rfl, ae⟩
 refine AK (lp (ln rfl)) ?_
 refine Cj (um (ua (Aa (Al ?_))))
 refine Cq results124 ?_
 obtain rfl := AM aj
 exact ⟨_, _, _, _, rfl, rfl, ae.any⟩
set_option maxHeartbeats 1000000 in
theorem Ko {ah : Nat} {s_ : List Int} {ao : Nat × Nat} (ae : F ah = some (.cells #[.slice B5 s_.length B0] 33 ao)) (aa : Ax 1 (iE .i64) F B5 B0 s_) {xs : List Int} (hr : D6 s_ = some xs) :
    GF Tryz.prog 186 #[] #[.pointer (some ⟨ah, 0, none⟩)] F (fun x : Int => #[.int .i64 x]) xs := by
 intro G0 bo yv J Jx cn bx hy Fc L0 hG bz
 replace ae := (bo.trans hG) _ _ ae
 replace aa := aa.mono (Ad _) (bo.trans hG)
 have ai : xs = [] ++ xs := rfl
 show SH.Spec Tryz.prog 186 #[yv, .pointer (some ⟨ah, 0, none⟩)] Fc L0 _
 refine sp func186 ntmps186 fun K _ _ => ?_
 rw [D6] at hr; refine Fi (L' := L0 ++ []) (by simp) ?_
 refine AO (uv (Aj isAgg33 rfl (Has.frozen ae) rfl) (uv (A3 underlying33 rfl) ?_))
 refine um (Aa ?_)
 refine Am ?_
 refine Bk (fun bp e1 F1 L1 => LA s_ bp fun tl k => ∃ (ad : List Int) (aj : List Int) (aq : LH), BN tl = some aj ∧ AZ Fc F1 ∧ L1 = (aq ++ []) ∧ e1.sub [(0, yv), (5, .slice B5 s_.length B0), (6, .int .i64 (s_.length : Int)), (7, .int .i64 k)] ∧ xs = ad ++ aj ∧ J ad F1 aq ∧ AZ G0 F1) _ (m0 kr ⟨_, _, rfl, BP.start _, [], xs, L0, hr, AZ.refl _, rfl, z4, ai, bz, hG⟩) ?_
 rintro bp e1 cp _ ⟨tl, k, ca, ay, ad, aj, aq, r8, ar, rfl, cb, ab, bq, hG⟩
 refine AA _ cb ?_
 replace aa := aa.mono (Ad _) ar
 refine AO (uv (Bg rfl rfl) ?_)
 refine Aa (Ao ?_)
 refine cQ (fun ax => ?_) fun ax => ?_
 ·obtain ⟨x, cq, rfl, az, br, ba⟩ := BP.succ ay ax
  rw [BN] at r8
  refine An (Ao ?_)
  refine Am (AO ?_)
  obtain ⟨cr, ct, cu, cc, bb, bc, bu, rfl, cf, bg⟩ := Ax.at (Ad _) aa (aq ++ []) br.1 az
  refine uv (AN underlying33 sizeOf3 rfl bb rfl br) (uv (Aj isAgg3 rfl bc (bg 0 (by decide))) ?_)
  refine ua (Cj (um (um ?_)))
  obtain ⟨ak, cg, au⟩ := TW r8
  refine NQ (Lb := aq) (Lr := []) (vs := [.int .i64 x]) rfl rfl rfl fP (hy ad x ak (by rw [ab, au]) _ _ hG bq) ?_
  rintro cv cw bj al bk; obtain ⟨cj, rfl, av, aw⟩ := JT bk
  replace aa := aa.mono (Ad _) al
  replace hG := hG.trans al
  refine uv (Cc rfl) (Aa ?_)
  refine AY rfl (fun bl => ?_) (fun bl => ?_)
  ·have bm := aw (by simpa using bl)
   refine Al (Ay (Ah (Ah (Ay ?_))))
   refine IE (.inl rfl) results186 (sr) ?_
   exact .inr (by rw [List.append_nil]; exact bm)
  have bn := av (by simpa using bl)
  have af : xs = (ad ++ [x]) ++ ak := by rw [ab, au]; simp
  refine An (Au (id := 1) (Ai ?_))
  refine uv (Bd rfl rfl (BP.EP ay ax (Ax.lt aa))) ?_
  refine um (Aa ?_)
  subst ca; exact le kr ⟨_, _, rfl, ba, ad ++ [x], ak, bj, cg, (ar.trans al), rfl, z4, af, bn, hG⟩
 obtain rfl := BP.zero ay ax
 rw [BN] at r8
 refine AQ (Af (Af ?_))
 refine Av (IE (.inr rfl) results186 (sr) ?_)
 obtain rfl := AM r8
 exact .inl (by have e1 := ab; rw [List.append_nil] at e1; rw [List.append_nil, e1]; exact bq)
theorem KH {s_ : List Int} (aa : Ax 1 (iE .i64) F B5 B0 s_) {r : List Int} (hr : Cr s_ = some r) :
    SH.Spec Tryz.prog 125 #[.slice B5 s_.length B0] F [] fun F' L' v => ∃ (ad : Array Value), v = .func (.func 186) #[] ad ∧ L' = [] ∧ GF Tryz.prog 186 #[] ad F' (fun x : Int => #[.int .i64 x]) r := by
 refine sp func125 ntmps125 fun K _ _ => ?_
 rw [Cr] at hr
 refine AO ?_
 refine BH rfl rfl ?_; intro b1 ae
 refine ua (Cj ?_)
 refine uv (C8 rfl rfl) ?_
 refine ua (Aa ?_)
 refine CX 0 rfl ae ?_; intro F2 af ah
 refine Fi (L' := []) rfl ?_
 replace aa := aa.mono (Ad _) af
 obtain ⟨l, h5, r7⟩ := AI hr
 have ab : GF Tryz.prog 186 #[] #[.pointer (some ⟨b1, 0, none⟩)] F2 (fun x : Int => #[.int .i64 x]) l := Ko ah aa h5
 refine Al (Cq results125 ?_)
 obtain rfl := AM r7
 exact ⟨_, rfl, rfl, ab⟩
set_option maxHeartbeats 1000000 in
theorem Kk {Ak : List (List Int)} {Ac : List ((List Int) × Int × Int)} (ae : Ax 1 (Cn 1 (iE .i64)) F AG AF walks) (ad : Ax 1 (Cn 1 (iE .i64)) F As At Ak) (ab : Ax 3 (Cd (Cn 1 (iE .i64)) (Cd (iE .i64) (iE .i64))) F Aq Ar Ac) {r : Option ((List (List Int)) × (List (List Int)) × Int × Int × (List ((List Int) × Int × Int)) × (List Int) × (List (Int × Int)) × (List Int))} {r2 : Int} (hr : DZ walks Ak Ae start Ac = some (r, r2)) :
    SH.Spec Tryz.prog 49 #[.agg #[.slice AG walks.length AF, .slice As Ak.length At, .int .i64 Ae, .int .i64 start, .slice Aq Ac.length Ar]] F [] fun F' L' v => ∃ (rv : Value), v = .tuple #[rv, .int .i64 r2] ∧ L' = [] ∧ Rj 156 (Cd (Cn 1 (Cn 1 (iE .i64))) (Cd (Cn 1 (Cn 1 (iE .i64))) (Cd (iE .i64) (Cd (iE .i64) (Cd (Cn 3 (Cd (Cn 1 (iE .i64)) (Cd (iE .i64) (iE .i64)))) (Cd (JA 25 (cI .i64)) (Cd (Cn 2 (Cd (iE .i64) (iE .i64))) (JA 15 (cI .i64))))))))) F' rv r := by
 refine sp func49 ntmps49 fun K _ _ => ?_
 rw [DZ] at hr
 refine AO ?_
 refine BH rfl rfl ?_; intro b1 sg
 refine ua (ua (Aa (Ao (AO ?_))))
 refine uv (AL (cs := #[.slice AG walks.length AF, .slice As Ak.length At, .int .i64 Ae, .int .i64 start, .slice Aq Ac.length Ar]) isAgg39 sizeOf39 rfl (Has.own 0 rfl) (Ce rfl) rfl) ?_
 obtain ⟨n, h2, r3⟩ := AI hr
 refine cV call122 (Rf ae ad ab h2) ?_
 refine ua (Cj (um ?_))
 refine uv (B8 rfl rfl) (Aa ?_)
 refine cQ (fun c4 => ?_) fun c4 => ?_
 ·have r5 := A8 r3 c4
  refine AO (um (ua (ua (Aa ?_))))
  refine kW kn ?_
  refine Al (Ah ?_)
  refine CP results49 (AR rfl) (AR rfl) (sr) ?_
  obtain ⟨rfl, rfl⟩ := DH r5
  exact ⟨_, rfl, rfl, rfl⟩
 have r6 := A9 r3 c4
 refine An (AO ?_)
 refine uv (AL (cs := #[.slice AG walks.length AF, .slice As Ak.length At, .int .i64 Ae, .int .i64 start, .slice Aq Ac.length Ar]) isAgg39 sizeOf39 rfl (Has.own 0 rfl) (Ce rfl) rfl) ?_
 refine uv (Bx (v := .agg ((([.slice AG walks.length AF] : List Value) ++ (([.slice As Ak.length At] : List Value) ++ (([.int .i64 Ae] : List Value) ++ (([.int .i64 start] : List Value) ++ (([.slice Aq Ac.length Ar] : List Value) ++ ((List.replicate 25 0).flatMap (cI .i64) ++ (([.slice none 0 0] : List Value) ++ ((List.replicate 15 0).flatMap (cI .i64))))))))).toArray)) rfl (by intro w; kernel_rfl)) ?_
 refine BH rfl rfl ?_; intro b7 pt
 refine ua (Aa ?_)
 obtain ⟨aj, h9, o9⟩ := AI r6
 refine AV (fun e1 F1 L1 => F = F1 ∧ L1 = [(b7, ce ((([.slice AG walks.length AF] : List Value) ++ (([.slice As Ak.length At] : List Value) ++ (([.int .i64 Ae] : List Value) ++ (([.int .i64 start] : List Value) ++ (([.slice Aq Ac.length Ar] : List Value) ++ (aj.flatMap (cI .i64) ++ (([.slice none 0 0] : List Value) ++ ((List.replicate 15 0).flatMap (cI .i64))))))))).toArray) 156), (b1, ce #[.slice AG walks.length AF, .slice As Ak.length At, .int .i64 Ae, .int .i64 start, .slice Aq Ac.length Ar] 39)] ∧ e1.sub [(1, .pointer (some ⟨b1, 0, none⟩)), (5, .pointer (some ⟨b7, 0, none⟩))] ∧ aj.length = 25) ?_ ?_
 ·clear o9
  refine AO (um (Aa ?_))
  refine Am ?_
  obtain ⟨pv, pw⟩ := A2 h9
  refine Bk (fun jn e1 F1 L1 => ∃ (k : Int), Fp 0 5 k jn ∧ ∃ (ak : List Int), Dy walks jn k ak = some aj ∧ F = F1 ∧ L1 = [(b7, ce ((([.slice AG walks.length AF] : List Value) ++ (([.slice As Ak.length At] : List Value) ++ (([.int .i64 Ae] : List Value) ++ (([.int .i64 start] : List Value) ++ (([.slice Aq Ac.length Ar] : List Value) ++ (ak.flatMap (cI .i64) ++ (([.slice none 0 0] : List Value) ++ ((List.replicate 15 0).flatMap (cI .i64))))))))).toArray) 156), (b1, ce #[.slice AG walks.length AF, .slice As Ak.length At, .int .i64 Ae, .int .i64 start, .slice Aq Ac.length Ar] 39)] ∧ e1.sub [(1, .pointer (some ⟨b1, 0, none⟩)), (5, .pointer (some ⟨b7, 0, none⟩)), (23, .int .i64 k)] ∧ ak.length = 25) _ (m0 kr ⟨_, Fp.start _ _, List.replicate 25 0, pw, rfl, rfl, z3, List.length_replicate⟩) ?_
  rintro jn e1 _ _ ⟨k, eu, ak, jo, rfl, rfl, jw, oc⟩
  refine AA _ jw (AO (uv (Bg rfl rfl) ?_))
  refine Aa (Ao ?_)
  refine cQ (fun jq => ?_) fun jq => ?_
  ·obtain ⟨jn, rfl, jx⟩ := Fp.succ eu jq
   rw [Dy] at jo
   refine An ?_
   obtain ⟨aq, px, od⟩ := AI jo
   refine AV (fun e1 F1 L1 => F = F1 ∧ L1 = [(b7, ce ((([.slice AG walks.length AF] : List Value) ++ (([.slice As Ak.length At] : List Value) ++ (([.int .i64 Ae] : List Value) ++ (([.int .i64 start] : List Value) ++ (([.slice Aq Ac.length Ar] : List Value) ++ (aq.flatMap (cI .i64) ++ (([.slice none 0 0] : List Value) ++ ((List.replicate 15 0).flatMap (cI .i64))))))))).toArray) 156), (b1, ce #[.slice AG walks.length AF, .slice As Ak.length At, .int .i64 Ae, .int .i64 start, .slice Aq Ac.length Ar] 39)] ∧ e1.sub [(1, .pointer (some ⟨b1, 0, none⟩)), (5, .pointer (some ⟨b7, 0, none⟩)), (23, .int .i64 k)] ∧ aq.length = 25) ?_ ?_
   ·clear od
    refine Am ?_
    refine AO (um (ua (Cj (um (Aa ?_)))))
    refine Am ?_
    obtain ⟨oe, py⟩ := A2 px
    refine Bk (fun jr e1 F1 L1 => ∃ (k2 : Int), Fp 0 5 k2 jr ∧ ∃ (ar : List Int), Dz walks k jr k2 ar = some aq ∧ F = F1 ∧ L1 = [(b7, ce ((([.slice AG walks.length AF] : List Value) ++ (([.slice As Ak.length At] : List Value) ++ (([.int .i64 Ae] : List Value) ++ (([.int .i64 start] : List Value) ++ (([.slice Aq Ac.length Ar] : List Value) ++ (ar.flatMap (cI .i64) ++ (([.slice none 0 0] : List Value) ++ ((List.replicate 15 0).flatMap (cI .i64))))))))).toArray) 156), (b1, ce #[.slice AG walks.length AF, .slice As Ak.length At, .int .i64 Ae, .int .i64 start, .slice Aq Ac.length Ar] 39)] ∧ e1.sub [(1, .pointer (some ⟨b1, 0, none⟩)), (5, .pointer (some ⟨b7, 0, none⟩)), (6, .int .i64 k), (23, .int .i64 k), (26, .int .i64 k2)] ∧ ar.length = 25) _ (m0 kr ⟨_, Fp.start _ _, ak, py, rfl, rfl, z5, oc⟩) ?_
    rintro jr e1 _ _ ⟨k2, de, ar, js, rfl, rfl, jz, jt⟩
    refine AA _ jz (AO (uv (Bg rfl rfl) ?_))
    refine Aa (Ao ?_)
    refine cQ (fun fj => ?_) fun fj => ?_
    ·obtain ⟨jr, rfl, fk⟩ := Fp.succ de fj
     rw [Dz] at js
     refine An (Ao ?_)
     refine Am ?_
     refine AO (um (ua (Cj (um (um (um ?_))))))
     refine uv (A4 rfl) (uv (Ab Kg rfl) ?_)
     obtain ⟨og, pz⟩ := A2 js
     refine uv (Ci underlying152 sizeOf150 rfl rfl og) ?_
     obtain ⟨oh, q0⟩ := A2 pz
     obtain ⟨x, qb, qc, qd⟩ := Cb q0
     have kb : (k * 5 + k2 : Int).toNat = (k : Int).toNat * 5 + (k2 : Int).toNat := by have := og; have := oh; omega
     refine uv (Ci underlying150 sizeOf3 rfl rfl oh) ?_
     obtain ⟨ws, oi, qe⟩ := DK qd
     have ju : ws.length = 25 := by rw [oi, List.length_set]; exact jt
     refine Ly (i := 0) sizeOf3 rfl (by have := kb; omega) rfl rfl rfl (Ef (A := ([.slice AG walks.length AF] : List Value)) (k := 1) rfl (Ef (A := ([.slice As Ak.length At] : List Value)) (k := 1) rfl (Ef (A := ([.int .i64 Ae] : List Value)) (k := 1) rfl (Ef (A := ([.int .i64 start] : List Value)) (k := 1) rfl (Ef (A := ([.slice Aq Ac.length Ar] : List Value)) (k := 1) rfl (SP (B := ([.slice none 0 0] : List Value) ++ ((List.replicate 15 0).flatMap (cI .i64))) (Us (p := (k * 5 + k2 : Int).toNat) (BU .i64) (u := -1) rfl jt (by have := qb; have := jt; omega) F))))))) ?_
     refine AK (L' := [(b7, ce ((([.slice AG walks.length AF] : List Value) ++ (([.slice As Ak.length At] : List Value) ++ (([.int .i64 Ae] : List Value) ++ (([.int .i64 start] : List Value) ++ (([.slice Aq Ac.length Ar] : List Value) ++ (ws.flatMap (cI .i64) ++ (([.slice none 0 0] : List Value) ++ ((List.replicate 15 0).flatMap (cI .i64))))))))).toArray) 156), (b1, ce #[.slice AG walks.length AF, .slice As Ak.length At, .int .i64 Ae, .int .i64 start, .slice Aq Ac.length Ar] 39)]) (by rw [oi]; rfl) ?_
     refine Aa ?_
     obtain ⟨k3, oj, kh⟩ := AI qe
     refine jE ([(b7, ce ((([.slice AG walks.length AF] : List Value) ++ (([.slice As Ak.length At] : List Value) ++ (([.int .i64 Ae] : List Value) ++ (([.int .i64 start] : List Value) ++ (([.slice Aq Ac.length Ar] : List Value) ++ (ws.flatMap (cI .i64) ++ (([.slice none 0 0] : List Value) ++ ((List.replicate 15 0).flatMap (cI .i64))))))))).toArray) 156), (b1, ce #[.slice AG walks.length AF, .slice As Ak.length At, .int .i64 Ae, .int .i64 start, .slice Aq Ac.length Ar] 39)]) [(1, .pointer (some ⟨b1, 0, none⟩)), (5, .pointer (some ⟨b7, 0, none⟩)), (6, .int .i64 k), (7, .int .i64 k2), (23, .int .i64 k), (26, .int .i64 k2), (47, .bool k3)] ?_ ?_
     ·clear kh
      refine Ai (um ?_)
      refine uv (Ab Kq rfl) (uv (Aj isAgg36 rfl (Has.own 1 rfl) rfl) (uv (A3 underlying36 rfl) (uv (Bg rfl rfl) (um ?_))))
      by_cases bz : k < (walks.length : Int)
      ·have qf := A8 oj bz
       refine nT bz (um (nT bz ?_))
       refine uv (Ab Kq rfl) (nT bz (uv (Aj isAgg36 rfl (Has.own 1 rfl) rfl) (nT bz (uv (A3 underlying36 rfl) (nT bz (uv (Bg rfl rfl) (uv (AP (Bf rfl bz) rfl) ?_)))))))
       refine Aa ?_
       obtain rfl := AM qf
       exact mi kr ⟨rfl, rfl, z7⟩
      have qg := A9 oj bz
      refine fF bz (fF bz (fF bz (fF bz (fF bz ?_))))
      refine uv (AB (AU rfl bz) rfl) (Aa ?_)
      obtain rfl := AM qg
      exact mi kr ⟨rfl, rfl, z7⟩
     refine AY rfl (fun kj => ?_) (fun kj => ?_)
     ·have qh := bt kh kj
      refine DB [(.still, 0), (.still, 1), (.still, 2), (.still, 3), (.still, 4), (.still, 5), (.still, 6), (.still, 7), (.still, 8), (.still, 9), (.still, 10), (.still, 11), (.still, 12), (.still, 13), (.still, 14), (.seq, 15)] (by kernel_rfl) (by kernel_rfl) (trivial) (by rfl) (by kernel_rfl) (mS [5] rfl (B3 rfl) (mS [6] rfl (B3 rfl) (mS [7] rfl (B3 rfl) (mS [1] rfl (Ab Kq rfl) (mL [51] ([(b1, ce #[.slice AG walks.length AF, .slice As Ak.length At, .int .i64 Ae, .int .i64 start, .slice Aq Ac.length Ar] 39)]) rfl (s0 (s1 (s2 sr))) (fun H F' L' df dg => Aj isAgg36 rfl ((Has.own 0 rfl).ext df dg) rfl) (mS [6] rfl (B3 rfl) ?_))))))
      obtain ⟨x2, oo, kl, qi⟩ := Cb qh
      obtain ⟨sh, si, sj, qj, km, ko, oq, ⟨sk, sq, rfl, qk⟩, ql, kt⟩ := Ax.at (Az (Ad _)) ae ([]) oo.1 kl
      refine mS [52, 53] rfl (AN underlying36 sizeOf33 rfl km rfl oo) (mL [54] ([]) rfl sm (fun H F' L' df dg => Aj isAgg33 rfl (ko.ext df dg) (kt 0 (by decide))) (mS [7] rfl (B3 rfl) ?_))
      obtain ⟨x3, ot, ku, qn⟩ := Cb qi
      obtain ⟨ss, su, sv, qo, kv, kz, ou, rfl, qp, l0⟩ := Ax.at (Ad _) qk ([]) ot.1 ku
      refine mS [55, 56] rfl (AN underlying33 sizeOf3 rfl kv rfl ot) (mL [57] ([]) rfl sm (fun H F' L' df dg => Aj isAgg3 rfl (kz.ext df dg) (l0 0 (by decide))) (mS [48] rfl (A4 rfl) (mS [59] rfl (Ab Kg rfl) ?_)))
      obtain ⟨ow, qq⟩ := A2 qn
      refine mS [49, 60] rfl (Ci underlying152 sizeOf150 rfl rfl ow) ?_
      obtain ⟨oy, qs⟩ := A2 qq
      obtain ⟨x4, qt, qu, qw⟩ := Cb qs
      have ld : (k * 5 + k2 : Int).toNat = (k : Int).toNat * 5 + (k2 : Int).toNat := by have := ow; have := oy; omega
      refine mS [50, 61] rfl (Ci underlying150 sizeOf3 rfl rfl oy) ?_
      refine ⟨_, [(58, .int .i64 x3), (62, .pointer (some ⟨b7, 5 + (k : Int).toNat * 5 + (k2 : Int).toNat * 1, none⟩))], rfl, rfl, z2, by kernel_rfl, ?_⟩; intro H
      obtain ⟨lg, oz, qx⟩ := DK qw
      have qy : lg.length = 25 := by rw [oz, List.length_set]; exact ju
      refine Ly (i := 0) sizeOf3 rfl (by have := ld; omega) rfl rfl rfl (Ef (A := ([.slice AG walks.length AF] : List Value)) (k := 1) rfl (Ef (A := ([.slice As Ak.length At] : List Value)) (k := 1) rfl (Ef (A := ([.int .i64 Ae] : List Value)) (k := 1) rfl (Ef (A := ([.int .i64 start] : List Value)) (k := 1) rfl (Ef (A := ([.slice Aq Ac.length Ar] : List Value)) (k := 1) rfl (SP (B := ([.slice none 0 0] : List Value) ++ ((List.replicate 15 0).flatMap (cI .i64))) (Us (p := (k * 5 + k2 : Int).toNat) (BU .i64) (u := x3) rfl ju (by have := qt; have := ju; omega) F))))))) ?_
      refine AK (L' := [(b7, ce ((([.slice AG walks.length AF] : List Value) ++ (([.slice As Ak.length At] : List Value) ++ (([.int .i64 Ae] : List Value) ++ (([.int .i64 start] : List Value) ++ (([.slice Aq Ac.length Ar] : List Value) ++ (lg.flatMap (cI .i64) ++ (([.slice none 0 0] : List Value) ++ ((List.replicate 15 0).flatMap (cI .i64))))))))).toArray) 156), (b1, ce #[.slice AG walks.length AF, .slice As Ak.length At, .int .i64 Ae, .int .i64 start, .slice Aq Ac.length Ar] 39)]) (by rw [oz]; rfl) ?_
      refine Aa ⟨undef, rfl, AZ.refl _, [], by kernel_rfl, .inl (.inl rfl), nm, ?_⟩
      refine EW ?_
      refine Au (id := 3) (Ai ?_)
      refine uv (Bd rfl rfl (Fp.EP de fj oe)) ?_
      refine um (Aa ?_)
      exact le kr ⟨_, fk, lg, qx, rfl, rfl, z5, qy⟩
     have qz := bf kh kj
     refine An (Au (id := 3) (Ai ?_))
     refine uv (Bd rfl rfl (Fp.EP de fj oe)) ?_
     refine um (Aa ?_)
     exact le kr ⟨_, fk, ws, qz, rfl, rfl, z5, ju⟩
    obtain rfl := Fp.zero de fj
    rw [Dz] at js
    refine AQ (Af (Af ?_))
    refine Av (Au (id := 1) ?_)
    obtain rfl := AM js
    exact mi kr ⟨rfl, rfl, z3, jt⟩
   rintro e1 _ _ ⟨rfl, rfl, lh, re⟩
   refine AA _ lh (Ai (uv (Bd rfl rfl (Fp.EP eu jq pv)) ?_))
   refine um (Aa ?_)
   exact le kr ⟨_, jx, aq, od, rfl, rfl, z3, re⟩
  obtain rfl := Fp.zero eu jq
  rw [Dy] at jo
  refine AQ (Af (Af ?_))
  refine Av ?_
  obtain rfl := AM jo
  exact mi kr ⟨rfl, rfl, z2, oc⟩
 rintro e1 _ _ ⟨rfl, rfl, lj, h8⟩
 refine AA _ lj ?_
 obtain ⟨aa, rf, p0⟩ := AI o9
 refine AV (fun e1 F1 L1 => AZ F F1 ∧ L1 = [(b7, ce ((([.slice AG walks.length AF] : List Value) ++ (([.slice As Ak.length At] : List Value) ++ (([.int .i64 Ae] : List Value) ++ (([.int .i64 start] : List Value) ++ (([.slice Aq Ac.length Ar] : List Value) ++ (aa.flatMap (cI .i64) ++ (([.slice none 0 0] : List Value) ++ ((List.replicate 15 0).flatMap (cI .i64))))))))).toArray) 156), (b1, ce #[.slice AG walks.length AF, .slice As Ak.length At, .int .i64 Ae, .int .i64 start, .slice Aq Ac.length Ar] 39)] ∧ e1.sub [(1, .pointer (some ⟨b1, 0, none⟩)), (5, .pointer (some ⟨b7, 0, none⟩))] ∧ aa.length = 25) ?_ ?_
 ·clear p0
  refine AO (um ?_)
  refine uv (A4 rfl) (uv (Ab Kg rfl) (uv (AL (cs := arr (cI .i64) aj) isAgg152 sizeOf152 rfl (Has.own 0 rfl) (Hm (AE (A := ([.slice AG walks.length AF] : List Value)) (k := 1) (o := 4) rfl (AE (A := ([.slice As Ak.length At] : List Value)) (k := 1) (o := 3) rfl (AE (A := ([.int .i64 Ae] : List Value)) (k := 1) (o := 2) rfl (AE (A := ([.int .i64 start] : List Value)) (k := 1) (o := 1) rfl (AE (A := ([.slice Aq Ac.length Ar] : List Value)) (k := 1) (o := 0) rfl (BV (FV (BU .i64) h8)))))))) (Js (FV (BU .i64) h8) (AE (A := ([.slice AG walks.length AF] : List Value)) (k := 1) (o := 4) rfl (AE (A := ([.slice As Ak.length At] : List Value)) (k := 1) (o := 3) rfl (AE (A := ([.int .i64 Ae] : List Value)) (k := 1) (o := 2) rfl (AE (A := ([.int .i64 start] : List Value)) (k := 1) (o := 1) rfl (AE (A := ([.slice Aq Ac.length Ar] : List Value)) (k := 1) (o := 0) rfl (BV (FV (BU .i64) h8))))))))) ?_))
  obtain ⟨a, rh, lk⟩ := AI rf
  refine c0 call123 (IT h8 rh) ?_; rintro _ ll _ fl p6 ⟨rfl, rfl, fm⟩
  refine AK (ln rfl) ?_
  refine Bj rfl zeroValue152 ?_; intro ew fo
  refine AK (L' := [(ew, ce (arr (cI .i64) (List.replicate 25 0)) 152), (b7, ce ((([.slice AG walks.length AF] : List Value) ++ (([.slice As Ak.length At] : List Value) ++ (([.int .i64 Ae] : List Value) ++ (([.int .i64 start] : List Value) ++ (([.slice Aq Ac.length Ar] : List Value) ++ (aj.flatMap (cI .i64) ++ (([.slice none 0 0] : List Value) ++ ((List.replicate 15 0).flatMap (cI .i64))))))))).toArray) 156), (b1, ce #[.slice AG walks.length AF, .slice As Ak.length At, .int .i64 Ae, .int .i64 start, .slice Aq Ac.length Ar] 39)]) rfl (Hl (i := 0) sizeOf152 rfl rfl rfl (EC (BU .i64) List.length_replicate) (EC (BU .i64) fm) (LB (BU .i64)) (AK (L' := [(ew, ce (arr (cI .i64) a) 152), (b7, ce ((([.slice AG walks.length AF] : List Value) ++ (([.slice As Ak.length At] : List Value) ++ (([.int .i64 Ae] : List Value) ++ (([.int .i64 start] : List Value) ++ (([.slice Aq Ac.length Ar] : List Value) ++ (aj.flatMap (cI .i64) ++ (([.slice none 0 0] : List Value) ++ ((List.replicate 15 0).flatMap (cI .i64))))))))).toArray) 156), (b1, ce #[.slice AG walks.length AF, .slice As Ak.length At, .int .i64 Ae, .int .i64 start, .slice Aq Ac.length Ar] 39)]) rfl (Aa (Am ?_))))
  refine Bk (fun jv e1 F1 L1 => ∃ (ai : List Int) (ah : List Int) (bn : Nat), DY jv ai ah = some aa ∧ AZ ll F1 ∧ L1 = [(bn, ce (arr (cI .i64) ah) 152), (b7, ce ((([.slice AG walks.length AF] : List Value) ++ (([.slice As Ak.length At] : List Value) ++ (([.int .i64 Ae] : List Value) ++ (([.int .i64 start] : List Value) ++ (([.slice Aq Ac.length Ar] : List Value) ++ (ai.flatMap (cI .i64) ++ (([.slice none 0 0] : List Value) ++ ((List.replicate 15 0).flatMap (cI .i64))))))))).toArray) 156), (b1, ce #[.slice AG walks.length AF, .slice As Ak.length At, .int .i64 Ae, .int .i64 start, .slice Aq Ac.length Ar] 39)] ∧ e1.sub [(1, .pointer (some ⟨b1, 0, none⟩)), (5, .pointer (some ⟨b7, 0, none⟩)), (8, .pointer (some ⟨bn, 0, none⟩))] ∧ ai.length = 25 ∧ K.w0.heap.size ≤ bn ∧ ah.length = 25) FU (m0 kr ⟨aj, a, ew, lk, AZ.refl _, rfl, z3, h8, fo, fm⟩) ?_
  rintro jv e1 ri _ ⟨ai, ah, bn, dh, eg, rfl, fp, cn, p7, bj⟩
  refine AA _ fp ?_
  rcases jv with _ | jv
  ·rw [DY] at dh; cases dh
  rw [DY] at dh
  refine Ao (dW (wv (JM isAgg152 sizeOf152 rfl (Has.own 0 rfl) (EC (BU .i64) bj)) (wm (wv (A4 rfl) (wv (Ab Kg rfl) (wv (AL (cs := arr (cI .i64) ai) isAgg152 sizeOf152 rfl (Has.own 1 rfl) (Hm (AE (A := ([.slice AG walks.length AF] : List Value)) (k := 1) (o := 4) rfl (AE (A := ([.slice As Ak.length At] : List Value)) (k := 1) (o := 3) rfl (AE (A := ([.int .i64 Ae] : List Value)) (k := 1) (o := 2) rfl (AE (A := ([.int .i64 start] : List Value)) (k := 1) (o := 1) rfl (AE (A := ([.slice Aq Ac.length Ar] : List Value)) (k := 1) (o := 0) rfl (BV (FV (BU .i64) cn)))))))) (Js (FV (BU .i64) cn) (AE (A := ([.slice AG walks.length AF] : List Value)) (k := 1) (o := 4) rfl (AE (A := ([.slice As Ak.length At] : List Value)) (k := 1) (o := 3) rfl (AE (A := ([.int .i64 Ae] : List Value)) (k := 1) (o := 2) rfl (AE (A := ([.int .i64 start] : List Value)) (k := 1) (o := 1) rfl (AE (A := ([.slice Aq Ac.length Ar] : List Value)) (k := 1) (o := 0) rfl (BV (FV (BU .i64) cn))))))))) ?_))))))
  obtain ⟨lq, lr⟩ := A2 dh
  obtain ⟨lu, fq⟩ := A2 lr
  refine wv (Ze (XK _ _ _ _) (fun w => W9 (Yu ah ai ⟨bj, lq⟩ ⟨cn, lu⟩ w)) rfl rfl) (DN ?_)
  refine cQ (fun ey => ?_) fun ey => ?_
  ·have lv := A8 fq ey
   refine An (Ao ?_)
   refine Am ?_
   refine Ai (um ?_)
   refine uv (JM isAgg152 sizeOf152 rfl (Has.own 0 rfl) (EC (BU .i64) bj)) (uv (A4 rfl) (uv (Ab Kg rfl) (SW (i := 1) sizeOf152 rfl rfl (lz (FV (BU .i64) bj)) (J4 (BU .i64) _) rfl (N1 (A := ([.slice AG walks.length AF] : List Value)) (k := 1) (o := 4) rfl (N1 (A := ([.slice As Ak.length At] : List Value)) (k := 1) (o := 3) rfl (N1 (A := ([.int .i64 Ae] : List Value)) (k := 1) (o := 2) rfl (N1 (A := ([.int .i64 start] : List Value)) (k := 1) (o := 1) rfl (N1 (A := ([.slice Aq Ac.length Ar] : List Value)) (k := 1) (o := 0) rfl (YH (B := ([.slice none 0 0] : List Value) ++ ((List.replicate 15 0).flatMap (cI .i64))) (FV (BU .i64) cn))))))) (AK (L' := [(bn, ce (arr (cI .i64) ah) 152), (b7, ce ((([.slice AG walks.length AF] : List Value) ++ (([.slice As Ak.length At] : List Value) ++ (([.int .i64 Ae] : List Value) ++ (([.int .i64 start] : List Value) ++ (([.slice Aq Ac.length Ar] : List Value) ++ (ah.flatMap (cI .i64) ++ (([.slice none 0 0] : List Value) ++ ((List.replicate 15 0).flatMap (cI .i64))))))))).toArray) 156), (b1, ce #[.slice AG walks.length AF, .slice As Ak.length At, .int .i64 Ae, .int .i64 start, .slice Aq Ac.length Ar] 39)]) rfl ?_))))
   refine Aa (Au (id := 5) (Ao (AO ?_)))
   refine uv (JM isAgg152 sizeOf152 rfl (Has.own 0 rfl) (EC (BU .i64) bj)) ?_
   refine Aa (Ai ?_)
   refine Bj rfl zeroValue152 ?_; intro di ft
   refine AK (L' := [(di, ce (arr (cI .i64) (List.replicate 25 0)) 152), (bn, ce (arr (cI .i64) ah) 152), (b7, ce ((([.slice AG walks.length AF] : List Value) ++ (([.slice As Ak.length At] : List Value) ++ (([.int .i64 Ae] : List Value) ++ (([.int .i64 start] : List Value) ++ (([.slice Aq Ac.length Ar] : List Value) ++ (ah.flatMap (cI .i64) ++ (([.slice none 0 0] : List Value) ++ ((List.replicate 15 0).flatMap (cI .i64))))))))).toArray) 156), (b1, ce #[.slice AG walks.length AF, .slice As Ak.length At, .int .i64 Ae, .int .i64 start, .slice Aq Ac.length Ar] 39)]) rfl (Hl (i := 0) sizeOf152 rfl rfl rfl (EC (BU .i64) List.length_replicate) (EC (BU .i64) bj) (LB (BU .i64)) (AK (L' := [(di, ce (arr (cI .i64) ah) 152), (bn, ce (arr (cI .i64) ah) 152), (b7, ce ((([.slice AG walks.length AF] : List Value) ++ (([.slice As Ak.length At] : List Value) ++ (([.int .i64 Ae] : List Value) ++ (([.int .i64 start] : List Value) ++ (([.slice Aq Ac.length Ar] : List Value) ++ (ah.flatMap (cI .i64) ++ (([.slice none 0 0] : List Value) ++ ((List.replicate 15 0).flatMap (cI .i64))))))))).toArray) 156), (b1, ce #[.slice AG walks.length AF, .slice As Ak.length At, .int .i64 Ae, .int .i64 start, .slice Aq Ac.length Ar] 39)]) rfl ?_))
   refine Aa (Ai ?_)
   refine uv (JM isAgg152 sizeOf152 rfl (Has.own 0 rfl) (EC (BU .i64) bj)) ?_
   obtain ⟨a2, lx, ly⟩ := AI lv
   refine c0 call123 (IT bj lx) ?_; rintro _ rj _ fv p8 ⟨rfl, rfl, fw⟩
   refine AK (ln rfl) (Hl (i := 0) sizeOf152 rfl rfl rfl (EC (BU .i64) bj) (EC (BU .i64) fw) (LB (BU .i64)) (AK (L' := [(di, ce (arr (cI .i64) a2) 152), (bn, ce (arr (cI .i64) ah) 152), (b7, ce ((([.slice AG walks.length AF] : List Value) ++ (([.slice As Ak.length At] : List Value) ++ (([.int .i64 Ae] : List Value) ++ (([.int .i64 start] : List Value) ++ (([.slice Aq Ac.length Ar] : List Value) ++ (ah.flatMap (cI .i64) ++ (([.slice none 0 0] : List Value) ++ ((List.replicate 15 0).flatMap (cI .i64))))))))).toArray) 156), (b1, ce #[.slice AG walks.length AF, .slice As Ak.length At, .int .i64 Ae, .int .i64 start, .slice Aq Ac.length Ar] 39)]) rfl (Aa ?_)))
   exact le (kc (kd kr)) ⟨ah, a2, di, ly, (eg.trans fv), rfl, z3, bj, ft, fw⟩
  have ma := A9 fq ey
  refine AQ (Af (Af ?_))
  refine Av ?_
  obtain rfl := AM ma
  exact mi (kd kr) ⟨(fl.trans eg), rfl, z2, cn⟩
 rintro e1 fx _ ⟨cp, rfl, fy, fa⟩
 refine AA _ fy ?_
 replace ae := ae.mono (Az (Ad _)) cp
 replace ad := ad.mono (Az (Ad _)) cp
 replace ab := ab.mono (AD (Az (Ad _)) (AD (Ad _) (Ad _))) cp
 obtain ⟨ca, cq, mb, ga⟩ := DA p0
 refine AV (fun e1 F1 L1 => ∃ (fb : Option Addr) (fe : Nat) (ff : Nat) (cr : LH), AZ fx F1 ∧ L1 = ((b7, ce ((([.slice AG walks.length AF] : List Value) ++ (([.slice As Ak.length At] : List Value) ++ (([.int .i64 Ae] : List Value) ++ (([.int .i64 start] : List Value) ++ (([.slice Aq Ac.length Ar] : List Value) ++ (aa.flatMap (cI .i64) ++ (([.slice fb fe ff] : List Value) ++ (cq.flatMap (cI .i64))))))))).toArray) 156) :: (cr ++ [])) ∧ e1.sub [(5, .pointer (some ⟨b7, 0, none⟩))] ∧ A6 K.w0.heap.size 58 2 (Cd (iE .i64) (iE .i64)) F1 fb fe ff ca cr ∧ cq.length = 15) ?_ ?_
 ·clear ga
  refine AO (uv (Ab II rfl) (uv (Aj isAgg37 rfl (Has.own 1 rfl) rfl) (uv (A3 underlying37 rfl) ?_)))
  refine um (Aa ?_)
  refine Am ?_
  refine Bk (fun p9 e1 F1 L1 => LA Ac p9 fun tl k4 => ∃ (au : List (Int × Int)) (ao : List Int) (bq : Option Addr) (br : Nat) (bu : Nat) (bb : LH), DX Ak tl k4 au ao = some (ca, cq) ∧ AZ fx F1 ∧ L1 = ((b7, ce ((([.slice AG walks.length AF] : List Value) ++ (([.slice As Ak.length At] : List Value) ++ (([.int .i64 Ae] : List Value) ++ (([.int .i64 start] : List Value) ++ (([.slice Aq Ac.length Ar] : List Value) ++ (aa.flatMap (cI .i64) ++ (([.slice bq br bu] : List Value) ++ (ao.flatMap (cI .i64))))))))).toArray) 156) :: ((b1, ce #[.slice AG walks.length AF, .slice As Ak.length At, .int .i64 Ae, .int .i64 start, .slice Aq Ac.length Ar] 39) :: (bb ++ []))) ∧ e1.sub [(1, .pointer (some ⟨b1, 0, none⟩)), (5, .pointer (some ⟨b7, 0, none⟩)), (84, .slice Aq Ac.length Ar), (85, .int .i64 (Ac.length : Int)), (86, .int .i64 k4)] ∧ A6 K.w0.heap.size 58 2 (Cd (iE .i64) (iE .i64)) F1 bq br bu au bb ∧ ao.length = 15) _ (m0 (kc (kc (ke kr))) ⟨_, _, rfl, BP.start _, [], List.replicate 15 0, none, 0, 0, [], mb, AZ.refl _, rfl, z5, A6.nil _ _ _ _ _, List.length_replicate⟩) ?_
  rintro p9 e1 mc _ ⟨tl, k4, gb, ct, au, ao, bq, br, bu, bb, dk, cb, rfl, gg, bk, gh⟩
  refine AA _ gg ?_
  replace ad := ad.mono (Az (Ad _)) cb
  replace ab := ab.mono (AD (Az (Ad _)) (AD (Ad _) (Ad _))) cb
  refine AO (uv (Bg rfl rfl) ?_)
  refine Aa (Ao ?_)
  refine cQ (fun dm => ?_) fun dm => ?_
  ·obtain ⟨x5, sw, rfl, gi, gj, gk⟩ := BP.succ ct dm
   rw [DX] at dk
   refine An ?_
   obtain ⟨bc, bm, me, gl⟩ := DA dk
   refine AV (fun e1 F1 L1 => ∃ (dn : Option Addr) (dp : Nat) (dq : Nat) (cc : LH), AZ mc F1 ∧ L1 = ((b7, ce ((([.slice AG walks.length AF] : List Value) ++ (([.slice As Ak.length At] : List Value) ++ (([.int .i64 Ae] : List Value) ++ (([.int .i64 start] : List Value) ++ (([.slice Aq Ac.length Ar] : List Value) ++ (aa.flatMap (cI .i64) ++ (([.slice dn dp dq] : List Value) ++ (bm.flatMap (cI .i64))))))))).toArray) 156) :: ((b1, ce #[.slice AG walks.length AF, .slice As Ak.length At, .int .i64 Ae, .int .i64 start, .slice Aq Ac.length Ar] 39) :: (cc ++ []))) ∧ e1.sub [(1, .pointer (some ⟨b1, 0, none⟩)), (5, .pointer (some ⟨b7, 0, none⟩)), (84, .slice Aq Ac.length Ar), (85, .int .i64 (Ac.length : Int)), (86, .int .i64 k4)] ∧ A6 K.w0.heap.size 58 2 (Cd (iE .i64) (iE .i64)) F1 dn dp dq bc cc ∧ bm.length = 15) ?_ ?_
   ·clear gl
    refine Am ?_
    refine AO (um ?_)
    obtain ⟨rk, rl, rm, pa, gm, gp, cu, ⟨_, _, rfl, ⟨gq, gr, rfl, mg⟩, ⟨_, _, rfl, rfl, rfl⟩⟩, gu, gv⟩ := Ax.at (AD (Az (Ad _)) (AD (Ad _) (Ad _))) ab ((b7, ce ((([.slice AG walks.length AF] : List Value) ++ (([.slice As Ak.length At] : List Value) ++ (([.int .i64 Ae] : List Value) ++ (([.int .i64 start] : List Value) ++ (([.slice Aq Ac.length Ar] : List Value) ++ (aa.flatMap (cI .i64) ++ (([.slice bq br bu] : List Value) ++ (ao.flatMap (cI .i64))))))))).toArray) 156) :: ((b1, ce #[.slice AG walks.length AF, .slice As Ak.length At, .int .i64 Ae, .int .i64 start, .slice Aq Ac.length Ar] 39) :: (bb ++ []))) gj.1 gi
    refine uv (AN underlying37 sizeOf41 rfl gm rfl gj) (uv (AL (cs := #[.slice gq x5.1.length gr, .int .i64 x5.2.1, .int .i64 x5.2.2]) isAgg41 sizeOf41 rfl gp cu (By cu gu gv)) ?_)
    refine Bj rfl zeroValue41 ?_; intro mh pb
    refine ua (Br (i := 0) sizeOf41 rfl rfl rfl (by simp [Value.oneCell']) rfl (Ce rfl) (AK (L' := (mh, ce #[.slice gq x5.1.length gr, .int .i64 x5.2.1, .int .i64 x5.2.2] 41) :: ((b7, ce ((([.slice AG walks.length AF] : List Value) ++ (([.slice As Ak.length At] : List Value) ++ (([.int .i64 Ae] : List Value) ++ (([.int .i64 start] : List Value) ++ (([.slice Aq Ac.length Ar] : List Value) ++ (aa.flatMap (cI .i64) ++ (([.slice bq br bu] : List Value) ++ (ao.flatMap (cI .i64))))))))).toArray) 156) :: ((b1, ce #[.slice AG walks.length AF, .slice As Ak.length At, .int .i64 Ae, .int .i64 start, .slice Aq Ac.length Ar] 39) :: (bb ++ [])))) rfl (Cj (uv (Ab MK rfl) (uv (Aj isAgg33 rfl (Has.own 0 rfl) rfl) ?_)))))
    obtain ⟨y, mj, ml⟩ := AI me
    refine c0 call125 (KH mg mj) ?_; rintro _ rp _ cv pc ⟨pd, rfl, rfl, fg⟩
    replace ad := ad.mono (Az (Ad _)) cv
    replace bk := bk.mono (AD (Ad _) (Ad _)) cv
    refine AK (ln rfl) ?_
    obtain ⟨l, mo, mq⟩ := AI ml
    refine c0 call124 (M4 call186 fg mo) ?_; rintro _ cw _ cx gw ⟨dr, dt, du, ba, rfl, rfl, bl⟩
    replace ad := ad.mono (Az (Ad _)) cx
    replace bk := bk.mono (AD (Ad _) (Ad _)) cx
    replace bl := bl.new fun p hp => gw p (by simp [hp])
    refine AK (lp (ln rfl)) (kO (kf (fS fO) (kf (fS fO) (kf (fS fO) kr))) (uv ((A3 underlying33 rfl).i (A6.Je bl)) ?_))
    refine um (Aa ?_)
    refine Am (kW (kd kr) ?_)
    refine Bk (fun pf e1 F1 L1 => LA l pf fun pg k5 => ∃ (af : List (Int × Int)) (az : List Int) (av : Option Addr) (aw : Nat) (ax : Nat) (ay : LH), Ek Ak k4 pg af az = some (bc, bm) ∧ cw = F1 ∧ L1 = ((b7, ce ((([.slice AG walks.length AF] : List Value) ++ (([.slice As Ak.length At] : List Value) ++ (([.int .i64 Ae] : List Value) ++ (([.int .i64 start] : List Value) ++ (([.slice Aq Ac.length Ar] : List Value) ++ (aa.flatMap (cI .i64) ++ (([.slice av aw ax] : List Value) ++ (az.flatMap (cI .i64))))))))).toArray) 156) :: ((b1, ce #[.slice AG walks.length AF, .slice As Ak.length At, .int .i64 Ae, .int .i64 start, .slice Aq Ac.length Ar] 39) :: (ay ++ (ba ++ [])))) ∧ e1.sub [(1, .pointer (some ⟨b1, 0, none⟩)), (5, .pointer (some ⟨b7, 0, none⟩)), (9, .int .i64 k4), (84, .slice Aq Ac.length Ar), (85, .int .i64 (Ac.length : Int)), (86, .int .i64 k4), (94, .slice dr dt du), (95, .int .i64 (l.length : Int)), (96, .int .i64 k5)] ∧ A6 K.w0.heap.size 58 2 (Cd (iE .i64) (iE .i64)) F1 av aw ax af ay ∧ az.length = 15) _ (m0 (kc (kc (kg (fS fP) kr))) ⟨_, _, rfl, BP.start _, au, ao, bq, br, bu, bb, mq, rfl, rfl, (sc rfl z8), bk, gh⟩) ?_
    rintro pf e1 _ _ ⟨pg, k5, gz, cy, af, az, av, aw, ax, ay, dv, rfl, rfl, ia, cz, ib⟩
    refine AA _ ia (AO (uv (Bg rfl rfl) ?_))
    refine Aa (Ao ?_)
    refine cQ (fun dw => ?_) fun dw => ?_
    ·obtain ⟨x6, sx, rfl, ic, ie, ig⟩ := BP.succ cy dw
     rw [Ek] at dv
     refine An ?_
     obtain ⟨bo, bx, mr, ij⟩ := DA dv
     refine AV (fun e1 F1 L1 => ∃ (dx : Option Addr) (dy : Nat) (dz : Nat) (cf : LH), cw = F1 ∧ L1 = ((b7, ce ((([.slice AG walks.length AF] : List Value) ++ (([.slice As Ak.length At] : List Value) ++ (([.int .i64 Ae] : List Value) ++ (([.int .i64 start] : List Value) ++ (([.slice Aq Ac.length Ar] : List Value) ++ (aa.flatMap (cI .i64) ++ (([.slice dx dy dz] : List Value) ++ (bx.flatMap (cI .i64))))))))).toArray) 156) :: ((b1, ce #[.slice AG walks.length AF, .slice As Ak.length At, .int .i64 Ae, .int .i64 start, .slice Aq Ac.length Ar] 39) :: (cf ++ (ba ++ [])))) ∧ e1.sub [(1, .pointer (some ⟨b1, 0, none⟩)), (5, .pointer (some ⟨b7, 0, none⟩)), (9, .int .i64 k4), (84, .slice Aq Ac.length Ar), (85, .int .i64 (Ac.length : Int)), (86, .int .i64 k4), (94, .slice dr dt du), (95, .int .i64 (l.length : Int)), (96, .int .i64 k5)] ∧ A6 K.w0.heap.size 58 2 (Cd (iE .i64) (iE .i64)) F1 dx dy dz bo cf ∧ bx.length = 15) ?_ ?_
     ·clear ij
      refine Am (AO ?_)
      obtain ⟨rq, rr, ru, ph, ik, il, mv, rfl, pj, im⟩ := A6.at (Ad _) bl (L := (b7, ce ((([.slice AG walks.length AF] : List Value) ++ (([.slice As Ak.length At] : List Value) ++ (([.int .i64 Ae] : List Value) ++ (([.int .i64 start] : List Value) ++ (([.slice Aq Ac.length Ar] : List Value) ++ (aa.flatMap (cI .i64) ++ (([.slice av aw ax] : List Value) ++ (az.flatMap (cI .i64))))))))).toArray) 156) :: ((b1, ce #[.slice AG walks.length AF, .slice As Ak.length At, .int .i64 Ae, .int .i64 start, .slice Aq Ac.length Ar] 39) :: (ay ++ (ba ++ [])))) (fC (fC (fS fP))) ie.1 ic
      refine uv (AN underlying33 sizeOf3 rfl ik rfl (A6.idx bl ie)) (uv (Aj isAgg3 rfl il (im 0 (by decide))) ?_)
      refine ua (Aa ?_)
      obtain ⟨bg, mw, iq⟩ := AI mr
      refine AV (fun e1 F1 L1 => cw = F1 ∧ L1 = ((b7, ce ((([.slice AG walks.length AF] : List Value) ++ (([.slice As Ak.length At] : List Value) ++ (([.int .i64 Ae] : List Value) ++ (([.int .i64 start] : List Value) ++ (([.slice Aq Ac.length Ar] : List Value) ++ (aa.flatMap (cI .i64) ++ (([.slice av aw ax] : List Value) ++ (bg.flatMap (cI .i64))))))))).toArray) 156) :: ((b1, ce #[.slice AG walks.length AF, .slice As Ak.length At, .int .i64 Ae, .int .i64 start, .slice Aq Ac.length Ar] 39) :: (ay ++ (ba ++ [])))) ∧ e1.sub [(1, .pointer (some ⟨b1, 0, none⟩)), (5, .pointer (some ⟨b7, 0, none⟩)), (9, .int .i64 k4), (12, .int .i64 x6), (84, .slice Aq Ac.length Ar), (85, .int .i64 (Ac.length : Int)), (86, .int .i64 k4), (94, .slice dr dt du), (95, .int .i64 (l.length : Int)), (96, .int .i64 k5)] ∧ bg.length = 15) ?_ ?_
      ·clear iq
       refine AO (uv (Ab I9 rfl) (uv (Aj isAgg36 rfl (Has.own 1 rfl) rfl) (uv (A3 underlying36 rfl) ?_)))
       refine um (Aa ?_)
       refine Am ?_
       refine Bk (fun pk e1 F1 L1 => LA Ak pk fun pn k6 => ∃ (al : List Int), DV k4 af x6 pn k6 al = some bg ∧ cw = F1 ∧ L1 = ((b7, ce ((([.slice AG walks.length AF] : List Value) ++ (([.slice As Ak.length At] : List Value) ++ (([.int .i64 Ae] : List Value) ++ (([.int .i64 start] : List Value) ++ (([.slice Aq Ac.length Ar] : List Value) ++ (aa.flatMap (cI .i64) ++ (([.slice av aw ax] : List Value) ++ (al.flatMap (cI .i64))))))))).toArray) 156) :: ((b1, ce #[.slice AG walks.length AF, .slice As Ak.length At, .int .i64 Ae, .int .i64 start, .slice Aq Ac.length Ar] 39) :: (ay ++ (ba ++ [])))) ∧ e1.sub [(1, .pointer (some ⟨b1, 0, none⟩)), (5, .pointer (some ⟨b7, 0, none⟩)), (9, .int .i64 k4), (12, .int .i64 x6), (84, .slice Aq Ac.length Ar), (85, .int .i64 (Ac.length : Int)), (86, .int .i64 k4), (94, .slice dr dt du), (95, .int .i64 (l.length : Int)), (96, .int .i64 k5), (101, .slice As Ak.length At), (102, .int .i64 (Ak.length : Int)), (103, .int .i64 k6)] ∧ al.length = 15) _ (m0 kr ⟨_, _, rfl, BP.start _, az, mw, rfl, rfl, (sc rfl (sc rfl (sc rfl (sc rfl (sc rfl z8))))), ib⟩) ?_
       rintro pk e1 _ _ ⟨pn, k6, eh, cg, al, e9, rfl, rfl, ir, bp⟩
       refine AA _ ir (AO (uv (Bg rfl rfl) ?_))
       refine Aa (Ao ?_)
       refine cQ (fun da => ?_) fun da => ?_
       ·obtain ⟨x7, sy, rfl, iu, iv, ej⟩ := BP.succ cg da
        rw [DV] at e9
        refine An (Ao ?_)
        refine Am ?_
        refine AO (um ?_)
        obtain ⟨ry, rz, s6, po, iw, iy, mx, ⟨s7, s8, rfl, my⟩, pq, iz⟩ := Ax.at (Az (Ad _)) ad ((b7, ce ((([.slice AG walks.length AF] : List Value) ++ (([.slice As Ak.length At] : List Value) ++ (([.int .i64 Ae] : List Value) ++ (([.int .i64 start] : List Value) ++ (([.slice Aq Ac.length Ar] : List Value) ++ (aa.flatMap (cI .i64) ++ (([.slice av aw ax] : List Value) ++ (al.flatMap (cI .i64))))))))).toArray) 156) :: ((b1, ce #[.slice AG walks.length AF, .slice As Ak.length At, .int .i64 Ae, .int .i64 start, .slice Aq Ac.length Ar] 39) :: (ay ++ (ba ++ [])))) iv.1 iu
        refine uv (AN underlying36 sizeOf33 rfl iw rfl iv) (uv (Aj isAgg33 rfl iy (iz 0 (by decide))) ?_)
        refine ua (ua (Cj (um (um ?_))))
        obtain ⟨ok, mz, j0⟩ := AI e9
        refine cV call18 (Cv my mz) (Aa ?_)
        refine AY rfl (fun fh => ?_) (fun fh => ?_)
        ·have na := bt j0 fh
         refine DB [(.still, 0), (.still, 1), (.still, 2), (.still, 3), (.still, 4), (.still, 5), (.still, 6), (.still, 7), (.still, 8), (.still, 9), (.still, 10), (.still, 11), (.still, 12), (.still, 13), (.still, 14), (.still, 15), (.still, 16), (.still, 17), (.still, 18), (.seq, 19)] (by kernel_rfl) (by kernel_rfl) (trivial) (by rfl) (by kernel_rfl) (mS [5] rfl (B3 rfl) (mS [13] rfl (B3 rfl) (mS [9] rfl (B3 rfl) (mS [111] rfl (A4 rfl) (mS [114] rfl (Ab QE rfl) ?_)))))
         obtain ⟨j3, nc⟩ := A2 na
         refine mS [112, 115] rfl (Ci underlying154 sizeOf153 rfl rfl j3) ?_
         obtain ⟨j4, nf⟩ := A2 nc
         obtain ⟨x8, ng, j5, nh⟩ := Cb nf
         have j6 : (k6 * 3 + k4 : Int).toNat = (k6 : Int).toNat * 3 + (k4 : Int).toNat := by have := j3; have := j4; omega
         have j7 := KD (BU .i64) bp j6 j5 (J7 (AE (A := ([.slice AG walks.length AF] : List Value)) (k := 1) (o := 30) rfl (AE (A := ([.slice As Ak.length At] : List Value)) (k := 1) (o := 29) rfl (AE (A := ([.int .i64 Ae] : List Value)) (k := 1) (o := 28) rfl (AE (A := ([.int .i64 start] : List Value)) (k := 1) (o := 27) rfl (AE (A := ([.slice Aq Ac.length Ar] : List Value)) (k := 1) (o := 26) rfl (AE (A := aa.flatMap (cI .i64)) (k := 25) (o := 1) (FV (BU .i64) fa) (AE (A := ([.slice av aw ax] : List Value)) (k := 1) (o := 0) rfl (Em (FV (BU .i64) bp)))))))))) (Hm (AE (A := ([.slice AG walks.length AF] : List Value)) (k := 1) (o := 30) rfl (AE (A := ([.slice As Ak.length At] : List Value)) (k := 1) (o := 29) rfl (AE (A := ([.int .i64 Ae] : List Value)) (k := 1) (o := 28) rfl (AE (A := ([.int .i64 start] : List Value)) (k := 1) (o := 27) rfl (AE (A := ([.slice Aq Ac.length Ar] : List Value)) (k := 1) (o := 26) rfl (AE (A := aa.flatMap (cI .i64)) (k := 25) (o := 1) (FV (BU .i64) fa) (AE (A := ([.slice av aw ax] : List Value)) (k := 1) (o := 0) rfl (Em (FV (BU .i64) bp))))))))))
         refine mS [113, 116] rfl (Ci underlying153 sizeOf3 rfl rfl j4) (mL [117] ([(b7, ce ((([.slice AG walks.length AF] : List Value) ++ (([.slice As Ak.length At] : List Value) ++ (([.int .i64 Ae] : List Value) ++ (([.int .i64 start] : List Value) ++ (([.slice Aq Ac.length Ar] : List Value) ++ (aa.flatMap (cI .i64) ++ (([.slice av aw ax] : List Value) ++ (al.flatMap (cI .i64))))))))).toArray) 156)]) rfl (s0 (s2 (s1 (s3 (s3 sr))))) (fun H F' L' df dg => Aj isAgg3 rfl ((Has.own 0 rfl).ext df dg) ((j7).2.2 0 (by decide))) (mS [5] rfl (B3 rfl) (mS [119] rfl (A4 rfl) (mS [120] rfl (Ab K1 rfl) (mL [121] ([(b7, ce ((([.slice AG walks.length AF] : List Value) ++ (([.slice As Ak.length At] : List Value) ++ (([.int .i64 Ae] : List Value) ++ (([.int .i64 start] : List Value) ++ (([.slice Aq Ac.length Ar] : List Value) ++ (aa.flatMap (cI .i64) ++ (([.slice av aw ax] : List Value) ++ (al.flatMap (cI .i64))))))))).toArray) 156)]) rfl (s0 (s2 (s1 (s3 (s3 sr))))) (fun H F' L' df dg => Aj isAgg48 rfl ((Has.own 0 rfl).ext df dg) (Fs (AE (A := ([.slice AG walks.length AF] : List Value)) (k := 1) (o := 29) rfl (AE (A := ([.slice As Ak.length At] : List Value)) (k := 1) (o := 28) rfl (AE (A := ([.int .i64 Ae] : List Value)) (k := 1) (o := 27) rfl (AE (A := ([.int .i64 start] : List Value)) (k := 1) (o := 26) rfl (AE (A := ([.slice Aq Ac.length Ar] : List Value)) (k := 1) (o := 25) rfl (AE (A := aa.flatMap (cI .i64)) (k := 25) (o := 0) (FV (BU .i64) fa) (BV rfl))))))))) (mS [122] rfl ((A3 underlying48 rfl).i (A6.Je cz)) ?_))))))
         obtain ⟨ni, nj⟩ := A2 nh
         refine mS (v := .int .i64 (shl 1 (af.length : Int))) [123] rfl (WV rfl rfl ni) (mS (v := .int .i64 (OD x8 (shl 1 (af.length : Int)))) [118, 124] rfl (Xh rfl rfl) (mS [111] rfl (A4 rfl) (mS [126] rfl (Ab QE rfl) ?_)))
         obtain ⟨j8, nk⟩ := A2 nj
         refine mS [112, 127] rfl (Ci underlying154 sizeOf153 rfl rfl j8) ?_
         obtain ⟨j9, nn⟩ := A2 nk
         have ja : (k6 * 3 + k4 : Int).toNat = (k6 : Int).toNat * 3 + (k4 : Int).toNat := by have := j8; have := j9; omega
         refine mS [113, 128] rfl (Ci underlying153 sizeOf3 rfl rfl j9) ?_
         refine ⟨_, [(125, .int .i64 (OD x8 (shl 1 (af.length : Int)))), (129, .pointer (some ⟨b7, 31 + (k6 : Int).toNat * 3 + (k4 : Int).toNat * 1, none⟩))], rfl, rfl, z2, by kernel_rfl, ?_⟩; intro H
         obtain ⟨np, jb, nq⟩ := DK nn
         have nr : np.length = 15 := by rw [jb, List.length_set]; exact bp
         refine Ly (i := 0) sizeOf3 rfl (by have := ja; omega) rfl rfl rfl (Ef (A := ([.slice AG walks.length AF] : List Value)) (k := 1) rfl (Ef (A := ([.slice As Ak.length At] : List Value)) (k := 1) rfl (Ef (A := ([.int .i64 Ae] : List Value)) (k := 1) rfl (Ef (A := ([.int .i64 start] : List Value)) (k := 1) rfl (Ef (A := ([.slice Aq Ac.length Ar] : List Value)) (k := 1) rfl (Ef (A := aa.flatMap (cI .i64)) (k := 25) (FV (BU .i64) fa) (Ef (A := ([.slice av aw ax] : List Value)) (k := 1) rfl (Us (p := (k6 * 3 + k4 : Int).toNat) (BU .i64) (u := OD x8 (shl 1 (af.length : Int))) rfl bp (by have := ng; have := bp; omega) cw)))))))) ?_
         refine AK (L' := (b7, ce ((([.slice AG walks.length AF] : List Value) ++ (([.slice As Ak.length At] : List Value) ++ (([.int .i64 Ae] : List Value) ++ (([.int .i64 start] : List Value) ++ (([.slice Aq Ac.length Ar] : List Value) ++ (aa.flatMap (cI .i64) ++ (([.slice av aw ax] : List Value) ++ (np.flatMap (cI .i64))))))))).toArray) 156) :: ((b1, ce #[.slice AG walks.length AF, .slice As Ak.length At, .int .i64 Ae, .int .i64 start, .slice Aq Ac.length Ar] 39) :: (ay ++ (ba ++ [])))) (by rw [jb]; rfl) ?_
         refine Aa ⟨undef, rfl, AZ.refl _, [], by kernel_rfl, .inl (.inl rfl), nm, ?_⟩
         refine EW ?_
         refine Au (id := 11) (Ai ?_)
         refine uv (Bd rfl rfl (BP.EP cg da (Ax.lt ad))) ?_
         refine um (Aa ?_)
         subst eh; exact le kr ⟨_, _, rfl, ej, np, nq, rfl, rfl, (sc rfl (sc rfl (sc rfl (sc rfl (sc rfl z8))))), nr⟩
        have nt := bf j0 fh
        refine An (Au (id := 11) (Ai ?_))
        refine uv (Bd rfl rfl (BP.EP cg da (Ax.lt ad))) ?_
        refine um (Aa ?_)
        subst eh; exact le kr ⟨_, _, rfl, ej, al, nt, rfl, rfl, (sc rfl (sc rfl (sc rfl (sc rfl (sc rfl z8))))), bp⟩
       obtain rfl := BP.zero cg da
       rw [DV] at e9
       refine AQ (Af (Af ?_))
       refine Av ?_
       obtain rfl := AM e9
       exact mi kr ⟨rfl, rfl, (sc rfl (sc rfl z8)), bp⟩
      rintro e1 _ _ ⟨rfl, rfl, jc, nu⟩
      refine AA _ jc ?_
      refine Ai (um (um ?_))
      refine uv (A4 rfl) (uv (Ab K1 rfl) (uv (Aj isAgg48 rfl (Has.own 0 rfl) (Fs (AE (A := ([.slice AG walks.length AF] : List Value)) (k := 1) (o := 29) rfl (AE (A := ([.slice As Ak.length At] : List Value)) (k := 1) (o := 28) rfl (AE (A := ([.int .i64 Ae] : List Value)) (k := 1) (o := 27) rfl (AE (A := ([.int .i64 start] : List Value)) (k := 1) (o := 26) rfl (AE (A := ([.slice Aq Ac.length Ar] : List Value)) (k := 1) (o := 25) rfl (AE (A := aa.flatMap (cI .i64)) (k := 25) (o := 0) (FV (BU .i64) fa) (BV rfl))))))))) ?_))
      refine um (um ?_)
      refine uv (Bx (v := .agg #[.int .i64 k4, .int .i64 x6]) rfl (by intro w; kernel_rfl)) ?_
      refine bA (cs := #[.int .i64 k4, .int .i64 x6]) R4 [.agg #[.int .i64 k4, .int .i64 x6]] ?_; intro s9 pr
      obtain ⟨c, nv, nw, ny⟩ := Hv iq
      refine Fg (xs := af) (ys := [(k4, x6)]) (zs := c) rfl R4 rfl rfl (Nat.le_refl _) (fun _ => .c (.c (.c .h))) cz (HE.box (vss := [[.int .i64 k4, .int .i64 x6]]) (ys := [(k4, x6)]) 0 rfl (AD (Ad _) (Ad _)) (.cons ⟨_, _, rfl, rfl, rfl⟩ .nil) rfl rfl) nv nw (by decide) ?_; intro jd je jf eo jg
      refine kO (kd kr) (uv (A4 rfl) (uv (Ab K1 rfl) (Ly (i := 0) sizeOf48 rfl rfl rfl rfl rfl (Ef (A := ([.slice AG walks.length AF] : List Value)) (k := 1) (p := 29) rfl (Ef (A := ([.slice As Ak.length At] : List Value)) (k := 1) (p := 28) rfl (Ef (A := ([.int .i64 Ae] : List Value)) (k := 1) (p := 27) rfl (Ef (A := ([.int .i64 start] : List Value)) (k := 1) (p := 26) rfl (Ef (A := ([.slice Aq Ac.length Ar] : List Value)) (k := 1) (p := 25) rfl (Ef (A := aa.flatMap (cI .i64)) (k := 25) (p := 0) (FV (BU .i64) fa) (SP (B := bg.flatMap (cI .i64)) ZF))))))) (AK (L' := (b7, ce ((([.slice AG walks.length AF] : List Value) ++ (([.slice As Ak.length At] : List Value) ++ (([.int .i64 Ae] : List Value) ++ (([.int .i64 start] : List Value) ++ (([.slice Aq Ac.length Ar] : List Value) ++ (aa.flatMap (cI .i64) ++ (([.slice jd je jf] : List Value) ++ (bg.flatMap (cI .i64))))))))).toArray) 156) :: ((b1, ce #[.slice AG walks.length AF, .slice As Ak.length At, .int .i64 Ae, .int .i64 start, .slice Aq Ac.length Ar] 39) :: (eo ++ (ba ++ [])))) rfl ?_))))
      refine Aa (Au (id := 9) ?_)
      obtain ⟨rfl, rfl⟩ := DH ny
      exact mi kr ⟨jd, je, jf, eo, rfl, rfl, (sc rfl z8), jg, nu⟩
     rintro e1 _ _ ⟨dx, dy, dz, cf, rfl, rfl, jh, ji, nz⟩
     refine AA _ jh (Ai (uv (Bd rfl rfl (BP.EP cy dw (A6.Xq bl))) ?_))
     refine um (Aa ?_)
     subst gz; exact le kr ⟨_, _, rfl, ig, bo, bx, dx, dy, dz, cf, ij, rfl, rfl, (sc rfl z8), ji, nz⟩
    obtain rfl := BP.zero cy dw
    rw [Ek] at dv
    refine AQ (Af (Af ?_))
    refine Av (Au (id := 7) ?_)
    obtain ⟨rfl, rfl⟩ := DH dv
    exact mi (kc (kc (ka kn))) ⟨av, aw, ax, ay, (cv.trans cx), rfl, z5, cz, ib⟩
   rintro e1 sa _ ⟨dn, dp, dq, cc, er, rfl, jj, jk, o7⟩
   refine AA _ jj ?_
   replace ab := ab.mono (AD (Az (Ad _)) (AD (Ad _) (Ad _))) er
   refine Ai (uv (Bd rfl rfl (BP.EP ct dm (Ax.lt ab))) ?_)
   refine um (Aa ?_)
   subst gb; exact le kr ⟨_, _, rfl, gk, bc, bm, dn, dp, dq, cc, gl, (cb.trans er), rfl, z5, jk, o7⟩
  obtain rfl := BP.zero ct dm
  rw [DX] at dk
  refine AQ (Af (Af ?_))
  refine Av ?_
  obtain ⟨rfl, rfl⟩ := DH dk
  exact mi (kc (kd kr)) ⟨bq, br, bu, bb, cb, rfl, z1, bk, gh⟩
 rintro e1 sb _ ⟨fb, fe, ff, cr, db, rfl, jl, et, o8⟩
 refine AA _ jl ?_
 replace ae := ae.mono (Az (Ad _)) db
 replace ad := ad.mono (Az (Ad _)) db
 replace ab := ab.mono (AD (Az (Ad _)) (AD (Ad _) (Ad _))) db
 refine AO (um (ua (ua (Aa ?_))))
 obtain rfl := (A6.D9 et).1
 refine Ik (Nat.le_refl _) (AD (Ad _) (Ad _)) (fC fP) et ?_; intro se dd fi
 replace ae := ae.mono (Az (Ad _)) dd
 replace ad := ad.mono (Az (Ad _)) dd
 replace ab := ab.mono (AD (Az (Ad _)) (AD (Ad _) (Ad _))) dd
 refine CX 0 rfl pt ?_; intro sf cj jm
 refine Fi (L' := []) rfl ?_
 replace ae := ae.mono (Az (Ad _)) cj
 replace ad := ad.mono (Az (Ad _)) cj
 replace ab := ab.mono (AD (Az (Ad _)) (AD (Ad _) (Ad _))) cj
 replace fi := fi.mono (AD (Ad _) (Ad _)) cj
 refine Al (CP results49 (AR rfl) (AR rfl) (sr) ?_)
 obtain ⟨rfl, rfl⟩ := DH ga
 exact ⟨_, rfl, rfl, ⟨_, _, _, rfl, jm, ⟨_, _, rfl, ⟨_, _, rfl, ae⟩, ⟨_, _, rfl, ⟨_, _, rfl, ad⟩, ⟨_, _, rfl, rfl, ⟨_, _, rfl, rfl, ⟨_, _, rfl, ⟨_, _, rfl, ab⟩, ⟨_, _, rfl, ⟨rfl, fa⟩, ⟨_, _, rfl, ⟨_, _, rfl, fi⟩, ⟨rfl, o8⟩⟩⟩⟩⟩⟩⟩⟩⟩⟩
set_option maxHeartbeats 1000000 in
theorem Lg {Ak : List (List Int)} {Ac : List ((List Int) × Int × Int)} {af : Nat} {az : Nat × Nat} (aj : F KG = some (.cells #[.pointer (some ⟨YD, 0, none⟩)] 147 QR)) (ae : F YD = some (.cells ((([.slice AG walks.length AF] : List Value) ++ (([.slice As Ak.length At] : List Value) ++ (([.int .i64 Ae] : List Value) ++ (([.int .i64 start] : List Value) ++ (([.slice Aq Ac.length Ar] : List Value) ++ (A5.flatMap (cI .i64) ++ (([.slice CV Bs.length CR] : List Value) ++ (hit.flatMap (cI .i64))))))))).toArray) 156 YX)) (_cc : Ax 1 (Cn 1 (iE .i64)) F AG AF walks) (ad : Ax 1 (Cn 1 (iE .i64)) F As At Ak) (aa : Ax 3 (Cd (Cn 1 (iE .i64)) (Cd (iE .i64) (iE .i64))) F Aq Ar Ac) (al : A5.length = 25) (_cf : Ax 2 (Cd (iE .i64) (iE .i64)) F CV CR Bs) (ax : hit.length = 15) (ab : F af = some (.cells #[.int .i64 Cm] 3 az)) {xs : List ((Int × Int) × Int)} (hr : FG walks Ak Ae start Ac A5 Bs hit Cm = some xs) :
    GF Tryz.prog 187 #[] #[.pointer (some ⟨KG, 0, none⟩), .pointer (some ⟨af, 0, none⟩)] F (fun x : (Int × Int) × Int => #[.agg ((cP (cI .i64) (cI .i64)) x.1).toArray, .int .i64 x.2]) xs := by
 intro G0 bp yv J Jx eo dt hy Fc L0 hG du
 replace aj := (bp.trans hG) _ _ aj
 replace ae := (bp.trans hG) _ _ ae
 replace ad := ad.mono (Az (Ad _)) (bp.trans hG)
 replace aa := aa.mono (AD (Az (Ad _)) (AD (Ad _) (Ad _))) (bp.trans hG)
 replace ab := (bp.trans hG) _ _ ab
 have bl : xs = [] ++ xs := rfl
 show SH.Spec Tryz.prog 187 #[yv, .pointer (some ⟨KG, 0, none⟩), .pointer (some ⟨af, 0, none⟩)] Fc L0 _
 refine sp func187 ntmps187 fun K _ _ => ?_
 rw [FG] at hr; refine Fi (L' := L0 ++ []) (by simp) ?_
 refine AO (uv (Aj isAgg147 rfl (Has.frozen aj) rfl) (uv (A4 rfl) (uv (Ab HX rfl) (uv (Ab I9 rfl) (uv (Aj isAgg36 rfl (Has.frozen ae) (Fs (AE (A := ([.slice AG walks.length AF] : List Value)) (k := 1) (o := 0) rfl (BV rfl)))) (uv (A3 underlying36 rfl) ?_))))))
 refine um (Aa ?_)
 refine Am ?_
 refine Bk (fun de e1 F1 L1 => LA Ak de fun tl k => ∃ (ba : List ((Int × Int) × Int)) (bb : List ((Int × Int) × Int)) (cg : LH), BJ Ac hit Cm tl k = some bb ∧ AZ Fc F1 ∧ L1 = (cg ++ []) ∧ e1.sub [(0, yv), (1, .pointer (some ⟨KG, 0, none⟩)), (2, .pointer (some ⟨af, 0, none⟩)), (12, .int .i64 (Ak.length : Int)), (13, .int .i64 k)] ∧ xs = ba ++ bb ∧ J ba F1 cg ∧ AZ G0 F1) _ (m0 kr ⟨_, _, rfl, BP.start _, [], xs, L0, hr, AZ.refl _, rfl, z5, bl, du, hG⟩) ?_
 rintro de e1 df _ ⟨tl, k, dv, cp, ba, bb, cg, r8, av, rfl, dw, ay, dg, hG⟩
 refine AA _ dw ?_
 replace ad := ad.mono (Az (Ad _)) av
 replace aa := aa.mono (AD (Az (Ad _)) (AD (Ad _) (Ad _))) av
 replace ae := av _ _ ae
 replace aj := av _ _ aj
 replace ab := av _ _ ab
 refine AO (uv (Bg rfl rfl) ?_)
 refine Aa (Ao ?_)
 refine cQ (fun cj => ?_) fun cj => ?_
 ·obtain ⟨x, dh, rfl, dx, er, cq⟩ := BP.succ cp cj
  rw [BJ] at r8
  refine An ?_
  refine AV (fun e1 F1 L1 => ∃ (ar : List ((Int × Int) × Int)) (au : List ((Int × Int) × Int)) (bc : LH), EK k (BJ Ac hit Cm dh) = some au ∧ AZ df F1 ∧ L1 = (bc ++ []) ∧ e1.sub [(0, yv), (1, .pointer (some ⟨KG, 0, none⟩)), (2, .pointer (some ⟨af, 0, none⟩)), (12, .int .i64 (Ak.length : Int)), (13, .int .i64 k)] ∧ xs = ar ++ au ∧ J ar F1 bc ∧ AZ G0 F1) ?_ ?_
  ·refine Am ?_
   refine AO (um (ua (Cj ?_)))
   refine uv (Aj isAgg147 rfl (Has.frozen aj) rfl) (uv (A4 rfl) (uv (Ab HX rfl) (uv (Ab II rfl) (uv (Aj isAgg37 rfl (Has.frozen ae) (Fs (AE (A := ([.slice AG walks.length AF] : List Value)) (k := 1) (o := 3) rfl (AE (A := ([.slice As Ak.length At] : List Value)) (k := 1) (o := 2) rfl (AE (A := ([.int .i64 Ae] : List Value)) (k := 1) (o := 1) rfl (AE (A := ([.int .i64 start] : List Value)) (k := 1) (o := 0) rfl (BV rfl))))))) (uv (A3 underlying37 rfl) ?_)))))
   refine um (Aa ?_)
   refine Am ?_
   refine Bk (fun di e1 F1 L1 => LA Ac di fun dk k2 => ∃ (ah : List ((Int × Int) × Int)) (ao : List ((Int × Int) × Int)) (aw : LH), B7 hit Cm k (BJ Ac hit Cm dh) dk k2 = some ao ∧ AZ df F1 ∧ L1 = (aw ++ []) ∧ e1.sub [(0, yv), (1, .pointer (some ⟨KG, 0, none⟩)), (2, .pointer (some ⟨af, 0, none⟩)), (4, .int .i64 k), (12, .int .i64 (Ak.length : Int)), (13, .int .i64 k), (21, .int .i64 (Ac.length : Int)), (22, .int .i64 k2)] ∧ xs = ah ++ ao ∧ J ah F1 aw ∧ AZ G0 F1) _ (m0 kr ⟨_, _, rfl, BP.start _, ba, bb, cg, r8, AZ.refl _, rfl, z8, ay, dg, hG⟩) ?_
   rintro di e1 et _ ⟨dk, k2, bq, bg, ah, ao, aw, cn, aq, rfl, cr, ai, bm, hG⟩
   refine AA _ cr ?_
   replace aa := aa.mono (AD (Az (Ad _)) (AD (Ad _) (Ad _))) aq
   replace ae := aq _ _ ae
   replace aj := aq _ _ aj
   replace ab := aq _ _ ab
   refine AO (uv (Bg rfl rfl) ?_)
   refine Aa (Ao ?_)
   refine cQ (fun br => ?_) fun br => ?_
   ·obtain ⟨x2, eu, rfl, dy, ew, bu⟩ := BP.succ bg br
    rw [B7] at cn
    refine An (Ao ?_)
    refine Am ?_
    refine AO (um (ua ?_))
    refine dN (wv (Aj isAgg3 rfl (Has.frozen ab) rfl) (wv (Aj isAgg147 rfl (Has.frozen aj) rfl) ?_))
    refine wm (wm ?_)
    refine wv (A4 rfl) (wv (Ab QE rfl) ?_)
    obtain ⟨dm, dz⟩ := A2 cn
    refine wv (Ci underlying154 sizeOf153 rfl rfl dm) ?_
    obtain ⟨dn, e9⟩ := A2 dz
    obtain ⟨x3, ey, ct, dp⟩ := Cb e9
    have cu : (k * 3 + k2 : Int).toNat = (k : Int).toNat * 3 + (k2 : Int).toNat := by have := dm; have := dn; omega
    have cv := KD (BU .i64) ax cu ct (J7 (AE (A := ([.slice AG walks.length AF] : List Value)) (k := 1) (o := 30) rfl (AE (A := ([.slice As Ak.length At] : List Value)) (k := 1) (o := 29) rfl (AE (A := ([.int .i64 Ae] : List Value)) (k := 1) (o := 28) rfl (AE (A := ([.int .i64 start] : List Value)) (k := 1) (o := 27) rfl (AE (A := ([.slice Aq Ac.length Ar] : List Value)) (k := 1) (o := 26) rfl (AE (A := A5.flatMap (cI .i64)) (k := 25) (o := 1) (FV (BU .i64) al) (AE (A := ([.slice CV Bs.length CR] : List Value)) (k := 1) (o := 0) rfl (Em (FV (BU .i64) ax)))))))))) (Hm (AE (A := ([.slice AG walks.length AF] : List Value)) (k := 1) (o := 30) rfl (AE (A := ([.slice As Ak.length At] : List Value)) (k := 1) (o := 29) rfl (AE (A := ([.int .i64 Ae] : List Value)) (k := 1) (o := 28) rfl (AE (A := ([.int .i64 start] : List Value)) (k := 1) (o := 27) rfl (AE (A := ([.slice Aq Ac.length Ar] : List Value)) (k := 1) (o := 26) rfl (AE (A := A5.flatMap (cI .i64)) (k := 25) (o := 1) (FV (BU .i64) al) (AE (A := ([.slice CV Bs.length CR] : List Value)) (k := 1) (o := 0) rfl (Em (FV (BU .i64) ax))))))))))
    refine wv (Ci underlying153 sizeOf3 rfl rfl dn) (wv (Aj isAgg3 rfl (Has.frozen ae) ((cv).2.2 0 (by decide))) (wv (TP rfl rfl) ?_))
    refine wa (cK (um ?_))
    refine uv (Aj isAgg3 rfl (Has.frozen ab) rfl) (uv (B8 rfl rfl) (um ?_))
    by_cases ak : (LN Cm x3) ≠ Cm
    ·have eg := A8 dp ak
     refine nT ak (um (nT ak (um (nT ak (um (nT ak ?_))))))
     refine uv (Bx (v := .agg #[.int .i64 k, .int .i64 k2]) rfl (by intro w; kernel_rfl)) ?_
     refine nT ak (um (nT ak ?_))
     obtain ⟨bn, eh, bx⟩ := TW eg
     refine NQ (Lb := aw) (Lr := []) (vs := [.agg #[.int .i64 k, .int .i64 k2], .int .i64 (LN Cm x3)]) rfl rfl rfl fP (hy ah ((k, k2), LN Cm x3) bn (by rw [ai, bx]) _ _ hG bm) ?_
     rintro fa fb cw bo cx; obtain ⟨ej, rfl, bz, ca⟩ := JT cx
     replace aa := aa.mono (AD (Az (Ad _)) (AD (Ad _) (Ad _))) bo
     replace hG := hG.trans bo
     refine nT ak (uv (Cc rfl) (uv (AP (Bf rfl ak) rfl) (Aa ?_)))
     refine AY rfl (fun cy => ?_) (fun cy => ?_)
     ·have cz := ca (by simpa using cy)
      refine Al (Ay (Ah (Ah (Ay (Ay (Ah (Ah (Ay ?_))))))))
      refine IE (.inl rfl) results187 (sr) ?_
      exact .inr (by rw [List.append_nil]; exact cz)
     have da := bz (by simpa using cy)
     have bj : xs = (ah ++ [((k, k2), LN Cm x3)]) ++ bn := by rw [ai, bx]; simp
     refine An (Au (id := 3) (Ai ?_))
     refine uv (Bd rfl rfl (BP.EP bg br (Ax.lt aa))) ?_
     refine um (Aa ?_)
     subst bq; exact le kr ⟨_, _, rfl, bu, ah ++ [((k, k2), LN Cm x3)], bn, cw, eh, (aq.trans bo), rfl, z8, bj, da, hG⟩
    have EP := A9 dp ak
    refine fF ak (fF ak (fF ak (fF ak (fF ak (fF ak (fF ak ?_))))))
    refine uv (AB (AU rfl ak) rfl) (Aa ?_)
    refine AY rfl (fun dq => nomatch dq) (fun dq => ?_)
    refine An (Au (id := 3) (Ai ?_))
    refine uv (Bd rfl rfl (BP.EP bg br (Ax.lt aa))) ?_
    refine um (Aa ?_)
    subst bq; exact le kr ⟨_, _, rfl, bu, ah, ao, aw, EP, aq, rfl, z8, ai, bm, hG⟩
   obtain rfl := BP.zero bg br
   rw [B7] at cn
   refine AQ (Af (Af ?_))
   refine Av (Au (id := 1) ?_)
   exact mi kr ⟨ah, ao, aw, cn, aq, rfl, z5, ai, bm, hG⟩
  rintro e1 fe _ ⟨ar, au, bc, dr, cb, rfl, db, bk, dd, hG⟩
  refine AA _ db ?_
  replace ad := ad.mono (Az (Ad _)) cb
  rw [EK] at dr
  refine Ai (uv (Bd rfl rfl (BP.EP cp cj (Ax.lt ad))) ?_)
  refine um (Aa ?_)
  subst dv; exact le kr ⟨_, _, rfl, cq, ar, au, bc, dr, (av.trans cb), rfl, z5, bk, dd, hG⟩
 obtain rfl := BP.zero cp cj
 rw [BJ] at r8
 refine AQ (Af (Af ?_))
 refine Av (IE (.inr rfl) results187 (sr) ?_)
 obtain rfl := AM r8
 exact .inl (by have e1 := ay; rw [List.append_nil] at e1; rw [List.append_nil, e1]; exact dg)
set_option maxHeartbeats 1000000 in
theorem Mu {Ak : List (List Int)} {Ac : List ((List Int) × Int × Int)} (af : F KG = some (.cells ((([.slice AG walks.length AF] : List Value) ++ (([.slice As Ak.length At] : List Value) ++ (([.int .i64 Ae] : List Value) ++ (([.int .i64 start] : List Value) ++ (([.slice Aq Ac.length Ar] : List Value) ++ (A5.flatMap (cI .i64) ++ (([.slice CV Bs.length CR] : List Value) ++ (hit.flatMap (cI .i64))))))))).toArray) 156 QR)) (ab : Ax 1 (Cn 1 (iE .i64)) F AG AF walks) (ad : Ax 1 (Cn 1 (iE .i64)) F As At Ak) (aa : Ax 3 (Cd (Cn 1 (iE .i64)) (Cd (iE .i64) (iE .i64))) F Aq Ar Ac) (ah : A5.length = 25) (ae : Ax 2 (Cd (iE .i64) (iE .i64)) F CV CR Bs) (aj : hit.length = 15) {r : List ((Int × Int) × Int)} (hr : Fb walks Ak Ae start Ac A5 Bs hit Cm = some r) :
    SH.Spec Tryz.prog 127 #[.pointer (some ⟨KG, 0, none⟩), .int .i64 Cm] F [] fun F' L' v => ∃ (aq : Array Value), v = .func (.func 187) #[] aq ∧ L' = [] ∧ GF Tryz.prog 187 #[] aq F' (fun x : (Int × Int) × Int => #[.agg ((cP (cI .i64) (cI .i64)) x.1).toArray, .int .i64 x.2]) r := by
 refine sp func127 ntmps127 fun K _ _ => ?_
 rw [Fb] at hr
 refine AO ?_
 refine BH rfl rfl ?_; intro b1 ar
 refine BH rfl rfl ?_; intro b2 au
 refine ua (Cj ?_)
 refine uv (C8 rfl rfl) ?_
 refine ua (Aa ?_)
 refine CX 1 rfl ar ?_; intro F3 ak ao
 refine Fi (L' := [(b2, ce #[.int .i64 Cm] 3)]) rfl ?_
 replace ab := ab.mono (Az (Ad _)) ak
 replace ad := ad.mono (Az (Ad _)) ak
 replace aa := aa.mono (AD (Az (Ad _)) (AD (Ad _) (Ad _))) ak
 replace ae := ae.mono (AD (Ad _) (Ad _)) ak
 replace af := ak _ _ af
 refine CX 0 rfl au ?_; intro F6 ai av
 refine Fi (L' := []) rfl ?_
 replace ab := ab.mono (Az (Ad _)) ai
 replace ad := ad.mono (Az (Ad _)) ai
 replace aa := aa.mono (AD (Az (Ad _)) (AD (Ad _) (Ad _))) ai
 replace ae := ae.mono (AD (Ad _) (Ad _)) ai
 replace af := ai _ _ af
 replace ao := ai _ _ ao
 obtain ⟨l, h9, aw⟩ := AI hr
 have al : GF Tryz.prog 187 #[] #[.pointer (some ⟨b1, 0, none⟩), .pointer (some ⟨b2, 0, none⟩)] F6 (fun x : (Int × Int) × Int => #[.agg ((cP (cI .i64) (cI .i64)) x.1).toArray, .int .i64 x.2]) l := Lg ao af ab ad aa ah ae aj av h9
 refine Al (Cq results127 ?_)
 obtain rfl := AM aw
 exact ⟨_, rfl, rfl, al⟩
set_option maxHeartbeats 1000000 in
theorem HM {s_ : List (Int × Int)} (ah : A6 Hc 64 2 (Cd (iE .i64) (iE .i64)) F B5 E8 B0 s_ G1) {r : List (Int × Int)} (hr : Co s_ = some r) :
    SH.Spec Tryz.prog 128 #[.slice B5 E8 B0] F (G1 ++ []) fun F' L' v => ∃ (rL : LH), v = .tuple #[] ∧ L' = rL ++ [] ∧ A6 Hc 64 2 (Cd (iE .i64) (iE .i64)) F' B5 E8 B0 r rL := by
 refine sp func128 ntmps128 fun K _ _ => ?_
 rw [Co] at hr
 refine Fi (L' := G1 ++ []) (by simp) ?_
 refine AO (um ?_)
 refine uv ((A3 underlying51 rfl).i (A6.Je ah)) ?_
 obtain ⟨g1, r2⟩ := A2 hr
 refine uv (Gl rfl rfl g1) ?_
 refine ua (ua (Aa ?_))
 refine Am ?_
 refine Bk (fun ao e1 F1 L1 => ∃ (aq : List (Int × Int)) (i : Int) (j : Int) (aa : LH), BA ao aq i j = some r ∧ F = F1 ∧ L1 = (aa ++ []) ∧ e1.sub [(0, .slice B5 E8 B0), (2, .int .i64 i), (3, .int .i64 j)] ∧ A6 Hc 64 2 (Cd (iE .i64) (iE .i64)) F1 B5 E8 B0 aq aa) FU (m0 kr ⟨s_, 0, (s_.length : Int) - 1, G1, r2, rfl, rfl, z3, ah⟩) ?_
 rintro ao e1 _ _ ⟨aq, i, j, aa, r7, rfl, rfl, br, ab⟩
 refine AA _ br ?_
 rcases ao with _ | ao
 ·rw [BA] at r7; cases r7
 rw [BA] at r7
 refine Ao (AO (um (um ?_)))
 refine uv (Bg rfl rfl) (Aa ?_)
 refine cQ (fun c9 => ?_) fun c9 => ?_
 ·have bu := A8 r7 c9
  refine An (Ao ?_)
  refine Am (DB [(.still, 0), (.still, 1), (.still, 2), (.still, 3), (.still, 4), (.still, 5), (.still, 6), (.still, 7), (.still, 8), (.still, 9), (.still, 10), (.still, 11), (.still, 12), (.seq, 13), (.still, 14), (.seq, 15)] (by kernel_rfl) (by kernel_rfl) (trivial) (by rfl) (by kernel_rfl) (mS [0] rfl (B3 rfl) (mS [2] rfl (B3 rfl) (mS [0] rfl (B3 rfl) (mS [3] rfl (B3 rfl) (mS [0] rfl (B3 rfl) (mS [3] rfl (B3 rfl) ?_)))))))
  obtain ⟨x, bo, ar, bx⟩ := Cb bu
  obtain ⟨di, dk, dm, bz, au, av, ad, ⟨_, _, rfl, rfl, rfl⟩, aw, ax⟩ := A6.at (AD (Ad _) (Ad _)) ab (L := aa ++ []) fP bo.1 ar
  refine mS [18, 19] rfl (AN underlying51 sizeOf64 rfl au rfl (A6.idx ab bo)) (mL [20] (aa ++ []) rfl (s0 sr) (fun H F' L' ay az => AL isAgg64 sizeOf64 rfl (av.ext ay az) ad (By ad aw ax)) (mS [0] rfl (B3 rfl) (mS [2] rfl (B3 rfl) ?_)))
  obtain ⟨x2, ai, aj, ca⟩ := Cb bx
  obtain ⟨dn, dp, dq, cb, ba, bb, ae, ⟨_, _, rfl, rfl, rfl⟩, bc, bg⟩ := A6.at (AD (Ad _) (Ad _)) ab (L := aa ++ []) fP ai.1 aj
  refine mS [22, 23] rfl (AN underlying51 sizeOf64 rfl ba rfl (A6.idx ab ai)) (mL [24] (aa ++ []) rfl (s0 sr) (fun H F' L' ay az => AL isAgg64 sizeOf64 rfl (bb.ext ay az) ae (By ae bc bg)) ?_)
  obtain ⟨cc, cf, dr, cg, ak, cj, bp, ⟨_, _, rfl, rfl, rfl⟩, cn, cp⟩ := A6.at (AD (Ad _) (Ad _)) ab (L := aa ++ []) fP ai.1 aj
  refine mS [14, 15] rfl (AN underlying51 sizeOf64 rfl ak rfl (A6.idx ab ai)) ?_
  refine ⟨_, [(21, .agg #[.int .i64 x.1, .int .i64 x.2]), (26, .pointer (some ⟨cc, cf + (i : Int).toNat * 2, none⟩))], rfl, rfl, z2, by kernel_rfl, ?_⟩; intro H
  obtain ⟨l, cq, cr⟩ := DK ca
  refine GM (u := (x.1, x.2)) sizeOf64 (AD (Ad _) (Ad _)) rfl ak rfl ⟨_, _, rfl, rfl, rfl⟩ (fun _ => .h) ab cq ai ?_; intro bj af
  refine Aa ⟨undef, rfl, AZ.refl _, [3, 2], by kernel_rfl, .inl (.inr (fun d h => by cases h)), (fc sm (fc sm nm)), ?_⟩
  obtain ⟨x3, bk, bl, ct⟩ := Cb cr
  obtain ⟨cu, cv, dt, cw, al, cx, bq, ⟨_, _, rfl, rfl, rfl⟩, cy, cz⟩ := A6.at (AD (Ad _) (Ad _)) af (L := bj ++ []) fP bk.1 bl
  refine mS [16, 17] rfl (AN underlying51 sizeOf64 rfl al rfl (A6.idx af bk)) ?_
  refine ⟨_, [(25, .agg #[.int .i64 x2.1, .int .i64 x2.2]), (27, .pointer (some ⟨cu, cv + (j : Int).toNat * 2, none⟩))], rfl, rfl, z2, by kernel_rfl, ?_⟩; intro H
  obtain ⟨l2, da, db⟩ := DK ct
  refine GM (u := (x2.1, x2.2)) sizeOf64 (AD (Ad _) (Ad _)) rfl al rfl ⟨_, _, rfl, rfl, rfl⟩ (fun _ => .h) af da bk ?_; intro bm bn
  refine Aa ⟨undef, rfl, AZ.refl _, [], by kernel_rfl, .inl (.inl rfl), nm, ?_⟩
  refine EW ?_
  refine Au (id := 1) (Ai (um ?_))
  obtain ⟨dd, de⟩ := A2 db
  refine uv (Bd rfl rfl dd) (um ?_)
  obtain ⟨df, dg⟩ := A2 de
  refine uv (Gl rfl rfl df) ?_
  refine ua (ua (Aa ?_))
  exact le kr ⟨l2, i + 1, j - 1, bm, dg, rfl, rfl, z3, bn⟩
 have dh := A9 r7 c9
 refine AQ (Af (Af ?_))
 refine Av (Q5 (.inr rfl) results128 ?_)
 obtain rfl := AM dh
 exact ⟨_, rfl, rfl, ab⟩
set_option maxHeartbeats 1000000 in
theorem M1 {Ak : List (List Int)} {Ac : List ((List Int) × Int × Int)} {ba : FuncId} {bb bc : Array Value} {ok : (Int × Int) → Option Bool} (ao : F KG = some (.cells ((([.slice AG walks.length AF] : List Value) ++ (([.slice As Ak.length At] : List Value) ++ (([.int .i64 Ae] : List Value) ++ (([.int .i64 start] : List Value) ++ (([.slice Aq Ac.length Ar] : List Value) ++ (A5.flatMap (cI .i64) ++ (([.slice CV Bs.length CR] : List Value) ++ (hit.flatMap (cI .i64))))))))).toArray) 156 QR)) (av : Ax 1 (Cn 1 (iE .i64)) F AG AF walks) (ai : Ax 1 (Cn 1 (iE .i64)) F As At Ak) (ah : Ax 3 (Cd (Cn 1 (iE .i64)) (Cd (iE .i64) (iE .i64))) F Aq Ar Ac) (aw : A5.length = 25) (ax : Ax 2 (Cd (iE .i64) (iE .i64)) F CV CR Bs) (fb : hit.length = 15) (bk : IQ Tryz.prog F ba bb bc (Cd (iE .i64) (iE .i64)) Value.bool ok) {r : List (Int × Int)} {r2 : Int} {r3 : Bool} (hr : EM walks Ak Ae start Ac A5 Bs hit Cm ok = some (r, r2, r3)) :
    SH.Spec Tryz.prog 52 #[.pointer (some ⟨KG, 0, none⟩), .int .i64 Cm, .agg #[.func (.func ba) bb bc]] F [] fun F' L' v => ∃ (ra : Option Addr) (rn : Nat) (rc : Nat) (rL : LH), v = .tuple #[.slice ra rn rc, .int .i64 r2, .bool r3] ∧ L' = rL ++ [] ∧ A6 0 64 2 (Cd (iE .i64) (iE .i64)) F' ra rn rc r rL := by
 refine sp func52 ntmps52 fun K _ _ => ?_
 rw [EM] at hr
 refine AO ?_
 refine BH rfl rfl ?_; intro b1 pc
 refine BH rfl rfl ?_; intro b2 pd
 refine ua (ua (ua (Cj ?_)))
 refine KJ rfl ?_; intro b3 pf
 refine uv (Aj isAgg147 rfl (Has.own 2 rfl) rfl) (uv (A4 rfl) (uv (Ab HX rfl) (uv (Ab Sc rfl) (uv (Aj isAgg3 rfl (Has.frozen ao) (Fs (AE (A := ([.slice AG walks.length AF] : List Value)) (k := 1) (o := 2) rfl (AE (A := ([.slice As Ak.length At] : List Value)) (k := 1) (o := 1) rfl (AE (A := ([.int .i64 Ae] : List Value)) (k := 1) (o := 0) rfl (BV (B := ([.slice Aq Ac.length Ar] : List Value) ++ (A5.flatMap (cI .i64) ++ (([.slice CV Bs.length CR] : List Value) ++ (hit.flatMap (cI .i64))))) rfl)))))) (um ?_)))))
 refine uv (Bx (v := .agg #[.int .i64 start, .int .i64 Cm]) rfl (by intro w; kernel_rfl)) ?_
 refine uv (Bx (v := .agg #[.int .i64 0, .int .i64 0, .int .i64 0, .int .i64 0, .int .i64 0]) rfl (by intro w; kernel_rfl)) ?_
 refine Mq (i := 0) (k := (start, Cm)) (v := (0, 0, 0, 0, 0)) underlying268 MA rfl rfl rfl rfl (show Er (vA (cP (cI .i64) (cI .i64))) (vA (cP (cI .i64) (cP (cI .i64) (cP (cI .i64) (cP (cI .i64) (cI .i64)))))) #[] ([] : List ((Int × Int) × (Int × Int × Int × Int × Int))) from Er.nil) ?_; intro mr mv km
 obtain ⟨met, h7, r8⟩ := DK hr
 rw [← h7] at km
 refine AK rfl (um ?_)
 refine Bj rfl zeroValue268 ?_; intro b9 pg
 refine CN (i := 0) sizeOf268 rfl rfl rfl rfl (Ce rfl) (AK rfl (Aa ?_))
 obtain ⟨ae, mw, ko⟩ := AI r8
 refine AV (fun e1 F1 L1 => ∃ (bl : Array MapEntry) (ca : Nat), AZ F F1 ∧ L1 = [(b9, ce #[.map (some b3)] 268), (b3, .map bl ca), (b1, ce #[.pointer (some ⟨KG, 0, none⟩)] 147)] ∧ e1.sub [(1, .int .i64 Cm), (3, .pointer (some ⟨b1, 0, none⟩)), (9, .pointer (some ⟨b9, 0, none⟩))] ∧ Er (vA (cP (cI .i64) (cI .i64))) (vA (cP (cI .i64) (cP (cI .i64) (cP (cI .i64) (cP (cI .i64) (cI .i64)))))) bl ae) ?_ ?_
 ·clear ko
  refine AO (um (ua (Aa ?_)))
  refine Am ?_
  refine Bk (fun gq e1 F1 L1 => ∃ (cp : List ((Int × Int) × (Int × Int × Int × Int × Int))) (ab : Int) (cb : Array MapEntry) (cc : Nat), C1 walks Ak Ae start Ac A5 Bs hit Cm ok gq cp ab = some ae ∧ AZ F F1 ∧ L1 = [(b9, ce #[.map (some b3)] 268), (b3, .map cb cc), (b2, ce #[.func (.func ba) bb bc] 164), (b1, ce #[.pointer (some ⟨KG, 0, none⟩)] 147)] ∧ e1.sub [(1, .int .i64 Cm), (3, .pointer (some ⟨b1, 0, none⟩)), (5, .pointer (some ⟨b2, 0, none⟩)), (9, .pointer (some ⟨b9, 0, none⟩)), (10, .int .i64 ab)] ∧ Er (vA (cP (cI .i64) (cI .i64))) (vA (cP (cI .i64) (cP (cI .i64) (cP (cI .i64) (cP (cI .i64) (cI .i64)))))) cb cp) FU (m0 kr ⟨met, Cm, mr, mv, mw, AZ.refl _, rfl, z5, km⟩) ?_
  rintro gq e1 kt _ ⟨cp, ab, cb, cc, fe, bn, rfl, gw, dq⟩
  refine AA _ gw ?_
  replace av := av.mono (Az (Ad _)) bn
  replace ai := ai.mono (Az (Ad _)) bn
  replace ah := ah.mono (AD (Az (Ad _)) (AD (Ad _) (Ad _))) bn
  replace ax := ax.mono (AD (Ad _) (Ad _)) bn
  replace bk := bk.mono bn
  replace ao := bn _ _ ao
  rcases gq with _ | gq
  ·rw [C1] at fe; cases fe
  rw [C1] at fe
  refine Ao (AO (um ?_))
  refine uv (JU rfl rfl) (Aa ?_)
  refine cQ (fun gz => ?_) fun gz => ?_
  ·have mx := A8 fe gz
   refine An ?_
   obtain ⟨dr, ku, kv⟩ := AI mx
   refine AV (fun e1 F1 L1 => ∃ (cq : Array MapEntry) (dt : Nat), AZ kt F1 ∧ L1 = [(b9, ce #[.map (some b3)] 268), (b3, .map cq dt), (b2, ce #[.func (.func ba) bb bc] 164), (b1, ce #[.pointer (some ⟨KG, 0, none⟩)] 147)] ∧ e1.sub [(1, .int .i64 Cm), (3, .pointer (some ⟨b1, 0, none⟩)), (5, .pointer (some ⟨b2, 0, none⟩)), (9, .pointer (some ⟨b9, 0, none⟩)), (10, .int .i64 ab)] ∧ Er (vA (cP (cI .i64) (cI .i64))) (vA (cP (cI .i64) (cP (cI .i64) (cP (cI .i64) (cP (cI .i64) (cI .i64)))))) cq dr) ?_ ?_
   ·clear kv
    refine Am ?_
    refine Ao (AO (um (um ?_)))
    refine uv (TP rfl rfl) (uv (B8 rfl rfl) (Aa ?_))
    refine cQ (fun ia => ?_) fun ia => ?_
    ·have my := A8 ku ia
     refine AQ (Af ?_)
     refine Av ?_
     obtain rfl := AM my
     exact mi kr ⟨cb, cc, AZ.refl _, rfl, z5, dq⟩
    have mz := A9 ku ia
    refine An (AO ?_)
    refine uv (Aj isAgg147 rfl (Has.own 3 rfl) rfl) (uv (A4 rfl) (uv (Ab HX rfl) (uv (Ab I9 rfl) (uv (Aj isAgg36 rfl (Has.frozen ao) (Fs (AE (A := ([.slice AG walks.length AF] : List Value)) (k := 1) (o := 0) rfl (BV (B := ([.int .i64 Ae] : List Value) ++ (([.int .i64 start] : List Value) ++ (([.slice Aq Ac.length Ar] : List Value) ++ (A5.flatMap (cI .i64) ++ (([.slice CV Bs.length CR] : List Value) ++ (hit.flatMap (cI .i64))))))) rfl)))) (uv (A3 underlying36 rfl) ?_)))))
    refine um (Aa ?_)
    refine Am ?_
    refine Bk (fun kz e1 F1 L1 => LA Ak kz fun tl k => ∃ (af : List ((Int × Int) × (Int × Int × Int × Int × Int))) (bq : Array MapEntry) (cf : Nat), C2 walks Ak Ae start Ac A5 Bs hit ok ab tl k af = some dr ∧ AZ kt F1 ∧ L1 = [(b9, ce #[.map (some b3)] 268), (b3, .map bq cf), (b2, ce #[.func (.func ba) bb bc] 164), (b1, ce #[.pointer (some ⟨KG, 0, none⟩)] 147)] ∧ e1.sub [(1, .int .i64 Cm), (3, .pointer (some ⟨b1, 0, none⟩)), (5, .pointer (some ⟨b2, 0, none⟩)), (9, .pointer (some ⟨b9, 0, none⟩)), (10, .int .i64 ab), (53, .int .i64 (Ak.length : Int)), (54, .int .i64 k)] ∧ Er (vA (cP (cI .i64) (cI .i64))) (vA (cP (cI .i64) (cP (cI .i64) (cP (cI .i64) (cP (cI .i64) (cI .i64)))))) bq af) _ (m0 kr ⟨_, _, rfl, BP.start _, cp, cb, cc, mz, AZ.refl _, rfl, z7, dq⟩) ?_
    rintro kz e1 na _ ⟨tl, k, ib, du, af, bq, cf, gr, bo, rfl, ic, cr⟩
    refine AA _ ic ?_
    replace av := av.mono (Az (Ad _)) bo
    replace ai := ai.mono (Az (Ad _)) bo
    replace ah := ah.mono (AD (Az (Ad _)) (AD (Ad _) (Ad _))) bo
    replace ax := ax.mono (AD (Ad _) (Ad _)) bo
    replace bk := bk.mono bo
    replace ao := bo _ _ ao
    refine AO (uv (Bg rfl rfl) ?_)
    refine Aa (Ao ?_)
    refine cQ (fun gu => ?_) fun gu => ?_
    ·obtain ⟨x, ph, rfl, nc, pj, ie⟩ := BP.succ du gu
     rw [C2] at gr
     refine An ?_
     obtain ⟨dv, l0, ld⟩ := AI gr
     refine AV (fun e1 F1 L1 => ∃ (ct : Array MapEntry) (dw : Nat), AZ na F1 ∧ L1 = [(b9, ce #[.map (some b3)] 268), (b3, .map ct dw), (b2, ce #[.func (.func ba) bb bc] 164), (b1, ce #[.pointer (some ⟨KG, 0, none⟩)] 147)] ∧ e1.sub [(1, .int .i64 Cm), (3, .pointer (some ⟨b1, 0, none⟩)), (5, .pointer (some ⟨b2, 0, none⟩)), (9, .pointer (some ⟨b9, 0, none⟩)), (10, .int .i64 ab), (53, .int .i64 (Ak.length : Int)), (54, .int .i64 k)] ∧ Er (vA (cP (cI .i64) (cI .i64))) (vA (cP (cI .i64) (cP (cI .i64) (cP (cI .i64) (cP (cI .i64) (cI .i64)))))) ct dv) ?_ ?_
     ·clear ld
      refine Am ?_
      refine AO (um ?_)
      refine Bj rfl zeroValue3 ?_; intro db nf
      refine CN (i := 0) sizeOf3 rfl rfl rfl rfl (Ce rfl) (AK rfl (Cj (uv (Aj isAgg3 rfl (Has.own 0 rfl) rfl) (um ?_))))
      refine uv (Bx (v := .agg #[.int .i64 k, .int .i64 ab]) rfl (by intro w; kernel_rfl)) ?_
      refine Bj rfl zeroValue265 ?_; intro dd ng
      refine Br (i := 0) sizeOf265 rfl rfl rfl (by simp [Value.oneCell']) rfl (Ce rfl) (AK rfl (Cj (uv (Aj isAgg268 rfl (Has.own 2 rfl) rfl) (uv (AL (cs := #[.int .i64 k, .int .i64 ab]) isAgg265 sizeOf265 rfl (Has.own 0 rfl) (Ce rfl) rfl) (uv (Fw.eq (v' := .tuple #[.agg #[.int .i64 (((A7 af (k, ab)).getD (0, 0, 0, 0, 0)).1), .int .i64 (((A7 af (k, ab)).getD (0, 0, 0, 0, 0)).2.1), .int .i64 (((A7 af (k, ab)).getD (0, 0, 0, 0, 0)).2.2.1), .int .i64 (((A7 af (k, ab)).getD (0, 0, 0, 0, 0)).2.2.2.1), .int .i64 (((A7 af (k, ab)).getD (0, 0, 0, 0, 0)).2.2.2.2)], .bool ((A7 af (k, ab)).isSome)]) (LZ (k := (k, ab)) (z0 := (0, 0, 0, 0, 0)) rfl underlying268 MA zeroValue267 rfl rfl (KW.own 3 rfl) (show Er (vA (cP (cI .i64) (cI .i64))) (vA (cP (cI .i64) (cP (cI .i64) (cP (cI .i64) (cP (cI .i64) (cI .i64)))))) bq (af : List ((Int × Int) × (Int × Int × Int × Int × Int))) from cr)) rfl) ?_)))))
      refine um (ox rfl rfl rfl (ox rfl rfl rfl ?_))
      refine Bj rfl zeroValue267 ?_; intro de nh
      refine Br (i := 0) sizeOf267 rfl rfl rfl (by simp [Value.oneCell']) rfl (Ce rfl) (AK rfl ?_)
      refine ua (Aa (Ao (AO (um ?_))))
      refine uv (Cc rfl) (Aa ?_)
      refine AY rfl (fun ig => ?_) (fun ig => ?_)
      ·have ni := bt l0 ig
       refine AQ (Af ?_)
       refine Av ?_
       obtain rfl := AM ni
       exact mi (kd (kd (kd kr))) ⟨bq, cf, AZ.refl _, rfl, z7, cr⟩
      have nj := bf l0 ig
      refine An (AO ?_)
      refine uv (Aj isAgg147 rfl (Has.own 6 rfl) rfl) (um ?_)
      obtain ⟨y, nk, nn⟩ := AI nj
      refine c0 call127 (Mu ao av ai ah aw ax fb nk) ?_; rintro _ pk _ cu np ⟨nq, rfl, rfl, ff⟩
      replace ah := ah.mono (AD (Az (Ad _)) (AD (Ad _) (Ad _))) cu
      replace bk := bk.mono cu
      replace ao := cu _ _ ao
      refine AK (ln rfl) (Aa (Am ?_))
      refine I8 (encs := (fun x : (Int × Int) × Int => #[.agg ((cP (cI .i64) (cI .i64)) x.1).toArray, .int .i64 x.2])) (xs := y) rfl call187 rfl (fun _ => rfl) ff (fun pre F1 L1 => ∃ (fa : List ((Int × Int) × Int)) (ak : List ((Int × Int) × (Int × Int × Int × Int × Int))) (aq : Array MapEntry) (bg : Nat), y = pre ++ fa ∧ B1 Ac A5 ok ab af k fa ak = some dv ∧ L1 = [(de, ce #[.int .i64 (((A7 af (k, ab)).getD (0, 0, 0, 0, 0)).1), .int .i64 (((A7 af (k, ab)).getD (0, 0, 0, 0, 0)).2.1), .int .i64 (((A7 af (k, ab)).getD (0, 0, 0, 0, 0)).2.2.1), .int .i64 (((A7 af (k, ab)).getD (0, 0, 0, 0, 0)).2.2.2.1), .int .i64 (((A7 af (k, ab)).getD (0, 0, 0, 0, 0)).2.2.2.2)] 267), (dd, ce #[.int .i64 k, .int .i64 ab] 265), (db, ce #[.int .i64 k] 3), (b9, ce #[.map (some b3)] 268), (b3, .map aq bg), (b2, ce #[.func (.func ba) bb bc] 164), (b1, ce #[.pointer (some ⟨KG, 0, none⟩)] 147)] ∧ Er (vA (cP (cI .i64) (cI .i64))) (vA (cP (cI .i64) (cP (cI .i64) (cP (cI .i64) (cP (cI .i64) (cI .i64)))))) aq ak) (fun _ _ _ => False) ?_ ?_ ?_ ?_ ?_ ?_
      ·rintro pre F1 F2 L1 ⟨fa, ak, aq, bg, cg, nr, rfl, bp⟩ hx; exact ⟨fa, ak, aq, bg, cg, nr, rfl, bp⟩
      ·intro c F1 F2 L1 h hx; exact h
      ·exact ⟨_, af, bq, cf, rfl, nn, rfl, cr⟩
      ·rintro pn nt nu nv nw ny lg nz pre x2 po br pq _ dx ⟨fa, ak, aq, bg, cg, lh, rfl, bp⟩
       obtain rfl := MC cg br
       rw [B1] at lh
       replace ah := ah.mono (AD (Az (Ad _)) (AD (Ad _) (Ad _))) dx
       replace bk := bk.mono dx
       replace ao := dx _ _ ao
       refine AA [(1, .int .i64 Cm), (3, .pointer (some ⟨b1, 0, none⟩)), (5, .pointer (some ⟨b2, 0, none⟩)), (9, .pointer (some ⟨b9, 0, none⟩)), (10, .int .i64 ab), (11, .pointer (some ⟨db, 0, none⟩)), (12, .pointer (some ⟨dd, 0, none⟩)), (13, .pointer (some ⟨de, 0, none⟩)), (53, .int .i64 (Ak.length : Int)), (54, .int .i64 k), (71, .agg #[.int .i64 x2.1.1, .int .i64 x2.1.2]), (72, .int .i64 x2.2)] (by exact (sc rfl (sc rfl (sc rfl (sc rfl z8))))) (AO ?_)
       refine Bj rfl zeroValue64 ?_; intro ij o7
       refine Br (i := 0) sizeOf64 rfl rfl rfl (by simp [Value.oneCell']) rfl (Ce rfl) (AK rfl ?_)
       refine Aa (Ai (ua (Aa ?_)))
       refine ⟨rfl, ?_⟩
       refine Am (dW (wv (Aj isAgg147 rfl (Has.own 7 rfl) rfl) (wv (Aj isAgg3 rfl (Has.own 3 rfl) rfl) (wv (Ab Sx rfl) (wv (Aj isAgg3 rfl (Has.own 0 rfl) rfl) (wv (A4 rfl) (wv (Ab Kg rfl) ?_)))))))
       obtain ⟨lj, o8⟩ := A2 lh
       refine wv (Ci underlying152 sizeOf150 rfl rfl lj) ?_
       obtain ⟨lk, o9⟩ := A2 o8
       obtain ⟨x3, pr, ik, ll⟩ := Cb o9
       have il : (k * 5 + x2.1.1 : Int).toNat = (k : Int).toNat * 5 + (x2.1.1 : Int).toNat := by have := lj; have := lk; omega
       have im := KD (BU .i64) aw il ik (J7 (AE (A := ([.slice AG walks.length AF] : List Value)) (k := 1) (o := 4) rfl (AE (A := ([.slice As Ak.length At] : List Value)) (k := 1) (o := 3) rfl (AE (A := ([.int .i64 Ae] : List Value)) (k := 1) (o := 2) rfl (AE (A := ([.int .i64 start] : List Value)) (k := 1) (o := 1) rfl (AE (A := ([.slice Aq Ac.length Ar] : List Value)) (k := 1) (o := 0) rfl (BV (B := ([.slice CV Bs.length CR] : List Value) ++ (hit.flatMap (cI .i64))) (FV (BU .i64) aw)))))))) (Hm (AE (A := ([.slice AG walks.length AF] : List Value)) (k := 1) (o := 4) rfl (AE (A := ([.slice As Ak.length At] : List Value)) (k := 1) (o := 3) rfl (AE (A := ([.int .i64 Ae] : List Value)) (k := 1) (o := 2) rfl (AE (A := ([.int .i64 start] : List Value)) (k := 1) (o := 1) rfl (AE (A := ([.slice Aq Ac.length Ar] : List Value)) (k := 1) (o := 0) rfl (BV (B := ([.slice CV Bs.length CR] : List Value) ++ (hit.flatMap (cI .i64))) (FV (BU .i64) aw))))))))
       refine wv (Ci underlying150 sizeOf3 rfl rfl lk) (wv (Aj isAgg3 rfl (Has.frozen ao) ((im).2.2 0 (by decide))) ?_)
       refine wa (DN (Ao (AO (um ?_))))
       refine uv (Dn rfl rfl) (Aa ?_)
       refine cQ (fun iq => ?_) fun iq => ?_
       ·have oc := A8 ll iq
        refine AQ (Af ?_)
        refine Av ?_
        refine ⟨[(de, ce #[.int .i64 (((A7 af (k, ab)).getD (0, 0, 0, 0, 0)).1), .int .i64 (((A7 af (k, ab)).getD (0, 0, 0, 0, 0)).2.1), .int .i64 (((A7 af (k, ab)).getD (0, 0, 0, 0, 0)).2.2.1), .int .i64 (((A7 af (k, ab)).getD (0, 0, 0, 0, 0)).2.2.2.1), .int .i64 (((A7 af (k, ab)).getD (0, 0, 0, 0, 0)).2.2.2.2)] 267), (dd, ce #[.int .i64 k, .int .i64 ab] 265), (db, ce #[.int .i64 k] 3), (b9, ce #[.map (some b3)] 268), (b3, .map aq bg), (b2, ce #[.func (.func ba) bb bc] 164), (b1, ce #[.pointer (some ⟨KG, 0, none⟩)] 147)], ⟨_, .refl _, s1 (s2 (s2 (s2 (s2 (s2 (s2 (s2 sr)))))))⟩, ?_⟩; exact ⟨_, ak, aq, bg, (by rw [br]; simp), oc, rfl, bp⟩
       have od := A9 ll iq
       refine An (dW (wv (Ab Oo rfl) (wv (Aj isAgg3 rfl (Has.own 1 rfl) rfl) (wm ?_))))
       obtain ⟨oe, og⟩ := A2 od
       refine wv (Bd rfl rfl oe) (wv (Aj isAgg147 rfl (Has.own 7 rfl) rfl) (wv (A4 rfl) (wv (Ab HX rfl) (wv (Ab II rfl) (wv (Aj isAgg37 rfl (Has.frozen ao) (Fs (AE (A := ([.slice AG walks.length AF] : List Value)) (k := 1) (o := 3) rfl (AE (A := ([.slice As Ak.length At] : List Value)) (k := 1) (o := 2) rfl (AE (A := ([.int .i64 Ae] : List Value)) (k := 1) (o := 1) rfl (AE (A := ([.int .i64 start] : List Value)) (k := 1) (o := 0) rfl (BV (B := A5.flatMap (cI .i64) ++ (([.slice CV Bs.length CR] : List Value) ++ (hit.flatMap (cI .i64)))) rfl))))))) (wv (Ab Vj rfl) (wv (Aj isAgg3 rfl (Has.own 0 rfl) rfl) ?_)))))))
       obtain ⟨x4, lq, fg, ir⟩ := Cb og
       obtain ⟨oh, oi, oj, lr, fh, fi, iu, ⟨_, _, rfl, ⟨oo, oq, rfl, ot⟩, ⟨_, _, rfl, rfl, rfl⟩⟩, lu, fj⟩ := Ax.at (AD (Az (Ad _)) (AD (Ad _) (Ad _))) ah ([(ij, ce #[.int .i64 x2.1.1, .int .i64 x2.1.2] 64), (de, ce #[.int .i64 (((A7 af (k, ab)).getD (0, 0, 0, 0, 0)).1), .int .i64 (((A7 af (k, ab)).getD (0, 0, 0, 0, 0)).2.1), .int .i64 (((A7 af (k, ab)).getD (0, 0, 0, 0, 0)).2.2.1), .int .i64 (((A7 af (k, ab)).getD (0, 0, 0, 0, 0)).2.2.2.1), .int .i64 (((A7 af (k, ab)).getD (0, 0, 0, 0, 0)).2.2.2.2)] 267), (dd, ce #[.int .i64 k, .int .i64 ab] 265), (db, ce #[.int .i64 k] 3), (b9, ce #[.map (some b3)] 268), (b3, .map aq bg), (b2, ce #[.func (.func ba) bb bc] 164), (b1, ce #[.pointer (some ⟨KG, 0, none⟩)] 147)]) lq.1 fg
       refine wv (AN underlying37 sizeOf41 rfl fh rfl lq) (wv (Ab R0 rfl) (wv (Aj isAgg3 rfl fi (fj 1 (by decide))) ?_))
       obtain ⟨iv, iw⟩ := A2 ir
       refine wv (Bd rfl rfl iv) ?_
       obtain ⟨end_, iy, iz⟩ := DK iw
       refine wv ((Jj rfl).i iy) (cK (uv (Ab Sx rfl) (uv (Aj isAgg3 rfl (Has.own 0 rfl) rfl) (um ?_))))
       refine uv (Bx (v := .agg #[.int .i64 x2.1.1, .int .i64 x2.2]) rfl (by intro w; kernel_rfl)) ?_
       refine Bj rfl zeroValue265 ?_; intro fk lv
       refine Br (i := 0) sizeOf265 rfl rfl rfl (by simp [Value.oneCell']) rfl (Ce rfl) (AK rfl (Cj (uv (Aj isAgg268 rfl (Has.own 5 rfl) rfl) (uv (AL (cs := #[.int .i64 x2.1.1, .int .i64 x2.2]) isAgg265 sizeOf265 rfl (Has.own 0 rfl) (Ce rfl) rfl) (uv (Fw.eq (v' := .tuple #[.agg #[.int .i64 (((A7 ak (x2.1.1, x2.2)).getD (0, 0, 0, 0, 0)).1), .int .i64 (((A7 ak (x2.1.1, x2.2)).getD (0, 0, 0, 0, 0)).2.1), .int .i64 (((A7 ak (x2.1.1, x2.2)).getD (0, 0, 0, 0, 0)).2.2.1), .int .i64 (((A7 ak (x2.1.1, x2.2)).getD (0, 0, 0, 0, 0)).2.2.2.1), .int .i64 (((A7 ak (x2.1.1, x2.2)).getD (0, 0, 0, 0, 0)).2.2.2.2)], .bool ((A7 ak (x2.1.1, x2.2)).isSome)]) (LZ (k := (x2.1.1, x2.2)) (z0 := (0, 0, 0, 0, 0)) rfl underlying268 MA zeroValue267 rfl rfl (KW.own 6 rfl) (show Er (vA (cP (cI .i64) (cI .i64))) (vA (cP (cI .i64) (cP (cI .i64) (cP (cI .i64) (cP (cI .i64) (cI .i64)))))) aq (ak : List ((Int × Int) × (Int × Int × Int × Int × Int))) from bp)) rfl) ?_)))))
       refine um (ox rfl rfl rfl (ox rfl rfl rfl ?_))
       refine Bj rfl zeroValue267 ?_; intro ou lx
       refine Br (i := 0) sizeOf267 rfl rfl rfl (by simp [Value.oneCell']) rfl (Ce rfl) (AK rfl ?_)
       refine ua (Aa ?_)
       obtain ⟨k2, j0, dy⟩ := AI iz
       refine jE ([(fk, ce #[.int .i64 x2.1.1, .int .i64 x2.2] 265), (ij, ce #[.int .i64 x2.1.1, .int .i64 x2.1.2] 64), (de, ce #[.int .i64 (((A7 af (k, ab)).getD (0, 0, 0, 0, 0)).1), .int .i64 (((A7 af (k, ab)).getD (0, 0, 0, 0, 0)).2.1), .int .i64 (((A7 af (k, ab)).getD (0, 0, 0, 0, 0)).2.2.1), .int .i64 (((A7 af (k, ab)).getD (0, 0, 0, 0, 0)).2.2.2.1), .int .i64 (((A7 af (k, ab)).getD (0, 0, 0, 0, 0)).2.2.2.2)] 267), (dd, ce #[.int .i64 k, .int .i64 ab] 265), (db, ce #[.int .i64 k] 3), (b9, ce #[.map (some b3)] 268), (b3, .map aq bg), (b2, ce #[.func (.func ba) bb bc] 164), (b1, ce #[.pointer (some ⟨KG, 0, none⟩)] 147)]) [(1, .int .i64 Cm), (3, .pointer (some ⟨b1, 0, none⟩)), (5, .pointer (some ⟨b2, 0, none⟩)), (9, .pointer (some ⟨b9, 0, none⟩)), (10, .int .i64 ab), (11, .pointer (some ⟨db, 0, none⟩)), (12, .pointer (some ⟨dd, 0, none⟩)), (13, .pointer (some ⟨de, 0, none⟩)), (15, .pointer (some ⟨ij, 0, none⟩)), (18, .int .i64 end_), (19, .pointer (some ⟨fk, 0, none⟩)), (53, .int .i64 (Ak.length : Int)), (54, .int .i64 k), (71, .agg #[.int .i64 x2.1.1, .int .i64 x2.1.2]), (72, .int .i64 x2.2), (124, .bool k2)] ?_ ?_
       ·clear dy
        refine Ai (uv (Ab W0 rfl) (uv (Aj isAgg162 rfl (Has.own 8 rfl) rfl) (uv (Ab Vj rfl) (uv (Aj isAgg3 rfl (Has.own 2 rfl) rfl) (um ?_)))))
        obtain ⟨ow, j3, fl⟩ := AI j0
        refine FI rfl bk.1 rfl rfl rfl (bk.2 _ (AZ.refl _) _ _ _ ⟨_, _, rfl, rfl, rfl⟩ j3) (um ?_)
        rcases Dc ow with ar | ar
        ·have fm := bt fl ar
         refine nB ar (um (nB ar ?_))
         refine uv (Cc rfl) ?_
         refine nB ar (um ?_)
         rcases Dc (!((A7 ak (x2.1.1, x2.2)).isSome)) with ay | ay
         ·have j4 := bt fm ay
          refine fB ay (fB ay (fB ay (fB ay (nB ar ?_))))
          refine uv (AP (IW rfl ay) rfl) (uv (AP (IW rfl ar) rfl) (Aa ?_))
          obtain rfl := AM j4
          exact mi (kd kr) ⟨rfl, rfl, (sc rfl (sc rfl (sc rfl (sc rfl (sc rfl (sc rfl (sc rfl (sc rfl z8))))))))⟩
         have j5 := bf fm ay
         refine nB ay (um (nB ay ?_))
         refine uv (Ab Oo rfl) (nB ay (uv (Aj isAgg3 rfl (Has.own 0 rfl) rfl) (nB ay (uv (Bg rfl rfl) (nB ar (uv (AB (IW rfl ay) rfl) (uv (AP (IW rfl ar) rfl) ?_)))))))
         refine Aa ?_
         obtain rfl := AM j5
         exact mi (kd kr) ⟨rfl, rfl, (sc rfl (sc rfl (sc rfl (sc rfl (sc rfl (sc rfl (sc rfl (sc rfl z8))))))))⟩
        have j6 := bf fl ar
        refine fB ar (fB ar (fB ar (fU (fU (fU (fU (fB ar ?_)))))))
        refine uv (AB (IW rfl ar) rfl) (Aa ?_)
        obtain rfl := AM j6
        exact mi (kd kr) ⟨rfl, rfl, (sc rfl (sc rfl (sc rfl (sc rfl (sc rfl (sc rfl (sc rfl (sc rfl z8))))))))⟩
       refine AY rfl (fun dz => ?_) (fun dz => ?_)
       ·have j7 := bt dy dz
        refine Ai (uv (Aj isAgg268 rfl (Has.own 5 rfl) rfl) (uv (AL (cs := #[.int .i64 x2.1.1, .int .i64 x2.2]) isAgg265 sizeOf265 rfl (Has.own 0 rfl) (Ce rfl) rfl) (um (uv (AL (cs := #[.int .i64 x2.1.1, .int .i64 x2.1.2]) isAgg64 sizeOf64 rfl (Has.own 1 rfl) (Ce rfl) rfl) (uv (AL (cs := #[.int .i64 k, .int .i64 ab]) isAgg265 sizeOf265 rfl (Has.own 3 rfl) (Ce rfl) rfl) ?_)))))
        refine uv (Bx (v := .agg #[.int .i64 end_, .int .i64 x2.1.1, .int .i64 x2.1.2, .int .i64 k, .int .i64 ab]) rfl (by intro w; kernel_rfl)) ?_
        refine Kt (i := 6) (k := (x2.1.1, x2.2)) (v := (end_, x2.1.1, x2.1.2, k, ab)) underlying268 MA rfl rfl rfl rfl (show Er (vA (cP (cI .i64) (cI .i64))) (vA (cP (cI .i64) (cP (cI .i64) (cP (cI .i64) (cP (cI .i64) (cI .i64)))))) aq (ak : List ((Int × Int) × (Int × Int × Int × Int × Int))) from bp) ?_; intro df dg dh
        obtain ⟨j8, j9, ja⟩ := DK j7
        rw [← j9] at dh
        refine AK rfl ?_
        refine Aa (Au (id := 5) ?_)
        refine ⟨[(de, ce #[.int .i64 (((A7 af (k, ab)).getD (0, 0, 0, 0, 0)).1), .int .i64 (((A7 af (k, ab)).getD (0, 0, 0, 0, 0)).2.1), .int .i64 (((A7 af (k, ab)).getD (0, 0, 0, 0, 0)).2.2.1), .int .i64 (((A7 af (k, ab)).getD (0, 0, 0, 0, 0)).2.2.2.1), .int .i64 (((A7 af (k, ab)).getD (0, 0, 0, 0, 0)).2.2.2.2)] 267), (dd, ce #[.int .i64 k, .int .i64 ab] 265), (db, ce #[.int .i64 k] 3), (b9, ce #[.map (some b3)] 268), (b3, .map df dg), (b2, ce #[.func (.func ba) bb bc] 164), (b1, ce #[.pointer (some ⟨KG, 0, none⟩)] 147)], ⟨_, .refl _, s1 (s1 (s2 (s2 (s2 (s2 (s2 (s2 (s2 sr))))))))⟩, ?_⟩; exact ⟨_, j8, df, dg, (by rw [br]; simp), ja, rfl, dh⟩
       have jb := bf dy dz
       refine An (Au (id := 5) ?_)
       refine ⟨[(de, ce #[.int .i64 (((A7 af (k, ab)).getD (0, 0, 0, 0, 0)).1), .int .i64 (((A7 af (k, ab)).getD (0, 0, 0, 0, 0)).2.1), .int .i64 (((A7 af (k, ab)).getD (0, 0, 0, 0, 0)).2.2.1), .int .i64 (((A7 af (k, ab)).getD (0, 0, 0, 0, 0)).2.2.2.1), .int .i64 (((A7 af (k, ab)).getD (0, 0, 0, 0, 0)).2.2.2.2)] 267), (dd, ce #[.int .i64 k, .int .i64 ab] 265), (db, ce #[.int .i64 k] 3), (b9, ce #[.map (some b3)] 268), (b3, .map aq bg), (b2, ce #[.func (.func ba) bb bc] 164), (b1, ce #[.pointer (some ⟨KG, 0, none⟩)] 147)], ⟨_, .refl _, s1 (s1 (s2 (s2 (s2 (s2 (s2 (s2 (s2 sr))))))))⟩, ?_⟩; exact ⟨_, ak, aq, bg, (by rw [br]; simp), jb, rfl, bp⟩
      ·rintro oy _ fo ⟨fa, ak, aq, bg, cg, fp, rfl, bp⟩
       obtain rfl := Oe cg; rw [B1] at fp
       refine Au (id := 4) (Au (id := 3) ?_)
       obtain rfl := AM fp
       exact mi (kd (kd (kd kr))) ⟨aq, bg, (cu.trans fo), rfl, z7, bp⟩
      intro c F1 L1 hx h; exact h.elim
     rintro e1 oz _ ⟨ct, dw, di, rfl, fq, jc⟩
     refine AA _ fq ?_
     replace ai := ai.mono (Az (Ad _)) di
     refine Ai (uv (Bd rfl rfl (BP.EP du gu (Ax.lt ai))) ?_)
     refine um (Aa ?_)
     subst ib; exact le kr ⟨_, _, rfl, ie, dv, ct, dw, ld, (bo.trans di), rfl, z7, jc⟩
    obtain rfl := BP.zero du gu
    rw [C2] at gr
    refine AQ (Af (Af ?_))
    refine Av (Au (id := 1) ?_)
    obtain rfl := AM gr
    exact mi kr ⟨bq, cf, bo, rfl, z5, cr⟩
   rintro e1 p0 _ ⟨cq, dt, ft, rfl, fv, jd⟩
   refine AA _ fv ?_
   refine Ai (um ?_)
   obtain ⟨je, jf⟩ := A2 kv
   refine uv (Gl rfl rfl je) ?_
   refine ua (Aa ?_)
   exact le kr ⟨dr, ab - 1, cq, dt, jf, (bn.trans ft), rfl, z5, jd⟩
  have jg := A9 fe gz
  refine AQ (Af (Af ?_))
  refine Av ?_
  obtain rfl := AM jg
  exact mi (kc (kc (kd kr))) ⟨cb, cc, bn, rfl, z3, dq⟩
 rintro e1 e9 _ ⟨bl, ca, dk, rfl, fw, fx⟩
 refine AA _ fw ?_
 replace ai := ai.mono (Az (Ad _)) dk
 replace ao := dk _ _ ao
 refine AO ?_
 refine uv (Bx (v := .agg #[.int .i64 (-1), .int .i64 0]) rfl (by intro w; kernel_rfl)) ?_
 refine Bj rfl zeroValue265 ?_; intro bm ly
 refine Br (i := 0) sizeOf265 rfl rfl rfl (by simp [Value.oneCell']) rfl (Ce rfl) (AK rfl ?_)
 refine ua (Aa ?_)
 obtain ⟨az, minute, jh, eg⟩ := DA ko
 refine jE ([(bm, ce #[.int .i64 az, .int .i64 0] 265), (b9, ce #[.map (some b3)] 268), (b3, .map bl ca)]) [(1, .int .i64 Cm), (9, .pointer (some ⟨b9, 0, none⟩)), (22, .pointer (some ⟨bm, 0, none⟩)), (23, .int .i64 minute)] ?_ ?_
 ·clear eg
  refine AO (uv (Aj isAgg147 rfl (Has.own 3 rfl) rfl) (uv (A4 rfl) (uv (Ab HX rfl) (uv (Ab I9 rfl) (uv (Aj isAgg36 rfl (Has.frozen ao) (Fs (AE (A := ([.slice AG walks.length AF] : List Value)) (k := 1) (o := 0) rfl (BV (B := ([.int .i64 Ae] : List Value) ++ (([.int .i64 start] : List Value) ++ (([.slice Aq Ac.length Ar] : List Value) ++ (A5.flatMap (cI .i64) ++ (([.slice CV Bs.length CR] : List Value) ++ (hit.flatMap (cI .i64))))))) rfl)))) (uv (A3 underlying36 rfl) ?_))))))
  refine um (Aa ?_)
  refine Am (kW (kc (kc (kc kn))) ?_)
  refine Bk (fun ma e1 F1 L1 => LA Ak ma fun mb k3 => ∃ (aj : Int) (al : Int), Ck ae mb k3 aj al = some (az, minute) ∧ e9 = F1 ∧ L1 = [(bm, ce #[.int .i64 aj, .int .i64 0] 265), (b9, ce #[.map (some b3)] 268), (b3, .map bl ca)] ∧ e1.sub [(1, .int .i64 Cm), (9, .pointer (some ⟨b9, 0, none⟩)), (22, .pointer (some ⟨bm, 0, none⟩)), (23, .int .i64 al), (138, .int .i64 (Ak.length : Int)), (139, .int .i64 k3)]) _ (m0 kr ⟨_, _, rfl, BP.start _, -1, -1, jh, rfl, rfl, z6⟩) ?_
  rintro ma e1 _ _ ⟨mb, k3, dm, bu, aj, al, cv, rfl, rfl, fy⟩
  refine AA _ fy (AO (uv (Bg rfl rfl) ?_))
  refine Aa (Ao ?_)
  refine cQ (fun cj => ?_) fun cj => ?_
  ·obtain ⟨x5, pt, rfl, mc, p6, dn⟩ := BP.succ bu cj
   rw [Ck] at cv
   refine An (Ao ?_)
   refine Am ?_
   refine AO (um (ua (Cj ?_)))
   refine uv (Aj isAgg268 rfl (Has.own 1 rfl) rfl) (um ?_)
   refine uv (Bx (v := .agg #[.int .i64 k3, .int .i64 0]) rfl (by intro w; kernel_rfl)) ?_
   refine uv (Fw.eq (v' := .tuple #[.agg #[.int .i64 (((A7 ae (k3, 0)).getD (0, 0, 0, 0, 0)).1), .int .i64 (((A7 ae (k3, 0)).getD (0, 0, 0, 0, 0)).2.1), .int .i64 (((A7 ae (k3, 0)).getD (0, 0, 0, 0, 0)).2.2.1), .int .i64 (((A7 ae (k3, 0)).getD (0, 0, 0, 0, 0)).2.2.2.1), .int .i64 (((A7 ae (k3, 0)).getD (0, 0, 0, 0, 0)).2.2.2.2)], .bool ((A7 ae (k3, 0)).isSome)]) (LZ (k := (k3, 0)) (z0 := (0, 0, 0, 0, 0)) rfl underlying268 MA zeroValue267 rfl rfl (KW.own 2 rfl) (show Er (vA (cP (cI .i64) (cI .i64))) (vA (cP (cI .i64) (cP (cI .i64) (cP (cI .i64) (cP (cI .i64) (cI .i64)))))) bl (ae : List ((Int × Int) × (Int × Int × Int × Int × Int))) from fx)) rfl) ?_
   refine um (ox rfl rfl rfl (ox rfl rfl rfl ?_))
   refine Bj rfl zeroValue267 ?_; intro eh me
   refine Br (i := 0) sizeOf267 rfl rfl rfl (by simp [Value.oneCell']) rfl (Ce rfl) (AK rfl ?_)
   refine ua (Aa ?_)
   obtain ⟨k4, ga, ej⟩ := AI cv
   refine jE ([(eh, ce #[.int .i64 (((A7 ae (k3, 0)).getD (0, 0, 0, 0, 0)).1), .int .i64 (((A7 ae (k3, 0)).getD (0, 0, 0, 0, 0)).2.1), .int .i64 (((A7 ae (k3, 0)).getD (0, 0, 0, 0, 0)).2.2.1), .int .i64 (((A7 ae (k3, 0)).getD (0, 0, 0, 0, 0)).2.2.2.1), .int .i64 (((A7 ae (k3, 0)).getD (0, 0, 0, 0, 0)).2.2.2.2)] 267), (bm, ce #[.int .i64 aj, .int .i64 0] 265), (b9, ce #[.map (some b3)] 268), (b3, .map bl ca)]) [(1, .int .i64 Cm), (9, .pointer (some ⟨b9, 0, none⟩)), (22, .pointer (some ⟨bm, 0, none⟩)), (23, .int .i64 al), (24, .int .i64 k3), (25, .pointer (some ⟨eh, 0, none⟩)), (138, .int .i64 (Ak.length : Int)), (139, .int .i64 k3), (159, .bool k4)] ?_ ?_
   ·clear ej
    refine Ai (um (um ?_))
    rcases Dc ((A7 ae (k3, 0)).isSome) with au | au
    ·have gb := bt ga au
     refine nB au (um (nB au ?_))
     refine uv (Dn rfl rfl) ?_
     refine nB au (um ?_)
     by_cases bj : al = (-1)
     ·have ji := A8 gb bj
      refine fT bj (fT bj (fT bj (fT bj (nB au ?_))))
      refine uv (AP (Bf rfl bj) rfl) (uv (AP (IW rfl au) rfl) (Aa ?_))
      obtain rfl := AM ji
      exact mi kr ⟨rfl, rfl, (sc rfl z8)⟩
     have jj := A9 gb bj
     refine nF bj (uv (Ab Oo rfl) (nF bj (uv (Aj isAgg3 rfl (Has.own 0 rfl) rfl) ?_)))
     refine nF bj (um (nF bj ?_))
     refine uv (Bg rfl rfl) (nB au (uv (AB (AU rfl bj) rfl) (uv (AP (IW rfl au) rfl) (Aa ?_))))
     obtain rfl := AM jj
     exact mi kr ⟨rfl, rfl, (sc rfl z8)⟩
    have jk := bf ga au
    refine fB au (fB au (fB au (fU (fU (fU (fU (fB au ?_)))))))
    refine uv (AB (IW rfl au) rfl) (Aa ?_)
    obtain rfl := AM jk
    exact mi kr ⟨rfl, rfl, (sc rfl z8)⟩
   refine AY rfl (fun eo => ?_) (fun eo => ?_)
   ·have jl := bt ej eo
    refine DB [(.still, 0), (.still, 1), (.still, 2), (.still, 3), (.seq, 4), (.seq, 5)] (by kernel_rfl) (by kernel_rfl) (trivial) (by rfl) (by kernel_rfl) (mS [24] rfl (B3 rfl) ?_)
    refine mS (v := .agg #[.int .i64 k3, .int .i64 0]) [160] rfl (Bx (v := .agg #[.int .i64 k3, .int .i64 0]) rfl (by intro w; kernel_rfl)) ?_
    refine mS [25] rfl (Ab Oo rfl) (mL [162] ([(eh, ce #[.int .i64 (((A7 ae (k3, 0)).getD (0, 0, 0, 0, 0)).1), .int .i64 (((A7 ae (k3, 0)).getD (0, 0, 0, 0, 0)).2.1), .int .i64 (((A7 ae (k3, 0)).getD (0, 0, 0, 0, 0)).2.2.1), .int .i64 (((A7 ae (k3, 0)).getD (0, 0, 0, 0, 0)).2.2.2.1), .int .i64 (((A7 ae (k3, 0)).getD (0, 0, 0, 0, 0)).2.2.2.2)] 267)]) rfl (s0 (s2 (s1 (s1 (s1 sr))))) (fun H F' L' p7 p8 => Aj isAgg3 rfl ((Has.own 0 rfl).ext p7 p8) rfl) ?_)
    refine ⟨_, [(22, .pointer (some ⟨bm, 0, none⟩)), (161, .agg #[.int .i64 k3, .int .i64 0])], rfl, rfl, z2, by kernel_rfl, ?_⟩; intro H
    refine Br (i := 1) sizeOf265 rfl rfl rfl (by simp [Value.oneCell']) rfl (Ce rfl) (AK rfl ?_)
    refine Aa ⟨undef, rfl, AZ.refl _, [3, 2], by kernel_rfl, .inl (.inr (fun d h => by cases h)), (fc (s0 (s2 (s1 (s1 (s1 sr))))) (fc sm nm)), ?_⟩
    refine ⟨_, [(163, .int .i64 (((A7 ae (k3, 0)).getD (0, 0, 0, 0, 0)).1))], rfl, rfl, z1, by kernel_rfl, ?_⟩; intro H
    obtain ⟨cw, jm, jn⟩ := DK jl
    refine uv ((Jj rfl).i jm) ?_
    refine Aa ⟨_, rfl, AZ.refl _, [], by kernel_rfl, .inl (.inl rfl), nm, ?_⟩
    refine EW ?_
    refine Au (id := 7) (Ai ?_)
    refine uv (Bd rfl rfl (BP.EP bu cj (Ax.lt ai))) ?_
    refine um (Aa ?_)
    subst dm; exact le (kd kr) ⟨_, _, rfl, dn, k3, cw, jn, rfl, rfl, z6⟩
   have jo := bf ej eo
   refine An (Au (id := 7) (Ai ?_))
   refine uv (Bd rfl rfl (BP.EP bu cj (Ax.lt ai))) ?_
   refine um (Aa ?_)
   subst dm; exact le (kd kr) ⟨_, _, rfl, dn, aj, al, jo, rfl, rfl, z6⟩
  obtain rfl := BP.zero bu cj
  rw [Ck] at cv
  refine AQ (Af (Af ?_))
  refine Av ?_
  obtain ⟨rfl, rfl⟩ := DH cv
  exact mi kr ⟨rfl, rfl, z4⟩
 refine Ao (AO (um ?_))
 refine uv (Dn rfl rfl) (Aa ?_)
 refine cQ (fun er => ?_) fun er => ?_
 ·have jq := A8 eg er
  refine AO (ua (ua (ua (Aa ?_))))
  refine kW kn ?_
  refine Al (Ah ?_)
  refine Mi results52 (AR rfl) (AR rfl) (AR rfl) (sr) ?_
  obtain ⟨rfl, rfl, rfl⟩ := KI jq
  exact ⟨_, _, _, [], rfl, rfl, A6.nil _ _ _ _ _⟩
 have jr := A9 eg er
 refine An (AO (ua (Aa ?_)))
 obtain ⟨out, js, gg⟩ := AI jr
 refine AV (fun e1 F1 L1 => ∃ (et : Option Addr) (eu : Nat) (ew : Nat) (bx : LH), e9 = F1 ∧ L1 = (bx ++ []) ∧ e1.sub [(23, .int .i64 minute), (27, .slice et eu ew)] ∧ A6 K.w0.heap.size 64 2 (Cd (iE .i64) (iE .i64)) F1 et eu ew out bx) ?_ ?_
 ·clear gg
  refine Am ?_
  refine Bk (fun gv e1 F1 L1 => ∃ (aa : Int) (ad : Int) (cx : List (Int × Int)) (cy : Option Addr) (cz : Nat) (da : Nat) (bz : LH), Cx Cm ae gv aa ad cx = some out ∧ e9 = F1 ∧ L1 = ((bm, ce #[.int .i64 aa, .int .i64 ad] 265) :: ((b9, ce #[.map (some b3)] 268) :: ((b3, .map bl ca) :: (bz ++ [])))) ∧ e1.sub [(1, .int .i64 Cm), (9, .pointer (some ⟨b9, 0, none⟩)), (22, .pointer (some ⟨bm, 0, none⟩)), (23, .int .i64 minute), (27, .slice cy cz da)] ∧ A6 K.w0.heap.size 64 2 (Cd (iE .i64) (iE .i64)) F1 cy cz da cx bz) FU (m0 (kc (kc (kc (ke kr)))) ⟨az, 0, [], none, 0, 0, [], js, rfl, rfl, z5, A6.nil _ _ _ _ _⟩) ?_
  rintro gv e1 _ _ ⟨aa, ad, cx, cy, cz, da, bz, cn, rfl, rfl, gh, dp⟩
  refine AA _ gh ?_
  rcases gv with _ | gv
  ·rw [Cx] at cn; cases cn
  rw [Cx] at cn
  refine Ao (AO ?_)
  refine uv (Ab W5 rfl) (uv (Aj isAgg3 rfl (Has.own 0 rfl) rfl) (um (uv (B8 rfl rfl) (Aa ?_))))
  refine cQ (fun ey => ?_) fun ey => ?_
  ·have jt := A8 cn ey
   refine An (Am (AO (uv (Aj isAgg268 rfl (Has.own 1 rfl) rfl) (uv (AL (cs := #[.int .i64 aa, .int .i64 ad]) isAgg265 sizeOf265 rfl (Has.own 0 rfl) (Ce rfl) rfl) (uv (Fw.eq (v' := .agg #[.int .i64 (((A7 ae (aa, ad)).getD (0, 0, 0, 0, 0)).1), .int .i64 (((A7 ae (aa, ad)).getD (0, 0, 0, 0, 0)).2.1), .int .i64 (((A7 ae (aa, ad)).getD (0, 0, 0, 0, 0)).2.2.1), .int .i64 (((A7 ae (aa, ad)).getD (0, 0, 0, 0, 0)).2.2.2.1), .int .i64 (((A7 ae (aa, ad)).getD (0, 0, 0, 0, 0)).2.2.2.2)]) (Tz (k := (aa, ad)) (z0 := (0, 0, 0, 0, 0)) rfl underlying268 MA zeroValue267 rfl rfl (KW.own 2 rfl) (show Er (vA (cP (cI .i64) (cI .i64))) (vA (cP (cI .i64) (cP (cI .i64) (cP (cI .i64) (cP (cI .i64) (cI .i64)))))) bl (ae : List ((Int × Int) × (Int × Int × Int × Int × Int))) from fx)) rfl) ?_)))))
   refine Bj rfl zeroValue267 ?_; intro p9 mg
   refine Br (i := 0) sizeOf267 rfl rfl rfl (by simp [Value.oneCell']) rfl (Ce rfl) (AK rfl ?_)
   refine Cj (um ?_)
   refine uv (Ab Xg rfl) (uv (AL (cs := #[.int .i64 (((A7 ae (aa, ad)).getD (0, 0, 0, 0, 0)).2.1), .int .i64 (((A7 ae (aa, ad)).getD (0, 0, 0, 0, 0)).2.2.1)]) isAgg64 sizeOf64 rfl (Has.own 0 rfl) (Ce rfl) rfl) ?_)
   refine bA (cs := #[.int .i64 (((A7 ae (aa, ad)).getD (0, 0, 0, 0, 0)).2.1), .int .i64 (((A7 ae (aa, ad)).getD (0, 0, 0, 0, 0)).2.2.1)]) XP [.agg #[.int .i64 (((A7 ae (aa, ad)).getD (0, 0, 0, 0, 0)).2.1), .int .i64 (((A7 ae (aa, ad)).getD (0, 0, 0, 0, 0)).2.2.1)]] ?_; intro pa mh
   obtain ⟨gi, ju, jv, jw⟩ := Hv jt
   refine Fg (xs := cx) (ys := [(((A7 ae (aa, ad)).getD (0, 0, 0, 0, 0)).2.1, ((A7 ae (aa, ad)).getD (0, 0, 0, 0, 0)).2.2.1)]) (zs := gi) rfl XP rfl rfl (Nat.le_refl _) (fun _ => .c (.c (.c (.c (.c .h))))) dp (HE.box (vss := [[.int .i64 (((A7 ae (aa, ad)).getD (0, 0, 0, 0, 0)).2.1), .int .i64 (((A7 ae (aa, ad)).getD (0, 0, 0, 0, 0)).2.2.1)]]) (ys := [(((A7 ae (aa, ad)).getD (0, 0, 0, 0, 0)).2.1, ((A7 ae (aa, ad)).getD (0, 0, 0, 0, 0)).2.2.1)]) 0 rfl (AD (Ad _) (Ad _)) (.cons ⟨_, _, rfl, rfl, rfl⟩ .nil) rfl rfl) ju jv (by decide) ?_; intro jx jz kb gj gk
   refine kO (kd kr) ?_
   refine ua (Aa (Ai ?_))
   refine uv (Ab X3 rfl) (uv (AL (cs := #[.int .i64 (((A7 ae (aa, ad)).getD (0, 0, 0, 0, 0)).2.2.2.1), .int .i64 (((A7 ae (aa, ad)).getD (0, 0, 0, 0, 0)).2.2.2.2)]) isAgg265 sizeOf265 rfl (Has.own 0 rfl) (Ce rfl) rfl) (Br (i := 1) sizeOf265 rfl rfl rfl (by simp [Value.oneCell']) rfl (Ce rfl) (AK rfl ?_)))
   refine Aa (Au (id := 9) ?_)
   exact le (kd kr) ⟨((A7 ae (aa, ad)).getD (0, 0, 0, 0, 0)).2.2.2.1, ((A7 ae (aa, ad)).getD (0, 0, 0, 0, 0)).2.2.2.2, gi, jx, jz, kb, gj, jw, rfl, rfl, z5, gk⟩
  have kh := A9 cn ey
  refine AQ (Af (Af ?_))
  refine Av ?_
  obtain rfl := AM kh
  exact mi (kd (kd (kd kr))) ⟨cy, cz, da, bz, rfl, rfl, z2, dp⟩
 rintro e1 _ _ ⟨et, eu, ew, bx, rfl, rfl, gl, gm⟩
 refine AA _ gl ?_
 refine AO (um ?_)
 obtain ⟨s_, kj, kl⟩ := AI gg
 refine GJ (Lb := bx ++ []) (Lr := []) rfl call128 rfl rfl rfl (pT pR (lp (ln rfl))) (HM gm kj) ?_; rintro _ pb _ mj ml mo ⟨mq, rfl, rfl, gp⟩
 refine AK (lp (ln rfl)) ?_
 refine Cj (um (um (ua (ua (ua (Aa (Al ?_)))))))
 refine Mi results52 (AR rfl) (AR rfl) (AR rfl) (sr) ?_
 obtain ⟨rfl, rfl, rfl⟩ := KI kl
 exact ⟨_, _, _, _, rfl, rfl, gp.any⟩
theorem NW {Ak : List (List Int)} {Ac : List ((List Int) × Int × Int)} (ab : F KG = some (.cells ((([.slice AG walks.length AF] : List Value) ++ (([.slice As Ak.length At] : List Value) ++ (([.int .i64 Ae] : List Value) ++ (([.int .i64 start] : List Value) ++ (([.slice Aq Ac.length Ar] : List Value) ++ (A5.flatMap (cI .i64) ++ (([.slice CV Bs.length CR] : List Value) ++ (hit.flatMap (cI .i64))))))))).toArray) 156 QR)) (_h_walks : Ax 1 (Cn 1 (iE .i64)) F AG AF walks) (_h_hears : Ax 1 (Cn 1 (iE .i64)) F As At Ak) (_h_notices : Ax 3 (Cd (Cn 1 (iE .i64)) (Cd (iE .i64) (iE .i64))) F Aq Ar Ac) (aa : A5.length = 25) (_h_pairs : Ax 2 (Cd (iE .i64) (iE .i64)) F CV CR Bs) (_h_hit : hit.length = 15) {r : Int} (hr : GN walks Ak Ae start Ac A5 Bs hit = some r) :
    Bw Tryz.prog 53 #[.pointer (some ⟨KG, 0, none⟩)] F (.int .i64 r) := by
 refine sp func53 ntmps53 fun K _ _ => ?_
 rw [GN] at hr
 refine AO (ua (Cj (um ?_)))
 refine uv (A4 rfl) (uv (Ab K1 rfl) (uv (Aj isAgg48 rfl (Has.frozen ab) (Fs (AE (k := 1) (o := 29) rfl (AE (k := 1) (o := 28) rfl (AE (k := 1) (o := 27) rfl (AE (k := 1) (o := 26) rfl (AE (k := 1) (o := 25) rfl (AE (k := 25) (o := 0) (FV (BU .i64) aa) (BV rfl))))))))) (uv (A3 underlying48 rfl) ?_)))
 obtain ⟨g1, r2⟩ := A2 hr
 refine uv (WV rfl rfl g1) ?_
 obtain ⟨g3, r4⟩ := A2 r2
 refine uv (Gl rfl rfl g3) ?_
 refine ua (Aa (Al ?_))
 refine Cq results53 ?_
 obtain rfl := AM r4
 exact rfl
theorem Nu {BW minute : Int} {ab : Nat} {ad : Nat × Nat} {Ak : List (List Int)} {Ac : List ((List Int) × Int × Int)} (ae : F ab = some (.cells #[.int .i64 last] 3 ad)) (ah : F KG = some (.cells #[.pointer (some ⟨YD, 0, none⟩)] 147 QR)) (af : F YD = some (.cells ((([.slice AG walks.length AF] : List Value) ++ (([.slice As Ak.length At] : List Value) ++ (([.int .i64 Ae] : List Value) ++ (([.int .i64 start] : List Value) ++ (([.slice Aq Ac.length Ar] : List Value) ++ (A5.flatMap (cI .i64) ++ (([.slice CV Bs.length CR] : List Value) ++ (hit.flatMap (cI .i64))))))))).toArray) 156 YX)) (_h_walks : Ax 1 (Cn 1 (iE .i64)) F AG AF walks) (_h_hears : Ax 1 (Cn 1 (iE .i64)) F As At Ak) (aa : Ax 3 (Cd (Cn 1 (iE .i64)) (Cd (iE .i64) (iE .i64))) F Aq Ar Ac) (_h_walks2 : A5.length = 25) (_h_pairs : Ax 2 (Cd (iE .i64) (iE .i64)) F CV CR Bs) (_h_hit : hit.length = 15) {r : Bool} (hr : D8 BW minute last walks Ak Ae start Ac A5 Bs hit = some r) :
    Bw Tryz.prog 188 #[.int .i64 BW, .int .i64 minute, .pointer (some ⟨ab, 0, none⟩), .pointer (some ⟨KG, 0, none⟩)] F (.bool r) := by
 refine sp func188 ntmps188 fun K _ _ => ?_
 rw [D8] at hr
 refine AO (ua ?_)
 refine dN (wm (wv (Aj isAgg3 rfl (Has.frozen ae) rfl) (wv (Aj isAgg147 rfl (Has.frozen ah) rfl) (wv (A4 rfl) (wv (Ab HX rfl) (wv (Ab II rfl) (wv (Aj isAgg37 rfl (Has.frozen af) (Fs (AE (k := 1) (o := 3) rfl (AE (k := 1) (o := 2) rfl (AE (k := 1) (o := 1) rfl (AE (k := 1) (o := 0) rfl (BV rfl))))))) ?_)))))))
 refine wm ?_
 obtain ⟨x, g1, ak, r3⟩ := Cb hr
 obtain ⟨b4, o5, c6, ar, al, ao, aj, ⟨_, _, rfl, ⟨au, av, rfl, aw⟩, ⟨_, _, rfl, rfl, rfl⟩⟩, aq, ai⟩ := Ax.at (AD (Az (Ad _)) (AD (Ad _) (Ad _))) aa ([]) g1.1 ak
 refine wv (AN underlying37 sizeOf41 rfl al rfl g1) (wv (Ab PI rfl) (wv (Aj isAgg3 rfl ao (ai 2 (by decide))) (wv (RW rfl rfl) (wv (LG rfl rfl) ?_))))
 refine wa (DN (Al ?_))
 refine Cq results188 ?_
 obtain rfl := AM r3
 exact rfl
set_option maxHeartbeats 1000000 in
theorem OK {Ak : List (List Int)} {Ac : List ((List Int) × Int × Int)} (af : F KG = some (.cells ((([.slice AG walks.length AF] : List Value) ++ (([.slice As Ak.length At] : List Value) ++ (([.int .i64 Ae] : List Value) ++ (([.int .i64 start] : List Value) ++ (([.slice Aq Ac.length Ar] : List Value) ++ (A5.flatMap (cI .i64) ++ (([.slice CV Bs.length CR] : List Value) ++ (hit.flatMap (cI .i64))))))))).toArray) 156 QR)) (ab : Ax 1 (Cn 1 (iE .i64)) F AG AF walks) (ad : Ax 1 (Cn 1 (iE .i64)) F As At Ak) (aa : Ax 3 (Cd (Cn 1 (iE .i64)) (Cd (iE .i64) (iE .i64))) F Aq Ar Ac) (ah : A5.length = 25) (ae : Ax 2 (Cd (iE .i64) (iE .i64)) F CV CR Bs) (aj : hit.length = 15) {r : (Int × Int) → Option Bool} (hr : Iv walks Ak Ae start Ac A5 Bs hit last = some r) :
    SH.Spec Tryz.prog 129 #[.pointer (some ⟨KG, 0, none⟩), .int .i64 last] F [] fun F' L' v => ∃ (ar : FuncId) (au : Array Value) (av : Array Value), v = .agg #[.func (.func ar) au av] ∧ L' = [] ∧ IQ Tryz.prog F' ar au av (Cd (iE .i64) (iE .i64)) Value.bool r := by
 refine sp func129 ntmps129 fun K _ _ => ?_
 rw [Iv] at hr
 refine AO ?_
 refine BH rfl rfl ?_; intro b1 aw
 refine BH rfl rfl ?_; intro b2 ax
 refine Bj rfl zeroValue164 ?_; intro b3 az
 refine Cj (uv (C8 rfl rfl) ?_)
 refine uv (Bx (v := .agg (#[.func (.func 188) #[] #[.pointer (some ⟨b2, 0, none⟩), .pointer (some ⟨b1, 0, none⟩)]])) rfl (by intro w; kernel_rfl)) ?_
 refine Br (i := 0) sizeOf164 rfl rfl rfl (by simp [Value.oneCell']) rfl (Ce rfl) (AK rfl (Aa ?_))
 refine CX 1 rfl ax ?_; intro F4 ak al
 refine Fi (L' := [(b3, ce (#[.func (.func 188) #[] #[.pointer (some ⟨b2, 0, none⟩), .pointer (some ⟨b1, 0, none⟩)]]) 164), (b1, ce #[.pointer (some ⟨KG, 0, none⟩)] 147)]) rfl ?_
 replace ab := ab.mono (Az (Ad _)) ak
 replace ad := ad.mono (Az (Ad _)) ak
 replace aa := aa.mono (AD (Az (Ad _)) (AD (Ad _) (Ad _))) ak
 replace ae := ae.mono (AD (Ad _) (Ad _)) ak
 replace af := ak _ _ af
 refine CX 1 rfl aw ?_; intro F7 ai ay
 refine Fi (L' := [(b3, ce (#[.func (.func 188) #[] #[.pointer (some ⟨b2, 0, none⟩), .pointer (some ⟨b1, 0, none⟩)]]) 164)]) rfl ?_
 replace ab := ab.mono (Az (Ad _)) ai
 replace ad := ad.mono (Az (Ad _)) ai
 replace aa := aa.mono (AD (Az (Ad _)) (AD (Ad _) (Ad _))) ai
 replace ae := ae.mono (AD (Ad _) (Ad _)) ai
 replace af := ai _ _ af
 replace al := ai _ _ al
 have ao : IQ Tryz.prog F7 188 #[] #[.pointer (some ⟨b2, 0, none⟩), .pointer (some ⟨b1, 0, none⟩)] (Cd (iE .i64) (iE .i64)) Value.bool (fun aq : Int × Int => D8 aq.1 aq.2 last walks Ak Ae start Ac A5 Bs hit) := ⟨call188, fun F2 h2 vs aq r ha hr => by obtain ⟨_, _, rfl, rfl, rfl⟩ := ha; exact Nu (h2 _ _ al) (h2 _ _ ay) (h2 _ _ af) (ab.mono (Az (Ad _)) h2) (ad.mono (Az (Ad _)) h2) (aa.mono (AD (Az (Ad _)) (AD (Ad _) (Ad _))) h2) ah (ae.mono (AD (Ad _) (Ad _)) h2) aj hr⟩
 refine Al (Jn results129 (Dp (cs := #[.func (.func 188) #[] #[.pointer (some ⟨b2, 0, none⟩), .pointer (some ⟨b1, 0, none⟩)]]) isAgg164 sizeOf164 rfl (Has.own 0 rfl) (Ce rfl) rfl) (s1 sr) ?_)
 obtain rfl := AM hr
 exact ⟨_, _, _, rfl, rfl, ao⟩
theorem MX {Ak : List (List Int)} {Ac : List ((List Int) × Int × Int)} (aj : F KG = some (.cells ((([.slice AG walks.length AF] : List Value) ++ (([.slice As Ak.length At] : List Value) ++ (([.int .i64 Ae] : List Value) ++ (([.int .i64 start] : List Value) ++ (([.slice Aq Ac.length Ar] : List Value) ++ (A5.flatMap (cI .i64) ++ (([.slice CV Bs.length CR] : List Value) ++ (hit.flatMap (cI .i64))))))))).toArray) 156 QR)) (ad : Ax 1 (Cn 1 (iE .i64)) F AG AF walks) (ae : Ax 1 (Cn 1 (iE .i64)) F As At Ak) (aa : Ax 3 (Cd (Cn 1 (iE .i64)) (Cd (iE .i64) (iE .i64))) F Aq Ar Ac) (ab : A5.length = 25) (af : Ax 2 (Cd (iE .i64) (iE .i64)) F CV CR Bs) (ah : hit.length = 15) {r : (Int × Int) → Option Bool} (hr : G4 walks Ak Ae start Ac A5 Bs hit = some r) :
    SH.Spec Tryz.prog 54 #[.pointer (some ⟨KG, 0, none⟩)] F [] fun F' L' v => ∃ (al : FuncId) (ao : Array Value) (aq : Array Value), v = .agg #[.func (.func al) ao aq] ∧ L' = [] ∧ IQ Tryz.prog F' al ao aq (Cd (iE .i64) (iE .i64)) Value.bool r := by
 refine sp func54 ntmps54 fun K _ _ => ?_
 rw [G4] at hr
 refine AO ?_
 refine Bj rfl zeroValue164 ?_; intro b1 av
 refine Cj (um ?_)
 obtain ⟨y, h2, r3⟩ := AI hr
 refine c0 call129 (OK aj ad ae aa ab af ah h2) ?_; rintro _ F4 _ aw ax ⟨ar, au, ak, rfl, rfl, ai⟩
 refine AK (ln rfl) (Br (i := 0) sizeOf164 rfl rfl rfl (by simp [Value.oneCell']) rfl (Ce rfl) (AK rfl ?_))
 refine Aa (Al ?_)
 refine Jn results54 (Dp (cs := #[.func (.func ar) au ak]) isAgg164 sizeOf164 rfl (Has.own 0 rfl) (Ce rfl) rfl) (s1 sr) ?_
 obtain rfl := AM r3
 exact ⟨_, _, _, rfl, rfl, ai⟩
set_option maxHeartbeats 1000000 in
theorem JJ {Ak : List (List Int)} {Ac : List ((List Int) × Int × Int)} (af : Ax 1 (Cn 1 (iE .i64)) F AG AF walks) (ah : Ax 1 (Cn 1 (iE .i64)) F As At Ak) (ab : Ax 3 (Cd (Cn 1 (iE .i64)) (Cd (iE .i64) (iE .i64))) F Aq Ar Ac) {r : List (Int × Int)} {r2 r3 : Int} (hr : Dx walks Ak Ae start Ac = some (r, r2, r3)) :
    SH.Spec Tryz.prog 14 #[.agg #[.slice AG walks.length AF, .slice As Ak.length At, .int .i64 Ae, .int .i64 start, .slice Aq Ac.length Ar]] F [] fun F' L' v => ∃ (ra : Option Addr) (rn : Nat) (rc : Nat) (rL : LH), v = .tuple #[.slice ra rn rc, .int .i64 r2, .int .i64 r3] ∧ L' = rL ++ [] ∧ A6 0 64 2 (Cd (iE .i64) (iE .i64)) F' ra rn rc r rL := by
 refine sp func14 ntmps14 fun K _ _ => ?_
 rw [Dx] at hr
 refine AO ?_
 refine BH rfl rfl ?_; intro b1 da
 refine ua (ua (ua (Cj ?_)))
 refine uv (AL isAgg39 sizeOf39 rfl (Has.own 0 rfl) (Ce rfl) rfl) ?_
 obtain ⟨d, n, h2, r4⟩ := DA hr
 refine c0 call49 (Kk af ah ab h2) ?_; rintro _ F5 _ db dd ⟨v9, rfl, rfl, ax⟩
 refine AK (ln rfl) ?_
 refine um (ox rfl rfl rfl (ox rfl rfl rfl (ua (ua (Aa (Ao (AO (um ?_))))))))
 refine uv (B8 rfl rfl) (Aa ?_)
 refine cQ (fun ay => ?_) fun ay => ?_
 ·have bl := A8 r4 ay
  refine AO (um (ua (ua (ua (Aa ?_)))))
  refine kW kn ?_
  refine Al (Ah ?_)
  refine Mi results14 (AR rfl) (AR rfl) (AR rfl) (sr) ?_
  obtain ⟨rfl, rfl, rfl⟩ := KI bl
  exact ⟨_, _, _, [], rfl, rfl, A6.nil _ _ _ _ _⟩
 have bm := A9 r4 ay
 refine An (AO (um (um ?_)))
 obtain ⟨A5, aj, ai, ak, ad, al, Bs, hit, bn, bo⟩ := WH bm
 have bj := ax; rw [bn] at bj; obtain ⟨bp, de, bq, az, aa, ⟨_, _, rfl, ⟨br, bu, rfl, aq⟩, ⟨_, _, rfl, ⟨bx, bz, rfl, ar⟩, ⟨_, _, rfl, rfl, ⟨_, _, rfl, rfl, ⟨_, _, rfl, ⟨ca, cb, rfl, au⟩, ⟨_, _, rfl, ⟨rfl, ba⟩, ⟨_, _, rfl, ⟨cc, cf, rfl, av⟩, ⟨rfl, bb⟩⟩⟩⟩⟩⟩⟩⟩⟩ := bj; subst az
 have aa : F5 bp = some (.cells ((([.slice br A5.length bu] : List Value) ++ (([.slice bx aj.length bz] : List Value) ++ (([.int .i64 ai] : List Value) ++ (([.int .i64 ak] : List Value) ++ (([.slice ca ad.length cb] : List Value) ++ (al.flatMap (cI .i64) ++ (([.slice cc Bs.length cf] : List Value) ++ (hit.flatMap (cI .i64))))))))).toArray) 156 bq) := aa
 obtain ⟨n2, cg, cj⟩ := AI bo
 refine cV call53 (NW aa aq ar au ba av bb cg) (um ?_)
 obtain ⟨y, cn, cp⟩ := AI cj
 refine c0 call54 (MX aa aq ar au ba av bb cn) ?_; rintro _ df _ ae cq ⟨cr, ct, cu, rfl, rfl, aw⟩
 replace aq := aq.mono (Az (Ad _)) ae
 replace ar := ar.mono (Az (Ad _)) ae
 replace au := au.mono (AD (Az (Ad _)) (AD (Ad _) (Ad _))) ae
 replace av := av.mono (AD (Ad _) (Ad _)) ae
 replace aa := ae _ _ aa
 refine AK (ln rfl) ?_
 obtain ⟨l, n3, ok, cv, bk⟩ := IH cp
 refine c0 call52 (M1 aa aq ar au ba av bb aw cv) ?_; rintro _ dg _ cw bc ⟨dh, di, dk, cx, rfl, rfl, ao⟩
 replace ao := ao.new fun p hp => bc p (by simp [hp])
 refine AK (lp (ln rfl)) (kO (kf (fS fO) kr) ?_)
 refine um (ox rfl rfl rfl (ox rfl rfl rfl (ox rfl rfl rfl (ua (ua (ua (Aa (Ao (AO ?_)))))))))
 refine um (uv (Cc rfl) (Aa ?_))
 refine AY rfl (fun bg => ?_) (fun bg => ?_)
 ·have cy := bt bk bg
  refine AO (ua (ua (ua (Aa ?_))))
  refine kW kn ?_
  refine Al (Ah ?_)
  refine Mi results14 (AR rfl) (AR rfl) (AR rfl) (sr) ?_
  obtain ⟨rfl, rfl, rfl⟩ := KI cy
  exact ⟨_, _, _, [], rfl, rfl, A6.nil _ _ _ _ _⟩
 have cz := bf bk bg
 refine An (AO (um (um (ua (ua (ua (Aa ?_)))))))
 refine kW (kd kr) (Al (Mi results14 (AR rfl) (AR rfl) (AR rfl) (sr) ?_))
 obtain ⟨rfl, rfl, rfl⟩ := KI cz
 exact ⟨_, _, _, _, rfl, rfl, ao.any⟩
theorem Su {aa : Option Addr} {ab : Nat} {more : List Int} (ad : Ax 1 (iE .i64) F aa ab more) {r : Int} (hr : ND n more = some r) :
    Bw Tryz.prog 248 #[.int .i64 n, .slice aa more.length ab] F (.int .i64 r) := by
 refine sp func248 ntmps248 fun K _ _ => ?_
 rw [ND] at hr
 refine AO (ua (Aa ?_))
 obtain ⟨n2, h1, r2⟩ := AI hr
 refine jE ([]) [(0, .int .i64 n2)] ?_ ?_
 ·clear r2
  refine AO (um ?_)
  refine uv (A3 underlying33 rfl) ?_
  refine um (Aa ?_)
  refine Am ?_
  refine Bk (fun ak e1 F1 L1 => LA more ak fun tl k => ∃ (n3 : Int), HV tl n3 = some n2 ∧ F = F1 ∧ L1 = [] ∧ e1.sub [(0, .int .i64 n3), (7, .slice aa more.length ab), (8, .int .i64 (more.length : Int)), (9, .int .i64 k)]) _ (m0 kr ⟨_, _, rfl, BP.start _, n, h1, rfl, rfl, z4⟩) ?_
  rintro ak e1 _ _ ⟨tl, k, aq, ae, n3, r5, rfl, rfl, ar⟩
  refine AA _ ar (AO (uv (Bg rfl rfl) ?_))
  refine Aa (Ao ?_)
  refine cQ (fun c8 => ?_) fun c8 => ?_
  ·obtain ⟨x, ax, rfl, af, al, au⟩ := BP.succ ae c8
   rw [HV] at r5
   refine An (Ao ?_)
   refine Am (AO ?_)
   obtain ⟨Vd, ay, az, av, ah, ai, ao, rfl, aw, aj⟩ := Ax.at (Ad _) ad ([]) al.1 af
   refine uv (AN underlying33 sizeOf3 rfl ah rfl al) (uv (Aj isAgg3 rfl ai (aj 0 (by decide))) ?_)
   refine ua (Aa (Ai (um (um ?_))))
   refine uv (RW rfl rfl) ?_
   refine ua (Aa (Au (id := 1) (Ai ?_)))
   refine uv (Bd rfl rfl (BP.EP ae c8 (Ax.lt ad))) ?_
   refine um (Aa ?_)
   subst aq; exact le kr ⟨_, _, rfl, au, if x < n3 then x else n3, r5, rfl, rfl, z4⟩
  obtain rfl := BP.zero ae c8
  rw [HV] at r5
  refine AQ (Af (Af ?_))
  refine Av ?_
  obtain rfl := AM r5
  exact mi kr ⟨rfl, rfl, z1⟩
 refine AO (um (ua (Aa (Al ?_))))
 refine Cq results248 ?_
 obtain rfl := AM r2
 exact rfl
theorem Pj {r : Bool} (hr : ML a b = some r) :
    Bw Tryz.prog 219 #[.int .i64 a, .int .i64 b] F (.bool r) := by
 refine sp func219 ntmps219 fun K _ _ => ?_
 rw [ML] at hr
 refine AO (ua (Cj (um (um ?_))))
 obtain ⟨g1, r2⟩ := A2 hr
 refine uv (Gl rfl rfl g1) ?_
 obtain ⟨g3, r4⟩ := A2 r2
 refine uv (Bd rfl rfl g3) (uv (NG rfl rfl (by decide)) ?_)
 refine ua (Cj (um (um ?_)))
 obtain ⟨g5, r6⟩ := A2 r4
 refine uv (Gl rfl rfl g5) ?_
 refine bA (cs := #[.int .i64 (8 - (Int.tmod ((a - b) + 8) 8))]) CD [.int .i64 (8 - (Int.tmod ((a - b) + 8) 8))] ?_; intro b7 ab
 refine Bo 0 rfl ab ?_; intro F8 ah aa
 refine AK rfl ?_
 have ad : Ax 1 (iE .i64) F8 (some ⟨b7, 0, none⟩) 1 [8 - (Int.tmod ((a - b) + 8) 8)] := Ax.BQ (Ad _) (vss := [[.int .i64 (8 - (Int.tmod ((a - b) + 8) 8))]]) (xs := [8 - (Int.tmod ((a - b) + 8) 8)]) aa (.cons rfl .nil) rfl (by simp [maxLen])
 obtain ⟨n, ae, af⟩ := AI r6
 refine cV call248 (Su ad ae) (uv (LG rfl rfl) ?_)
 refine ua (Aa (Al ?_))
 refine Cq results219 ?_
 obtain rfl := AM af
 exact rfl
theorem LM {Ac : Int} {Ak : List (List (List Int))} (_h_hears : Ax 1 (Cn 1 (Cn 1 (iE .i64))) F As At Ak) (aa : Ax 1 (iE .i64) F AX AW Aw) (_h_cries : Ax 3 (Cd (iE .i64) (Cd (iE .i64) (iE .i64))) F Bp Bq A1) {r : Bool} (hr : GU Ae Ac Ak Aw A1 hour BC = some r) :
    Bw Tryz.prog 173 #[.agg #[.int .i64 Ae, .int .i64 Ac, .slice As Ak.length At, .slice AX Aw.length AW, .slice Bp A1.length Bq], .int .i64 hour, .int .i64 BC] F (.bool r) := by
 refine sp func173 ntmps173 fun K _ _ => ?_
 rw [GU] at hr
 refine AO ?_
 refine BH rfl rfl ?_; intro b1 az
 refine ua (Cj ?_)
 refine uv (Ab KR rfl) (uv (Aj isAgg33 rfl (Has.own 0 rfl) rfl) (um ?_))
 obtain ⟨x, g2, aj, r4⟩ := Cb hr
 obtain ⟨b5, o6, c7, ba, ao, ad, ak, rfl, aq, ae⟩ := Ax.at (Ad _) aa ([(b1, ce #[.int .i64 Ae, .int .i64 Ac, .slice As Ak.length At, .slice AX Aw.length AW, .slice Bp A1.length Bq] 100)]) g2.1 aj
 refine uv (AN underlying33 sizeOf3 rfl ao rfl g2) (uv (Aj isAgg3 rfl ad (ae 0 (by decide))) (uv (Dn rfl rfl) (um ?_)))
 by_cases ab : x = (-1)
 ·have ar := A8 r4 ab
  refine fT ab (fT ab (fT ab (fT ab (fT ab (fT ab (fT ab ?_))))))
  refine uv (AP (Bf rfl ab) rfl) ?_
  refine ua (Aa ?_)
  refine kW kn (Al (Cq results173 ?_))
  obtain rfl := AM ar
  exact rfl
 have au := A9 r4 ab
 refine nF ab (um (nF ab ?_))
 refine uv (Ab KR rfl) (nF ab (uv (Aj isAgg33 rfl (Has.own 0 rfl) rfl) ?_))
 refine nF ab (um (nF ab ?_))
 obtain ⟨bb, bc, bg, av, af, ah, al, rfl, aw, ai⟩ := Ax.at (Ad _) aa ([(b1, ce #[.int .i64 Ae, .int .i64 Ac, .slice As Ak.length At, .slice AX Aw.length AW, .slice Bp A1.length Bq] 100)]) g2.1 aj
 refine uv (AN underlying33 sizeOf3 rfl af rfl g2) (nF ab (uv (Aj isAgg3 rfl ah (ai 0 (by decide))) (nF ab ?_)))
 obtain ⟨ok, ax, ay⟩ := AI au
 refine cV call219 (Pj ax) (uv (AB (AU rfl ab) rfl) ?_)
 refine ua (Aa ?_)
 refine kW kn (Al (Cq results173 ?_))
 obtain rfl := AM ay
 exact rfl
theorem Lw {s_ : List Int} (aa : Ax 1 (iE .i64) F B5 B0 s_) {r : List Int} (hr : Hq s_ = some r) :
    SH.Spec Tryz.prog 110 #[.slice B5 s_.length B0] F [] fun F' L' v => ∃ (ra : Option Addr) (rn : Nat) (rc : Nat) (rL : LH), v = .slice ra rn rc ∧ L' = rL ++ [] ∧ A6 0 3 1 (iE .i64) F' ra rn rc r rL := by
 refine sp func110 ntmps110 fun K _ _ => ?_
 rw [Hq] at hr
 refine AO (ua (Aa (Ao (AO (um ?_)))))
 refine uv (S2 underlying33 rfl) (Aa ?_)
 refine AY rfl (fun c1 => ?_) (fun c1 => ?_)
 ·have r2 := U2 hr (Ax.isNone aa c1)
  refine AO (ua (Aa (Al (Ah ?_))))
  refine Cq results110 ?_
  obtain rfl := AM r2
  exact ⟨_, _, _, [], rfl, rfl, A6.nil _ _ _ _ _⟩
 have r3 := VI hr
 refine An (AO ?_)
 refine HC (cs := #[]) rfl rfl (LI CD) ?_; intro b4 af
 refine um ?_
 have ae : A6 K.w0.heap.size 3 1 (iE .i64) F (some ⟨b4, 0, none⟩) 0 0 ([] : List Int) [(b4, ce #[] 3)] := A6.BQ (vss := []) (Ad _) af .nil rfl rfl (by simp [maxLen])
 generalize ab : ([(b4, ce #[] 3)] : LH) = ah at ae
 refine CW (L' := ah ++ []) (by rw [← ab]; exact fO) ?_
 obtain ⟨l, h8, g9, ai⟩ := Hv r3
 refine Fg (xs := ([] : List Int)) (ys := s_) (zs := l) rfl CD rfl rfl (Nat.le_refl _) (fun _ => .h) ae (Ax.src aa) h8 g9 (by decide) ?_; intro ak al ao aj ad
 refine ua (Aa (Al ?_))
 refine Cq results110 ?_
 obtain rfl := AM ai
 exact ⟨_, _, _, _, rfl, rfl, ad.any⟩
set_option maxHeartbeats 1000000 in
theorem OZ {MN : Nat} {Ac : Int} {Ak : List (List (List Int))} {Re : Nat × Nat} {g : List Bool} (ah : F MN = some (.cells #[.int .i64 Ae, .int .i64 Ac, .slice As Ak.length At, .slice AX Aw.length AW, .slice Bp A1.length Bq] 247 Re)) (ab : Ax 1 (Cn 1 (Cn 1 (iE .i64))) F As At Ak) (_h_readings : Ax 1 (iE .i64) F AX AW Aw) (aa : Ax 3 (Cd (iE .i64) (Cd (iE .i64) (iE .i64))) F Bp Bq A1) (db : g.length = 24) {r : List Bool} (hr : Ke Ae Ac Ak Aw A1 g hour BC = some r) :
    SH.Spec Tryz.prog 160 #[.pointer (some ⟨MN, 0, none⟩), .agg (arr cB g), .int .i64 hour, .int .i64 BC] F [] fun _ L' v => v = .agg (arr cB r) ∧ L' = [] ∧ r.length = 24 := by
 refine sp func160 ntmps160 fun K _ _ => ?_
 rw [Ke] at hr
 refine AO ?_
 refine BH rfl rfl ?_; intro b1 eu
 refine Bj rfl zeroValue221 ?_; intro b2 ew
 refine AK rfl (Aa ?_)
 obtain ⟨g2, h4, r5⟩ := AI hr
 refine AV (fun e1 F1 L1 => F = F1 ∧ L1 = [(b2, ce (arr cB (List.replicate 24 false)) 221), (b1, ce (arr cB g2) 221)] ∧ e1.sub [(5, .pointer (some ⟨b1, 0, none⟩)), (8, .pointer (some ⟨b2, 0, none⟩))] ∧ g2.length = 24) ?_ ?_
 ·clear r5
  refine AO (um ?_)
  refine uv (A4 rfl) (uv (Ab NP rfl) (uv (Ab Qk rfl) (uv (Aj isAgg98 rfl (Has.frozen ah) rfl) (uv (A3 underlying98 rfl) ?_))))
  refine um (Aa ?_)
  refine Am ?_
  refine Bk (fun cc e1 F1 L1 => LA A1 cc fun tl k => ∃ (g3 : List Bool), Fx Ak hour BC tl g3 = some g2 ∧ F = F1 ∧ L1 = [(b2, ce (arr cB (List.replicate 24 false)) 221), (b1, ce (arr cB g3) 221)] ∧ e1.sub [(0, .pointer (some ⟨MN, 0, none⟩)), (2, .int .i64 hour), (3, .int .i64 BC), (5, .pointer (some ⟨b1, 0, none⟩)), (8, .pointer (some ⟨b2, 0, none⟩)), (17, .slice Bp A1.length Bq), (18, .int .i64 (A1.length : Int)), (19, .int .i64 k)] ∧ g3.length = 24) _ (m0 kr ⟨_, _, rfl, BP.start _, g, h4, rfl, rfl, z8, db⟩) ?_
  rintro cc e1 _ _ ⟨tl, k, dd, ao, g3, r9, rfl, rfl, aq, h6⟩
  refine AA _ aq (AO (uv (Bg rfl rfl) ?_))
  refine Aa (Ao ?_)
  refine cQ (fun ai => ?_) fun ai => ?_
  ·obtain ⟨x, ey, rfl, ar, cf, au⟩ := BP.succ ao ai
   rw [Fx] at r9
   refine An ?_
   obtain ⟨g4, cg, cj⟩ := AI r9
   refine AV (fun e1 F1 L1 => F = F1 ∧ L1 = [(b2, ce (arr cB (List.replicate 24 false)) 221), (b1, ce (arr cB g4) 221)] ∧ e1.sub [(0, .pointer (some ⟨MN, 0, none⟩)), (2, .int .i64 hour), (3, .int .i64 BC), (5, .pointer (some ⟨b1, 0, none⟩)), (8, .pointer (some ⟨b2, 0, none⟩)), (17, .slice Bp A1.length Bq), (18, .int .i64 (A1.length : Int)), (19, .int .i64 k)] ∧ g4.length = 24) ?_ ?_
   ·clear cj
    refine Am (AO ?_)
    obtain ⟨fa, fb, fe, de, av, aw, ad, ⟨_, _, rfl, rfl, ⟨_, _, rfl, rfl, rfl⟩⟩, ax, ay⟩ := Ax.at (AD (Ad _) (AD (Ad _) (Ad _))) aa ([(b2, ce (arr cB (List.replicate 24 false)) 221), (b1, ce (arr cB g3) 221)]) cf.1 ar
    refine uv (AN underlying98 sizeOf132 rfl av rfl cf) (uv (AL isAgg132 sizeOf132 rfl aw ad (By ad ax ay)) ?_)
    refine Bj rfl zeroValue132 ?_; intro ae df
    refine Br (i := 0) sizeOf132 rfl rfl rfl (by simp [Value.oneCell']) rfl (Ce rfl) (AK rfl ?_)
    refine Aa (Ao (AO ?_))
    refine uv (Ab TA rfl) (uv (Aj isAgg3 rfl (Has.own 0 rfl) rfl) (um (uv (B8 rfl rfl) (Aa ?_))))
    refine cQ (fun az => ?_) fun az => ?_
    ·have dg := A8 cg az
     refine AQ (Af ?_)
     refine Av ?_
     obtain rfl := AM dg
     exact mi (kd kr) ⟨rfl, rfl, z8, h6⟩
    have dh := A9 cg az
    refine An (dW (wm (wv (A4 rfl) (wv (Ab NP rfl) (wv (Ab L8 rfl) (wv (Aj isAgg97 rfl (Has.frozen ah) rfl) (wv (Ab TR rfl) ?_)))))))
    refine wv (Aj isAgg3 rfl (Has.own 0 rfl) rfl) ?_
    obtain ⟨x2, cn, ba, di⟩ := Cb dh
    obtain ⟨ff, fg, fh, dk, bb, bc, cp, ⟨fi, fj, rfl, dm⟩, dn, bg⟩ := Ax.at (Az (Az (Ad _))) ab ([(ae, ce #[.int .i64 x.1, .int .i64 x.2.1, .int .i64 x.2.2] 132), (b2, ce (arr cB (List.replicate 24 false)) 221), (b1, ce (arr cB g3) 221)]) cn.1 ba
    refine wv (AN underlying97 sizeOf36 rfl bb rfl cn) (wv (Aj isAgg36 rfl bc (bg 0 (by decide))) (wm ?_))
    obtain ⟨x3, cq, bj, dp⟩ := Cb di
    obtain ⟨fk, fl, fm, dq, bk, bl, cr, ⟨dr, dt, rfl, ct⟩, du, bm⟩ := Ax.at (Az (Ad _)) dm ([(ae, ce #[.int .i64 x.1, .int .i64 x.2.1, .int .i64 x.2.2] 132), (b2, ce (arr cB (List.replicate 24 false)) 221), (b1, ce (arr cB g3) 221)]) cq.1 bj
    refine wv (AN underlying36 sizeOf33 rfl bk rfl cq) (wv (Aj isAgg33 rfl bl (bm 0 (by decide))) (wv (A3 underlying33 rfl) ?_))
    refine wm (DN ?_)
    refine Am ?_
    refine Bk (fun cu e1 F1 L1 => LA x3 cu fun cv k2 => ∃ (g5 : List Bool), Fz x cv g5 = some g4 ∧ F = F1 ∧ L1 = [(ae, ce #[.int .i64 x.1, .int .i64 x.2.1, .int .i64 x.2.2] 132), (b2, ce (arr cB (List.replicate 24 false)) 221), (b1, ce (arr cB g5) 221)] ∧ e1.sub [(0, .pointer (some ⟨MN, 0, none⟩)), (2, .int .i64 hour), (3, .int .i64 BC), (5, .pointer (some ⟨b1, 0, none⟩)), (8, .pointer (some ⟨b2, 0, none⟩)), (10, .pointer (some ⟨ae, 0, none⟩)), (17, .slice Bp A1.length Bq), (18, .int .i64 (A1.length : Int)), (19, .int .i64 k), (38, .slice dr x3.length dt), (39, .int .i64 (x3.length : Int)), (40, .int .i64 k2)] ∧ g5.length = 24) _ (m0 kr ⟨_, _, rfl, BP.start _, g3, dp, rfl, rfl, (sc rfl (sc rfl (sc rfl (sc rfl z8)))), h6⟩) ?_
    rintro cu e1 _ _ ⟨cv, k2, bn, af, g5, aj, rfl, rfl, bo, ak⟩
    refine AA _ bo (AO (uv (Bg rfl rfl) ?_))
    refine Aa (Ao ?_)
    refine cQ (fun al => ?_) fun al => ?_
    ·obtain ⟨x4, fo, rfl, bp, cw, bq⟩ := BP.succ af al
     rw [Fz] at aj
     refine An (Ao ?_)
     refine Am (AO ?_)
     obtain ⟨fp, fq, ft, dv, br, bu, cx, rfl, dw, bx⟩ := Ax.at (Ad _) ct ([(ae, ce #[.int .i64 x.1, .int .i64 x.2.1, .int .i64 x.2.2] 132), (b2, ce (arr cB (List.replicate 24 false)) 221), (b1, ce (arr cB g5) 221)]) cw.1 bp
     refine uv (AN underlying33 sizeOf3 rfl br rfl cw) (uv (Aj isAgg3 rfl bu (bx 0 (by decide))) ?_)
     refine ua (Aa ?_)
     refine DB [(.still, 0), (.still, 1), (.still, 2), (.still, 3), (.still, 4), (.seq, 5)] (by kernel_rfl) (by kernel_rfl) (trivial) (by rfl) (by kernel_rfl) (mS [12] rfl (B3 rfl) (mS [10] rfl (Ab Tk rfl) (mL [45] ([(ae, ce #[.int .i64 x.1, .int .i64 x.2.1, .int .i64 x.2.2] 132)]) rfl (s0 (s2 (s1 (s1 sr)))) (fun H F' L' dx dy => Aj isAgg3 rfl ((Has.own 0 rfl).ext dx dy) rfl) ?_)))
     obtain ⟨cy, dz⟩ := A2 aj
     refine mS [5, 44] rfl (Ci underlying221 sizeOf219 rfl rfl cy) ?_
     obtain ⟨cz, e9⟩ := A2 dz
     obtain ⟨x5, eg, eh, ej⟩ := Cb e9
     have bz : (x4 * 4 + x.2.2 : Int).toNat = (x4 : Int).toNat * 4 + (x.2.2 : Int).toNat := by have := cy; have := cz; omega
     refine mS [46, 47] rfl (Ci underlying219 sizeOf4 rfl rfl cz) ?_
     refine ⟨_, [(48, .pointer (some ⟨b1, 0 + (x4 : Int).toNat * 4 + (x.2.2 : Int).toNat * 1, none⟩))], rfl, rfl, z1, by kernel_rfl, ?_⟩; intro H
     obtain ⟨l, da, eo⟩ := DK ej
     have er : l.length = 24 := by rw [da, List.length_set]; exact ak
     refine Pr (i := 2) sizeOf4 Bi rfl rfl rfl rfl bz (by have := eg; have := ak; omega) ak ?_
     refine AK (L' := [(ae, ce #[.int .i64 x.1, .int .i64 x.2.1, .int .i64 x.2.2] 132), (b2, ce (arr cB (List.replicate 24 false)) 221), (b1, ce (arr cB l) 221)]) (by rw [da]; rfl) ?_
     refine Aa ⟨undef, rfl, AZ.refl _, [], by kernel_rfl, .inl (.inl rfl), nm, ?_⟩
     refine EW ?_
     refine Au (id := 3) (Ai ?_)
     refine uv (Bd rfl rfl (BP.EP af al (Ax.lt ct))) ?_
     refine um (Aa ?_)
     subst bn; exact le kr ⟨_, _, rfl, bq, l, eo, rfl, rfl, (sc rfl (sc rfl (sc rfl (sc rfl z8)))), er⟩
    obtain rfl := BP.zero af al
    rw [Fz] at aj
    refine AQ (Af (Af ?_))
    refine Av (Au (id := 1) ?_)
    obtain rfl := AM aj
    exact mi (kd kr) ⟨rfl, rfl, z8, ak⟩
   rintro e1 _ _ ⟨rfl, rfl, ca, et⟩
   refine AA _ ca (Ai (uv (Bd rfl rfl (BP.EP ao ai (Ax.lt aa))) ?_))
   refine um (Aa ?_)
   subst dd; exact le kr ⟨_, _, rfl, au, g4, cj, rfl, rfl, z8, et⟩
  obtain rfl := BP.zero ao ai
  rw [Fx] at r9
  refine AQ (Af (Af ?_))
  refine Av ?_
  obtain rfl := AM r9
  exact mi kr ⟨rfl, rfl, z2, h6⟩
 rintro e1 _ _ ⟨rfl, rfl, cb, h3⟩
 refine AA _ cb (AO (uv (JM isAgg221 sizeOf221 rfl (Has.own 1 rfl) (EC Bi h3)) (Hl (i := 0) sizeOf221 rfl rfl rfl (EC Bi List.length_replicate) (EC Bi h3) (LB Bi) (AK rfl (Aa (kW (kc kn) (Al ?_)))))))
 refine Jn results160 (Dp (cs := arr cB g2) isAgg221 sizeOf221 rfl (Has.own 0 rfl) (Hm (Em (FV Bi h3))) (Js (FV Bi h3) (Em (FV Bi h3)))) (s1 sr) ?_
 obtain rfl := AM r5
 exact ⟨rfl, rfl, h3⟩
set_option maxHeartbeats 1000000 in
theorem PC {ab : Nat} {ah : Nat × Nat} (aa : F ab = some (.cells #[.int .i64 BC] 3 ah)) {xs : List Int} (hr : Ky BC = some xs) :
    GF Tryz.prog 220 #[] #[.pointer (some ⟨ab, 0, none⟩)] F (fun x : Int => #[.int .i64 x]) xs := by
 intro G0 bq yv J Jx cf br hy Fc L0 hG bu
 replace aa := (bq.trans hG) _ _ aa
 have ak : xs = [] ++ xs := rfl
 show SH.Spec Tryz.prog 220 #[yv, .pointer (some ⟨ab, 0, none⟩)] Fc L0 _
 refine sp func220 ntmps220 fun K _ _ => ?_
 rw [Ky] at hr; refine Fi (L' := L0 ++ []) (by simp) ?_
 refine AO (um (Aa ?_))
 refine Am ?_
 obtain ⟨g6, r7⟩ := A2 hr
 refine Bk (fun az e1 F1 L1 => ∃ (k : Int), Fp 0 8 k az ∧ ∃ (ae : List Int) (ai : List Int) (aq : LH), E9 BC az k = some ai ∧ AZ Fc F1 ∧ L1 = (aq ++ []) ∧ e1.sub [(0, yv), (1, .pointer (some ⟨ab, 0, none⟩)), (4, .int .i64 k)] ∧ xs = ae ++ ai ∧ J ae F1 aq ∧ AZ G0 F1) _ (m0 kr ⟨_, Fp.start _ _, [], xs, L0, r7, AZ.refl _, rfl, z3, ak, bu, hG⟩) ?_
 rintro az e1 cg _ ⟨k, ba, ae, ai, aq, bb, al, rfl, bc, ad, bg, hG⟩
 refine AA _ bc ?_
 replace aa := al _ _ aa
 refine AO (uv (Bg rfl rfl) ?_)
 refine Aa (Ao ?_)
 refine cQ (fun ar => ?_) fun ar => ?_
 ·obtain ⟨az, rfl, au⟩ := Fp.succ ba ar
  rw [E9] at bb
  refine An (Ao ?_)
  refine Am ?_
  refine AO (um (ua (Cj (um ?_))))
  refine uv (Aj isAgg3 rfl (Has.frozen aa) rfl) ?_
  obtain ⟨ok, bx, bo⟩ := AI bb
  refine cV call219 (Pj bx) (um ?_)
  rcases Dc ok with af | af
  ·have bz := bt bo af
   refine nB af (um (nB af (um (nB af ?_))))
   obtain ⟨ao, ca, av⟩ := TW bz
   refine NQ (Lb := aq) (Lr := []) (vs := [.int .i64 k]) rfl rfl rfl fP (hy ae k ao (by rw [ad, av]) _ _ hG bg) ?_
   rintro cj cn bj aw bk; obtain ⟨cb, rfl, ax, ay⟩ := JT bk
   replace hG := hG.trans aw
   refine nB af (uv (Cc rfl) (uv (AP (IW rfl af) rfl) (Aa ?_)))
   refine AY rfl (fun bl => ?_) (fun bl => ?_)
   ·have bm := ay (by simpa using bl)
    refine Al (Ay (Ah (Ah (Ay ?_))))
    refine IE (.inl rfl) results220 (sr) ?_
    exact .inr (by rw [List.append_nil]; exact bm)
   have bn := ax (by simpa using bl)
   have aj : xs = (ae ++ [k]) ++ ao := by rw [ad, av]; simp
   refine An (Au (id := 1) (Ai ?_))
   refine uv (Bd rfl rfl (Fp.EP ba ar g6)) ?_
   refine um (Aa ?_)
   exact le kr ⟨_, au, ae ++ [k], ao, bj, ca, (al.trans aw), rfl, z3, aj, bn, hG⟩
  have cc := bf bo af
  refine fB af (fB af (fB af (fB af ?_)))
  refine uv (AB (IW rfl af) rfl) (Aa ?_)
  refine AY rfl (fun bp => nomatch bp) (fun bp => ?_)
  refine An (Au (id := 1) (Ai ?_))
  refine uv (Bd rfl rfl (Fp.EP ba ar g6)) ?_
  refine um (Aa ?_)
  exact le kr ⟨_, au, ae, ai, aq, cc, al, rfl, z3, ad, bg, hG⟩
 obtain rfl := Fp.zero ba ar
 rw [E9] at bb
 refine AQ (Af (Af ?_))
 refine Av (IE (.inr rfl) results220 (sr) ?_)
 obtain rfl := AM bb
 exact .inl (by have e1 := ad; rw [List.append_nil] at e1; rw [List.append_nil, e1]; exact bg)
theorem Rn {r : List Int} (hr : Mn BC = some r) :
    SH.Spec Tryz.prog 175 #[.int .i64 BC] F [] fun F' L' v => ∃ (ab : Array Value), v = .func (.func 220) #[] ab ∧ L' = [] ∧ GF Tryz.prog 220 #[] ab F' (fun x : Int => #[.int .i64 x]) r := by
 refine sp func175 ntmps175 fun K _ _ => ?_
 rw [Mn] at hr
 refine AO ?_
 refine BH rfl rfl ?_; intro b1 ad
 refine ua (Cj ?_)
 refine uv (C8 rfl rfl) ?_
 refine ua (Aa ?_)
 refine CX 0 rfl ad ?_; intro F2 af ae
 refine Fi (L' := []) rfl ?_
 obtain ⟨l, h5, r7⟩ := AI hr
 have aa : GF Tryz.prog 220 #[] #[.pointer (some ⟨b1, 0, none⟩)] F2 (fun x : Int => #[.int .i64 x]) l := PC ae h5
 refine Al (Cq results175 ?_)
 obtain rfl := AM r7
 exact ⟨_, rfl, rfl, aa⟩
set_option maxHeartbeats 1000000 in
theorem GG {s_ : List ((List Bool) × (List Int))} {f : ((List Bool) × (List Int)) → Option Bool} (ab : Ax 25 (Cd (JA 24 cB) (Cn 1 (iE .i64))) F B5 B0 s_) (al : IQ Tryz.prog F Mk Mz Md (XE (Cd (JA 24 cB) (Cn 1 (iE .i64)))) Value.bool f) {r : Int} (hr : Dg s_ f = some r) :
    Bw Tryz.prog 221 #[.slice B5 s_.length B0, .func (.func Mk) Mz Md] F (.int .i64 r) := by
 refine sp func221 ntmps221 fun K _ _ => ?_
 rw [Dg] at hr
 refine AO (ua (Aa ?_))
 refine AV (fun e1 F1 L1 => C0 = some r ∧ F = F1 ∧ L1 = [] ∧ e1.sub []) ?_ ?_
 ·refine AO (um ?_)
  refine uv (A3 underlying216 rfl) ?_
  refine um (Aa ?_)
  refine Am ?_
  refine Bk (fun ao e1 F1 L1 => LA s_ ao fun tl k => BL f tl k = some r ∧ F = F1 ∧ L1 = [] ∧ e1.sub [(0, .slice B5 s_.length B0), (1, .func (.func Mk) Mz Md), (7, .int .i64 (s_.length : Int)), (8, .int .i64 k)]) _ (m0 kr ⟨_, _, rfl, BP.start _, hr, rfl, rfl, z4⟩) ?_
  rintro ao e1 _ _ ⟨tl, k, au, ad, r3, rfl, rfl, av⟩
  refine AA _ av (AO (uv (Bg rfl rfl) ?_))
  refine Aa (Ao ?_)
  refine cQ (fun c6 => ?_) fun c6 => ?_
  ·obtain ⟨x, bj, rfl, aw, g9, ax⟩ := BP.succ ad c6
   rw [BL] at r3
   refine An (Ao ?_)
   refine Am ?_
   refine AO (um (ua (Cj (um (um (um ?_))))))
   obtain ⟨H5, bk, bl, ay, ae, af, aa, ⟨_, _, rfl, ⟨rfl, az⟩, ⟨bm, bn, rfl, ba⟩⟩, ah, ai⟩ := Ax.at (AD (Ca (n := 24) (sz := 1) Bi) (Az (Ad _))) ab ([]) g9.1 aw
   refine uv (AN underlying216 sizeOf223 rfl ae rfl g9) (uv (AL isAgg223 sizeOf223 rfl af aa (By aa ah ai)) ?_)
   obtain ⟨ok, bb, aq⟩ := AI r3
   refine FI rfl al.1 rfl rfl rfl (al.2 _ (AZ.refl _) _ _ _ ⟨_, rfl, ⟨_, _, rfl, ⟨rfl, az⟩, ⟨_, _, rfl, ba⟩⟩⟩ bb) (Aa ?_)
   refine AY rfl (fun aj => ?_) (fun aj => ?_)
   ·have bc := bt aq aj
    refine AO (um (ua (Aa (Al (Ay (Ah (Ah (Ay (Ah ?_)))))))))
    refine Cq results221 ?_
    obtain rfl := AM bc
    exact rfl
   have bg := bf aq aj
   refine An (Au (id := 1) (Ai ?_))
   refine uv (Bd rfl rfl (BP.EP ad c6 (Ax.lt ab))) ?_
   refine um (Aa ?_)
   subst au; exact le kr ⟨_, _, rfl, ax, bg, rfl, rfl, z4⟩
  obtain rfl := BP.zero ad c6
  rw [BL] at r3
  refine AQ (Af (Af ?_))
  refine Av ?_
  exact mi kr ⟨r3, rfl, rfl, (sn _)⟩
 rintro e1 _ _ ⟨ar, rfl, rfl, ak⟩
 refine AA _ ak ?_
 rw [C0] at ar
 refine AO (ua (Aa (Al ?_)))
 refine Cq results221 ?_
 obtain rfl := AM ar
 exact rfl
theorem FT {s_ : List ((List Bool) × (List Int))} {f : ((List Bool) × (List Int)) → Option Bool} (aa : Ax 25 (Cd (JA 24 cB) (Cn 1 (iE .i64))) F B5 B0 s_) (ab : IQ Tryz.prog F Mk Mz Md (XE (Cd (JA 24 cB) (Cn 1 (iE .i64)))) Value.bool f) {r : Bool} (hr : CZ s_ f = some r) :
    Bw Tryz.prog 176 #[.slice B5 s_.length B0, .func (.func Mk) Mz Md] F (.bool r) := by
 refine sp func176 ntmps176 fun K _ _ => ?_
 rw [CZ] at hr
 refine AO (ua (Cj (um (um ?_))))
 obtain ⟨n, h1, r2⟩ := AI hr
 refine cV call221 (GG aa ab h1) (uv (Hn rfl rfl) ?_)
 refine ua (Aa (Al ?_))
 refine Cq results176 ?_
 obtain rfl := AM r2
 exact rfl
end Go.Proofs.YtfmapnhfamoecaaGreat
