/- The walks that this claim needs, printed by a program of mine; part 3. -/
import Derived.Test.YtfmapnhfamoecaaGreatZWNW2
namespace Go.Proofs.YtfmapnhfamoecaaGreat
open Go.SH Go.PL
open Tryz 
variable {NF : (Int × Int) → Option Int} {Hg : Array MapEntry} {KU KT KC Kz K1 K7 Ih Ii : Array Value} {F : FS} {KS KA KZ Ij : FuncId} {B0 Cs hi hour lo m men n Be used : Int} {CJ : List (Int × Int)} {rows : List (List Bool)} {found Ap : List (List Int)} {v : List Bool} {BE AG Cr weights xs : List Int} {GZ Pu PQ MS FF JW A6 Bg J0 AO Bo AN Im Ck AM VR : Nat} {IZ Qt S3 N0 : Nat × Nat} {A7 Bh Ko AL Bn AP Io Cj AK VP : Option Addr} {v1 : Value}
set_option maxHeartbeats 1000000 in
theorem OP {IT : Nat} {B6 : Option Addr} {B3 : Nat} {metal : List Int} {at_ GK hours : Int} (aa : As 1 (iE .u8) F B6 B3 metal) {r r2 : List (List Int)} {r3 : List Int} {r4 r5 : Int} (hr : Hj metal at_ GK men hours = some (r, r2, r3, r4, r5)) :
    SH.Spec Tryz.prog 21 #[.pointer (some ⟨IT, 0, none⟩), .int .i64 men, .int .i64 hours] F [(IT, ce #[.slice B6 metal.length B3, .int .i64 at_, .int .u32 GK] 137)] fun F' L' v => ∃ (ra : Option Addr) (rn : Nat) (rc : Nat) (rL : LH) (po : Option Addr) (pq : Nat) (pr : Nat) (pt : LH) (pv : Option Addr) (pw : Nat) (px : Nat) (py : LH), v = .tuple #[.agg #[.slice ra rn rc, .slice po pq pr], .slice pv pw px] ∧ L' = (IT, ce #[.slice B6 metal.length B3, .int .i64 r4, .int .u32 r5] 137) :: (rL ++ (pt ++ (py ++ []))) ∧ Bd 0 33 1 (BC 1 (iE .i64)) F' ra rn rc r rL ∧ Bd 0 183 1 (BC 1 (iE .i64)) F' po pq pr r2 pt ∧ Bd 0 3 1 (iE .i64) F' pv pw px r3 py := by
 refine sp func21 ntmps21 fun K _ _ => ?_
 rw [Hj] at hr
 refine AJ ?_
 refine Bw rfl zeroValue70 ?_; intro b1 tq
 refine ua (BU ?_)
 refine Bw rfl zeroValue70 ?_; intro b2 tr
 refine Aa ?_
 obtain ⟨ic, de, ab, h9, pz⟩ := GR hr
 refine A5 (fun e1 F1 L1 => ∃ (a3 : Option Addr) (n7 : Nat) (c4 : Nat) (cx : LH), A4 F F1 ∧ L1 = ((IT, ce #[.slice B6 metal.length B3, .int .i64 ic, .int .u32 de] 137) :: ((b2, ce #[.slice a3 n7 c4, .slice none 0 0] 70) :: ((b1, ce #[.slice none 0 0, .slice none 0 0] 70) :: (cx ++ [])))) ∧ e1.sub [(0, .pointer (some ⟨IT, 0, none⟩)), (2, .int .i64 hours), (6, .pointer (some ⟨b1, 0, none⟩)), (8, .pointer (some ⟨b2, 0, none⟩))] ∧ Bd K.w0.heap.size 33 1 (BC 1 (iE .i64)) F1 a3 n7 c4 ab cx) ?_ ?_
 ·clear pz
  refine AJ (um (um ?_))
  obtain ⟨n, lx, ie, rh, ri⟩ := GR h9
  refine ID (Lb := [(IT, ce #[.slice B6 metal.length B3, .int .i64 at_, .int .u32 GK] 137)]) (Lr := [(b2, ce #[.slice none 0 0, .slice none 0 0] 70), (b1, ce #[.slice none 0 0, .slice none 0 0] 70)]) rfl call39 rfl rfl rfl (((fC (fC fO)).trans (pC pR))) (IM aa rh) ?_; rintro _ rj _ ig rk rl ⟨rfl, rfl⟩
  replace aa := aa.mono (Ac _) ig
  refine AI (lb (ln rfl)) ?_
  refine um (Aa ?_)
  refine Ak ?_
  obtain ⟨rm, rp⟩ := A0 ri
  refine Br (fun ld e1 F1 L1 => ∃ (k : Int), EI 0 n k ld ∧ ∃ (cc : Int) (ar : Int) (ae : List (List Int)) (fl : Option Addr) (fm : Nat) (fp : Nat) (bp : LH), D3 metal ld k cc ar ae = some (ic, de, ab) ∧ A4 rj F1 ∧ L1 = ((IT, ce #[.slice B6 metal.length B3, .int .i64 cc, .int .u32 ar] 137) :: ((b2, ce #[.slice fl fm fp, .slice none 0 0] 70) :: ((b1, ce #[.slice none 0 0, .slice none 0 0] 70) :: (bp ++ [])))) ∧ e1.sub [(0, .pointer (some ⟨IT, 0, none⟩)), (2, .int .i64 hours), (6, .pointer (some ⟨b1, 0, none⟩)), (8, .pointer (some ⟨b2, 0, none⟩)), (21, .int .i64 n), (22, .int .i64 k)] ∧ Bd K.w0.heap.size 33 1 (BC 1 (iE .i64)) F1 fl fm fp ae bp) _ (m0 (kc (kc (kc (ke kr)))) ⟨_, EI.start _ _, lx, ie, [], none, 0, 0, [], rp, A4.refl _, rfl, z6, Bd.nil _ _ _ _ _⟩) ?_
  rintro ld e1 ly _ ⟨k, gj, cc, ar, ae, fl, fm, fp, bp, lg, gk, rfl, ma, bq⟩
  refine AB _ ma ?_
  replace aa := aa.mono (Ac _) gk
  refine AJ (uv (Bp rfl rfl) ?_)
  refine Aa (Aq ?_)
  refine cQ (fun lh => ?_) fun lh => ?_
  ·obtain ⟨ld, rfl, mb⟩ := EI.succ gj lh
   rw [D3] at lg
   refine Al ?_
   obtain ⟨fq, cd, aw, rq, q0⟩ := GR lg
   refine A5 (fun e1 F1 L1 => ∃ (lj : Option Addr) (lk : Nat) (lq : Nat) (ei : LH), A4 ly F1 ∧ L1 = ((IT, ce #[.slice B6 metal.length B3, .int .i64 fq, .int .u32 cd] 137) :: ((b2, ce #[.slice lj lk lq, .slice none 0 0] 70) :: ((b1, ce #[.slice none 0 0, .slice none 0 0] 70) :: (ei ++ [])))) ∧ e1.sub [(0, .pointer (some ⟨IT, 0, none⟩)), (2, .int .i64 hours), (6, .pointer (some ⟨b1, 0, none⟩)), (8, .pointer (some ⟨b2, 0, none⟩)), (21, .int .i64 n), (22, .int .i64 k)] ∧ Bd K.w0.heap.size 33 1 (BC 1 (iE .i64)) F1 lj lk lq aw ei) ?_ ?_
   ·clear q0
    refine Ak ?_
    refine AJ (um (ua (BU (ua (Aa ?_)))))
    obtain ⟨ft, cf, l, rr, qb⟩ := GR rq
    refine A5 (fun e1 F1 L1 => ∃ (ij : Option Addr) (ik : Nat) (il : Nat) (df : LH), A4 ly F1 ∧ L1 = ((IT, ce #[.slice B6 metal.length B3, .int .i64 ft, .int .u32 cf] 137) :: ((b2, ce #[.slice fl fm fp, .slice none 0 0] 70) :: ((b1, ce #[.slice none 0 0, .slice none 0 0] 70) :: (bp ++ (df ++ []))))) ∧ e1.sub [(0, .pointer (some ⟨IT, 0, none⟩)), (2, .int .i64 hours), (6, .pointer (some ⟨b1, 0, none⟩)), (8, .pointer (some ⟨b2, 0, none⟩)), (9, .int .i64 k), (10, .slice ij ik il), (21, .int .i64 n), (22, .int .i64 k)] ∧ Bd K.w0.heap.size 3 1 (iE .i64) F1 ij ik il l df) ?_ ?_
    ·clear qb
     refine AJ (um (um (Aa ?_)))
     refine Ak ?_
     obtain ⟨qc, ru⟩ := A0 rr
     refine Br (fun lr e1 F1 L1 => ∃ (k2 : Int), EI 0 k k2 lr ∧ ∃ (dg : Int) (bk : Int) (l2 : List Int) (im : Option Addr) (iq : Nat) (ir : Nat) (dh : LH), DG metal lr k2 dg bk l2 = some (ft, cf, l) ∧ A4 ly F1 ∧ L1 = ((IT, ce #[.slice B6 metal.length B3, .int .i64 dg, .int .u32 bk] 137) :: ((b2, ce #[.slice fl fm fp, .slice none 0 0] 70) :: ((b1, ce #[.slice none 0 0, .slice none 0 0] 70) :: (bp ++ (dh ++ []))))) ∧ e1.sub [(0, .pointer (some ⟨IT, 0, none⟩)), (2, .int .i64 hours), (6, .pointer (some ⟨b1, 0, none⟩)), (8, .pointer (some ⟨b2, 0, none⟩)), (9, .int .i64 k), (10, .slice im iq ir), (21, .int .i64 n), (22, .int .i64 k), (25, .int .i64 k), (26, .int .i64 k2)] ∧ Bd K.w0.heap.size 3 1 (iE .i64) F1 im iq ir l2 dh) _ (m0 (kc (kc (kc (ka (ke kr))))) ⟨_, EI.start _ _, cc, ar, [], none, 0, 0, [], ru, A4.refl _, rfl, (sc rfl (sc rfl z8)), Bd.nil _ _ _ _ _⟩) ?_
     rintro lr e1 tt _ ⟨k2, ej, dg, bk, l2, im, iq, ir, dh, lu, eo, rfl, mc, di⟩
     refine AB _ mc ?_
     replace aa := aa.mono (Ac _) eo
     refine AJ (uv (Bp rfl rfl) ?_)
     refine Aa (Aq ?_)
     refine cQ (fun iu => ?_) fun iu => ?_
     ·obtain ⟨lr, rfl, iv⟩ := EI.succ ej iu
      rw [DG] at lu
      refine Al (Aq ?_)
      refine Ak ?_
      refine AJ (um (ua (BU (um ?_))))
      obtain ⟨ok, iw, fv, ry, qd⟩ := GR lu
      refine cG call66 (Fp aa ry) ?_; rintro _ tu _ gl rz s5 ⟨rfl, rfl⟩
      replace di := di.mono (Ac _) gl
      refine AI (lb (ln rfl)) (Aa ?_)
      refine AX rfl (fun me => ?_) (fun me => ?_)
      ·have s6 := bt qd me
       refine Af (um (um ?_))
       refine bA (cs := #[.int .i64 k2]) Ct [.int .i64 k2] ?_; intro tw s7
       obtain ⟨l3, s8, s9, sa⟩ := Gp s6
       refine Ey (xs := l2) (ys := [k2]) (zs := l3) rfl Ct rfl rfl (Nat.le_refl _) (fun _ => .c (.c (.c (.c (.s .h))))) di (GJ.box (vss := [[.int .i64 k2]]) (ys := [k2]) 0 rfl (Ac _) (.cons rfl .nil) rfl rfl) s8 s9 (by decide) ?_; intro sb sd se mg mh
       refine kO (kd kr) ?_
       refine ua (Aa (At (id := 3) (Af ?_)))
       refine uv (Bf rfl rfl (EI.Ed ej iu qc)) ?_
       refine um (Aa ?_)
       exact le kr ⟨_, iv, iw, fv, l3, sb, sd, se, mg, sa, (eo.trans gl), rfl, (sc rfl (sc rfl z8)), mh⟩
      have sf := bf qd me
      refine Al (At (id := 3) (Af ?_))
      refine uv (Bf rfl rfl (EI.Ed ej iu qc)) ?_
      refine um (Aa ?_)
      exact le kr ⟨_, iv, iw, fv, l2, im, iq, ir, dh, sf, (eo.trans gl), rfl, (sc rfl (sc rfl z8)), di⟩
     obtain rfl := EI.zero ej iu
     rw [DG] at lu
     refine AW (Ae (Ae ?_))
     refine Au ?_
     obtain ⟨rfl, rfl, rfl⟩ := H2 lu
     exact mi kr ⟨im, iq, ir, dh, eo, rfl, z8, di⟩
    rintro e1 sg _ ⟨ij, ik, il, df, gm, rfl, mj, dk⟩
    refine AB _ mj ?_
    replace aa := aa.mono (Ac _) gm
    replace bq := bq.mono (Am (Ac _)) gm
    obtain ⟨iy, ep, l4, sh, qe⟩ := GR qb
    refine A5 (fun e1 F1 L1 => ∃ (ia : Option Addr) (iz : Nat) (ib : Nat) (gn : LH), A4 sg F1 ∧ L1 = ((IT, ce #[.slice B6 metal.length B3, .int .i64 iy, .int .u32 ep] 137) :: ((b2, ce #[.slice fl fm fp, .slice none 0 0] 70) :: ((b1, ce #[.slice none 0 0, .slice none 0 0] 70) :: (bp ++ (gn ++ []))))) ∧ e1.sub [(0, .pointer (some ⟨IT, 0, none⟩)), (2, .int .i64 hours), (6, .pointer (some ⟨b1, 0, none⟩)), (8, .pointer (some ⟨b2, 0, none⟩)), (10, .slice ia iz ib), (21, .int .i64 n), (22, .int .i64 k)] ∧ Bd K.w0.heap.size 3 1 (iE .i64) F1 ia iz ib l4 gn) ?_ ?_
    ·clear qe
     obtain ⟨j0, er, k3, qf, ml⟩ := GR sh
     refine jF (((IT, ce #[.slice B6 metal.length B3, .int .i64 j0, .int .u32 er] 137) :: ((b2, ce #[.slice fl fm fp, .slice none 0 0] 70) :: ((b1, ce #[.slice none 0 0, .slice none 0 0] 70) :: (bp ++ (df ++ [])))))) [(0, .pointer (some ⟨IT, 0, none⟩)), (2, .int .i64 hours), (6, .pointer (some ⟨b1, 0, none⟩)), (8, .pointer (some ⟨b2, 0, none⟩)), (9, .int .i64 k), (10, .slice ij ik il), (21, .int .i64 n), (22, .int .i64 k), (47, .bool k3)] ?_ fun si dm => ?_
     ·clear ml
      refine Af (um ?_)
      refine uv (Jy rfl rfl) (um ?_)
      by_cases eh : 0 < k
      ·have j1 := Bi qf eh
       refine nT eh (um (nT eh ?_))
       refine uv ((A2 underlying33 rfl).i (Bd.KW dk)) (nT eh (uv (Cx rfl rfl) (uv (AS (Bq rfl eh) rfl) (um ?_))))
       by_cases bb : (l.length : Int) = 0
       ·have mn := Bi j1 bb
        refine nT bb (um (nT bb ?_))
        obtain ⟨tx, sj, qg, mo, mq⟩ := GR mn
        refine cG call66 (Fp aa mo) ?_; rintro _ sk _ j2 qh qi ⟨rfl, rfl⟩
        refine AI (lb (ln rfl)) (nT bb (uv (BB rfl) (uv (AS (Bq rfl bb) rfl) (Aa ?_))))
        obtain ⟨rfl, rfl, rfl⟩ := H2 mq
        exact mi kr ⟨j2, rfl, (sc rfl z8)⟩
       have mr := Bk j1 bb
       refine fF bb (fF bb (fF bb ?_))
       refine uv (AE (Bc rfl bb) rfl) (Aa ?_)
       obtain ⟨rfl, rfl, rfl⟩ := H2 mr
       exact mi kr ⟨A4.refl _, rfl, (sc rfl z8)⟩
      have mu := Bk qf eh
      refine fF eh (fF eh (fF eh ?_))
      refine uv (AE (Bc rfl eh) rfl) ?_
      refine um (Ay (b' := false) 43 rfl rfl rfl rfl (Ay (b' := false) 43 rfl rfl rfl rfl (Ay (b' := false) 43 rfl rfl rfl rfl ?_)))
      refine uv (AE rfl rfl) (Aa ?_)
      obtain ⟨rfl, rfl, rfl⟩ := H2 mu
      exact mi kr ⟨A4.refl _, rfl, (sc rfl z8)⟩
     replace dk := dk.mono (Ac _) dm
     refine AX rfl (fun gp => ?_) (fun gp => ?_)
     ·have mv := bt ml gp
      refine Af (um (um ?_))
      obtain ⟨mw, mx⟩ := A0 mv
      refine uv (Fs rfl rfl mw) ?_
      refine bA (cs := #[.int .i64 (k - 1)]) Ct [.int .i64 (k - 1)] ?_; intro sq qj
      obtain ⟨l5, my, mz, na⟩ := Gp mx
      refine Ey (xs := l) (ys := [k - 1]) (zs := l5) rfl Ct rfl rfl (Nat.le_refl _) (fun _ => .c (.c (.c (.c (.s .h))))) dk (GJ.box (vss := [[.int .i64 (k - 1)]]) (ys := [k - 1]) 0 rfl (Ac _) (.cons rfl .nil) rfl rfl) my mz (by decide) ?_; intro nc nf ng j3 j4
      refine kO (kd kr) ?_
      refine ua (Aa ?_)
      obtain ⟨rfl, rfl, rfl⟩ := H2 na
      exact mi kr ⟨nc, nf, ng, j3, dm, rfl, z7, j4⟩
     have nh := bf ml gp
     refine Al ?_
     obtain ⟨rfl, rfl, rfl⟩ := H2 nh
     exact mi kr ⟨ij, ik, il, df, dm, rfl, z7, dk⟩
    rintro e1 ss _ ⟨ia, iz, ib, gn, fw, rfl, j5, j6⟩
    refine AB _ j5 ?_
    replace bq := bq.mono (Am (Ac _)) fw
    refine Af (uv (Ab FA rfl) (uv (Ah isAgg36 rfl (Has.own 1 rfl) rfl) (um ?_)))
    refine bA (cs := #[.slice ia iz ib]) LF [.slice ia iz ib] ?_; intro su qk
    obtain rfl := (Bd.Dx j6).1
    refine DF (Nat.le_refl _) (Ac _) (fC (fC (fC (fC (fS fP))))) j6 ?_; intro sv fx ni
    replace bq := bq.mono (Am (Ac _)) fx
    obtain ⟨w, nj, nk, nn⟩ := Gp qe
    refine Ey (xs := ae) (ys := [l4]) (zs := w) rfl LF rfl rfl (Nat.le_refl _) (fun _ => .c (.c (.c (.c .h)))) bq (GJ.box (vss := [[.slice ia l4.length ib]]) (ys := [l4]) 0 rfl (Am (Ac _)) (.cons ⟨_, _, rfl, ni⟩ .nil) rfl rfl) nj nk (by decide) ?_; intro np nq nr j7 j8
    refine kO (kd kr) (uv (Ab FA rfl) (B4 (i := 1) sizeOf36 rfl rfl rfl rfl (CB rfl) (AI rfl ?_)))
    refine Aa (At (id := 1) ?_)
    obtain ⟨rfl, rfl, rfl⟩ := H2 nn
    exact mi kr ⟨np, nq, nr, j7, ((gm.trans fw).trans fx), rfl, z6, j8⟩
   rintro e1 sw _ ⟨lj, lk, lq, ei, j9, rfl, ja, ns⟩
   refine AB _ ja (Af (uv (Bf rfl rfl (EI.Ed gj lh rm)) ?_))
   refine um (Aa ?_)
   exact le kr ⟨_, mb, fq, cd, aw, lj, lk, lq, ei, q0, (gk.trans j9), rfl, z6, ns⟩
  obtain rfl := EI.zero gj lh
  rw [D3] at lg
  refine AW (Ae (Ae ?_))
  refine Au ?_
  obtain ⟨rfl, rfl, rfl⟩ := H2 lg
  exact mi kr ⟨fl, fm, fp, bp, (ig.trans gk), rfl, z4, bq⟩
 rintro e1 nt _ ⟨a3, n7, c4, cx, jb, rfl, jc, au⟩
 refine AB _ jc ?_
 replace aa := aa.mono (Ac _) jb
 refine AJ (ua (BU (ua (Aa ?_))))
 obtain ⟨cg, real, fy, cj, nu, jd⟩ := Ng pz
 refine A5 (fun e1 F1 L1 => ∃ (et : Option Addr) (eu : Nat) (ew : Nat) (dn : LH) (gq : Option Addr) (gr : Nat) (gu : Nat) (dp : LH), A4 nt F1 ∧ L1 = ((IT, ce #[.slice B6 metal.length B3, .int .i64 fy, .int .u32 cj] 137) :: ((b2, ce #[.slice a3 n7 c4, .slice et eu ew] 70) :: ((b1, ce #[.slice none 0 0, .slice none 0 0] 70) :: (cx ++ (dn ++ (dp ++ [])))))) ∧ e1.sub [(6, .pointer (some ⟨b1, 0, none⟩)), (8, .pointer (some ⟨b2, 0, none⟩)), (13, .slice gq gr gu)] ∧ Bd K.w0.heap.size 183 1 (BC 1 (iE .i64)) F1 et eu ew cg dn ∧ Bd K.w0.heap.size 3 1 (iE .i64) F1 gq gr gu real dp) ?_ ?_
 ·clear jd
  refine AJ (um (um ?_))
  obtain ⟨n2, nv, je, nw, ny⟩ := GR nu
  refine cG call39 (IM aa nw) ?_; rintro _ nz _ dq ql qn ⟨rfl, rfl⟩
  replace aa := aa.mono (Ac _) dq
  replace au := au.mono (Am (Ac _)) dq
  refine AI (lb (ln rfl)) ?_
  refine um (Aa ?_)
  refine Ak ?_
  obtain ⟨o2, o3⟩ := A0 ny
  refine Br (fun lv e1 F1 L1 => ∃ (k4 : Int), EI 0 n2 k4 lv ∧ ∃ (ck : Int) (av : Int) (ai : List (List Int)) (B0 : Int) (cn : List Int) (ax : Option Addr) (ay : Nat) (az : Nat) (af : LH) (bc : Option Addr) (bd : Nat) (bg : Nat) (ah : LH), Ea metal ab lv ck av ai B0 cn = some (cg, real, fy, cj) ∧ A4 nz F1 ∧ L1 = ((IT, ce #[.slice B6 metal.length B3, .int .i64 ck, .int .u32 av] 137) :: ((b2, ce #[.slice a3 n7 c4, .slice ax ay az] 70) :: ((b1, ce #[.slice none 0 0, .slice none 0 0] 70) :: (cx ++ (af ++ (ah ++ [])))))) ∧ e1.sub [(0, .pointer (some ⟨IT, 0, none⟩)), (6, .pointer (some ⟨b1, 0, none⟩)), (8, .pointer (some ⟨b2, 0, none⟩)), (12, .int .i64 B0), (13, .slice bc bd bg), (62, .int .i64 n2), (63, .int .i64 k4)] ∧ Bd K.w0.heap.size 183 1 (BC 1 (iE .i64)) F1 ax ay az ai af ∧ Bd K.w0.heap.size 3 1 (iE .i64) F1 bc bd bg cn ah) _ (m0 (kc (kc (kc (ka (ke (ke kr)))))) ⟨_, EI.start _ _, nv, je, [], 0, [], none, 0, 0, [], none, 0, 0, [], o3, A4.refl _, rfl, z7, Bd.nil _ _ _ _ _, Bd.nil _ _ _ _ _⟩) ?_
  rintro lv e1 jf _ ⟨k4, dr, ck, av, ai, B0, cn, ax, ay, az, af, bc, bd, bg, ah, ey, cp, rfl, jg, ao, aq⟩
  refine AB _ jg ?_
  replace aa := aa.mono (Ac _) cp
  replace au := au.mono (Am (Ac _)) cp
  refine AJ (uv (Bp rfl rfl) ?_)
  refine Aa (Aq ?_)
  refine cQ (fun ez => ?_) fun ez => ?_
  ·obtain ⟨lv, rfl, jh⟩ := EI.succ dr ez
   rw [Ea] at ey
   refine Al ?_
   obtain ⟨dt, br, bu, cq, g0, o4, ji⟩ := Rq ey
   refine A5 (fun e1 F1 L1 => ∃ (fa : Option Addr) (fb : Nat) (fe : Nat) (cr : LH) (ff : Option Addr) (fg : Nat) (fh : Nat) (ct : LH), A4 jf F1 ∧ L1 = ((IT, ce #[.slice B6 metal.length B3, .int .i64 dt, .int .u32 br] 137) :: ((b2, ce #[.slice a3 n7 c4, .slice fa fb fe] 70) :: ((b1, ce #[.slice none 0 0, .slice none 0 0] 70) :: (cx ++ (cr ++ (ct ++ [])))))) ∧ e1.sub [(0, .pointer (some ⟨IT, 0, none⟩)), (6, .pointer (some ⟨b1, 0, none⟩)), (8, .pointer (some ⟨b2, 0, none⟩)), (12, .int .i64 cq), (13, .slice ff fg fh), (62, .int .i64 n2), (63, .int .i64 k4)] ∧ Bd K.w0.heap.size 183 1 (BC 1 (iE .i64)) F1 fa fb fe bu cr ∧ Bd K.w0.heap.size 3 1 (iE .i64) F1 ff fg fh g0 ct) ?_ ?_
   ·clear ji
    refine Ak ?_
    obtain ⟨bl, aj, ad, o7, jj⟩ := GR o4
    refine jF (((IT, ce #[.slice B6 metal.length B3, .int .i64 bl, .int .u32 aj] 137) :: ((b2, ce #[.slice a3 n7 c4, .slice ax ay az] 70) :: ((b1, ce #[.slice none 0 0, .slice none 0 0] 70) :: (cx ++ (af ++ (ah ++ []))))))) [(0, .pointer (some ⟨IT, 0, none⟩)), (6, .pointer (some ⟨b1, 0, none⟩)), (8, .pointer (some ⟨b2, 0, none⟩)), (12, .int .i64 ad), (13, .slice bc bd bg), (62, .int .i64 n2), (63, .int .i64 k4)] ?_ fun jk bw => ?_
    ·clear jj
     refine AJ (uv (Ab FA rfl) (uv (Ah isAgg36 rfl (Has.own 1 rfl) rfl) (uv ((A2 underlying36 rfl).i (Bd.KW au)) ?_)))
     refine um (Aa ?_)
     refine Ak ?_
     refine Br (fun qo e1 F1 L1 => LA ab qo fun tl k5 => ∃ (cb : Int) (ba : Int) (ak : Int), DE metal tl k5 cb ba ak = some (bl, aj, ad) ∧ A4 jf F1 ∧ L1 = ((IT, ce #[.slice B6 metal.length B3, .int .i64 cb, .int .u32 ba] 137) :: ((b2, ce #[.slice a3 n7 c4, .slice ax ay az] 70) :: ((b1, ce #[.slice none 0 0, .slice none 0 0] 70) :: (cx ++ (af ++ (ah ++ [])))))) ∧ e1.sub [(0, .pointer (some ⟨IT, 0, none⟩)), (6, .pointer (some ⟨b1, 0, none⟩)), (8, .pointer (some ⟨b2, 0, none⟩)), (12, .int .i64 ak), (13, .slice bc bd bg), (62, .int .i64 n2), (63, .int .i64 k4), (67, .int .i64 (ab.length : Int)), (68, .int .i64 k5)]) _ (m0 kr ⟨_, _, rfl, BI.start _, ck, av, B0, o7, A4.refl _, rfl, (sc rfl z8)⟩) ?_
     rintro qo e1 sx _ ⟨tl, k5, ga, cu, cb, ba, ak, fi, bx, rfl, jl⟩
     refine AB _ jl ?_
     replace aa := aa.mono (Ac _) bx
     replace au := au.mono (Am (Ac _)) bx
     refine AJ (uv (Bp rfl rfl) ?_)
     refine Aa (Aq ?_)
     refine cQ (fun du => ?_) fun du => ?_
     ·obtain ⟨x, tz, rfl, qp, sy, gb⟩ := BI.succ cu du
      rw [DE] at fi
      refine Al (Aq ?_)
      refine Ak ?_
      refine AJ (um (ua (BU (um ?_))))
      obtain ⟨u0, jm, gg, o8, jn⟩ := GR fi
      refine cG call66 (Fp aa o8) ?_; rintro _ ta _ dv qq qs ⟨rfl, rfl⟩
      replace au := au.mono (Am (Ac _)) dv
      refine AI (lb (ln rfl)) (Aa ?_)
      refine AX rfl (fun gv => ?_) (fun gv => ?_)
      ·have o9 := bt jn gv
       refine Af (um (um ?_))
       obtain ⟨oc, od⟩ := A0 o9
       refine uv (Oy rfl rfl oc) (uv (XE rfl rfl) ?_)
       refine ua (Aa (At (id := 7) (Af ?_)))
       refine uv (Bf rfl rfl (BI.Ed cu du (Bd.UW au))) ?_
       refine um (Aa ?_)
       subst ga; exact le kr ⟨_, _, rfl, gb, jm, gg, UK ak (shl 1 k5), od, (bx.trans dv), rfl, (sc rfl z8)⟩
      have oe := bf jn gv
      refine Al (At (id := 7) (Af ?_))
      refine uv (Bf rfl rfl (BI.Ed cu du (Bd.UW au))) ?_
      refine um (Aa ?_)
      subst ga; exact le kr ⟨_, _, rfl, gb, jm, gg, ak, oe, (bx.trans dv), rfl, (sc rfl z8)⟩
     obtain rfl := BI.zero cu du
     rw [DE] at fi
     refine AW (Ae (Ae ?_))
     refine Au ?_
     obtain ⟨rfl, rfl, rfl⟩ := H2 fi
     exact mi kr ⟨bx, rfl, z7⟩
    replace aa := aa.mono (Ac _) bw
    replace au := au.mono (Am (Ac _)) bw
    replace ao := ao.mono (Am (Ac _)) bw
    replace aq := aq.mono (Ac _) bw
    refine AJ (uv (Ab FA rfl) (uv (Ah isAgg36 rfl (Has.own 1 rfl) rfl) (um ?_)))
    obtain ⟨n3, og, oh⟩ := AF jj
    refine JK (Lt := cx ++ []) (Lr := (IT, ce #[.slice B6 metal.length B3, .int .i64 bl, .int .u32 aj] 137) :: ((b2, ce #[.slice a3 n7 c4, .slice ax ay az] 70) :: ((b1, ce #[.slice none 0 0, .slice none 0 0] 70) :: (af ++ (ah ++ []))))) rfl call67 rfl rfl rfl (pT ((fC (fC (fC fP))).trans (pA pR)) (lp (ln rfl))) (fun F2 h2 h3 => by rw [(Bd.Dx au).1]; exact Px (au.row (Am (Ac _)) h2 (fun p hp => h3 p (List.mem_append_left _ hp))) og) ?_
    refine ua (BU (ua (Aa ?_)))
    obtain ⟨dw, bz, marks, oi, jo⟩ := GR oh
    refine A5 (fun e1 F1 L1 => ∃ (cy : Option Addr) (dx : Nat) (cz : Nat) (dy : LH), A4 jk F1 ∧ L1 = ((IT, ce #[.slice B6 metal.length B3, .int .i64 dw, .int .u32 bz] 137) :: ((b2, ce #[.slice a3 n7 c4, .slice ax ay az] 70) :: ((b1, ce #[.slice none 0 0, .slice none 0 0] 70) :: (cx ++ (af ++ (ah ++ (dy ++ []))))))) ∧ e1.sub [(0, .pointer (some ⟨IT, 0, none⟩)), (6, .pointer (some ⟨b1, 0, none⟩)), (8, .pointer (some ⟨b2, 0, none⟩)), (12, .int .i64 ad), (13, .slice bc bd bg), (16, .slice cy dx cz), (62, .int .i64 n2), (63, .int .i64 k4)] ∧ Bd K.w0.heap.size 91 1 (iE .i64) F1 cy dx cz marks dy) ?_ ?_
    ·clear jo
     refine AJ (uv (Ab FA rfl) (uv (Ah isAgg36 rfl (Has.own 1 rfl) rfl) (uv ((A2 underlying36 rfl).i (Bd.KW au)) ?_)))
     refine um (Aa ?_)
     refine Ak ?_
     refine Br (fun qt e1 F1 L1 => LA ab qt fun qu k6 => ∃ (bn : Int) (al : Int) (bo : List Int) (da : Option Addr) (db : Nat) (dd : Nat) (bj : LH), DC metal n3 qu k6 bn al bo = some (dw, bz, marks) ∧ A4 jk F1 ∧ L1 = ((IT, ce #[.slice B6 metal.length B3, .int .i64 bn, .int .u32 al] 137) :: ((b2, ce #[.slice a3 n7 c4, .slice ax ay az] 70) :: ((b1, ce #[.slice none 0 0, .slice none 0 0] 70) :: (cx ++ (af ++ (ah ++ (bj ++ []))))))) ∧ e1.sub [(0, .pointer (some ⟨IT, 0, none⟩)), (6, .pointer (some ⟨b1, 0, none⟩)), (8, .pointer (some ⟨b2, 0, none⟩)), (12, .int .i64 ad), (13, .slice bc bd bg), (15, .int .i64 n3), (16, .slice da db dd), (62, .int .i64 n2), (63, .int .i64 k4), (84, .int .i64 (ab.length : Int)), (85, .int .i64 k6)] ∧ Bd K.w0.heap.size 91 1 (iE .i64) F1 da db dd bo bj) _ (m0 (kc (kc (kc (ka (ka (ka (ke kr))))))) ⟨_, _, rfl, BI.start _, bl, aj, [], none, 0, 0, [], oi, A4.refl _, rfl, (sc rfl (sc rfl (sc rfl z8))), Bd.nil _ _ _ _ _⟩) ?_
     rintro qt e1 tc _ ⟨qu, k6, jq, dz, bn, al, bo, da, db, dd, bj, fj, cv, rfl, jr, cw⟩
     refine AB _ jr ?_
     replace aa := aa.mono (Ac _) cv
     replace au := au.mono (Am (Ac _)) cv
     refine AJ (uv (Bp rfl rfl) ?_)
     refine Aa (Aq ?_)
     refine cQ (fun fk => ?_) fun fk => ?_
     ·obtain ⟨x2, u1, rfl, qw, td, js⟩ := BI.succ dz fk
      rw [DC] at fj
      refine Al (Aq ?_)
      refine Ak ?_
      refine AJ (um (ua (BU (ua (Aa ?_)))))
      obtain ⟨m, oj, jt⟩ := AF fj
      refine jE (((IT, ce #[.slice B6 metal.length B3, .int .i64 bn, .int .u32 al] 137) :: ((b2, ce #[.slice a3 n7 c4, .slice ax ay az] 70) :: ((b1, ce #[.slice none 0 0, .slice none 0 0] 70) :: (cx ++ (af ++ (ah ++ (bj ++ [])))))))) [(0, .pointer (some ⟨IT, 0, none⟩)), (6, .pointer (some ⟨b1, 0, none⟩)), (8, .pointer (some ⟨b2, 0, none⟩)), (12, .int .i64 ad), (13, .slice bc bd bg), (15, .int .i64 n3), (16, .slice da db dd), (18, .int .i64 m), (62, .int .i64 n2), (63, .int .i64 k4), (84, .int .i64 (ab.length : Int)), (85, .int .i64 k6)] ?_ ?_
      ·clear jt
       refine AJ (um (um ?_))
       obtain ⟨oo, ju⟩ := A0 oj
       refine uv (Jh rfl rfl oo) (uv (KB rfl rfl) (uv (Cx rfl rfl) (Aa ?_)))
       refine cQ (fun gw => ?_) fun gw => ?_
       ·have oq := Bi ju gw
        refine Af (ua (Aa ?_))
        obtain rfl := AH oq
        exact mi kr ⟨rfl, rfl, (sc rfl (sc rfl (sc rfl (sc rfl z8))))⟩
       have ot := Bk ju gw
       refine Al ?_
       obtain rfl := AH ot
       exact mi kr ⟨rfl, rfl, (sc rfl (sc rfl (sc rfl (sc rfl z8))))⟩
      obtain ⟨e9, ca, m2, ou, jv⟩ := GR jt
      refine jF (((IT, ce #[.slice B6 metal.length B3, .int .i64 e9, .int .u32 ca] 137) :: ((b2, ce #[.slice a3 n7 c4, .slice ax ay az] 70) :: ((b1, ce #[.slice none 0 0, .slice none 0 0] 70) :: (cx ++ (af ++ (ah ++ (bj ++ [])))))))) [(0, .pointer (some ⟨IT, 0, none⟩)), (6, .pointer (some ⟨b1, 0, none⟩)), (8, .pointer (some ⟨b2, 0, none⟩)), (12, .int .i64 ad), (13, .slice bc bd bg), (15, .int .i64 n3), (16, .slice da db dd), (18, .int .i64 m2), (62, .int .i64 n2), (63, .int .i64 k4), (84, .int .i64 (ab.length : Int)), (85, .int .i64 k6)] ?_ fun te eb => ?_
      ·clear jv
       refine AJ (um ?_)
       obtain ⟨u2, tf, qx, ow, jw⟩ := GR ou
       refine cG call66 (Fp aa ow) ?_; rintro _ tg _ gh qy qz ⟨rfl, rfl⟩
       refine AI (lb (ln rfl)) (Aa ?_)
       refine AX rfl (fun gz => ?_) (fun gz => ?_)
       ·have oy := bt jw gz
        refine Af (ua (Aa ?_))
        obtain ⟨rfl, rfl, rfl⟩ := H2 oy
        exact mi kr ⟨gh, rfl, (sc rfl (sc rfl (sc rfl (sc rfl z8))))⟩
       have oz := bf jw gz
       refine Al ?_
       obtain ⟨rfl, rfl, rfl⟩ := H2 oz
       exact mi kr ⟨gh, rfl, (sc rfl (sc rfl (sc rfl (sc rfl z8))))⟩
      replace au := au.mono (Am (Ac _)) eb
      replace cw := cw.mono (Ac _) eb
      refine Af (um (um ?_))
      refine bA (cs := #[.int .i64 m2]) PW [.int .i64 m2] ?_; intro th r0
      obtain ⟨ec, p0, p3, p4⟩ := Gp jv
      refine Ey (xs := bo) (ys := [m2]) (zs := ec) rfl PW rfl rfl (Nat.le_refl _) (fun _ => .c (.c (.c (.c (.s (.s (.s .h))))))) cw (GJ.box (vss := [[.int .i64 m2]]) (ys := [m2]) 0 rfl (Ac _) (.cons rfl .nil) rfl rfl) p0 p3 (by decide) ?_; intro p5 p6 p7 jx jz
      refine kO (kd kr) ?_
      refine ua (Aa (At (id := 9) (Af ?_)))
      refine uv (Bf rfl rfl (BI.Ed dz fk (Bd.UW au))) ?_
      refine um (Aa ?_)
      subst jq; exact le kr ⟨_, _, rfl, js, e9, ca, ec, p5, p6, p7, jx, p4, (cv.trans eb), rfl, (sc rfl (sc rfl (sc rfl z8))), jz⟩
     obtain rfl := BI.zero dz fk
     rw [DC] at fj
     refine AW (Ae (Ae ?_))
     refine Au ?_
     obtain ⟨rfl, rfl, rfl⟩ := H2 fj
     exact mi kr ⟨da, db, dd, bj, cv, rfl, z8, cw⟩
    rintro e1 ti _ ⟨cy, dx, cz, dy, ef, rfl, k7, gi⟩
    refine AB _ k7 ?_
    replace ao := ao.mono (Am (Ac _)) ef
    replace aq := aq.mono (Ac _) ef
    refine Af (uv (Ab Gq rfl) (uv (Ah isAgg68 rfl (Has.own 1 rfl) rfl) (um ?_)))
    refine bA (cs := #[.slice cy dx cz]) Tu [.slice cy dx cz] ?_; intro tj re
    obtain rfl := (Bd.Dx gi).1
    refine DF (Nat.le_refl _) (Ac _) (fC (fC (fC (fC (fS (fS (fS fP))))))) gi ?_; intro tk eg p8
    replace ao := ao.mono (Am (Ac _)) eg
    replace aq := aq.mono (Ac _) eg
    obtain ⟨w2, p9, pa, pb⟩ := Gp jo
    refine Ey (xs := ai) (ys := [marks]) (zs := w2) rfl Tu rfl rfl (Nat.le_refl _) (fun _ => .c (.c (.c (.c (.s .h))))) ao (GJ.box (vss := [[.slice cy marks.length cz]]) (ys := [marks]) 0 rfl (Am (Ac _)) (.cons ⟨_, _, rfl, p8⟩ .nil) rfl rfl) p9 pa (by decide) ?_; intro pc pd pe k8 k9
    refine kO (kd kr) ?_
    refine um (um ?_)
    refine bA (cs := #[.int .i64 ad]) Ct [.int .i64 ad] ?_; intro tm rf
    obtain ⟨kb, pf, pg, ph⟩ := Gp pb
    refine Ey (xs := cn) (ys := [ad]) (zs := kb) rfl Ct rfl rfl (Nat.le_refl _) (fun _ => .c (.c (.c (.c (.s (.s .h)))))) aq (GJ.box (vss := [[.int .i64 ad]]) (ys := [ad]) 0 rfl (Ac _) (.cons rfl .nil) rfl rfl) pf pg (by decide) ?_; intro pj pk pn kh kj
    refine kO (kd kr) (uv (Ab Gq rfl) (B4 (i := 1) sizeOf68 rfl rfl rfl rfl (CB rfl) (AI rfl ?_)))
    refine ua (Aa (At (id := 5) ?_))
    obtain ⟨rfl, rfl, rfl, rfl, rfl⟩ := V6 ph
    exact mi kr ⟨pc, pd, pe, k8, pj, pk, pn, kh, ((bw.trans ef).trans eg), rfl, z7, k9, kj⟩
   rintro e1 tn _ ⟨fa, fb, fe, cr, ff, fg, fh, ct, kl, rfl, km, ko, kt⟩
   refine AB _ km (Af (uv (Bf rfl rfl (EI.Ed dr ez o2)) ?_))
   refine um (Aa ?_)
   exact le kr ⟨_, jh, dt, br, bu, cq, g0, fa, fb, fe, cr, ff, fg, fh, ct, ji, (cp.trans kl), rfl, z7, ko, kt⟩
  obtain rfl := EI.zero dr ez
  rw [Ea] at ey
  refine AW (Ae (Ae ?_))
  refine Au ?_
  obtain ⟨rfl, rfl, rfl, rfl⟩ := S7 ey
  exact mi kr ⟨ax, ay, az, af, bc, bd, bg, ah, (dq.trans cp), rfl, z3, ao, aq⟩
 rintro e1 tp _ ⟨et, eu, ew, dn, gq, gr, gu, dp, ku, rfl, kv, kz, l0⟩
 refine AB _ kv ?_
 replace au := au.mono (Am (Ac _)) ku
 refine AJ (uv (A1 isAgg70 sizeOf70 rfl (Has.own 1 rfl) (CB rfl) rfl) (um (BP (i := 2) sizeOf70 rfl rfl rfl (by simp [Value.oneCell']) rfl (CB rfl) (AI rfl ?_))))
 refine ua (Aa ?_)
 refine kW (kf (fC (fC fO)) (kc (kd kr))) (Aj (Dv results21 (DI (cs := #[.slice a3 n7 c4, .slice et eu ew]) isAgg70 sizeOf70 rfl (Has.own 0 rfl) (CB rfl) rfl) (AY rfl) (s1 (s2 (s4 (s4 (s4 sr))))) ?_))
 obtain ⟨rfl, rfl, rfl, rfl, rfl⟩ := V6 jd
 exact ⟨_, _, _, _, _, _, _, _, _, _, _, _, rfl, rfl, au.any, kz.any, l0.any⟩
theorem GP {hours : List (List Int)} {v2 : Value} (aa : F GZ = some (.cells #[.slice AL Ap.length AO, .slice Bh hours.length Bg, v1, v2] 192 IZ)) (_h_listens : As 1 (BC 1 (iE .i64)) F AL AO Ap) (_h_hours : As 1 (BC 1 (iE .i64)) F Bh Bg hours) {r : Int} (hr : Dk Ap hours = some r) :
    Bl Tryz.prog 70 #[.pointer (some ⟨GZ, 0, none⟩)] F (.int .i64 r) := by
 refine sp func70 ntmps70 fun K _ _ => ?_
 rw [Dk] at hr
 refine AJ (ua (BU (um ?_)))
 refine uv (AV rfl) (uv (Ab Qm rfl) (uv (Ab FA rfl) (uv (Ah isAgg36 rfl (Has.frozen aa) rfl) (uv (A2 underlying36 rfl) ?_))))
 obtain ⟨g3, r4⟩ := A0 hr
 refine uv (Oy rfl rfl g3) ?_
 refine ua (Aa (Aj ?_))
 refine BZ results70 ?_
 obtain rfl := AH r4
 exact rfl
theorem H5 {r : Bool} (hr : G6 n lo hi = some r) :
    Bl Tryz.prog 81 #[.int .i64 n, .int .i64 lo, .int .i64 hi] F (.bool r) := by
 refine sp func81 ntmps81 fun K _ _ => ?_
 rw [G6] at hr
 refine AJ (ua (BU (um (um ?_))))
 refine uv (FX rfl rfl) (um ?_)
 by_cases c1 : lo ≤ n
 ·have r2 := Bi hr c1
  refine nT c1 (um (nT c1 (um (nT c1 ?_))))
  refine uv (Kg rfl rfl) (uv (AS (Bq rfl c1) rfl) ?_)
  refine ua (Aa (Aj ?_))
  refine BZ results81 ?_
  obtain rfl := AH r2
  exact rfl
 have r3 := Bk hr c1
 refine fF c1 (fF c1 (fF c1 ?_))
 refine uv (AE (Bc rfl c1) rfl) ?_
 refine ua (Aa (Aj ?_))
 refine BZ results81 ?_
 obtain rfl := AH r3
 exact rfl
set_option maxHeartbeats 1000000 in
theorem GI {s_ : List (List Int)} {f : (List Int) → Option Bool} (aa : As 1 (BC 1 (iE .i64)) F Cj Ck s_) (aj : Gk Tryz.prog F KS KU KT (BC 1 (iE .i64)) Value.bool f) {r : Int} (hr : Cw s_ f = some r) :
    Bl Tryz.prog 236 #[.slice Cj s_.length Ck, .func (.func KS) KU KT] F (.int .i64 r) := by
 refine sp func236 ntmps236 fun K _ _ => ?_
 rw [Cw] at hr
 refine AJ (ua (Aa ?_))
 refine A5 (fun e1 F1 L1 => CY = some r ∧ F = F1 ∧ L1 = [] ∧ e1.sub []) ?_ ?_
 ·refine AJ (um ?_)
  refine uv (A2 underlying68 rfl) ?_
  refine um (Aa ?_)
  refine Ak ?_
  refine Br (fun ak e1 F1 L1 => LA s_ ak fun tl k => Bu f tl k = some r ∧ F = F1 ∧ L1 = [] ∧ e1.sub [(0, .slice Cj s_.length Ck), (1, .func (.func KS) KU KT), (7, .int .i64 (s_.length : Int)), (8, .int .i64 k)]) _ (m0 kr ⟨_, _, rfl, BI.start _, hr, rfl, rfl, z4⟩) ?_
  rintro ak e1 _ _ ⟨tl, k, ar, ab, r3, rfl, rfl, au⟩
  refine AB _ au (AJ (uv (Bp rfl rfl) ?_))
  refine Aa (Aq ?_)
  refine cQ (fun c6 => ?_) fun c6 => ?_
  ·obtain ⟨x, bd, rfl, av, g9, aw⟩ := BI.succ ab c6
   rw [Bu] at r3
   refine Al (Aq ?_)
   refine Ak ?_
   refine AJ (um (ua (BU (um (um (um ?_))))))
   obtain ⟨Jn, bg, bj, ax, ad, ae, al, ⟨bk, bl, rfl, ay⟩, az, af⟩ := As.at (Am (Ac _)) aa ([]) g9.1 av
   refine uv (AT underlying68 sizeOf183 rfl ad rfl g9) (uv (Ah isAgg183 rfl ae (af 0 (by decide))) ?_)
   obtain ⟨ok, ba, ao⟩ := AF r3
   refine D2 rfl aj.1 rfl rfl rfl (aj.2 _ (A4.refl _) _ _ _ ⟨_, _, rfl, ay⟩ ba) (Aa ?_)
   refine AX rfl (fun ah => ?_) (fun ah => ?_)
   ·have bb := bt ao ah
    refine AJ (um (ua (Aa (Aj (AD (Ai (Ai (AD (Ai ?_)))))))))
    refine BZ results236 ?_
    obtain rfl := AH bb
    exact rfl
   have bc := bf ao ah
   refine Al (At (id := 1) (Af ?_))
   refine uv (Bf rfl rfl (BI.Ed ab c6 (As.lt aa))) ?_
   refine um (Aa ?_)
   subst ar; exact le kr ⟨_, _, rfl, aw, bc, rfl, rfl, z4⟩
  obtain rfl := BI.zero ab c6
  rw [Bu] at r3
  refine AW (Ae (Ae ?_))
  refine Au ?_
  exact mi kr ⟨r3, rfl, rfl, (sn _)⟩
 rintro e1 _ _ ⟨aq, rfl, rfl, ai⟩
 refine AB _ ai ?_
 rw [CY] at aq
 refine AJ (ua (Aa (Aj ?_)))
 refine BZ results236 ?_
 obtain rfl := AH aq
 exact rfl
theorem Gl {s_ : List (List Int)} {f : (List Int) → Option Bool} (aa : As 1 (BC 1 (iE .i64)) F Cj Ck s_) (ab : Gk Tryz.prog F KS KU KT (BC 1 (iE .i64)) Value.bool f) {r : Bool} (hr : Cg s_ f = some r) :
    Bl Tryz.prog 204 #[.slice Cj s_.length Ck, .func (.func KS) KU KT] F (.bool r) := by
 refine sp func204 ntmps204 fun K _ _ => ?_
 rw [Cg] at hr
 refine AJ (ua (BU (um (um ?_))))
 obtain ⟨n, h1, r2⟩ := AF hr
 refine cV call236 (GI aa ab h1) (uv (FX rfl rfl) ?_)
 refine ua (Aa (Aj ?_))
 refine BZ results204 ?_
 obtain rfl := AH r2
 exact rfl
theorem Kv {x : List Int} {so : (List Int) → Option Bool} (ad : As 1 (iE .i64) F VP VR x) (aa : F MS = some (.cells #[.func (.func Ij) Ih Ii] 296 N0)) (ab : Gk Tryz.prog F Ij Ih Ii (BC 1 (iE .i64)) Value.bool so) {r : Bool} (hr : C0 x so = some r) :
    Bl Tryz.prog 205 #[.slice VP x.length VR, .pointer (some ⟨MS, 0, none⟩)] F (.bool r) := by
 refine sp func205 ntmps205 fun K _ _ => ?_
 rw [C0] at hr
 refine AJ (ua (BU ?_))
 refine uv (Ah isAgg296 rfl (Has.frozen aa) rfl) (um ?_)
 obtain ⟨ok, h1, r2⟩ := AF hr
 refine D2 rfl ab.1 rfl rfl rfl (ab.2 _ (A4.refl _) _ _ _ ⟨_, _, rfl, ad⟩ h1) (uv (BB rfl) ?_)
 refine ua (Aa (Aj ?_))
 refine BZ results205 ?_
 obtain rfl := AH r2
 exact rfl
theorem HM {l : List (List Int)} {so : (List Int) → Option Bool} (ab : As 1 (BC 1 (iE .i64)) F Ko J0 l) (aa : Gk Tryz.prog F Ij Ih Ii (BC 1 (iE .i64)) Value.bool so) {r : Bool} (hr : Dq l so = some r) :
    Bl Tryz.prog 153 #[.slice Ko l.length J0, .func (.func Ij) Ih Ii] F (.bool r) := by
 refine sp func153 ntmps153 fun K _ _ => ?_
 rw [Dq] at hr
 refine AJ ?_
 refine BJ rfl rfl ?_; intro b1 af
 refine ua (BU (um ?_))
 refine uv (BT rfl rfl) ?_
 refine Bz 0 rfl af ?_; intro F2 ad ah
 refine AI rfl ?_
 replace ab := ab.mono (Am (Ac _)) ad
 replace aa := aa.mono ad
 have ai : Gk Tryz.prog F2 205 #[] #[.pointer (some ⟨b1, 0, none⟩)] (BC 1 (iE .i64)) Value.bool (fun ae : (List Int) => C0 ae so) := ⟨call205, fun F2 h2 vs ae r ha hr => by obtain ⟨a5, c6, rfl, h7⟩ := ha; exact Kv h7 (h2 _ _ ah) (aa.mono h2) hr⟩
 obtain ⟨ok, h9, aj⟩ := AF hr
 refine cV call204 (Gl ab ai h9) (uv (BB rfl) ?_)
 refine ua (Aa (Aj ?_))
 refine BZ results153 ?_
 obtain rfl := AH aj
 exact rfl
theorem J3 {r : Bool} (hr : DX m = some r) :
    Bl Tryz.prog 85 #[.int .i64 m] F (.bool r) := by
 refine sp func85 ntmps85 fun K _ _ => ?_
 rw [DX] at hr
 refine AJ (ua (BU (um ?_)))
 obtain ⟨ok, h1, r2⟩ := AF hr
 refine cV call81 (H5 h1) ?_
 refine ua (Aa (Aj ?_))
 refine BZ results85 ?_
 obtain rfl := AH r2
 exact rfl
set_option maxHeartbeats 1000000 in
theorem Gw {s_ : List Int} {f : Int → Option Bool} (aa : As 1 (iE .i64) F Cj Ck s_) (aj : Gk Tryz.prog F KS KU KT (iE .i64) Value.bool f) {r : Int} (hr : Cq s_ f = some r) :
    Bl Tryz.prog 237 #[.slice Cj s_.length Ck, .func (.func KS) KU KT] F (.int .i64 r) := by
 refine sp func237 ntmps237 fun K _ _ => ?_
 rw [Cq] at hr
 refine AJ (ua (Aa ?_))
 refine A5 (fun e1 F1 L1 => CV = some r ∧ F = F1 ∧ L1 = [] ∧ e1.sub []) ?_ ?_
 ·refine AJ (um ?_)
  refine uv (A2 underlying183 rfl) ?_
  refine um (Aa ?_)
  refine Ak ?_
  refine Br (fun ak e1 F1 L1 => LA s_ ak fun tl k => Bs f tl k = some r ∧ F = F1 ∧ L1 = [] ∧ e1.sub [(0, .slice Cj s_.length Ck), (1, .func (.func KS) KU KT), (7, .int .i64 (s_.length : Int)), (8, .int .i64 k)]) _ (m0 kr ⟨_, _, rfl, BI.start _, hr, rfl, rfl, z4⟩) ?_
  rintro ak e1 _ _ ⟨tl, k, ar, ab, r3, rfl, rfl, au⟩
  refine AB _ au (AJ (uv (Bp rfl rfl) ?_))
  refine Aa (Aq ?_)
  refine cQ (fun c6 => ?_) fun c6 => ?_
  ·obtain ⟨x, bc, rfl, av, g9, aw⟩ := BI.succ ab c6
   rw [Bs] at r3
   refine Al (Aq ?_)
   refine Ak ?_
   refine AJ (um (ua (BU (um (um (um ?_))))))
   obtain ⟨Jn, bd, bg, ax, ad, ae, al, rfl, ay, af⟩ := As.at (Ac _) aa ([]) g9.1 av
   refine uv (AT underlying183 sizeOf91 rfl ad rfl g9) (uv (Ah isAgg91 rfl ae (af 0 (by decide))) ?_)
   obtain ⟨ok, az, ao⟩ := AF r3
   refine D2 rfl aj.1 rfl rfl rfl (aj.2 _ (A4.refl _) _ _ _ rfl az) (Aa ?_)
   refine AX rfl (fun ah => ?_) (fun ah => ?_)
   ·have ba := bt ao ah
    refine AJ (um (ua (Aa (Aj (AD (Ai (Ai (AD (Ai ?_)))))))))
    refine BZ results237 ?_
    obtain rfl := AH ba
    exact rfl
   have bb := bf ao ah
   refine Al (At (id := 1) (Af ?_))
   refine uv (Bf rfl rfl (BI.Ed ab c6 (As.lt aa))) ?_
   refine um (Aa ?_)
   subst ar; exact le kr ⟨_, _, rfl, aw, bb, rfl, rfl, z4⟩
  obtain rfl := BI.zero ab c6
  rw [Bs] at r3
  refine AW (Ae (Ae ?_))
  refine Au ?_
  exact mi kr ⟨r3, rfl, rfl, (sn _)⟩
 rintro e1 _ _ ⟨aq, rfl, rfl, ai⟩
 refine AB _ ai ?_
 rw [CV] at aq
 refine AJ (ua (Aa (Aj ?_)))
 refine BZ results237 ?_
 obtain rfl := AH aq
 exact rfl
theorem Ge {s_ : List Int} {f : Int → Option Bool} (aa : As 1 (iE .i64) F Cj Ck s_) (ab : Gk Tryz.prog F KS KU KT (iE .i64) Value.bool f) {r : Bool} (hr : Cb s_ f = some r) :
    Bl Tryz.prog 206 #[.slice Cj s_.length Ck, .func (.func KS) KU KT] F (.bool r) := by
 refine sp func206 ntmps206 fun K _ _ => ?_
 rw [Cb] at hr
 refine AJ (ua (BU (um (um ?_))))
 obtain ⟨n, h1, r2⟩ := AF hr
 refine cV call237 (Gw aa ab h1) (uv (FX rfl rfl) ?_)
 refine ua (Aa (Aj ?_))
 refine BZ results206 ?_
 obtain rfl := AH r2
 exact rfl
theorem Mg {x : Int} {so : Int → Option Bool} (aa : F MS = some (.cells #[.func (.func Ij) Ih Ii] 298 N0)) (ab : Gk Tryz.prog F Ij Ih Ii (iE .i64) Value.bool so) {r : Bool} (hr : Es x so = some r) :
    Bl Tryz.prog 207 #[.int .i64 x, .pointer (some ⟨MS, 0, none⟩)] F (.bool r) := by
 refine sp func207 ntmps207 fun K _ _ => ?_
 rw [Es] at hr
 refine AJ (ua (BU ?_))
 refine uv (Ah isAgg298 rfl (Has.frozen aa) rfl) (um ?_)
 obtain ⟨ok, h1, r2⟩ := AF hr
 refine D2 rfl ab.1 rfl rfl rfl (ab.2 _ (A4.refl _) _ _ _ rfl h1) (uv (BB rfl) ?_)
 refine ua (Aa (Aj ?_))
 refine BZ results207 ?_
 obtain rfl := AH r2
 exact rfl
theorem ND {l : List Int} {so : Int → Option Bool} (ab : As 1 (iE .i64) F Ko J0 l) (aa : Gk Tryz.prog F Ij Ih Ii (iE .i64) Value.bool so) {r : Bool} (hr : Gg l so = some r) :
    Bl Tryz.prog 156 #[.slice Ko l.length J0, .func (.func Ij) Ih Ii] F (.bool r) := by
 refine sp func156 ntmps156 fun K _ _ => ?_
 rw [Gg] at hr
 refine AJ ?_
 refine BJ rfl rfl ?_; intro b1 af
 refine ua (BU (um ?_))
 refine uv (BT rfl rfl) ?_
 refine Bz 0 rfl af ?_; intro F2 ad ah
 refine AI rfl ?_
 replace ab := ab.mono (Ac _) ad
 replace aa := aa.mono ad
 have ai : Gk Tryz.prog F2 207 #[] #[.pointer (some ⟨b1, 0, none⟩)] (iE .i64) Value.bool (fun ae : Int => Es ae so) := ⟨call207, fun F2 h2 vs ae r ha hr => by obtain rfl := ha; exact Mg (h2 _ _ ah) (aa.mono h2) hr⟩
 obtain ⟨ok, h6, r7⟩ := AF hr
 refine cV call206 (Ge ab ai h6) (uv (BB rfl) ?_)
 refine ua (Aa (Aj ?_))
 refine BZ results156 ?_
 obtain rfl := AH r7
 exact rfl
theorem PE {l : List Int} (ab : As 1 (iE .i64) F Ko J0 l) {r : Bool} (hr : GG l = some r) :
    Bl Tryz.prog 155 #[.slice Ko l.length J0] F (.bool r) := by
 refine sp func155 ntmps155 fun K _ _ => ?_
 rw [GG] at hr
 refine AJ (ua (BU (um ?_)))
 have ad : Gk Tryz.prog F 85 #[] #[] (iE .i64) Value.bool (fun aa : Int => DX aa) := ⟨call85, fun F2 h2 vs aa r ha hr => by obtain rfl := ha; exact J3 hr⟩
 obtain ⟨ok, h2, r3⟩ := AF hr
 refine cV call156 (ND ab ad h2) ?_
 refine ua (Aa (Aj ?_))
 refine BZ results155 ?_
 obtain rfl := AH r3
 exact rfl
theorem Py {l : List Int} {aa : Nat} {ab : Nat × Nat} (_h_l : As 1 (iE .i64) F Ko J0 l) (ad : F aa = some (.cells #[.int .i64 men] 3 ab)) {r : Bool} (hr : HH l men = some r) :
    Bl Tryz.prog 154 #[.slice Ko l.length J0, .pointer (some ⟨aa, 0, none⟩)] F (.bool r) := by
 refine sp func154 ntmps154 fun K _ _ => ?_
 rw [HH] at hr
 refine AJ (ua (BU (um ?_)))
 refine uv (A2 underlying183 rfl) (uv (Ah isAgg3 rfl (Has.frozen ad) rfl) (uv (Cx rfl rfl) ?_))
 refine ua (Aa (Aj ?_))
 refine BZ results154 ?_
 obtain rfl := AH hr
 exact rfl
set_option maxHeartbeats 1000000 in
theorem Nd {hours : List (List Int)} (aa : As 1 (BC 1 (iE .i64)) F AL AO Ap) (ab : As 1 (BC 1 (iE .i64)) F Bh Bg hours) {r : Int} (hr : Ic Ap hours = some r) :
    Bl Tryz.prog 83 #[.agg #[.slice AL Ap.length AO, .slice Bh hours.length Bg]] F (.int .i64 r) := by
 refine sp func83 ntmps83 fun K _ _ => ?_
 rw [Ic] at hr
 refine AJ ?_
 refine BJ rfl rfl ?_; intro b1 er
 refine ua (BU ?_)
 refine uv (Ab FA rfl) (uv (Ah isAgg36 rfl (Has.own 0 rfl) rfl) (uv (A2 underlying36 rfl) ?_))
 refine Bw rfl zeroValue3 ?_; intro b2 db
 refine B4 (i := 0) sizeOf3 rfl rfl rfl rfl (CB rfl) (AI rfl ?_)
 refine Aa (Aq ?_)
 obtain ⟨k, h3, r4⟩ := AF hr
 refine jF ([(b1, ce #[.slice AL Ap.length AO, .slice Bh hours.length Bg] 70)]) [(1, .pointer (some ⟨b1, 0, none⟩)), (27, .bool k)] ?_ fun ai aj => ?_
 ·clear r4
  refine Af (uv (Ah isAgg3 rfl (Has.own 0 rfl) rfl) ?_)
  obtain ⟨ok, h5, r6⟩ := AF h3
  refine cV call81 (H5 h5) (uv (BB rfl) (um ?_))
  rcases Cd (!ok) with c7 | c7
  ·have r8 := bt r6 c7
   refine fB c7 (fB c7 (fB c7 (fB c7 (fB c7 ?_))))
   refine uv (AS (Hx rfl c7) rfl) ?_
   refine um (Ay (b' := true) 21 rfl rfl rfl rfl (Ay (b' := true) 21 rfl rfl rfl rfl (Ay (b' := true) 21 rfl rfl rfl rfl (Ay (b' := true) 21 rfl rfl rfl rfl (Ay (b' := true) 21 rfl rfl rfl rfl ?_)))))
   refine uv (AS rfl rfl) (Aa ?_)
   obtain rfl := AH r8
   exact mi (kd kr) ⟨A4.refl _, rfl, z2⟩
  have r9 := bf r6 c7
  refine nB c7 (uv (Ab Gq rfl) (nB c7 (uv (Ah isAgg68 rfl (Has.own 1 rfl) rfl) (nB c7 (uv (A2 underlying68 rfl) (nB c7 ?_))))))
  obtain ⟨dd, de, cf⟩ := AF r9
  refine cV call81 (H5 de) (nB c7 (uv (BB rfl) (uv (AE (Hx rfl c7) rfl) (um ?_))))
  rcases Cd (!dd) with ad | ad
  ·have df := bt cf ad
   refine fB ad (fB ad (fB ad (fB ad (fB ad ?_))))
   refine uv (AS (Hx rfl ad) rfl) (Aa ?_)
   obtain rfl := AH df
   exact mi (kd kr) ⟨A4.refl _, rfl, z2⟩
  have dg := bf cf ad
  refine nB ad (uv (Ab Gq rfl) (nB ad (uv (Ah isAgg68 rfl (Has.own 1 rfl) rfl) (nB ad (uv (BT rfl rfl) (nB ad ?_))))))
  refine Bz 0 rfl db ?_; intro dh ak av
  refine AI rfl ?_
  replace ab := ab.mono (Am (Ac _)) ak
  have aw : Gk Tryz.prog dh 154 #[] #[.pointer (some ⟨b2, 0, none⟩)] (BC 1 (iE .i64)) Value.bool (fun al : (List Int) => HH al (Ap.length : Int)) := ⟨call154, fun F2 h2 vs al r ha hr => by obtain ⟨et, eu, rfl, di⟩ := ha; exact Py di (h2 _ _ av) hr⟩
  obtain ⟨ew, dk, dm⟩ := AF dg
  refine cV call153 (HM ab aw dk) (nB ad (uv (BB rfl) (uv (AE (Hx rfl ad) rfl) (Aa ?_))))
  obtain rfl := AH dm
  exact mi kr ⟨ak, rfl, z2⟩
 replace aa := aa.mono (Am (Ac _)) aj
 replace ab := ab.mono (Am (Ac _)) aj
 refine AX rfl (fun ax => ?_) (fun ax => ?_)
 ·have dn := bt r4 ax
  refine AJ (ua (Aa ?_))
  refine kW kn ?_
  refine Aj (Ai ?_)
  refine BZ results83 ?_
  obtain rfl := AH dn
  exact rfl
 have dp := bf r4 ax
 refine Al ?_
 refine A5 (fun e1 F1 L1 => Hh hours = some r ∧ ai = F1 ∧ L1 = [(b1, ce #[.slice AL Ap.length AO, .slice Bh hours.length Bg] 70)] ∧ e1.sub [(1, .pointer (some ⟨b1, 0, none⟩))]) ?_ ?_
 ·refine AJ (uv (Ab FA rfl) (uv (Ah isAgg36 rfl (Has.own 0 rfl) rfl) (uv (A2 underlying36 rfl) ?_)))
  refine um (Aa ?_)
  refine Ak ?_
  refine Br (fun cg e1 F1 L1 => LA Ap cg fun tl k2 => DL hours tl k2 = some r ∧ ai = F1 ∧ L1 = [(b1, ce #[.slice AL Ap.length AO, .slice Bh hours.length Bg] 70)] ∧ e1.sub [(1, .pointer (some ⟨b1, 0, none⟩)), (29, .slice AL Ap.length AO), (30, .int .i64 (Ap.length : Int)), (31, .int .i64 k2)]) _ (m0 kr ⟨_, _, rfl, BI.start _, dp, rfl, rfl, z4⟩) ?_
  rintro cg e1 _ _ ⟨tl, k2, ay, af, ao, rfl, rfl, az⟩
  refine AB _ az (AJ (uv (Bp rfl rfl) ?_))
  refine Aa (Aq ?_)
  refine cQ (fun aq => ?_) fun aq => ?_
  ·obtain ⟨x, cj, rfl, ba, ck, bb⟩ := BI.succ af aq
   rw [DL] at ao
   refine Al ?_
   refine A5 (fun e1 F1 L1 => Kj k2 (DL hours cj) = some r ∧ ai = F1 ∧ L1 = [(b1, ce #[.slice AL Ap.length AO, .slice Bh hours.length Bg] 70)] ∧ e1.sub [(1, .pointer (some ⟨b1, 0, none⟩)), (29, .slice AL Ap.length AO), (30, .int .i64 (Ap.length : Int)), (31, .int .i64 k2)]) ?_ ?_
   ·refine Ak ?_
    refine AJ (um ?_)
    obtain ⟨ey, ez, fa, dq, bc, bd, cn, ⟨cp, cq, rfl, bg⟩, dr, bj⟩ := As.at (Am (Ac _)) aa ([(b1, ce #[.slice AL Ap.length AO, .slice Bh hours.length Bg] 70)]) ck.1 ba
    refine uv (AT underlying36 sizeOf33 rfl bc rfl ck) (uv (Ah isAgg33 rfl bd (bj 0 (by decide))) ?_)
    refine ua (ua (BU (um ?_)))
    refine uv (A2 underlying33 rfl) ?_
    refine um (Aa ?_)
    refine Ak ?_
    refine Br (fun cr e1 F1 L1 => LA x cr fun ct k3 => Ff k2 x (DL hours cj) ct k3 = some r ∧ ai = F1 ∧ L1 = [(b1, ce #[.slice AL Ap.length AO, .slice Bh hours.length Bg] 70)] ∧ e1.sub [(1, .pointer (some ⟨b1, 0, none⟩)), (4, .int .i64 k2), (5, .slice cp x.length cq), (29, .slice AL Ap.length AO), (30, .int .i64 (Ap.length : Int)), (31, .int .i64 k2), (36, .slice cp x.length cq), (37, .int .i64 (x.length : Int)), (38, .int .i64 k3)]) _ (m0 kr ⟨_, _, rfl, BI.start _, ao, rfl, rfl, (sc rfl z8)⟩) ?_
    rintro cr e1 _ _ ⟨ct, k3, bk, ah, ar, rfl, rfl, bl⟩
    refine AB _ bl (AJ (uv (Bp rfl rfl) ?_))
    refine Aa (Aq ?_)
    refine cQ (fun au => ?_) fun au => ?_
    ·obtain ⟨x2, fb, rfl, bn, cu, bo⟩ := BI.succ ah au
     rw [Ff] at ar
     refine Al (Aq ?_)
     refine Ak ?_
     refine AJ (um ?_)
     obtain ⟨fe, ff, fg, dt, bp, bq, cv, rfl, du, br⟩ := As.at (Ac _) bg ([(b1, ce #[.slice AL Ap.length AO, .slice Bh hours.length Bg] 70)]) cu.1 bn
     refine uv (AT underlying33 sizeOf3 rfl bp rfl cu) (uv (Ah isAgg3 rfl bq (br 0 (by decide))) ?_)
     refine ua (ua (Aa (Aq (AJ (um (um ?_))))))
     obtain ⟨dv, dw⟩ := A0 ar
     refine uv (Fs rfl rfl dv) ?_
     obtain ⟨fh, dx, cw⟩ := AF dw
     refine cV call81 (H5 dx) (uv (BB rfl) (Aa ?_))
     refine AX rfl (fun bu => ?_) (fun bu => ?_)
     ·have dy := bt cw bu
      refine AJ (ua (Aa ?_))
      refine kW kn ?_
      refine Aj (Ai (AD (Ai (Ai (AD (AD (Ai (Ai (AD ?_)))))))))
      refine Ai (BZ results83 ?_)
      obtain rfl := AH dy
      exact rfl
     have dz := bf cw bu
     refine Al (AJ (um (um ?_)))
     obtain ⟨e9, eb⟩ := A0 dz
     obtain ⟨x3, ec, ef⟩ := C3 eb
     obtain ⟨fi, fj, eg, ae⟩ := As.slice (Ac _) bg e9 ec
     refine uv ((PU (l := 0) (h := k3) underlying33 sizeOf3 rfl (.inl ⟨rfl, rfl⟩) (.inr ⟨_, rfl, rfl⟩) ae.1).eq ae.2) (um ?_)
     obtain ⟨fk, eh, cx⟩ := AF ef
     refine cV call18 (En eg eh) (Aa ?_)
     refine AX rfl (fun bw => ?_) (fun bw => ?_)
     ·have ei := bt cx bw
      refine AJ (ua (Aa ?_))
      refine kW kn ?_
      refine Aj (AD (Ai (Ai (AD (AD (Ai (Ai (AD (Ai ?_)))))))))
      refine BZ results83 ?_
      obtain rfl := AH ei
      exact rfl
     have ej := bf cx bw
     refine Al (At (id := 3) (Af ?_))
     refine uv (Bf rfl rfl (BI.Ed ah au (As.lt bg))) ?_
     refine um (Aa ?_)
     subst bk; exact le kr ⟨_, _, rfl, bo, ej, rfl, rfl, (sc rfl z8)⟩
    obtain rfl := BI.zero ah au
    rw [Ff] at ar
    refine AW (Ae (Ae ?_))
    refine Au (At (id := 1) ?_)
    exact mi kr ⟨ar, rfl, rfl, z4⟩
   rintro e1 _ _ ⟨cy, rfl, rfl, bx⟩
   refine AB _ bx ?_
   rw [Kj] at cy
   refine Af (uv (Bf rfl rfl (BI.Ed af aq (As.lt aa))) ?_)
   refine um (Aa ?_)
   subst ay; exact le kr ⟨_, _, rfl, bb, cy, rfl, rfl, z4⟩
  obtain rfl := BI.zero af aq
  rw [DL] at ao
  refine AW (Ae (Ae ?_))
  refine Au ?_
  exact mi kr ⟨ao, rfl, rfl, z1⟩
 rintro e1 _ _ ⟨cz, rfl, rfl, bz⟩
 refine AB _ bz ?_
 rw [Hh] at cz
 refine Aq (AJ ?_)
 refine uv (Ab Gq rfl) (uv (Ah isAgg68 rfl (Has.own 0 rfl) rfl) ?_)
 have ca : Gk Tryz.prog ai 155 #[] #[] (BC 1 (iE .i64)) Value.bool (fun al : (List Int) => GG al) := ⟨call155, fun F2 h2 vs al r ha hr => by obtain ⟨fl, fm, rfl, eo⟩ := ha; exact PE eo hr⟩
 obtain ⟨fp, ep, da⟩ := AF cz
 refine cV call153 (HM ab ca ep) (uv (BB rfl) (Aa ?_))
 refine AX rfl (fun cb => ?_) (fun cb => ?_)
 ·have cc := bt da cb
  refine AJ (ua (Aa ?_))
  refine kW kn ?_
  refine Aj (Ai ?_)
  refine BZ results83 ?_
  obtain rfl := AH cc
  exact rfl
 have cd := bf da cb
 refine Al (AJ (ua (Aa ?_)))
 refine kW kn (Aj (BZ results83 ?_))
 obtain rfl := AH cd
 exact rfl
theorem Mi {aa : Nat} {out : Int} {ab : Nat × Nat} (ad : F aa = some (.cells #[.int .i64 out] 3 ab)) {r : Bool} (hr : Er m out = some r) :
    Bl Tryz.prog 152 #[.int .i64 m, .pointer (some ⟨aa, 0, none⟩)] F (.bool r) := by
 refine sp func152 ntmps152 fun K _ _ => ?_
 rw [Er] at hr
 refine AJ (ua (BU ?_))
 refine uv (Ah isAgg3 rfl (Has.frozen ad) rfl) (um ?_)
 obtain ⟨g1, r2⟩ := A0 hr
 refine uv (Jh rfl rfl g1) (uv (KB rfl rfl) (uv (Cx rfl rfl) ?_))
 refine ua (Aa (Aj ?_))
 refine BZ results152 ?_
 obtain rfl := AH r2
 exact rfl
set_option maxHeartbeats 1000000 in
theorem Kl {hours : List (List Int)} (aj : F GZ = some (.cells #[.slice AL Ap.length AO, .slice Bh hours.length Bg, .map (some FF), v1] 192 IZ)) (aa : As 1 (BC 1 (iE .i64)) F AL AO Ap) (_h_hours : As 1 (BC 1 (iE .i64)) F Bh Bg hours) (ae : Dr (Value.int .i64) (Value.int .i64) Hg CJ) {r : Int} {r2 : List (Int × Int)} (hr : E8 Ap hours CJ B0 = some (r, r2)) :
    SH.Spec Tryz.prog 82 #[.pointer (some ⟨GZ, 0, none⟩), .int .i64 B0] F [(FF, .map Hg JW)] fun _ L' v => ∃ (ad : Array MapEntry) (ah : Nat), v = .int .i64 r ∧ L' = [(FF, .map ad ah)] ∧ Dr (Value.int .i64) (Value.int .i64) ad r2 := by
 refine sp func82 ntmps82 fun K _ _ => ?_
 rw [E8] at hr
 refine AJ (ua (Aa (Aq (AJ (um ?_)))))
 refine uv (AV rfl) (uv (Ab SS rfl) (uv (Ah isAgg189 rfl (Has.frozen aj) rfl) (um (uv (Ft.eq (v' := .tuple #[.int .i64 ((Bm CJ B0).getD 0), .bool ((Bm CJ B0).isSome)]) (JZ (k := B0) (z0 := 0) rfl underlying189 (Gj underlying3) zeroValue3 rfl rfl (KO.own 0 rfl) (show Dr (Value.int .i64) (Value.int .i64) Hg (CJ : List (Int × Int)) from ae)) rfl) ?_))))
 refine um (ox rfl rfl rfl (ox rfl rfl rfl (ua (ua (BU (um (Aa ?_)))))))
 refine AX rfl (fun c2 => ?_) (fun c2 => ?_)
 ·have r3 := bt hr c2
  refine AJ (um (ua (Aa (Aj (Ai ?_)))))
  refine BZ results82 ?_
  obtain ⟨rfl, rfl⟩ := DO r3
  exact ⟨_, _, rfl, rfl, ae⟩
 have r4 := bf hr c2
 refine Al (AJ ?_)
 refine Bw rfl zeroValue3 ?_; intro b5 cr
 refine B4 (i := 0) sizeOf3 rfl rfl rfl rfl (CB rfl) (AI rfl (Aa ?_))
 obtain ⟨out, h6, r7⟩ := AF r4
 refine jE ([(b5, ce #[.int .i64 out] 3), (FF, .map Hg JW)]) [(0, .pointer (some ⟨GZ, 0, none⟩)), (1, .int .i64 B0), (7, .pointer (some ⟨b5, 0, none⟩))] ?_ ?_
 ·clear r7
  refine AJ (um ?_)
  refine uv (AV rfl) (uv (Ab Qm rfl) (uv (Ab FA rfl) (uv (Ah isAgg36 rfl (Has.frozen aj) rfl) (uv (A2 underlying36 rfl) ?_))))
  refine um (Aa ?_)
  refine Ak ?_
  refine Br (fun bd e1 F1 L1 => LA Ap bd fun tl k => ∃ (ab : Int), Cn B0 tl k ab = some out ∧ F = F1 ∧ L1 = [(b5, ce #[.int .i64 ab] 3), (FF, .map Hg JW)] ∧ e1.sub [(0, .pointer (some ⟨GZ, 0, none⟩)), (1, .int .i64 B0), (7, .pointer (some ⟨b5, 0, none⟩)), (25, .slice AL Ap.length AO), (26, .int .i64 (Ap.length : Int)), (27, .int .i64 k)]) _ (m0 kr ⟨_, _, rfl, BI.start _, 0, h6, rfl, rfl, z6⟩) ?_
  rintro bd e1 _ _ ⟨tl, k, bg, au, ab, av, rfl, rfl, aw⟩
  refine AB _ aw (AJ (uv (Bp rfl rfl) ?_))
  refine Aa (Aq ?_)
  refine cQ (fun ak => ?_) fun ak => ?_
  ·obtain ⟨x, ct, rfl, ax, bj, al⟩ := BI.succ au ak
   rw [Cn] at av
   refine Al (Aq ?_)
   refine Ak ?_
   refine AJ (um ?_)
   obtain ⟨cu, cv, cw, bp, ay, az, bk, ⟨cx, cy, rfl, bq⟩, br, ba⟩ := As.at (Am (Ac _)) aa ([(b5, ce #[.int .i64 ab] 3), (FF, .map Hg JW)]) bj.1 ax
   refine uv (AT underlying36 sizeOf33 rfl ay rfl bj) (uv (Ah isAgg33 rfl az (ba 0 (by decide))) ?_)
   refine ua (ua (Aa ?_))
   obtain ⟨k2, bu, bb⟩ := AF av
   refine jE ([(b5, ce #[.int .i64 ab] 3), (FF, .map Hg JW)]) [(0, .pointer (some ⟨GZ, 0, none⟩)), (1, .int .i64 B0), (7, .pointer (some ⟨b5, 0, none⟩)), (8, .int .i64 k), (25, .slice AL Ap.length AO), (26, .int .i64 (Ap.length : Int)), (27, .int .i64 k), (46, .bool k2)] ?_ ?_
   ·clear bb
    refine Af (um (um ?_))
    obtain ⟨bw, bl⟩ := A0 bu
    refine uv (Jh rfl rfl bw) (uv (KB rfl rfl) (uv (Cx rfl rfl) (um ?_)))
    by_cases af : (Fa (shr B0 k) 1) = 0
    ·have bn := Bi bl af
     refine nT af (um (nT af ?_))
     refine uv (A2 underlying33 rfl) (nT af (uv (Cx rfl rfl) ?_))
     refine nT af (um ?_)
     by_cases ai : (x.length : Int) = 0
     ·have bx := Bi bn ai
      refine fT ai (fT ai (fT ai (nT af ?_)))
      refine uv (AS (Bq rfl ai) rfl) (uv (AS (Bq rfl af) rfl) (Aa ?_))
      obtain rfl := AH bx
      exact mi kr ⟨rfl, rfl, z8⟩
     have bz := Bk bn ai
     refine nF ai (um (nF ai ?_))
     refine uv (BT rfl rfl) (nF ai ?_)
     obtain ⟨ok, ca, cb⟩ := AF bz
     refine JK (Lt := [(b5, ce #[.int .i64 ab] 3)]) (Lr := [(FF, .map Hg JW)]) rfl call26 rfl rfl rfl (pR) (fun F2 h2 h3 => by exact Dw (bq.mono (Ac _) h2) (show Gk Tryz.prog F2 152 #[] #[.pointer (some ⟨b5, 0, none⟩)] (iE .i64) Value.bool (fun bo : Int => Er bo ab) from ⟨call152, fun F3 h4 vs bo r ha hr => by obtain rfl := ha; exact Mi (h4 _ _ (h3 (b5, ce #[.int .i64 ab] 3) (List.mem_cons_self ..))) hr⟩) ca) ?_
     refine nT af (uv (AE (Bc rfl ai) rfl) (uv (AS (Bq rfl af) rfl) (Aa ?_)))
     obtain rfl := AH cb
     exact mi kr ⟨rfl, rfl, z8⟩
    have cc := Bk bl af
    refine fF af (fF af (fF af (fF af (fU (fU (fU (fF af ?_)))))))
    refine uv (AE (Bc rfl af) rfl) (Aa ?_)
    obtain rfl := AH cc
    exact mi kr ⟨rfl, rfl, z8⟩
   refine AX rfl (fun bc => ?_) (fun bc => ?_)
   ·have cd := bt bb bc
    refine CM [(.still, 0), (.still, 1), (.still, 2), (.still, 3), (.seq, 4)] (by kernel_rfl) (by kernel_rfl) (trivial) (by rfl) (by kernel_rfl) (mL [7] ([(b5, ce #[.int .i64 ab] 3)]) rfl (s0 (s2 (s1 sr))) (fun H F' L' ao aq => Ah isAgg3 rfl ((Has.own 0 rfl).ext ao aq) rfl) (mS [8] rfl (BF rfl) ?_))
    obtain ⟨cf, cg⟩ := A0 cd
    refine mS (v := .int .i64 (shl 1 k)) [48] rfl (Oy rfl rfl cf) (mS (v := .int .i64 (Oe ab (shl 1 k))) [47, 49] rfl (Tx rfl rfl) ?_)
    refine ⟨_, [(7, .pointer (some ⟨b5, 0, none⟩)), (50, .int .i64 (Oe ab (shl 1 k)))], rfl, rfl, z2, by kernel_rfl, ?_⟩; intro H
    refine B4 (i := 0) sizeOf3 rfl rfl rfl rfl (CB rfl) (AI rfl ?_)
    refine Aa ⟨undef, rfl, A4.refl _, [], by kernel_rfl, .inl (.inl rfl), nm, ?_⟩
    refine D1 ?_
    refine At (id := 1) (Af ?_)
    refine uv (Bf rfl rfl (BI.Ed au ak (As.lt aa))) ?_
    refine um (Aa ?_)
    subst bg; exact le kr ⟨_, _, rfl, al, Oe ab (shl 1 k), cg, rfl, rfl, z6⟩
   have cj := bf bb bc
   refine Al (At (id := 1) (Af ?_))
   refine uv (Bf rfl rfl (BI.Ed au ak (As.lt aa))) ?_
   refine um (Aa ?_)
   subst bg; exact le kr ⟨_, _, rfl, al, ab, cj, rfl, rfl, z6⟩
  obtain rfl := BI.zero au ak
  rw [Cn] at av
  refine AW (Ae (Ae ?_))
  refine Au ?_
  obtain rfl := AH av
  exact mi kr ⟨rfl, rfl, z3⟩
 refine Aq (CM [(.still, 0), (.still, 1), (.still, 2), (.still, 3), (.still, 4), (.still, 5), (.seq, 6)] (by kernel_rfl) (by kernel_rfl) (trivial) (by rfl) (by kernel_rfl) (mS [0] rfl (BF rfl) (mS [52] rfl (AV rfl) (mS [53] rfl (Ab SS rfl) (mL [54] ([]) rfl sm (fun H F' L' ao aq => Ah isAgg189 rfl ((Has.frozen aj).ext ao aq) rfl) (mS [1] rfl (BF rfl) (mL [7] ([(b5, ce #[.int .i64 out] 3)]) rfl (s0 (s2 (s1 sr))) (fun H F' L' ao aq => Ah isAgg3 rfl ((Has.own 0 rfl).ext ao aq) rfl) ?_)))))))
 refine ⟨_, [(55, .map (some FF)), (56, .int .i64 B0), (57, .int .i64 out)], rfl, rfl, z3, by kernel_rfl, ?_⟩; intro H
 refine Jk (i := 1) (k := B0) (v := out) underlying189 (Gj underlying3) rfl rfl rfl rfl (show Dr (Value.int .i64) (Value.int .i64) Hg (CJ : List (Int × Int)) from ae) ?_; intro ck cn ar
 obtain ⟨met, cp, cq⟩ := C3 r7
 rw [← cp] at ar
 refine AI rfl ?_
 refine Aa ⟨undef, rfl, A4.refl _, [], by kernel_rfl, .inl (.inl rfl), nm, ?_⟩
 refine D1 (AJ (uv (Ah isAgg3 rfl (Has.own 0 rfl) rfl) ?_))
 refine ua (Aa ?_)
 refine kW (kd kr) (Aj (BZ results82 ?_))
 obtain ⟨rfl, rfl⟩ := DO cq
 exact ⟨_, _, rfl, rfl, ar⟩
set_option maxHeartbeats 1000000 in
theorem Np {hours : List (List Int)} (al : F GZ = some (.cells #[.slice AL Ap.length AO, .slice Bh hours.length Bg, .map (some FF), v1] 192 IZ)) (ai : As 1 (BC 1 (iE .i64)) F AL AO Ap) (aa : As 1 (BC 1 (iE .i64)) F Bh Bg hours) (ao : Dr (Value.int .i64) (Value.int .i64) Hg CJ) {r : Int} {r2 : List (Int × Int)} (hr : Gd Ap hours CJ hour B0 = some (r, r2)) :
    SH.Spec Tryz.prog 151 #[.pointer (some ⟨GZ, 0, none⟩), .int .i64 hour, .int .i64 B0] F [(FF, .map Hg JW)] fun _ L' v => ∃ (ab : Array MapEntry) (aj : Nat), v = .int .i64 r ∧ L' = [(FF, .map ab aj)] ∧ Dr (Value.int .i64) (Value.int .i64) ab r2 := by
 refine sp func151 ntmps151 fun K _ _ => ?_
 rw [Gd] at hr
 refine AJ (ua (BU (um (um ?_))))
 obtain ⟨n, az, h2, r3⟩ := DM hr
 refine cG call82 (Kl al ai aa ao h2) ?_; rintro _ F4 _ bu dn dp ⟨ar, au, rfl, rfl, ba⟩
 replace aa := aa.mono (Am (Ac _)) bu
 replace al := bu _ _ al
 refine AI (lb (ln rfl)) ?_
 refine ua (BU (ua (Aa ?_)))
 obtain ⟨out, cp, bw⟩ := AF r3
 refine jE ([(FF, .map ar au)]) [(8, .int .i64 out)] ?_ ?_
 ·clear bw
  refine AJ (um ?_)
  refine uv (AV rfl) (uv (Ab Qm rfl) (uv (Ab Gq rfl) (uv (Ah isAgg68 rfl (Has.frozen al) rfl) (um ?_))))
  obtain ⟨x, bx, bb, cq⟩ := BY cp
  obtain ⟨dq, dr, dt, cr, bc, bd, bz, ⟨ca, cb, rfl, bg⟩, ct, bj⟩ := As.at (Am (Ac _)) aa ([(FF, .map ar au)]) bx.1 bb
  refine uv (AT underlying68 sizeOf183 rfl bc rfl bx) (uv (Ah isAgg183 rfl bd (bj 0 (by decide))) (uv (A2 underlying183 rfl) ?_))
  refine um (Aa ?_)
  refine Ak ?_
  refine Br (fun cc e1 F1 L1 => LA x cc fun tl k => ∃ (ak : Int), C1 n tl k ak = some out ∧ F4 = F1 ∧ L1 = [(FF, .map ar au)] ∧ e1.sub [(7, .int .i64 n), (8, .int .i64 ak), (21, .slice ca x.length cb), (22, .int .i64 (x.length : Int)), (23, .int .i64 k)]) _ (m0 kr ⟨_, _, rfl, BI.start _, 0, cq, rfl, rfl, z5⟩) ?_
  rintro cc e1 _ _ ⟨tl, k, av, aq, ak, ay, rfl, rfl, bk⟩
  refine AB _ bk (AJ (uv (Bp rfl rfl) ?_))
  refine Aa (Aq ?_)
  refine cQ (fun aw => ?_) fun aw => ?_
  ·obtain ⟨x2, du, rfl, bl, cd, ax⟩ := BI.succ aq aw
   rw [C1] at ay
   refine Al (Aq ?_)
   refine Ak ?_
   refine AJ (um ?_)
   obtain ⟨dv, dw, dx, cu, bn, bo, cf, rfl, cv, bp⟩ := As.at (Ac _) bg ([(FF, .map ar au)]) cd.1 bl
   refine uv (AT underlying183 sizeOf91 rfl bn rfl cd) (uv (Ah isAgg91 rfl bo (bp 0 (by decide))) ?_)
   refine ua (ua (Aa ?_))
   obtain ⟨k2, cg, bq⟩ := AF ay
   refine jE ([(FF, .map ar au)]) [(7, .int .i64 n), (8, .int .i64 ak), (9, .int .i64 k), (21, .slice ca x.length cb), (22, .int .i64 (x.length : Int)), (23, .int .i64 k), (47, .bool k2)] ?_ ?_
   ·clear bq
    refine Af (um ?_)
    refine uv (Cx rfl rfl) (um ?_)
    by_cases ad : x2 = 1
    ·have cw := Bi cg ad
     refine nT ad (um (nT ad (um (nT ad ?_))))
     obtain ⟨cx, cj⟩ := A0 cw
     refine uv (Jh rfl rfl cx) (nT ad (uv (KB rfl rfl) (nT ad (uv (Cx rfl rfl) (uv (AS (Bq rfl ad) rfl) (um ?_))))))
     by_cases ae : (Fa (shr n k) 1) = 0
     ·have cy := Bi cj ae
      refine fT ae (fT ae (fT ae (fU (fU (fU (fU (fU (fT ae ?_))))))))
      refine uv (AS (Bq rfl ae) rfl) (Aa ?_)
      obtain rfl := AH cy
      exact mi kr ⟨rfl, rfl, z7⟩
     have ck := Bk cj ae
     refine nF ae (um (nF ae ?_))
     refine uv (Cx rfl rfl) ?_
     refine nF ae (um ?_)
     by_cases af : x2 = 2
     ·have cz := Bi ck af
      refine nT af (um (nT af (um (nT af ?_))))
      obtain ⟨da, db⟩ := A0 cz
      refine uv (Jh rfl rfl da) (nT af (uv (KB rfl rfl) (nT af (uv (Cx rfl rfl) (nF ae (uv (AS (Bq rfl af) rfl) (uv (AE (Bc rfl ae) rfl) ?_)))))))
      refine Aa ?_
      obtain rfl := AH db
      exact mi kr ⟨rfl, rfl, z7⟩
     have dd := Bk ck af
     refine fF af (fF af (fF af (fF af (fF af (nF ae ?_)))))
     refine uv (AE (Bc rfl af) rfl) (uv (AE (Bc rfl ae) rfl) (Aa ?_))
     obtain rfl := AH dd
     exact mi kr ⟨rfl, rfl, z7⟩
    have cn := Bk cg ad
    refine fF ad (fF ad (fF ad (fF ad (fF ad ?_))))
    refine uv (AE (Bc rfl ad) rfl) ?_
    refine um (EA (b := false) 37 rfl rfl (um (EA (b := false) 37 rfl rfl ?_)))
    refine uv (Cx rfl rfl) ?_
    refine EA (b := false) 37 rfl rfl (um ?_)
    by_cases ah : x2 = 2
    ·have de := Bi cn ah
     refine nT ah (um (nT ah (um (nT ah ?_))))
     obtain ⟨df, Ed⟩ := A0 de
     refine uv (Jh rfl rfl df) (nT ah (uv (KB rfl rfl) (nT ah (uv (Cx rfl rfl) (EA (b := false) 37 rfl rfl (uv (AS (Bq rfl ah) rfl) (uv (AE rfl rfl) ?_)))))))
     refine Aa ?_
     obtain rfl := AH Ed
     exact mi kr ⟨rfl, rfl, z7⟩
    have dg := Bk cn ah
    refine fF ah (fF ah (fF ah (fF ah (fF ah (EA (b := false) 37 rfl rfl ?_)))))
    refine uv (AE (Bc rfl ah) rfl) (uv (AE rfl rfl) (Aa ?_))
    obtain rfl := AH dg
    exact mi kr ⟨rfl, rfl, z7⟩
   refine AX rfl (fun br => ?_) (fun br => ?_)
   ·have dh := bt bq br
    refine Af (um (um ?_))
    obtain ⟨di, dk⟩ := A0 dh
    refine uv (Oy rfl rfl di) (uv (Tx rfl rfl) ?_)
    refine ua (Aa (At (id := 1) (Af ?_)))
    refine uv (Bf rfl rfl (BI.Ed aq aw (As.lt bg))) ?_
    refine um (Aa ?_)
    subst av; exact le kr ⟨_, _, rfl, ax, Oe ak (shl 1 k), dk, rfl, rfl, z5⟩
   have dm := bf bq br
   refine Al (At (id := 1) (Af ?_))
   refine uv (Bf rfl rfl (BI.Ed aq aw (As.lt bg))) ?_
   refine um (Aa ?_)
   subst av; exact le kr ⟨_, _, rfl, ax, ak, dm, rfl, rfl, z5⟩
  obtain rfl := BI.zero aq aw
  rw [C1] at ay
  refine AW (Ae (Ae ?_))
  refine Au ?_
  obtain rfl := AH ay
  exact mi kr ⟨rfl, rfl, z1⟩
 refine AJ (um (ua (Aa (Aj ?_))))
 refine BZ results151 ?_
 obtain ⟨rfl, rfl⟩ := DO bw
 exact ⟨_, _, rfl, rfl, ba⟩
set_option maxHeartbeats 1000000 in
theorem Mm {hours : List (List Int)} (aa : As 1 (BC 1 (iE .i64)) F AL AO Ap) (ab : As 1 (BC 1 (iE .i64)) F Bh Bg hours) {r : Option ((List (List Int)) × (List (List Int)) × (List (Int × Int)) × (List (List Bool)))} {r2 : Int} (hr : Ht Ap hours = some (r, r2)) :
    SH.Spec Tryz.prog 80 #[.agg #[.slice AL Ap.length AO, .slice Bh hours.length Bg]] F [] fun F' L' v => ∃ (rv : Value) (rL : LH), v = .tuple #[rv, .int .i64 r2] ∧ L' = rL ++ [] ∧ KJ F' rv r rL := by
 refine sp func80 ntmps80 fun K _ _ => ?_
 rw [Ht] at hr
 refine AJ ?_
 refine BJ rfl rfl ?_; intro b1 gb
 refine ua (ua (Aa (Aq (AJ ?_))))
 refine uv (A1 isAgg70 sizeOf70 rfl (Has.own 0 rfl) (CB rfl) rfl) ?_
 obtain ⟨n, h2, r3⟩ := AF hr
 refine cV call83 (Nd aa ab h2) ?_
 refine ua (BU (um ?_))
 refine uv (CI rfl rfl) (Aa ?_)
 refine cQ (fun c4 => ?_) fun c4 => ?_
 ·have r5 := Bi r3 c4
  refine AJ (um (ua (ua (Aa ?_))))
  refine kW kn ?_
  refine Aj (Ai ?_)
  refine Dv results80 (AY rfl) (AY rfl) (sr) ?_
  obtain ⟨rfl, rfl⟩ := DO r5
  exact ⟨_, [], rfl, rfl, Nl _⟩
 have r6 := Bk r3 c4
 refine Al (AJ ?_)
 refine uv (A1 isAgg70 sizeOf70 rfl (Has.own 0 rfl) (CB rfl) rfl) ?_
 refine JO rfl ?_; intro b7 gg
 refine uv (BM (v := .agg #[.slice AL Ap.length AO, .slice Bh hours.length Bg, .map (some b7), .slice none 0 0]) rfl (by intro w; kernel_rfl)) ?_
 refine BJ rfl rfl ?_; intro b8 ep
 refine ua (Aa ?_)
 obtain ⟨ak, av, er, eb⟩ := DM r6
 refine A5 (fun e1 F1 L1 => ∃ (cd : Array MapEntry) (az : Nat) (df : Option Addr) (dg : Nat) (dh : Nat) (bq : LH), A4 F F1 ∧ L1 = ((b8, ce #[.slice AL Ap.length AO, .slice Bh hours.length Bg, .map (some b7), .slice df dg dh] 192) :: ((b7, .map cd az) :: (bq ++ []))) ∧ e1.sub [(5, .pointer (some ⟨b8, 0, none⟩))] ∧ Dr (Value.int .i64) (Value.int .i64) cd ak ∧ Bd K.w0.heap.size 188 64 (Ll 64 cB) F1 df dg dh av bq) ?_ ?_
 ·clear eb
  refine AJ (uv (Ab Gq rfl) (uv (Ah isAgg68 rfl (Has.own 2 rfl) rfl) (uv (A2 underlying68 rfl) ?_)))
  refine um (Aa ?_)
  refine Ak (kW (kc (kc kn)) ?_)
  refine Br (fun ec e1 F1 L1 => LA hours ec fun tl k => ∃ (ad : List (Int × Int)) (ae : List (List Bool)) (ao : Array MapEntry) (aw : Nat) (aq : Option Addr) (ar : Nat) (au : Nat) (ah : LH), DN Ap hours tl k ad ae = some (ak, av) ∧ A4 F F1 ∧ L1 = ((b8, ce #[.slice AL Ap.length AO, .slice Bh hours.length Bg, .map (some b7), .slice aq ar au] 192) :: ((b7, .map ao aw) :: (ah ++ []))) ∧ e1.sub [(5, .pointer (some ⟨b8, 0, none⟩)), (20, .int .i64 (hours.length : Int)), (21, .int .i64 k)] ∧ Dr (Value.int .i64) (Value.int .i64) ao ad ∧ Bd K.w0.heap.size 188 64 (Ll 64 cB) F1 aq ar au ae ah) _ (m0 (kc (kc (ke kr))) ⟨_, _, rfl, BI.start _, [], [], #[], 0, none, 0, 0, [], er, A4.refl _, rfl, z3, Dr.nil, Bd.nil _ _ _ _ _⟩) ?_
  rintro ec e1 di _ ⟨tl, k, dk, br, ad, ae, ao, aw, aq, ar, au, ah, cw, ba, rfl, dm, cf, bb⟩
  refine AB _ dm ?_
  replace aa := aa.mono (Am (Ac _)) ba
  replace ab := ab.mono (Am (Ac _)) ba
  refine AJ (uv (Bp rfl rfl) ?_)
  refine Aa (Aq ?_)
  refine cQ (fun cx => ?_) fun cx => ?_
  ·obtain ⟨x, gh, rfl, et, gi, dn⟩ := BI.succ br cx
   rw [DN] at cw
   refine Al ?_
   obtain ⟨ai, al, eu, ef⟩ := DM cw
   refine A5 (fun e1 F1 L1 => ∃ (bc : Array MapEntry) (bu : Nat) (cy : Option Addr) (cz : Nat) (da : Nat) (bd : LH), A4 di F1 ∧ L1 = ((b8, ce #[.slice AL Ap.length AO, .slice Bh hours.length Bg, .map (some b7), .slice cy cz da] 192) :: ((b7, .map bc bu) :: (bd ++ []))) ∧ e1.sub [(5, .pointer (some ⟨b8, 0, none⟩)), (20, .int .i64 (hours.length : Int)), (21, .int .i64 k)] ∧ Dr (Value.int .i64) (Value.int .i64) bc ai ∧ Bd K.w0.heap.size 188 64 (Ll 64 cB) F1 cy cz da al bd) ?_ ?_
   ·clear ef
    refine Ak ?_
    refine AJ (um (ua (BU ?_)))
    refine Bw rfl zeroValue188 ?_; intro bl ew
    refine AI rfl (Aa ?_)
    obtain ⟨aj, r3, ey, eg⟩ := DM eu
    refine A5 (fun e1 F1 L1 => ∃ (bg : Array MapEntry) (bw : Nat), A4 di F1 ∧ L1 = ((bl, ce (arr cB r3) 188) :: ((b8, ce #[.slice AL Ap.length AO, .slice Bh hours.length Bg, .map (some b7), .slice aq ar au] 192) :: ((b7, .map bg bw) :: (ah ++ [])))) ∧ e1.sub [(5, .pointer (some ⟨b8, 0, none⟩)), (7, .pointer (some ⟨bl, 0, none⟩)), (20, .int .i64 (hours.length : Int)), (21, .int .i64 k)] ∧ Dr (Value.int .i64) (Value.int .i64) bg aj ∧ r3.length = 64) ?_ ?_
    ·clear eg
     refine AJ (um ?_)
     obtain ⟨n2, ez, fa⟩ := AF ey
     refine JK (Lt := [(b8, ce #[.slice AL Ap.length AO, .slice Bh hours.length Bg, .map (some b7), .slice aq ar au] 192)]) (Lr := (bl, ce (arr cB (List.replicate 64 false)) 188) :: ((b7, .map ao aw) :: (ah ++ []))) rfl call70 rfl rfl rfl (((fC fO).trans (pC pR))) (fun F2 h2 h3 => by exact GP (h3 (b8, ce #[.slice AL Ap.length AO, .slice Bh hours.length Bg, .map (some b7), .slice aq ar au] 192) (List.mem_cons_self ..)) (aa.mono (Am (Ac _)) h2) (ab.mono (Am (Ac _)) h2) ez) ?_
     refine um (Aa ?_)
     refine Ak ?_
     obtain ⟨fb, fe⟩ := A0 fa
     refine Br (fun db e1 F1 L1 => ∃ (k2 : Int), EI 0 n2 k2 db ∧ ∃ (af : List (Int × Int)) (r4 : List Bool) (ax : Array MapEntry) (bj : Nat), ER Ap hours k db k2 af r4 = some (aj, r3) ∧ A4 di F1 ∧ L1 = ((bl, ce (arr cB r4) 188) :: ((b8, ce #[.slice AL Ap.length AO, .slice Bh hours.length Bg, .map (some b7), .slice aq ar au] 192) :: ((b7, .map ax bj) :: (ah ++ [])))) ∧ e1.sub [(5, .pointer (some ⟨b8, 0, none⟩)), (6, .int .i64 k), (7, .pointer (some ⟨bl, 0, none⟩)), (20, .int .i64 (hours.length : Int)), (21, .int .i64 k), (25, .int .i64 n2), (26, .int .i64 k2)] ∧ Dr (Value.int .i64) (Value.int .i64) ax af ∧ r4.length = 64) _ (m0 kr ⟨_, EI.start _ _, ad, List.replicate 64 false, ao, aw, fe, A4.refl _, rfl, z7, cf, List.length_replicate⟩) ?_
     rintro db e1 gj _ ⟨k2, bx, af, r4, ax, bj, dd, bk, rfl, dp, cg, cj⟩
     refine AB _ dp ?_
     replace aa := aa.mono (Am (Ac _)) bk
     replace ab := ab.mono (Am (Ac _)) bk
     refine AJ (uv (Bp rfl rfl) ?_)
     refine Aa (Aq ?_)
     refine cQ (fun de => ?_) fun de => ?_
     ·obtain ⟨db, rfl, dq⟩ := EI.succ bx de
      rw [ER] at dd
      refine Al (Aq ?_)
      refine Ak ?_
      refine AJ (um (ua (Aa (Af (um (um (um (um ?_))))))))
      obtain ⟨n3, CJ, ff, fg⟩ := DM dd
      refine J7 (Lb := [(b7, .map ax bj)]) (Lt := [(b8, ce #[.slice AL Ap.length AO, .slice Bh hours.length Bg, .map (some b7), .slice aq ar au] 192)]) (Lr := (bl, ce (arr cB r4) 188) :: (ah ++ [])) rfl call151 rfl rfl rfl (pT ((fC (fC fO)).trans (pC ((fC fO).trans (pC pR)))) (lb (ln (lb (ln rfl))))) (fun F2 h2 h3 => by exact Np (h3 (b8, ce #[.slice AL Ap.length AO, .slice Bh hours.length Bg, .map (some b7), .slice aq ar au] 192) (List.mem_cons_self ..)) (aa.mono (Am (Ac _)) h2) (ab.mono (Am (Ac _)) h2) cg ff) (fun _ _ _ _ hq => by obtain ⟨bz, ca, rfl, rfl, cb⟩ := hq; exact ⟨_, _, rfl, rfl, cb⟩) ?_; rintro _ gk _ dr fh fi ⟨bz, ca, rfl, rfl, cb⟩
      refine AI (lb (ln (lb (ln rfl)))) (uv (Cx rfl rfl) ?_)
      obtain ⟨x2, eh, fj, fk⟩ := BY fg
      refine uv (By underlying188 sizeOf4 rfl rfl (Ty cj eh)) ?_
      obtain ⟨r5, ei, fl⟩ := C3 fk
      have fm : r5.length = 64 := by rw [ei, List.length_set]; exact cj
      refine Tj (i := 2) sizeOf4 BG rfl rfl rfl rfl (Ty cj eh) cj ?_
      refine AI (L' := (b7, .map bz ca) :: ((b8, ce #[.slice AL Ap.length AO, .slice Bh hours.length Bg, .map (some b7), .slice aq ar au] 192) :: ((bl, ce (arr cB r5) 188) :: (ah ++ [])))) (by rw [ei]; rfl) ?_
      refine Aa (At (id := 3) (Af ?_))
      refine uv (Bf rfl rfl (EI.Ed bx de fb)) ?_
      refine um (Aa ?_)
      exact le (kf (fC (fC fO)) (kf (fC fO) kr)) ⟨_, dq, CJ, r5, bz, ca, fl, (bk.trans dr), rfl, z7, cb, fm⟩
     obtain rfl := EI.zero bx de
     rw [ER] at dd
     refine AW (Ae (Ae ?_))
     refine Au ?_
     obtain ⟨rfl, rfl⟩ := DO dd
     exact mi kr ⟨ax, bj, bk, rfl, z4, cg, cj⟩
    rintro e1 gl _ ⟨bg, bw, ck, rfl, dt, du, dv⟩
    refine AB _ dt ?_
    replace bb := bb.mono (DJ (n := 64) (sz := 1) BG) ck
    refine CM [(.still, 0), (.still, 1), (.still, 2), (.still, 3), (.still, 4), (.still, 5), (.seq, 6), (.seq, 7), (.still, 8), (.still, 9), (.seq, 10)] (by kernel_rfl) (by kernel_rfl) (trivial) (by rfl) (by kernel_rfl) (mS [5] rfl (BF rfl) (mS [5] rfl (BF rfl) (mS [38] rfl (AV rfl) (mS [39] rfl (Ab K6 rfl) (mL [40] ([(b8, ce #[.slice AL Ap.length AO, .slice Bh hours.length Bg, .map (some b7), .slice aq ar au] 192)]) rfl (s0 (s1 (s2 (s1 (s3 sr))))) (fun H F' L' dw dx => Ah isAgg190 rfl ((Has.own 0 rfl).ext dw dx) rfl) (mL [7] ([(bl, ce (arr cB r3) 188)]) rfl (s0 (s2 (s1 (s1 (s3 sr))))) (fun H F' L' dw dx => Jc isAgg188 sizeOf188 rfl ((Has.own 0 rfl).ext dw dx) (EP BG dv)) ?_))))))
    refine ⟨_, [(42, .agg (arr cB r3))], rfl, rfl, z1, by kernel_rfl, ?_⟩; intro H
    refine Ho (cs := arr cB r3) rfl rfl (Qx Uh BG dv rfl (by decide)) ?_; intro fp fq
    refine Aa ⟨_, rfl, A4.refl _, [4, 3, 2, 1, 0], by kernel_rfl, .inl (.inr (fun d h => by cases h; rfl)), (fc (s0 (s1 (s1 (s2 (s1 (s3 sr)))))) (fc sm (fc sm (fc sm (fc sm nm))))), ?_⟩
    refine ⟨_, [(41, .slice aq ar au), (43, .slice (some ⟨fp, 0, none⟩) 1 1)], rfl, rfl, z2, by kernel_rfl, ?_⟩; intro H
    obtain ⟨l, ft, fv, fw⟩ := Gp eg
    refine Ey (xs := ae) (ys := [r3]) (zs := l) rfl Uh rfl rfl (Nat.le_refl _) (fun _ => .c (.c (.c (.c .h)))) bb (GJ.box (vss := [(arr cB r3).toList]) (ys := [r3]) 0 rfl (DJ (n := 64) (sz := 1) BG) (.cons ⟨rfl, dv⟩ .nil) (by simp) rfl) ft fv (by decide) ?_; intro ej cn eo cp cq
    refine kO (kd kr) ?_
    refine Aa ⟨_, rfl, A4.refl _, [0], by kernel_rfl, .inl (.inr (fun d h => by cases h; rfl)), (fc sm nm), ?_⟩
    refine mS [37] rfl (AV rfl) (mS [45] rfl (Ab K6 rfl) ?_)
    refine ⟨_, [(44, .slice ej cn eo), (46, .pointer (some ⟨b8, 3, none⟩))], rfl, rfl, z2, by kernel_rfl, ?_⟩; intro H
    refine B4 (i := 1) sizeOf190 rfl rfl rfl rfl (CB rfl) (AI rfl ?_)
    refine Aa ⟨undef, rfl, A4.refl _, [], by kernel_rfl, .inl (.inl rfl), nm, ?_⟩
    refine D1 (At (id := 1) ?_)
    obtain ⟨rfl, rfl⟩ := DO fw
    exact mi (kd kr) ⟨bg, bw, ej, cn, eo, cp, ck, rfl, z3, du, cq⟩
   rintro e1 fx _ ⟨bc, bu, cy, cz, da, bd, bn, rfl, cr, dy, dz⟩
   refine AB _ cr ?_
   replace ab := ab.mono (Am (Ac _)) bn
   refine Af (uv (Bf rfl rfl (BI.Ed br cx (As.lt ab))) ?_)
   refine um (Aa ?_)
   subst dk; exact le kr ⟨_, _, rfl, dn, ai, al, bc, bu, cy, cz, da, bd, ef, (ba.trans bn), rfl, z3, dy, dz⟩
  obtain rfl := BI.zero br cx
  rw [DN] at cw
  refine AW (Ae (Ae ?_))
  refine Au ?_
  obtain ⟨rfl, rfl⟩ := DO cw
  exact mi kr ⟨ao, aw, aq, ar, au, ah, ba, rfl, z1, cf, bb⟩
 rintro e1 fy _ ⟨cd, az, df, dg, dh, bq, bo, rfl, ct, e9, cu⟩
 refine AB _ ct ?_
 replace aa := aa.mono (Am (Ac _)) bo
 replace ab := ab.mono (Am (Ac _)) bo
 refine AJ (um (ua (ua (Aa ?_))))
 obtain rfl := (Bd.Dx cu).1
 refine Pp (Nat.le_refl _) (DJ (n := 64) (sz := 1) BG) (fC (fC fP)) cu ?_; intro g0 bp cc
 replace aa := aa.mono (Am (Ac _)) bp
 replace ab := ab.mono (Am (Ac _)) bp
 refine B1 0 rfl ep ?_; intro ga ay cv
 refine DT (L' := [(b7, .map cd az)]) rfl ?_
 replace aa := aa.mono (Am (Ac _)) ay
 replace ab := ab.mono (Am (Ac _)) ay
 replace cc := cc.mono (DJ (n := 64) (sz := 1) BG) ay
 refine Aj (Dv results80 (AY rfl) (AY rfl) (sr) ?_)
 obtain ⟨rfl, rfl⟩ := DO eb
 exact ⟨_, [(b7, .map cd az)], rfl, rfl, Ro cv aa ab e9 cc⟩
set_option maxHeartbeats 1000000 in
theorem H7 {s_ : List (List Bool)} (ab : As 64 (Ll 64 cB) F Cj Ck s_) (al : v.length = 64) {r : Int} (hr : C9 s_ v = some r) :
    Bl Tryz.prog 231 #[.slice Cj s_.length Ck, .agg (arr cB v)] F (.int .i64 r) := by
 refine sp func231 ntmps231 fun K _ _ => ?_
 rw [C9] at hr
 refine AJ ?_
 refine BJ rfl rfl ?_; intro b1 bc
 refine ua (Aa ?_)
 refine A5 (fun e1 F1 L1 => DK = some r ∧ F = F1 ∧ L1 = [] ∧ e1.sub []) ?_ ?_
 ·refine AJ (um ?_)
  refine uv (A2 underlying190 rfl) ?_
  refine um (Aa ?_)
  refine Ak ?_
  refine Br (fun ao e1 F1 L1 => LA s_ ao fun tl k => BN v tl k = some r ∧ F = F1 ∧ L1 = [(b1, ce (arr cB v) 188)] ∧ e1.sub [(0, .slice Cj s_.length Ck), (3, .pointer (some ⟨b1, 0, none⟩)), (7, .int .i64 (s_.length : Int)), (8, .int .i64 k)]) _ (m0 kr ⟨_, _, rfl, BI.start _, hr, rfl, rfl, z4⟩) ?_
  rintro ao e1 _ _ ⟨tl, k, au, ad, r4, rfl, rfl, av⟩
  refine AB _ av (AJ (uv (Bp rfl rfl) ?_))
  refine Aa (Aq ?_)
  refine cQ (fun c7 => ?_) fun c7 => ?_
  ·obtain ⟨x, bd, rfl, aw, aq, ax⟩ := BI.succ ad c7
   rw [BN] at r4
   refine Al (Aq ?_)
   refine Ak ?_
   refine AJ (um (ua ?_))
   refine dN (wv (Jc isAgg188 sizeOf188 rfl (Has.own 0 rfl) (EP BG al)) ?_)
   refine wm (wm ?_)
   obtain ⟨QT, bg, bj, ay, ae, af, aa, ⟨rfl, az⟩, ah, ai⟩ := As.at (DJ (n := 64) (sz := 1) BG) ab ([(b1, ce (arr cB v) 188)]) aq.1 aw
   refine wv (AT underlying190 sizeOf188 rfl ae rfl aq) (wv (A1 isAgg188 sizeOf188 rfl af aa (Cz aa ah ai)) (wv (Sx (SU _ _ _ _) (T7 al az) rfl rfl) (CX ?_)))
   refine cQ (fun aj => ?_) fun aj => ?_
   ·have ba := Bi r4 aj
    refine AJ (um (ua (Aa ?_)))
    refine kW kn ?_
    refine Aj (AD (Ai (Ai (AD (Ai ?_)))))
    refine BZ results231 ?_
    obtain rfl := AH ba
    exact rfl
   have bb := Bk r4 aj
   refine Al (At (id := 1) (Af ?_))
   refine uv (Bf rfl rfl (BI.Ed ad c7 (As.lt ab))) ?_
   refine um (Aa ?_)
   subst au; exact le kr ⟨_, _, rfl, ax, bb, rfl, rfl, z4⟩
  obtain rfl := BI.zero ad c7
  rw [BN] at r4
  refine AW (Ae (Ae ?_))
  refine Au ?_
  exact mi kn ⟨r4, rfl, rfl, (sn _)⟩
 rintro e1 _ _ ⟨ar, rfl, rfl, ak⟩
 refine AB _ ak ?_
 rw [DK] at ar
 refine AJ (ua (Aa (Aj ?_)))
 refine BZ results231 ?_
 obtain rfl := AH ar
 exact rfl
theorem Hr {s_ : List (List Bool)} (aa : As 64 (Ll 64 cB) F Cj Ck s_) (ab : v.length = 64) {r : Bool} (hr : CP s_ v = some r) :
    Bl Tryz.prog 194 #[.slice Cj s_.length Ck, .agg (arr cB v)] F (.bool r) := by
 refine sp func194 ntmps194 fun K _ _ => ?_
 rw [CP] at hr
 refine AJ ?_
 refine BJ rfl rfl ?_; intro b1 ad
 refine ua (BU (um ?_))
 refine uv (Jc isAgg188 sizeOf188 rfl (Has.own 0 rfl) (EP BG ab)) ?_
 obtain ⟨n, h2, r3⟩ := AF hr
 refine cV call231 (H7 aa ab h2) (uv (FX rfl rfl) ?_)
 refine ua (Aa ?_)
 refine kW kn (Aj (BZ results194 ?_))
 obtain rfl := AH r3
 exact rfl
theorem Nz {hours : List (List Int)} (ab : F GZ = some (.cells #[.slice AL Ap.length AO, .slice Bh hours.length Bg, v1, .slice Io rows.length Im] 192 IZ)) (_h_listens : As 1 (BC 1 (iE .i64)) F AL AO Ap) (_h_hours : As 1 (BC 1 (iE .i64)) F Bh Bg hours) (aa : As 64 (Ll 64 cB) F Io Im rows) {r : Bool} (hr : Gf Ap hours rows = some r) :
    Bl Tryz.prog 144 #[.pointer (some ⟨GZ, 0, none⟩)] F (.bool r) := by
 refine sp func144 ntmps144 fun K _ _ => ?_
 rw [Gf] at hr
 refine AJ (ua (BU (um ?_)))
 refine uv (AV rfl) (uv (Ab K6 rfl) (uv (Ah isAgg190 rfl (Has.frozen ab) rfl) ?_))
 refine uv (BM (v := .agg (arr cB (List.replicate 64 false))) rfl (by intro w; kernel_rfl)) ?_
 obtain ⟨ok, h2, r3⟩ := AF hr
 refine cV call194 (Hr aa List.length_replicate h2) ?_
 refine ua (Aa (Aj ?_))
 refine BZ results144 ?_
 obtain rfl := AH r3
 exact rfl
set_option maxHeartbeats 1000000 in
theorem RR {hours : List (List Int)} (aa : As 1 (BC 1 (iE .i64)) F AL AO Ap) (ab : As 1 (BC 1 (iE .i64)) F Bh Bg hours) {r : Option ((List (List Int)) × (List (List Int)) × (List (Int × Int)) × (List (List Bool)))} {r2 : Int} (hr : JS Ap hours = some (r, r2)) :
    SH.Spec Tryz.prog 68 #[.agg #[.slice AL Ap.length AO, .slice Bh hours.length Bg]] F [] fun F' L' v => ∃ (rv : Value) (rL : LH), v = .tuple #[rv, .int .i64 r2] ∧ L' = rL ++ [] ∧ KJ F' rv r rL := by
 refine sp func68 ntmps68 fun K _ _ => ?_
 rw [JS] at hr
 refine AJ ?_
 refine BJ rfl rfl ?_; intro b1 bn
 refine ua (ua (BU ?_))
 refine uv (A1 isAgg70 sizeOf70 rfl (Has.own 0 rfl) (CB rfl) rfl) ?_
 obtain ⟨d, n, h2, r3⟩ := DM hr
 refine c0 call80 (Mm aa ab h2) ?_; rintro _ F4 _ bo bp ⟨v8, az, rfl, rfl, ba⟩
 refine AI (lp (ln rfl)) (kO (kf (fS fO) kr) ?_)
 refine um (ox rfl rfl rfl (ox rfl rfl rfl (ua (ua (Aa (Aq (AJ (um ?_))))))))
 refine uv (CI rfl rfl) (Aa ?_)
 refine cQ (fun ai => ?_) fun ai => ?_
 ·have bb := Bi r3 ai
  refine AJ (um (ua (ua (Aa ?_))))
  refine kW kn ?_
  refine Aj (Ai ?_)
  refine Dv results68 (AY rfl) (AY rfl) (sr) ?_
  obtain ⟨rfl, rfl⟩ := DO bb
  exact ⟨_, [], rfl, rfl, Nl _⟩
 have bc := Bk r3 ai
 refine Al (Aq (Aq ?_))
 obtain ⟨ad, aj, CJ, rows, bd, bg⟩ := Ng bc
 have ar := ba; rw [bd] at ar; obtain ⟨bq, br, bu, bw, bx, bz, au, ae, af, ca, cb, ak, ah, av, aw, al, ax, ao⟩ := OQ ar; subst ak; subst ao
 refine DT (L' := [(b1, ce #[.slice AL Ap.length AO, .slice Bh hours.length Bg] 70), (au, .map ae af)]) rfl ?_
 refine Af (um ?_)
 obtain ⟨ok, bj, ay⟩ := AF bg
 refine cV call144 (Nz ah av aw ax bj) (Aa ?_)
 refine AX rfl (fun aq => ?_) (fun aq => ?_)
 ·have bk := bt ay aq
  refine AJ (ua (ua (Aa ?_)))
  refine kW kn ?_
  refine Aj (Ai ?_)
  refine Dv results68 (AY rfl) (AY rfl) (sr) ?_
  obtain ⟨rfl, rfl⟩ := DO bk
  exact ⟨_, [], rfl, rfl, Nl _⟩
 have bl := bf ay aq
 refine Al (AJ (um (ua (ua (Aa ?_)))))
 refine kW (kd kr) (Aj (Dv results68 (AY rfl) (AY rfl) (sr) ?_))
 obtain ⟨rfl, rfl⟩ := DO bl
 exact ⟨_, [(au, .map ae af)], rfl, rfl, Ro ah av aw al ax⟩
theorem Gv {s_ : List Int} (aa : As 1 (iE .i64) F Cj Ck s_) {r : List Int} (hr : BL s_ = some r) :
    SH.Spec Tryz.prog 69 #[.slice Cj s_.length Ck] F [] fun F' L' v => ∃ (ra : Option Addr) (rn : Nat) (rc : Nat) (rL : LH), v = .slice ra rn rc ∧ L' = rL ++ [] ∧ Bd 0 77 1 (iE .i64) F' ra rn rc r rL := by
 refine sp func69 ntmps69 fun K _ _ => ?_
 rw [BL] at hr
 refine AJ (ua (Aa (Aq (AJ (um ?_)))))
 refine uv (S9 underlying76 rfl) (Aa ?_)
 refine AX rfl (fun c1 => ?_) (fun c1 => ?_)
 ·have r2 := TQ hr (As.isNone aa c1)
  refine AJ (ua (Aa (Aj (Ai ?_))))
  refine BZ results69 ?_
  obtain rfl := AH r2
  exact ⟨_, _, _, [], rfl, rfl, Bd.nil _ _ _ _ _⟩
 have r3 := Un hr
 refine Al (AJ ?_)
 refine Ho (cs := #[]) rfl rfl (LR R7) ?_; intro b4 af
 refine um ?_
 have ae : Bd K.w0.heap.size 77 1 (iE .i64) F (some ⟨b4, 0, none⟩) 0 0 ([] : List Int) [(b4, ce #[] 77)] := Bd.BW (vss := []) (Ac _) af .nil rfl rfl (by simp [maxLen])
 generalize ab : ([(b4, ce #[] 77)] : LH) = ah at ae
 refine B2 (L' := ah ++ []) (by rw [← ab]; exact fO) ?_
 obtain ⟨l, h8, g9, ai⟩ := Gp r3
 refine Ey (xs := ([] : List Int)) (ys := s_) (zs := l) rfl R7 rfl rfl (Nat.le_refl _) (fun _ => .h) ae (As.src aa) h8 g9 (by decide) ?_; intro ak al ao aj ad
 refine ua (Aa (Aj ?_))
 refine BZ results69 ?_
 obtain rfl := AH ai
 exact ⟨_, _, _, _, rfl, rfl, ad.any⟩
set_option maxHeartbeats 1000000 in
theorem NB {hours : List (List Int)} {af : Nat} {au : Nat × Nat} (ak : F GZ = some (.cells #[.pointer (some ⟨Pu, 0, none⟩)] 184 IZ)) (ae : F Pu = some (.cells #[.slice AL Ap.length AO, .slice Bh hours.length Bg, v1, .slice Io rows.length Im] 192 Qt)) (ab : As 1 (BC 1 (iE .i64)) F AL AO Ap) (ah : As 1 (BC 1 (iE .i64)) F Bh Bg hours) (ad : As 64 (Ll 64 cB) F Io Im rows) (aa : F af = some (.cells #[.int .i64 hour] 3 au)) (hr : Hn Ap hours rows hour = some xs) :
    ES Tryz.prog 145 #[] #[.pointer (some ⟨GZ, 0, none⟩), .pointer (some ⟨af, 0, none⟩)] F (fun x : Int => #[.int .i64 x]) xs := by
 intro G0 bc yv J Jx de cu hy Fc L0 hG cv
 replace ak := (bc.trans hG) _ _ ak
 replace ae := (bc.trans hG) _ _ ae
 replace ab := ab.mono (Am (Ac _)) (bc.trans hG)
 replace ah := ah.mono (Am (Ac _)) (bc.trans hG)
 replace ad := ad.mono (DJ (n := 64) (sz := 1) BG) (bc.trans hG)
 replace aa := (bc.trans hG) _ _ aa
 have ay : xs = [] ++ xs := rfl
 show SH.Spec Tryz.prog 145 #[yv, .pointer (some ⟨GZ, 0, none⟩), .pointer (some ⟨af, 0, none⟩)] Fc L0 _
 refine sp func145 ntmps145 fun K _ _ => ?_
 rw [Hn] at hr; refine DT (L' := L0 ++ []) (by simp) ?_
 refine AJ (uv (Ah isAgg184 rfl (Has.frozen ak) rfl) ?_)
 obtain ⟨n, h2, r3⟩ := AF hr
 refine cV call70 (GP ae ab ah h2) ?_
 refine um (Aa ?_)
 refine Ak ?_
 obtain ⟨g9, cw⟩ := A0 r3
 refine Br (fun bp e1 F1 L1 => ∃ (k : Int), EI 0 n k bp ∧ ∃ (aj : List Int) (av : List Int) (bd : LH), C2 rows hour bp k = some av ∧ A4 Fc F1 ∧ L1 = (bd ++ []) ∧ e1.sub [(0, yv), (1, .pointer (some ⟨GZ, 0, none⟩)), (2, .pointer (some ⟨af, 0, none⟩)), (6, .int .i64 n), (7, .int .i64 k)] ∧ xs = aj ++ av ∧ J aj F1 bd ∧ A4 G0 F1) _ (m0 kr ⟨_, EI.start _ _, [], xs, L0, cw, A4.refl _, rfl, z5, ay, cv, hG⟩) ?_
 rintro bp e1 df _ ⟨k, aw, aj, av, bd, bq, al, rfl, br, ai, bu, hG⟩
 refine AB _ br ?_
 replace ad := ad.mono (DJ (n := 64) (sz := 1) BG) al
 replace ae := al _ _ ae
 replace ak := al _ _ ak
 replace aa := al _ _ aa
 refine AJ (uv (Bp rfl rfl) ?_)
 refine Aa (Aq ?_)
 refine cQ (fun bg => ?_) fun bg => ?_
 ·obtain ⟨bp, rfl, bj⟩ := EI.succ aw bg
  rw [C2] at bq
  refine Al (Aq ?_)
  refine Ak ?_
  refine AJ (um (ua (Aa (Aq ?_))))
  refine CM [(.still, 0), (.still, 1), (.still, 2), (.still, 3), (.still, 4), (.still, 5), (.still, 6), (.still, 7), (.still, 8), (.still, 9), (.still, 10), (.still, 11), (.seq, 12), (.still, 13), (.still, 14)] (by kernel_rfl) (by kernel_rfl) (trivial) (by rfl) (by kernel_rfl) (mL [1] ([]) rfl sm (fun H F' L' aq ar => Ah isAgg184 rfl ((Has.frozen ak).ext aq ar) rfl) (mS [10] rfl (AV rfl) (mS [11] rfl (Ab K6 rfl) (mL [12] ([]) rfl sm (fun H F' L' aq ar => Ah isAgg190 rfl ((Has.frozen ae).ext aq ar) rfl) (mL [2] ([]) rfl sm (fun H F' L' aq ar => Ah isAgg3 rfl ((Has.frozen aa).ext aq ar) rfl) (mS [4] rfl (BF rfl) ?_))))))
  obtain ⟨x, cp, bw, cx⟩ := BY bq
  obtain ⟨dg, dh, di, cy, bx, bz, bk, ⟨rfl, cq⟩, ca, cb⟩ := As.at (DJ (n := 64) (sz := 1) BG) ad ([]) cp.1 bw
  refine mS [13, 14] rfl (AT underlying190 sizeOf188 rfl bx rfl cp) ?_
  obtain ⟨x2, cz, cc, cr⟩ := BY cx
  have cd := XX BG cq cc cb bk ca
  refine mS [15, 16] rfl (By underlying188 sizeOf4 rfl rfl (Ty cq cz)) (mL [17] ([]) rfl sm (fun H F' L' aq ar => Ah isAgg4 rfl (bz.ext aq ar) ((cd).2.2 0 (by decide))) (mS [18] rfl (BF rfl) ?_))
  rcases Cd x2 with ao | ao
  ·have da := bt cr ao
   refine Tf 19 (v := yv) (ek := [(0, yv), (19, .bool x2)]) (Ls := []) rfl rfl (I7 rfl ao) rfl rfl rfl (z2) (by kernel_rfl) sm (fun H F' L' aq ar => BF rfl) (Tf 19 (v := .int .i64 k) (ek := [(4, .int .i64 k), (19, .bool x2)]) (Ls := []) rfl rfl (I7 rfl ao) rfl rfl rfl (z2) (by kernel_rfl) sm (fun H F' L' aq ar => BF rfl) ?_)
   refine ⟨_, [(19, .bool x2), (20, yv), (21, .int .i64 k)], rfl, rfl, z3, by kernel_rfl, ?_⟩; intro H
   refine nB ao ?_
   obtain ⟨az, db, bl⟩ := Qg da
   refine LJ (Lb := bd) (Lr := []) (vs := [.int .i64 k]) rfl rfl rfl fP (hy aj k az (by rw [ai, bl]) _ _ hG bu) ?_
   rintro dk dm cf ba cg; obtain ⟨bb, rfl, bn, bo⟩ := HZ cg
   replace hG := hG.trans ba
   refine Aa ⟨_, rfl, ba, [2, 1, 0], by kernel_rfl, .inl (.inr (fun d h => by cases h; rfl)), (fc sm (fc sm (fc sm nm))), ?_⟩
   refine Tf 19 (v := .bool (!bb)) (ek := [(19, .bool x2), (22, .bool bb)]) (Ls := []) rfl rfl (I7 rfl ao) rfl rfl rfl (z2) (by kernel_rfl) sm (fun H F' L' aq ar => BB rfl) (mS (v := .bool (!bb)) [19, 23] rfl (AS (Hx rfl ao) rfl) (D1 ?_))
   refine AX rfl (fun cj => ?_) (fun cj => ?_)
   ·have ck := bo (by simpa using cj)
    refine Aj (AD (Ai (Ai (AD ?_))))
    refine Gs (.inl rfl) results145 (sr) ?_
    exact .inr (by rw [List.append_nil]; exact ck)
   have cn := bn (by simpa using cj)
   have ax : xs = (aj ++ [k]) ++ az := by rw [ai, bl]; simp
   refine Al (At (id := 1) (Af ?_))
   refine uv (Bf rfl rfl (EI.Ed aw bg g9)) ?_
   refine um (Aa ?_)
   exact le kr ⟨_, bj, aj ++ [k], az, cf, db, (al.trans ba), rfl, z5, ax, cn, hG⟩
  have dd := bf cr ao
  refine RU (ek := [(19, .bool x2)]) (b' := false) 19 rfl rfl (I7 rfl ao) rfl rfl rfl rfl z1 (by kernel_rfl) (RU (ek := [(19, .bool x2)]) (b' := false) 19 rfl rfl (I7 rfl ao) rfl rfl rfl rfl z1 (by kernel_rfl) ?_)
  refine ⟨_, [(19, .bool x2), (20, undef), (21, undef)], rfl, rfl, z3, by kernel_rfl, ?_⟩; intro H
  refine fB ao ?_
  refine Aa ⟨_, rfl, A4.refl _, [2, 1, 0], by kernel_rfl, .inl (.inr (fun d h => by cases h; rfl)), (fc sm (fc sm (fc sm nm))), ?_⟩
  refine RU (ek := [(19, .bool x2)]) (b' := false) 19 rfl rfl (I7 rfl ao) rfl rfl rfl rfl z1 (by kernel_rfl) (mS (v := .bool false) [19, 23] rfl (AE (Hx rfl ao) rfl) (D1 ?_))
  refine AX rfl (fun ct => nomatch ct) (fun ct => ?_)
  refine Al (At (id := 1) (Af ?_))
  refine uv (Bf rfl rfl (EI.Ed aw bg g9)) ?_
  refine um (Aa ?_)
  exact le kr ⟨_, bj, aj, av, bd, dd, al, rfl, z5, ai, bu, hG⟩
 obtain rfl := EI.zero aw bg
 rw [C2] at bq
 refine AW (Ae (Ae ?_))
 refine Au (Gs (.inr rfl) results145 (sr) ?_)
 obtain rfl := AH bq
 exact .inl (by have e1 := ai; rw [List.append_nil] at e1; rw [List.append_nil, e1]; exact bu)
theorem OV {hours : List (List Int)} (ae : F GZ = some (.cells #[.slice AL Ap.length AO, .slice Bh hours.length Bg, v1, .slice Io rows.length Im] 192 IZ)) (aa : As 1 (BC 1 (iE .i64)) F AL AO Ap) (ab : As 1 (BC 1 (iE .i64)) F Bh Bg hours) (ad : As 64 (Ll 64 cB) F Io Im rows) {r : List Int} (hr : Fo Ap hours rows hour = some r) :
    SH.Spec Tryz.prog 71 #[.pointer (some ⟨GZ, 0, none⟩), .int .i64 hour] F [] fun F' L' v => ∃ (ak : Array Value), v = .func (.func 145) #[] ak ∧ L' = [] ∧ ES Tryz.prog 145 #[] ak F' (fun x : Int => #[.int .i64 x]) r := by
 refine sp func71 ntmps71 fun K _ _ => ?_
 rw [Fo] at hr
 refine AJ ?_
 refine BJ rfl rfl ?_; intro b2 al
 refine BJ rfl rfl ?_; intro b3 ao
 refine ua (BU ?_)
 refine uv (BT rfl rfl) ?_
 refine ua (Aa ?_)
 refine B1 1 rfl al ?_; intro F4 ai aj
 refine DT (L' := [(b3, ce #[.int .i64 hour] 3)]) rfl ?_
 replace aa := aa.mono (Am (Ac _)) ai
 replace ab := ab.mono (Am (Ac _)) ai
 replace ad := ad.mono (DJ (n := 64) (sz := 1) BG) ai
 replace ae := ai _ _ ae
 refine B1 0 rfl ao ?_; intro F7 af aq
 refine DT (L' := []) rfl ?_
 replace aa := aa.mono (Am (Ac _)) af
 replace ab := ab.mono (Am (Ac _)) af
 replace ad := ad.mono (DJ (n := 64) (sz := 1) BG) af
 replace ae := af _ _ ae
 replace aj := af _ _ aj
 obtain ⟨l, ar, au⟩ := AF hr
 have ah : ES Tryz.prog 145 #[] #[.pointer (some ⟨b2, 0, none⟩), .pointer (some ⟨b3, 0, none⟩)] F7 (fun x : Int => #[.int .i64 x]) l := NB aj ae aa ab ad aq ar
 refine Aj (BZ results71 ?_)
 obtain rfl := AH au
 exact ⟨_, rfl, rfl, ah⟩
set_option maxHeartbeats 1000000 in
theorem ON {hours : List (List Int)} (aa : As 1 (BC 1 (iE .i64)) F AL AO Ap) (ad : As 1 (BC 1 (iE .i64)) F Bh Bg hours) {r : List (List Int)} {r2 : Int} (hr : G9 Ap hours = some (r, r2)) :
    SH.Spec Tryz.prog 23 #[.agg #[.slice AL Ap.length AO, .slice Bh hours.length Bg]] F [] fun F' L' v => ∃ (ra : Option Addr) (rn : Nat) (rc : Nat) (rL : LH), v = .tuple #[.slice ra rn rc, .int .i64 r2] ∧ L' = rL ++ [] ∧ Bd 0 76 1 (BC 1 (iE .i64)) F' ra rn rc r rL := by
 refine sp func23 ntmps23 fun K _ _ => ?_
 rw [G9] at hr
 refine AJ ?_
 refine BJ rfl rfl ?_; intro b1 nu
 refine ua (ua (BU ?_))
 refine uv (A1 isAgg70 sizeOf70 rfl (Has.own 0 rfl) (CB rfl) rfl) ?_
 obtain ⟨d, n, h2, r3⟩ := DM hr
 refine c0 call68 (RR aa ad h2) ?_; rintro _ F4 _ jq nv ⟨v8, lq, rfl, rfl, lr⟩
 replace aa := aa.mono (Am (Ac _)) jq
 replace ad := ad.mono (Am (Ac _)) jq
 refine AI (lp (ln rfl)) (kO (kf (fS fO) kr) ?_)
 refine um (ox rfl rfl rfl (ox rfl rfl rfl (ua (ua (Aa (Aq (AJ (um ?_))))))))
 refine uv (CI rfl rfl) (Aa ?_)
 refine cQ (fun ff => ?_) fun ff => ?_
 ·have lu := Bi r3 ff
  refine AJ (um (ua (ua (Aa ?_))))
  refine kW kn ?_
  refine Aj (Ai ?_)
  refine Dv results23 (AY rfl) (AY rfl) (sr) ?_
  obtain ⟨rfl, rfl⟩ := DO lu
  exact ⟨_, _, _, [], rfl, rfl, Bd.nil _ _ _ _ _⟩
 have lv := Bk r3 ff
 refine Al (AJ (ua (Aa ?_)))
 obtain ⟨out, lx, jr⟩ := AF lv
 refine A5 (fun e1 F1 L1 => ∃ (fg : Option Addr) (fh : Nat) (fi : Nat) (cp : LH), A4 F4 F1 ∧ L1 = (cp ++ []) ∧ e1.sub [(6, .slice fg fh fi)] ∧ Bd K.w0.heap.size 76 1 (BC 1 (iE .i64)) F1 fg fh fi out cp) ?_ ?_
 ·clear jr
  refine AJ (uv (Ab Gq rfl) (uv (Ah isAgg68 rfl (Has.own 0 rfl) rfl) (uv (A2 underlying68 rfl) ?_)))
  refine um (Aa ?_)
  refine Ak ?_
  obtain ⟨bg, cq, CJ, rows, ly, ma⟩ := Ng lx
  have js := lr; rw [ly] at js; obtain ⟨bw, nw, ny, nz, o2, o3, av, ai, aj, o4, o7, fj, ax, eu, ew, mb, da, fk⟩ := OQ js; subst fj; subst fk
  refine DT (L' := [(b1, ce #[.slice AL Ap.length AO, .slice Bh hours.length Bg] 70), (av, .map ai aj)]) rfl ?_
  refine Br (fun jt e1 F1 L1 => LA hours jt fun tl k => ∃ (bj : List (List Int)) (bk : Option Addr) (bl : Nat) (bn : Nat) (ah : LH), DD Ap bg cq rows tl k bj = some out ∧ A4 F4 F1 ∧ L1 = ((b1, ce #[.slice AL Ap.length AO, .slice Bh hours.length Bg] 70) :: ((av, .map ai aj) :: (ah ++ []))) ∧ e1.sub [(1, .pointer (some ⟨b1, 0, none⟩)), (4, .pointer (some ⟨bw, 0, none⟩)), (6, .slice bk bl bn), (24, .int .i64 (hours.length : Int)), (25, .int .i64 k)] ∧ Bd K.w0.heap.size 76 1 (BC 1 (iE .i64)) F1 bk bl bn bj ah) _ (m0 (kc (kc (ke kr))) ⟨_, _, rfl, BI.start _, [], none, 0, 0, [], ma, A4.refl _, rfl, z5, Bd.nil _ _ _ _ _⟩) ?_
  rintro jt e1 mc _ ⟨tl, k, fl, cr, bj, bk, bl, bn, ah, ey, ar, rfl, fm, ak⟩
  refine AB _ fm ?_
  replace aa := aa.mono (Am (Ac _)) ar
  replace ad := ad.mono (Am (Ac _)) ar
  replace eu := eu.mono (Am (Ac _)) ar
  replace ew := ew.mono (Am (Ac _)) ar
  replace da := da.mono (DJ (n := 64) (sz := 1) BG) ar
  replace ax := ar _ _ ax
  refine AJ (uv (Bp rfl rfl) ?_)
  refine Aa (Aq ?_)
  refine cQ (fun ez => ?_) fun ez => ?_
  ·obtain ⟨x, o8, rfl, me, o9, fp⟩ := BI.succ cr ez
   rw [DD] at ey
   refine Al ?_
   obtain ⟨db, mg, ju⟩ := AF ey
   refine A5 (fun e1 F1 L1 => ∃ (fa : Option Addr) (fb : Nat) (fe : Nat) (bx : LH), A4 mc F1 ∧ L1 = ((b1, ce #[.slice AL Ap.length AO, .slice Bh hours.length Bg] 70) :: ((av, .map ai aj) :: (bx ++ []))) ∧ e1.sub [(1, .pointer (some ⟨b1, 0, none⟩)), (4, .pointer (some ⟨bw, 0, none⟩)), (6, .slice fa fb fe), (24, .int .i64 (hours.length : Int)), (25, .int .i64 k)] ∧ Bd K.w0.heap.size 76 1 (BC 1 (iE .i64)) F1 fa fb fe db bx) ?_ ?_
   ·clear ju
    refine Ak ?_
    refine AJ (um (ua (Aa (Aq ?_))))
    obtain ⟨k2, jv, fq⟩ := AF mg
    refine jE (((b1, ce #[.slice AL Ap.length AO, .slice Bh hours.length Bg] 70) :: ((av, .map ai aj) :: (ah ++ [])))) [(1, .pointer (some ⟨b1, 0, none⟩)), (4, .pointer (some ⟨bw, 0, none⟩)), (6, .slice bk bl bn), (7, .int .i64 k), (24, .int .i64 (hours.length : Int)), (25, .int .i64 k), (47, .bool k2)] ?_ ?_
    ·clear fq
     refine Mr (by kernel_rfl) (by kernel_rfl) (by kernel_rfl) (wm (wv (Jy rfl rfl) (wm ?_)))
     by_cases ae : 0 < k
     ·have mh := Bi jv ae
      refine Bj (b := true) 30 rfl (Env.FL rfl ae) (wm (Bj (b := true) 30 rfl (Env.FL rfl ae) ?_))
      refine wv (AV rfl) (Bj (b := true) 30 rfl (Env.FL rfl ae) (wv (Ab K6 rfl) (Bj (b := true) 30 rfl (Env.FL rfl ae) (wv (Ah isAgg190 rfl (Has.frozen ax) rfl) ?_))))
      refine Bj (b := true) 30 rfl (Env.FL rfl ae) (wm (Bj (b := true) 30 rfl (Env.FL rfl ae) ?_))
      obtain ⟨x2, jw, ft, mj⟩ := BY mh
      obtain ⟨oc, od, oe, ml, fv, fw, cb, ⟨rfl, mn⟩, fx, fy⟩ := As.at (DJ (n := 64) (sz := 1) BG) da ((b1, ce #[.slice AL Ap.length AO, .slice Bh hours.length Bg] 70) :: ((av, .map ai aj) :: (ah ++ []))) jw.1 ft
      refine wv (AT underlying190 sizeOf188 rfl fv rfl jw) (Bj (b := true) 30 rfl (Env.FL rfl ae) (wv (A1 isAgg188 sizeOf188 rfl fw cb (Cz cb fx fy)) ?_))
      refine Bj (b := true) 30 rfl (Env.FL rfl ae) (wm (Bj (b := true) 30 rfl (Env.FL rfl ae) ?_))
      refine wv (AV rfl) (Bj (b := true) 30 rfl (Env.FL rfl ae) (wv (Ab K6 rfl) (Bj (b := true) 30 rfl (Env.FL rfl ae) (wv (Ah isAgg190 rfl (Has.frozen ax) rfl) ?_))))
      refine Bj (b := true) 30 rfl (Env.FL rfl ae) (wm (Bj (b := true) 30 rfl (Env.FL rfl ae) ?_))
      obtain ⟨mo, mq⟩ := A0 mj
      refine wv (Fs rfl rfl mo) (Bj (b := true) 30 rfl (Env.FL rfl ae) ?_)
      obtain ⟨x3, jx, g0, mr⟩ := BY mq
      obtain ⟨og, oh, oi, mu, ga, gb, cc, ⟨rfl, mv⟩, gg, gh⟩ := As.at (DJ (n := 64) (sz := 1) BG) da ((b1, ce #[.slice AL Ap.length AO, .slice Bh hours.length Bg] 70) :: ((av, .map ai aj) :: (ah ++ []))) jx.1 g0
      refine wv (AT underlying190 sizeOf188 rfl ga rfl jx) (Bj (b := true) 30 rfl (Env.FL rfl ae) (wv (A1 isAgg188 sizeOf188 rfl gb cc (Cz cc gg gh)) (Bj (b := true) 30 rfl (Env.FL rfl ae) (wv (Sx (SU _ _ _ _) (T7 mn mv) rfl rfl) (wv (AS (Bq rfl ae) rfl) (CX ?_))))))
      obtain rfl := AH mr
      exact mi kr ⟨rfl, rfl, z7⟩
     have gi := Bk jv ae
     refine A3 (b' := false) 30 rfl (Env.FM rfl ae) rfl rfl (A3 (b' := false) 30 rfl (Env.FM rfl ae) rfl rfl (A3 (b' := false) 30 rfl (Env.FM rfl ae) rfl rfl (A3 (b' := false) 30 rfl (Env.FM rfl ae) rfl rfl (A3 (b' := false) 30 rfl (Env.FM rfl ae) rfl rfl (A3 (b' := false) 30 rfl (Env.FM rfl ae) rfl rfl (A3 (b' := false) 30 rfl (Env.FM rfl ae) rfl rfl (A3 (b' := false) 30 rfl (Env.FM rfl ae) rfl rfl (A3 (b' := false) 30 rfl (Env.FM rfl ae) rfl rfl (A3 (b' := false) 30 rfl (Env.FM rfl ae) rfl rfl ?_)))))))))
     refine A3 (b' := false) 30 rfl (Env.FM rfl ae) rfl rfl (A3 (b' := false) 30 rfl (Env.FM rfl ae) rfl rfl (A3 (b' := false) 30 rfl (Env.FM rfl ae) rfl rfl (A3 (b' := false) 30 rfl (Env.FM rfl ae) rfl rfl (A3 (b' := false) 30 rfl (Env.FM rfl ae) rfl rfl (A3 (b' := false) 30 rfl (Env.FM rfl ae) rfl rfl ?_)))))
     refine wv (AE (Bc rfl ae) rfl) (CX ?_)
     obtain rfl := AH gi
     exact mi kr ⟨rfl, rfl, z7⟩
    refine AX rfl (fun ct => ?_) (fun ct => ?_)
    ·have gj := bt fq ct
     refine AJ (um (um (um ?_)))
     obtain ⟨gk, gl⟩ := A0 gj
     refine uv (Fs rfl rfl gk) ?_
     obtain ⟨x4, dd, de, gm⟩ := BY gl
     obtain ⟨mw, mx, my, jz, df, dg, gn, ⟨mz, na, rfl, gp⟩, k7, dh⟩ := Bd.at (Am (Ac _)) ak (L := (b1, ce #[.slice AL Ap.length AO, .slice Bh hours.length Bg] 70) :: ((av, .map ai aj) :: (ah ++ []))) (fC (fC fP)) dd.1 de
     refine uv (AT underlying73 sizeOf76 rfl df rfl (Bd.idx ak dd)) (uv (Ah isAgg76 rfl dg (dh 0 (by decide))) ?_)
     obtain ⟨l, gq, gr⟩ := AF gm
     refine c0 call69 (Gv gp gq) ?_; rintro _ nc _ cd di ⟨cu, dk, cv, k8, rfl, rfl, aw⟩
     replace ak := ak.mono (Am (Ac _)) cd
     replace aw := aw.new fun p hp => di p (by simp [hp])
     refine AI (lp (ln rfl)) (kO (kf (fS fO) (kf (fS fO) kr)) ?_)
     refine bA (cs := #[.slice cu dk cv]) RJ [.slice cu dk cv] ?_; intro nf k9
     obtain rfl := (Bd.Dx aw).1
     refine DF (Nat.le_refl _) (Ac _) (fC (fC (fC fP))) aw ?_; intro ng cf gu
     replace ak := ak.mono (Am (Ac _)) cf
     obtain ⟨gv, gw, gz, ia⟩ := Gp gr
     refine Ey (xs := bj) (ys := [l]) (zs := gv) rfl RJ rfl rfl (Nat.le_refl _) (fun _ => .c (.c (.c .h))) ak (GJ.box (vss := [[.slice cu l.length cv]]) (ys := [l]) 0 rfl (Am (Ac _)) (.cons ⟨_, _, rfl, gu⟩ .nil) rfl rfl) gw gz (by decide) ?_; intro ib ic ie dm dn
     refine kO (kd kr) ?_
     refine ua (Aa (AW (Ae ?_)))
     refine Au ?_
     obtain rfl := AH ia
     exact mi kr ⟨ib, ic, ie, dm, (cd.trans cf), rfl, z5, dn⟩
    have ig := bf fq ct
    refine Al (AJ (um ?_))
    obtain ⟨n2, ij, ik⟩ := AF ig
    refine cV call70 (GP ax eu ew ij) ?_
    obtain ⟨il, im⟩ := A0 ik
    refine uv (Fs rfl rfl il) ?_
    refine Bw rfl zeroValue3 ?_; intro al kb
    refine Bw rfl zeroValue3 ?_; intro ao kh
    refine B4 (i := 1) sizeOf3 rfl rfl rfl rfl (CB rfl) (AI rfl (B4 (i := 0) sizeOf3 rfl rfl rfl rfl (CB rfl) (AI rfl (Aa ?_))))
    obtain ⟨some_, ay, iq, dp⟩ := DM im
    refine jF (((ao, ce #[.int .i64 ay] 3) :: ((al, ce #[.int .i64 some_] 3) :: ((b1, ce #[.slice AL Ap.length AO, .slice Bh hours.length Bg] 70) :: ((av, .map ai aj) :: (ah ++ [])))))) [(1, .pointer (some ⟨b1, 0, none⟩)), (4, .pointer (some ⟨bw, 0, none⟩)), (6, .slice bk bl bn), (8, .pointer (some ⟨al, 0, none⟩)), (9, .pointer (some ⟨ao, 0, none⟩)), (24, .int .i64 (hours.length : Int)), (25, .int .i64 k)] ?_ fun dq bo => ?_
    ·clear dp
     refine AJ (um (um ?_))
     obtain ⟨y, ir, iu⟩ := AF iq
     refine c0 call71 (OV ax eu ew da ir) ?_; rintro _ nh _ dr kj ⟨dt, rfl, rfl, cw⟩
     refine AI (ln rfl) (Aa (Ak ?_))
     refine GF (encs := (fun x : Int => #[.int .i64 x])) (xs := y) rfl call145 rfl (fun _ => rfl) cw (fun pre F1 L1 => ∃ (cz : List Int) (ab : Int) (af : Int), y = pre ++ cz ∧ CO cz ab af = some (some_, ay) ∧ L1 = ((ao, ce #[.int .i64 af] 3) :: ((al, ce #[.int .i64 ab] 3) :: ((b1, ce #[.slice AL Ap.length AO, .slice Bh hours.length Bg] 70) :: ((av, .map ai aj) :: (ah ++ [])))))) (fun _ _ _ => False) ?_ ?_ ?_ ?_ ?_ ?_
     ·rintro pre F1 F2 L1 ⟨cz, ab, af, au, iv, rfl⟩ hx; exact ⟨cz, ab, af, au, iv, rfl⟩
     ·intro c F1 F2 L1 h hx; exact h
     ·exact ⟨_, 0, n2 - 1, rfl, iu, rfl⟩
     ·rintro ni kl km ko kt ku iw kv pre x5 oj bp nj _ kz ⟨cz, ab, af, au, du, rfl⟩
      obtain rfl := JP au bp
      rw [CO] at du
      refine AB [(1, .pointer (some ⟨b1, 0, none⟩)), (4, .pointer (some ⟨bw, 0, none⟩)), (6, .slice bk bl bn), (8, .pointer (some ⟨al, 0, none⟩)), (9, .pointer (some ⟨ao, 0, none⟩)), (24, .int .i64 (hours.length : Int)), (25, .int .i64 k), (62, .func (.func 145) #[] dt), (63, .int .i64 x5)] (by exact (sc rfl z8)) ?_
      refine Af (ua (Aa ?_))
      refine ⟨rfl, ?_⟩
      refine Ak (CM [(.still, 0), (.still, 1), (.still, 2), (.still, 3), (.still, 4), (.still, 5), (.seq, 6), (.seq, 7)] (by kernel_rfl) (by kernel_rfl) (trivial) (by rfl) (by kernel_rfl) (mL [8] ([(al, ce #[.int .i64 ab] 3)]) rfl (s0 (s1 (s2 (s1 (s1 (s3 sr)))))) (fun H F' L' iy iz => Ah isAgg3 rfl ((Has.own 0 rfl).ext iy iz) rfl) (mS [10] rfl (BF rfl) (mS (v := .int .i64 (Oe ab x5)) [64, 65] rfl (Tx rfl rfl) (mL [9] ([(ao, ce #[.int .i64 af] 3)]) rfl (s0 (s2 (s1 (s1 (s1 (s3 sr)))))) (fun H F' L' iy iz => Ah isAgg3 rfl ((Has.own 0 rfl).ext iy iz) rfl) (mS [10] rfl (BF rfl) (mS (v := .int .i64 (Fa af x5)) [67, 68] rfl (KB rfl rfl) ?_)))))))
      refine ⟨_, [(8, .pointer (some ⟨al, 0, none⟩)), (66, .int .i64 (Oe ab x5))], rfl, rfl, z2, by kernel_rfl, ?_⟩; intro H
      refine B4 (i := 1) sizeOf3 rfl rfl rfl rfl (CB rfl) (AI rfl ?_)
      refine Aa ⟨undef, rfl, A4.refl _, [5, 4, 3], by kernel_rfl, .inl (.inr (fun d h => by cases h)), (fc sm (fc sm (fc (s0 (s2 (s1 (s1 (s1 (s3 sr)))))) nm))), ?_⟩
      refine ⟨_, [(9, .pointer (some ⟨ao, 0, none⟩)), (69, .int .i64 (Fa af x5))], rfl, rfl, z2, by kernel_rfl, ?_⟩; intro H
      refine B4 (i := 0) sizeOf3 rfl rfl rfl rfl (CB rfl) (AI rfl ?_)
      refine Aa ⟨undef, rfl, A4.refl _, [], by kernel_rfl, .inl (.inl rfl), nm, ?_⟩
      refine D1 (At (id := 3) ?_)
      refine ⟨(ao, ce #[.int .i64 (Fa af x5)] 3) :: ((al, ce #[.int .i64 (Oe ab x5)] 3) :: ((b1, ce #[.slice AL Ap.length AO, .slice Bh hours.length Bg] 70) :: ((av, .map ai aj) :: (ah ++ [])))), ⟨_, .refl _, sr⟩, ?_⟩; exact ⟨_, Oe ab x5, Fa af x5, (by rw [bp]; simp), du, rfl⟩
     ·rintro nk _ dv ⟨cz, ab, af, au, dw, rfl⟩
      obtain rfl := Lk au; rw [CO] at dw
      refine At (id := 2) ?_
      obtain ⟨rfl, rfl⟩ := DO dw
      exact mi kr ⟨(dr.trans dv), rfl, z7⟩
     intro c F1 L1 hx h; exact h.elim
    replace aa := aa.mono (Am (Ac _)) bo
    replace ak := ak.mono (Am (Ac _)) bo
    refine AJ (ua (Aa ?_))
    obtain ⟨l2, j0, dx⟩ := AF dp
    refine A5 (fun e1 F1 L1 => ∃ (az : Option Addr) (bq : Nat) (ba : Nat) (br : LH), dq = F1 ∧ L1 = ((b1, ce #[.slice AL Ap.length AO, .slice Bh hours.length Bg] 70) :: ((av, .map ai aj) :: (ah ++ (br ++ [])))) ∧ e1.sub [(1, .pointer (some ⟨b1, 0, none⟩)), (4, .pointer (some ⟨bw, 0, none⟩)), (6, .slice bk bl bn), (11, .slice az bq ba), (24, .int .i64 (hours.length : Int)), (25, .int .i64 k)] ∧ Bd K.w0.heap.size 77 1 (iE .i64) F1 az bq ba l2 br) ?_ ?_
    ·clear dx
     refine AJ (uv (Ab FA rfl) (uv (Ah isAgg36 rfl (Has.own 2 rfl) rfl) (uv (A2 underlying36 rfl) ?_)))
     refine um (Aa ?_)
     refine Ak ?_
     refine Br (fun l0 e1 F1 L1 => LA Ap l0 fun ld k3 => ∃ (l3 : List Int) (bb : Option Addr) (bc : Nat) (bd : Nat) (aq : LH), CQ some_ ay ld k3 l3 = some l2 ∧ dq = F1 ∧ L1 = ((ao, ce #[.int .i64 ay] 3) :: ((al, ce #[.int .i64 some_] 3) :: ((b1, ce #[.slice AL Ap.length AO, .slice Bh hours.length Bg] 70) :: ((av, .map ai aj) :: (ah ++ (aq ++ [])))))) ∧ e1.sub [(1, .pointer (some ⟨b1, 0, none⟩)), (4, .pointer (some ⟨bw, 0, none⟩)), (6, .slice bk bl bn), (8, .pointer (some ⟨al, 0, none⟩)), (9, .pointer (some ⟨ao, 0, none⟩)), (11, .slice bb bc bd), (24, .int .i64 (hours.length : Int)), (25, .int .i64 k), (72, .int .i64 (Ap.length : Int)), (73, .int .i64 k3)] ∧ Bd K.w0.heap.size 77 1 (iE .i64) F1 bb bc bd l3 aq) _ (m0 (kc (kc (kc (kc (ka (ke kr)))))) ⟨_, _, rfl, BI.start _, [], none, 0, 0, [], j0, rfl, rfl, (sc rfl (sc rfl z8)), Bd.nil _ _ _ _ _⟩) ?_
     rintro l0 e1 _ _ ⟨ld, k3, dy, bu, l3, bb, bc, bd, aq, bz, rfl, rfl, dz, cg⟩
     refine AB _ dz (AJ (uv (Bp rfl rfl) ?_))
     refine Aa (Aq ?_)
     refine cQ (fun ca => ?_) fun ca => ?_
     ·obtain ⟨x6, oo, rfl, lg, nn, e9⟩ := BI.succ bu ca
      rw [CQ] at bz
      refine Al (Aq ?_)
      refine Ak ?_
      refine AJ (um (ua (BU (ua (Aa ?_)))))
      obtain ⟨v, j1, eb⟩ := AF bz
      refine jE (((ao, ce #[.int .i64 ay] 3) :: ((al, ce #[.int .i64 some_] 3) :: ((b1, ce #[.slice AL Ap.length AO, .slice Bh hours.length Bg] 70) :: ((av, .map ai aj) :: (ah ++ (aq ++ []))))))) [(1, .pointer (some ⟨b1, 0, none⟩)), (4, .pointer (some ⟨bw, 0, none⟩)), (6, .slice bk bl bn), (8, .pointer (some ⟨al, 0, none⟩)), (9, .pointer (some ⟨ao, 0, none⟩)), (11, .slice bb bc bd), (12, .int .i64 k3), (13, .int .i64 v), (24, .int .i64 (hours.length : Int)), (25, .int .i64 k), (72, .int .i64 (Ap.length : Int)), (73, .int .i64 k3)] ?_ ?_
      ·clear eb
       refine AJ (uv (Ah isAgg3 rfl (Has.own 0 rfl) rfl) (um ?_))
       obtain ⟨j2, ec⟩ := A0 j1
       refine uv (Jh rfl rfl j2) (uv (KB rfl rfl) (uv (Cx rfl rfl) (Aa ?_)))
       refine cQ (fun cx => ?_) fun cx => ?_
       ·have j3 := Bi ec cx
        refine Af (ua (Aa ?_))
        obtain rfl := AH j3
        exact mi kr ⟨rfl, rfl, (sc rfl (sc rfl (sc rfl (sc rfl z8))))⟩
       have j4 := Bk ec cx
       refine Al ?_
       obtain rfl := AH j4
       exact mi kr ⟨rfl, rfl, (sc rfl (sc rfl (sc rfl (sc rfl z8))))⟩
      obtain ⟨v2, j5, ef⟩ := AF eb
      refine jE (((ao, ce #[.int .i64 ay] 3) :: ((al, ce #[.int .i64 some_] 3) :: ((b1, ce #[.slice AL Ap.length AO, .slice Bh hours.length Bg] 70) :: ((av, .map ai aj) :: (ah ++ (aq ++ []))))))) [(1, .pointer (some ⟨b1, 0, none⟩)), (4, .pointer (some ⟨bw, 0, none⟩)), (6, .slice bk bl bn), (8, .pointer (some ⟨al, 0, none⟩)), (9, .pointer (some ⟨ao, 0, none⟩)), (11, .slice bb bc bd), (13, .int .i64 v2), (24, .int .i64 (hours.length : Int)), (25, .int .i64 k), (72, .int .i64 (Ap.length : Int)), (73, .int .i64 k3)] ?_ ?_
      ·clear ef
       refine AJ (uv (Ah isAgg3 rfl (Has.own 1 rfl) rfl) (um ?_))
       obtain ⟨j6, eg⟩ := A0 j5
       refine uv (Jh rfl rfl j6) (uv (KB rfl rfl) (uv (Cx rfl rfl) (Aa ?_)))
       refine cQ (fun cy => ?_) fun cy => ?_
       ·have j7 := Bi eg cy
        refine Af (ua (Aa ?_))
        obtain rfl := AH j7
        exact mi kr ⟨rfl, rfl, (sc rfl (sc rfl (sc rfl z8)))⟩
       have j8 := Bk eg cy
       refine Al ?_
       obtain rfl := AH j8
       exact mi kr ⟨rfl, rfl, (sc rfl (sc rfl (sc rfl z8)))⟩
      refine Af (um (um ?_))
      refine bA (cs := #[.int .i64 v2]) R7 [.int .i64 v2] ?_; intro np lh
      obtain ⟨l4, j9, ja, jb⟩ := Gp ef
      refine Ey (xs := l3) (ys := [v2]) (zs := l4) rfl R7 rfl rfl (Nat.le_refl _) (fun _ => .c (.c (.c (.c (.c (.s .h)))))) cg (GJ.box (vss := [[.int .i64 v2]]) (ys := [v2]) 0 rfl (Ac _) (.cons rfl .nil) rfl rfl) j9 ja (by decide) ?_; intro jc jd je eh ei
      refine kO (kd kr) ?_
      refine ua (Aa (At (id := 5) (Af ?_)))
      refine uv (Bf rfl rfl (BI.Ed bu ca (As.lt aa))) ?_
      refine um (Aa ?_)
      subst dy; exact le kr ⟨_, _, rfl, e9, l4, jc, jd, je, eh, jb, rfl, rfl, (sc rfl (sc rfl z8)), ei⟩
     obtain rfl := BI.zero bu ca
     rw [CQ] at bz
     refine AW (Ae (Ae ?_))
     refine Au ?_
     obtain rfl := AH bz
     exact mi (kd (kd kr)) ⟨bb, bc, bd, aq, rfl, rfl, z6, cg⟩
    rintro e1 _ _ ⟨az, bq, ba, br, rfl, rfl, ej, cj⟩
    refine AB _ ej ?_
    refine Af (um (um ?_))
    refine bA (cs := #[.slice az bq ba]) RJ [.slice az bq ba] ?_; intro nq lj
    obtain rfl := (Bd.Dx cj).1
    refine DF (Nat.le_refl _) (Ac _) (fC (fC (fC (fS fP)))) cj ?_; intro nr ck jf
    replace ak := ak.mono (Am (Ac _)) ck
    obtain ⟨jg, jh, ji, jj⟩ := Gp dx
    refine Ey (xs := bj) (ys := [l2]) (zs := jg) rfl RJ rfl rfl (Nat.le_refl _) (fun _ => .c (.c (.c .h))) ak (GJ.box (vss := [[.slice az l2.length ba]]) (ys := [l2]) 0 rfl (Am (Ac _)) (.cons ⟨_, _, rfl, jf⟩ .nil) rfl rfl) jh ji (by decide) ?_; intro jk jl jm eo ep
    refine kO (kd kr) ?_
    refine ua (Aa (At (id := 1) ?_))
    obtain rfl := AH jj
    exact mi kr ⟨jk, jl, jm, eo, (bo.trans ck), rfl, z5, ep⟩
   rintro e1 ns _ ⟨fa, fb, fe, bx, cn, rfl, er, jn⟩
   refine AB _ er ?_
   replace ad := ad.mono (Am (Ac _)) cn
   refine Af (uv (Bf rfl rfl (BI.Ed cr ez (As.lt ad))) ?_)
   refine um (Aa ?_)
   subst fl; exact le kr ⟨_, _, rfl, fp, db, fa, fb, fe, bx, ju, (ar.trans cn), rfl, z5, jn⟩
  obtain rfl := BI.zero cr ez
  rw [DD] at ey
  refine AW (Ae (Ae ?_))
  refine Au ?_
  obtain rfl := AH ey
  exact mi (kd (kd kr)) ⟨bk, bl, bn, ah, ar, rfl, z1, ak⟩
 rintro e1 nt _ ⟨fg, fh, fi, cp, lk, rfl, et, jo⟩
 refine AB _ et ?_
 refine AJ (um (ua (ua (Aa (Aj ?_)))))
 refine Dv results23 (AY rfl) (AY rfl) (sr) ?_
 obtain ⟨rfl, rfl⟩ := DO jr
 exact ⟨_, _, _, _, rfl, rfl, jo.any⟩
set_option maxHeartbeats 1000000 in
theorem HL {hours : List (List Int)} (af : As 1 (BC 1 (iE .i64)) F AL AO Ap) (aj : As 1 (BC 1 (iE .i64)) F Bh Bg hours) {r : List Int} {r2 : Bool} (hr : Cv Ap hours = some (r, r2)) :
    SH.Spec Tryz.prog 22 #[.agg #[.slice AL Ap.length AO, .slice Bh hours.length Bg]] F [] fun F' L' v => ∃ (ra : Option Addr) (rn : Nat) (rc : Nat) (rL : LH), v = .tuple #[.slice ra rn rc, .bool r2] ∧ L' = rL ++ [] ∧ Bd 0 3 1 (iE .i64) F' ra rn rc r rL := by
 refine sp func22 ntmps22 fun K _ _ => ?_
 rw [Cv] at hr
 refine AJ ?_
 refine BJ rfl rfl ?_; intro b1 fi
 refine ua (ua (BU ?_))
 refine uv (A1 isAgg70 sizeOf70 rfl (Has.own 0 rfl) (CB rfl) rfl) ?_
 obtain ⟨l, n, h2, r3⟩ := DM hr
 refine c0 call23 (ON af aj h2) ?_; rintro _ F4 _ fj dw ⟨a8, dx, c9, ak, rfl, rfl, ae⟩
 replace ae := ae.new fun p hp => dw p (by simp [hp])
 refine AI (lp (ln rfl)) (kO (kf (fS fO) kr) ?_)
 refine um (ox rfl rfl rfl (ox rfl rfl rfl (ua (ua (Aa (Aq ?_))))))
 obtain ⟨k, dh, bn⟩ := AF r3
 refine jE ((ak ++ [])) [(4, .slice a8 dx c9), (35, .bool k)] ?_ ?_
 ·clear bn
  refine Mr (by kernel_rfl) (by kernel_rfl) (by kernel_rfl) (wm (wv (CI rfl rfl) (wm ?_)))
  by_cases ad : n ≠ 0
  ·have dy := Bi dh ad
   refine A3 (b' := true) 18 rfl (Env.FL rfl ad) rfl rfl (A3 (b' := true) 18 rfl (Env.FL rfl ad) rfl rfl (A3 (b' := true) 18 rfl (Env.FL rfl ad) rfl rfl (A3 (b' := true) 18 rfl (Env.FL rfl ad) rfl rfl (A3 (b' := true) 18 rfl (Env.FL rfl ad) rfl rfl (A3 (b' := true) 18 rfl (Env.FL rfl ad) rfl rfl ?_)))))
   refine wv (AS (Bq rfl ad) rfl) ?_
   refine wm (A3 (b' := true) 26 rfl rfl rfl rfl (A3 (b' := true) 26 rfl rfl rfl rfl (A3 (b' := true) 26 rfl rfl rfl rfl (A3 (b' := true) 26 rfl rfl rfl rfl (A3 (b' := true) 26 rfl rfl rfl rfl (A3 (b' := true) 26 rfl rfl rfl rfl (A3 (b' := true) 26 rfl rfl rfl rfl (A3 (b' := true) 26 rfl rfl rfl rfl ?_))))))))
   refine wv (AS rfl rfl) (CX ?_)
   obtain rfl := AH dy
   exact mi (kd kr) ⟨rfl, rfl, z2⟩
  have di := Bk dh ad
  refine Bj (b := false) 18 rfl (Env.FM rfl ad) (wm (Bj (b := false) 18 rfl (Env.FM rfl ad) ?_))
  refine wv ((A2 underlying73 rfl).i (Bd.KW ae)) (Bj (b := false) 18 rfl (Env.FM rfl ad) (wv (Ab Gq rfl) (Bj (b := false) 18 rfl (Env.FM rfl ad) (wv (Ah isAgg68 rfl (Has.own 0 rfl) rfl) (Bj (b := false) 18 rfl (Env.FM rfl ad) (wv (A2 underlying68 rfl) (Bj (b := false) 18 rfl (Env.FM rfl ad) ?_)))))))
  refine wv (CI rfl rfl) (wv (AE (Bc rfl ad) rfl) (wm ?_))
  by_cases aa : (l.length : Int) ≠ (hours.length : Int)
  ·have dz := Bi di aa
   refine A3 (b' := true) 26 rfl (Env.FL rfl aa) rfl rfl (A3 (b' := true) 26 rfl (Env.FL rfl aa) rfl rfl (A3 (b' := true) 26 rfl (Env.FL rfl aa) rfl rfl (A3 (b' := true) 26 rfl (Env.FL rfl aa) rfl rfl (A3 (b' := true) 26 rfl (Env.FL rfl aa) rfl rfl (A3 (b' := true) 26 rfl (Env.FL rfl aa) rfl rfl (A3 (b' := true) 26 rfl (Env.FL rfl aa) rfl rfl (A3 (b' := true) 26 rfl (Env.FL rfl aa) rfl rfl ?_)))))))
   refine wv (AS (Bq rfl aa) rfl) (CX ?_)
   obtain rfl := AH dz
   exact mi (kd kr) ⟨rfl, rfl, z2⟩
  have e9 := Bk di aa
  refine Bj (b := false) 26 rfl (Env.FM rfl aa) (wm (Bj (b := false) 26 rfl (Env.FM rfl aa) ?_))
  obtain ⟨x, dk, bo, eb⟩ := BY e9
  obtain ⟨fk, fl, fm, ec, bp, bq, dm, ⟨fp, fq, rfl, ft⟩, ef, br⟩ := Bd.at (Am (Ac _)) ae (L := (b1, ce #[.slice AL Ap.length AO, .slice Bh hours.length Bg] 70) :: (ak ++ [])) (fC fP) dk.1 bo
  refine wv (AT underlying73 sizeOf76 rfl bp rfl (Bd.idx ae dk)) (Bj (b := false) 26 rfl (Env.FM rfl aa) (wv (Ah isAgg76 rfl bq (br 0 (by decide))) (Bj (b := false) 26 rfl (Env.FM rfl aa) (wv (A2 underlying76 rfl) (Bj (b := false) 26 rfl (Env.FM rfl aa) (wv (Ab FA rfl) (Bj (b := false) 26 rfl (Env.FM rfl aa) ?_)))))))
  refine wv (Ah isAgg36 rfl (Has.own 0 rfl) rfl) (Bj (b := false) 26 rfl (Env.FM rfl aa) (wv (A2 underlying36 rfl) (Bj (b := false) 26 rfl (Env.FM rfl aa) (wv (CI rfl rfl) (wv (AE (Bc rfl aa) rfl) (CX ?_))))))
  obtain rfl := AH eb
  exact mi (kd kr) ⟨rfl, rfl, z2⟩
 refine AX rfl (fun bu => ?_) (fun bu => ?_)
 ·have eg := bt bn bu
  refine AJ (ua (ua (Aa ?_)))
  refine kW kn ?_
  refine Aj (Ai ?_)
  refine Dv results22 (AY rfl) (AY rfl) (sr) ?_
  obtain ⟨rfl, rfl⟩ := DO eg
  exact ⟨_, _, _, [], rfl, rfl, Bd.nil _ _ _ _ _⟩
 have eh := bf bn bu
 refine Al (AJ (ua (Aa ?_)))
 refine A5 (fun e1 F1 L1 => ∃ (out : List Int) (bw : Option Addr) (bx : Nat) (bz : Nat) (al : LH), Ek out = some (r, r2) ∧ F4 = F1 ∧ L1 = (al ++ []) ∧ e1.sub [(6, .slice bw bx bz)] ∧ Bd K.w0.heap.size 3 1 (iE .i64) F1 bw bx bz out al) ?_ ?_
 ·refine AJ (um ?_)
  obtain ⟨x2, dn, ca, ei⟩ := BY eh
  obtain ⟨fv, fw, fx, ej, cb, cc, dp, ⟨eo, ep, rfl, dq⟩, er, cd⟩ := Bd.at (Am (Ac _)) ae (L := ak ++ []) fP dn.1 ca
  refine uv (AT underlying73 sizeOf76 rfl cb rfl (Bd.idx ae dn)) (uv (Ah isAgg76 rfl cc (cd 0 (by decide))) (uv (A2 underlying76 rfl) ?_))
  refine um (Aa ?_)
  refine Ak (kW kn ?_)
  refine Br (fun dr e1 F1 L1 => LA x2 dr fun tl k2 => ∃ (ah : List Int) (bd : Option Addr) (bg : Nat) (bj : Nat) (ai : LH), B9 tl ah = some (r, r2) ∧ F4 = F1 ∧ L1 = (ai ++ []) ∧ e1.sub [(6, .slice bd bg bj), (38, .slice eo x2.length ep), (39, .int .i64 (x2.length : Int)), (40, .int .i64 k2)] ∧ Bd K.w0.heap.size 3 1 (iE .i64) F1 bd bg bj ah ai) _ (m0 (ke kr) ⟨_, _, rfl, BI.start _, [], none, 0, 0, [], ei, rfl, rfl, z4, Bd.nil _ _ _ _ _⟩) ?_
  rintro dr e1 _ _ ⟨tl, k2, cf, ao, ah, bd, bg, bj, ai, bk, rfl, rfl, cg, ar⟩
  refine AB _ cg (AJ (uv (Bp rfl rfl) ?_))
  refine Aa (Aq ?_)
  refine cQ (fun bl => ?_) fun bl => ?_
  ·obtain ⟨x3, fy, rfl, cj, dt, ck⟩ := BI.succ ao bl
   rw [B9] at bk
   refine Al (Aq ?_)
   refine Ak (AJ ?_)
   obtain ⟨g0, ga, gb, et, cn, cp, du, rfl, eu, cq⟩ := As.at (Ac _) dq (ai ++ []) dt.1 cj
   refine uv (AT underlying76 sizeOf77 rfl cn rfl dt) (uv (Ah isAgg77 rfl cp (cq 0 (by decide))) ?_)
   refine ua (BU ?_)
   refine JO rfl ?_; intro gg ew
   refine Jg (i := 0) (k := 0) (v := -1) underlying79 (Gj underlying77) rfl rfl rfl rfl (show Dr (Value.int .i64) (Value.int .i64) #[] ([] : List (Int × Int)) from Dr.nil) ?_; intro cr ey au
   obtain ⟨met, ez, fa⟩ := C3 bk
   rw [← ez] at au
   refine AI rfl ?_
   refine Jg (i := 0) (k := 1) (v := 1) underlying79 (Gj underlying77) rfl rfl rfl rfl (show Dr (Value.int .i64) (Value.int .i64) cr (met : List (Int × Int)) from au) ?_; intro ct fb av
   obtain ⟨cu, fe, ff⟩ := C3 fa
   rw [← fe] at av
   refine AI rfl ?_
   refine Jg (i := 0) (k := 2) (v := 0) underlying79 (Gj underlying77) rfl rfl rfl rfl (show Dr (Value.int .i64) (Value.int .i64) ct (cu : List (Int × Int)) from av) ?_; intro cv fg aw
   obtain ⟨ab, cw, ax⟩ := C3 ff
   rw [← cw] at aw
   refine AI rfl ?_
   refine um (um ?_)
   refine uv (Ft.eq (v' := .tuple #[.int .i64 ((Bm ab x3).getD 0), .bool ((Bm ab x3).isSome)]) (JZ (k := x3) (z0 := 0) rfl underlying79 (Gj underlying77) zeroValue3 rfl rfl (KO.own 0 rfl) (show Dr (Value.int .i64) (Value.int .i64) cv (ab : List (Int × Int)) from aw)) rfl) ?_
   refine um (ox rfl rfl rfl (ox rfl rfl rfl (ua (ua (Aa (Aq (AJ (um ?_))))))))
   refine uv (BB rfl) (Aa ?_)
   refine AX rfl (fun aq => ?_) (fun aq => ?_)
   ·have cx := bt ax aq
    refine AJ (ua (ua (Aa ?_)))
    refine kW kn ?_
    refine Aj (Ai (AD (Ai (Ai (AD (Ai ?_))))))
    refine Dv results22 (AY rfl) (AY rfl) (sr) ?_
    obtain ⟨rfl, rfl⟩ := DO cx
    exact ⟨_, _, _, [], rfl, rfl, Bd.nil _ _ _ _ _⟩
   have cy := bf ax aq
   refine Al (Af (um (um ?_)))
   refine bA (cs := #[.int .i64 ((Bm ab x3).getD 0)]) Ct [.int .i64 ((Bm ab x3).getD 0)] ?_; intro fh dv
   obtain ⟨ay, cz, da, db⟩ := Gp cy
   refine Ey (xs := ah) (ys := [(Bm ab x3).getD 0]) (zs := ay) rfl Ct rfl rfl (Nat.le_refl _) (fun _ => .c (.c .h)) ar (GJ.box (vss := [[.int .i64 ((Bm ab x3).getD 0)]]) (ys := [(Bm ab x3).getD 0]) 0 rfl (Ac _) (.cons rfl .nil) rfl rfl) cz da (by decide) ?_; intro dd de df az ba
   refine kO (kd kr) ?_
   refine ua (Aa (At (id := 1) (Af ?_)))
   refine uv (Bf rfl rfl (BI.Ed ao bl (As.lt dq))) ?_
   refine um (Aa ?_)
   subst cf; exact le (kd kr) ⟨_, _, rfl, ck, ay, dd, de, df, az, db, rfl, rfl, z4, ba⟩
  obtain rfl := BI.zero ao bl
  rw [B9] at bk
  refine AW (Ae (Ae ?_))
  refine Au ?_
  exact mi kr ⟨ah, bd, bg, bj, ai, bk, rfl, rfl, z1, ar⟩
 rintro e1 _ _ ⟨out, bw, bx, bz, al, bb, rfl, rfl, bc, dg⟩
 refine AB _ bc ?_
 rw [Ek] at bb
 refine AJ (um (ua (ua (Aa (Aj ?_)))))
 refine Dv results22 (AY rfl) (AY rfl) (sr) ?_
 obtain ⟨rfl, rfl⟩ := DO bb
 exact ⟨_, _, _, _, rfl, rfl, dg.any⟩
theorem IS {r : Bool} (hr : IB n lo hi = some r) :
    Bl Tryz.prog 147 #[.int .i64 n, .int .i64 lo, .int .i64 hi] F (.bool r) := by
 refine sp func147 ntmps147 fun K _ _ => ?_
 rw [IB] at hr
 refine AJ (ua (BU (um (um ?_))))
 refine uv (FX rfl rfl) (um ?_)
 by_cases c1 : lo ≤ n
 ·have r2 := Bi hr c1
  refine nT c1 (um (nT c1 (um (nT c1 ?_))))
  refine uv (Kg rfl rfl) (uv (AS (Bq rfl c1) rfl) ?_)
  refine ua (Aa (Aj ?_))
  refine BZ results147 ?_
  obtain rfl := AH r2
  exact rfl
 have r3 := Bk hr c1
 refine fF c1 (fF c1 (fF c1 ?_))
 refine uv (AE (Bc rfl c1) rfl) ?_
 refine ua (Aa (Aj ?_))
 refine BZ results147 ?_
 obtain rfl := AH r3
 exact rfl
theorem Nk {x : Int} {holds : Int → Option Bool} (ab : F PQ = some (.cells #[.func (.func KA) KC Kz] 89 S3)) (aa : Gk Tryz.prog F KA KC Kz (iE .i64) Value.bool holds) {r : Bool} (hr : FZ x holds = some r) :
    Bl Tryz.prog 232 #[.int .i64 x, .pointer (some ⟨PQ, 0, none⟩)] F (.bool r) := by
 refine sp func232 ntmps232 fun K _ _ => ?_
 rw [FZ] at hr
 refine AJ (ua (BU ?_))
 refine uv (Ah isAgg89 rfl (Has.frozen ab) rfl) (um ?_)
 obtain ⟨ok, h1, r2⟩ := AF hr
 refine D2 rfl aa.1 rfl rfl rfl (aa.2 _ (A4.refl _) _ _ _ rfl h1) (uv (BB rfl) ?_)
 refine ua (Aa (Aj ?_))
 refine BZ results232 ?_
 obtain rfl := AH r2
 exact rfl
theorem I0 {l : List Int} {holds : Int → Option Bool} (ab : As 1 (iE .i64) F Ko J0 l) (aa : Gk Tryz.prog F KA KC Kz (iE .i64) Value.bool holds) {r : Bool} (hr : D8 l holds = some r) :
    Bl Tryz.prog 197 #[.slice Ko l.length J0, .func (.func KA) KC Kz] F (.bool r) := by
 refine sp func197 ntmps197 fun K _ _ => ?_
 rw [D8] at hr
 refine AJ ?_
 refine BJ rfl rfl ?_; intro b1 af
 refine ua (BU (um ?_))
 refine uv (BT rfl rfl) ?_
 refine Bz 0 rfl af ?_; intro F2 ad ah
 refine AI rfl ?_
 replace ab := ab.mono (Ac _) ad
 replace aa := aa.mono ad
 have ai : Gk Tryz.prog F2 232 #[] #[.pointer (some ⟨b1, 0, none⟩)] (iE .i64) Value.bool (fun ae : Int => FZ ae holds) := ⟨call232, fun F2 h2 vs ae r ha hr => by obtain rfl := ha; exact Nk (h2 _ _ ah) (aa.mono h2) hr⟩
 obtain ⟨ok, h6, r7⟩ := AF hr
 refine cV call26 (Dw ab ai h6) (uv (BB rfl) ?_)
 refine ua (Aa (Aj ?_))
 refine BZ results197 ?_
 obtain rfl := AH r7
 exact rfl
theorem OW {r : Bool} (hr : G7 n = some r) :
    Bl Tryz.prog 198 #[.int .i64 n] F (.bool r) := by
 refine sp func198 ntmps198 fun K _ _ => ?_
 rw [G7] at hr
 refine AJ (ua (BU (um ?_)))
 obtain ⟨ok, h1, r2⟩ := AF hr
 refine cV call147 (IS h1) ?_
 refine ua (Aa (Aj ?_))
 refine BZ results198 ?_
 obtain rfl := AH r2
 exact rfl
theorem QF {l : List Int} (ab : As 1 (iE .i64) F Ko J0 l) {r : Bool} (hr : EY l = some r) :
    Bl Tryz.prog 196 #[.slice Ko l.length J0] F (.bool r) := by
 refine sp func196 ntmps196 fun K _ _ => ?_
 rw [EY] at hr
 refine AJ (ua (BU (um ?_)))
 have ad : Gk Tryz.prog F 198 #[] #[] (iE .i64) Value.bool (fun aa : Int => G7 aa) := ⟨call198, fun F2 h2 vs aa r ha hr => by obtain rfl := ha; exact OW hr⟩
 obtain ⟨ok, h2, r3⟩ := AF hr
 refine cV call197 (I0 ab ad h2) ?_
 refine ua (Aa (Aj ?_))
 refine BZ results196 ?_
 obtain rfl := AH r3
 exact rfl
theorem M9 {x : List Int} {holds : (List Int) → Option Bool} (ad : As 1 (iE .i64) F VP VR x) (ab : F PQ = some (.cells #[.func (.func KA) KC Kz] 335 S3)) (aa : Gk Tryz.prog F KA KC Kz (BC 1 (iE .i64)) Value.bool holds) {r : Bool} (hr : EM x holds = some r) :
    Bl Tryz.prog 234 #[.slice VP x.length VR, .pointer (some ⟨PQ, 0, none⟩)] F (.bool r) := by
 refine sp func234 ntmps234 fun K _ _ => ?_
 rw [EM] at hr
 refine AJ (ua (BU ?_))
 refine uv (Ah isAgg335 rfl (Has.frozen ab) rfl) (um ?_)
 obtain ⟨ok, h1, r2⟩ := AF hr
 refine D2 rfl aa.1 rfl rfl rfl (aa.2 _ (A4.refl _) _ _ _ ⟨_, _, rfl, ad⟩ h1) (uv (BB rfl) ?_)
 refine ua (Aa (Aj ?_))
 refine BZ results234 ?_
 obtain rfl := AH r2
 exact rfl
theorem GS {l : List (List Int)} {holds : (List Int) → Option Bool} (ab : As 1 (BC 1 (iE .i64)) F Ko J0 l) (aa : Gk Tryz.prog F KA KC Kz (BC 1 (iE .i64)) Value.bool holds) {r : Bool} (hr : CH l holds = some r) :
    Bl Tryz.prog 199 #[.slice Ko l.length J0, .func (.func KA) KC Kz] F (.bool r) := by
 refine sp func199 ntmps199 fun K _ _ => ?_
 rw [CH] at hr
 refine AJ ?_
 refine BJ rfl rfl ?_; intro b1 af
 refine ua (BU (um ?_))
 refine uv (BT rfl rfl) ?_
 refine Bz 0 rfl af ?_; intro F2 ad ah
 refine AI rfl ?_
 replace ab := ab.mono (Am (Ac _)) ad
 replace aa := aa.mono ad
 have ai : Gk Tryz.prog F2 234 #[] #[.pointer (some ⟨b1, 0, none⟩)] (BC 1 (iE .i64)) Value.bool (fun ae : (List Int) => EM ae holds) := ⟨call234, fun F2 h2 vs ae r ha hr => by obtain ⟨a5, c6, rfl, h7⟩ := ha; exact M9 h7 (h2 _ _ ah) (aa.mono h2) hr⟩
 obtain ⟨ok, h9, aj⟩ := AF hr
 refine cV call233 (Gn ab ai h9) (uv (BB rfl) ?_)
 refine ua (Aa (Aj ?_))
 refine BZ results199 ?_
 obtain rfl := AH aj
 exact rfl
theorem QJ {r : Bool} (hr : Hp n = some r) :
    Bl Tryz.prog 200 #[.int .i64 n] F (.bool r) := by
 refine sp func200 ntmps200 fun K _ _ => ?_
 rw [Hp] at hr
 refine AJ (ua (BU (um ?_)))
 obtain ⟨ok, h1, r2⟩ := AF hr
 refine cV call147 (IS h1) ?_
 refine ua (Aa (Aj ?_))
 refine BZ results200 ?_
 obtain rfl := AH r2
 exact rfl
theorem QQ {r : Bool} (hr : Hu n = some r) :
    Bl Tryz.prog 201 #[.int .i64 n] F (.bool r) := by
 refine sp func201 ntmps201 fun K _ _ => ?_
 rw [Hu] at hr
 refine AJ (ua (BU (um ?_)))
 obtain ⟨ok, h1, r2⟩ := AF hr
 refine cV call147 (IS h1) ?_
 refine ua (Aa (Aj ?_))
 refine BZ results201 ?_
 obtain rfl := AH r2
 exact rfl
theorem P7 {l : List Int} {lost : List (List Int)} (_h_l : As 1 (iE .i64) F Ko J0 l) (aa : F GZ = some (.cells #[.slice AK weights.length AM, .int .i64 Be, .slice Bn lost.length Bo, .slice A7 found.length A6, .slice AP AG.length AN] 82 IZ)) (_h_weights : As 1 (iE .i64) F AK AM weights) (_h_lost : As 1 (BC 1 (iE .i64)) F Bn Bo lost) (_h_found : As 1 (BC 1 (iE .i64)) F A7 A6 found) (_h_rewards : As 1 (iE .i64) F AP AN AG) {r : Bool} (hr : EZ l weights Be lost found AG = some r) :
    Bl Tryz.prog 195 #[.slice Ko l.length J0, .pointer (some ⟨GZ, 0, none⟩)] F (.bool r) := by
 refine sp func195 ntmps195 fun K _ _ => ?_
 rw [EZ] at hr
 refine AJ (ua (BU (um ?_)))
 refine uv (A2 underlying33 rfl) (uv (Ab MN rfl) (uv (Ah isAgg33 rfl (Has.frozen aa) rfl) (uv (A2 underlying33 rfl) (uv (Cx rfl rfl) ?_))))
 refine ua (Aa (Aj ?_))
 refine BZ results195 ?_
 obtain rfl := AH hr
 exact rfl
set_option maxHeartbeats 1000000 in
theorem R8 {lost : List (List Int)} (aa : As 1 (iE .i64) F AK AM weights) (ae : As 1 (BC 1 (iE .i64)) F Bn Bo lost) (ad : As 1 (BC 1 (iE .i64)) F A7 A6 found) (ab : As 1 (iE .i64) F AP AN AG) {r : Int} (hr : JV weights Be lost found AG = some r) :
    Bl Tryz.prog 146 #[.agg #[.slice AK weights.length AM, .int .i64 Be, .slice Bn lost.length Bo, .slice A7 found.length A6, .slice AP AG.length AN]] F (.int .i64 r) := by
 refine sp func146 ntmps146 fun K _ _ => ?_
 rw [JV] at hr
 refine AJ ?_
 refine BJ rfl rfl ?_; intro b1 bu
 refine ua (BU ?_)
 refine uv (BT rfl rfl) ?_
 refine ua (BU (ua (Aa (Aq ?_))))
 refine Ak ?_
 obtain ⟨k, h2, r3⟩ := AF hr
 refine jE ([(b1, ce #[.slice AK weights.length AM, .int .i64 Be, .slice Bn lost.length Bo, .slice A7 found.length A6, .slice AP AG.length AN] 82)]) [(1, .pointer (some ⟨b1, 0, none⟩)), (3, .func (.func 195) #[] #[.pointer (some ⟨b1, 0, none⟩)]), (4, .func (.func 196) #[] #[]), (6, .bool k)] ?_ ?_
 ·clear r3
  refine Af (uv (Ab MN rfl) (uv (Ah isAgg33 rfl (Has.own 0 rfl) rfl) (uv (A2 underlying33 rfl) ?_)))
  obtain ⟨ok, h4, r5⟩ := AF h2
  refine cV call147 (IS h4) (uv (BB rfl) (um ?_))
  rcases Cd (!ok) with c6 | c6
  ·have r7 := bt r5 c6
   refine fB c6 (fB c6 (fB c6 (fB c6 ?_)))
   refine uv (AS (Hx rfl c6) rfl) ?_
   refine um (Ay (b' := true) 18 rfl rfl rfl rfl (Ay (b' := true) 18 rfl rfl rfl rfl (Ay (b' := true) 18 rfl rfl rfl rfl (Ay (b' := true) 18 rfl rfl rfl rfl ?_))))
   refine uv (AS rfl rfl) ?_
   refine ua (Aa ?_)
   obtain rfl := AH r7
   exact mi kr ⟨rfl, rfl, z4⟩
  have r8 := bf r5 c6
  refine nB c6 (uv (Ab Jd rfl) (nB c6 (uv (Ah isAgg36 rfl (Has.own 0 rfl) rfl) (nB c6 (uv (A2 underlying36 rfl) (nB c6 (uv (Jy rfl rfl) ?_)))))))
  refine uv (AE (Hx rfl c6) rfl) (um ?_)
  by_cases c9 : 6 < (lost.length : Int)
  ·have bw := Bi r8 c9
   refine fT c9 (fT c9 (fT c9 (fT c9 ?_)))
   refine uv (AS (Bq rfl c9) rfl) ?_
   refine ua (Aa ?_)
   obtain rfl := AH bw
   exact mi kr ⟨rfl, rfl, z4⟩
  have bx := Bk r8 c9
  refine nF c9 (uv (Ab LP rfl) (nF c9 (uv (Ah isAgg36 rfl (Has.own 0 rfl) rfl) (nF c9 (uv (A2 underlying36 rfl) (nF c9 (uv (Jy rfl rfl) ?_)))))))
  refine uv (AE (Bc rfl c9) rfl) ?_
  refine ua (Aa ?_)
  obtain rfl := AH bx
  exact mi kr ⟨rfl, rfl, z4⟩
 refine AX rfl (fun aw => ?_) (fun aw => ?_)
 ·have bz := bt r3 aw
  refine AJ (ua (Aa ?_))
  refine kW kn ?_
  refine Aj (AD (Ai ?_))
  refine BZ results146 ?_
  obtain rfl := AH bz
  exact rfl
 have ca := bf r3 aw
 obtain ⟨k2, cb, ax⟩ := AF ca
 refine A5 (fun e1 F1 L1 => A4 F F1 ∧ L1 = [] ∧ e1.sub [(1, .pointer (some ⟨b1, 0, none⟩)), (4, .func (.func 196) #[] #[]), (24, .bool k2)] ∧ F1 b1 = some (ce #[.slice AK weights.length AM, .int .i64 Be, .slice Bn lost.length Bo, .slice A7 found.length A6, .slice AP AG.length AN] 82)) ?_ ?_
 ·clear ax
  refine Af (uv (Ab Jd rfl) (uv (Ah isAgg36 rfl (Has.own 0 rfl) rfl) (um ?_)))
  refine Bz 0 rfl bu ?_; intro cc ah ai
  refine AI rfl ?_
  replace aa := aa.mono (Ac _) ah
  replace ae := ae.mono (Am (Ac _)) ah
  replace ad := ad.mono (Am (Ac _)) ah
  replace ab := ab.mono (Ac _) ah
  have au : Gk Tryz.prog cc 195 #[] #[.pointer (some ⟨b1, 0, none⟩)] (BC 1 (iE .i64)) Value.bool (fun ao : (List Int) => EZ ao weights Be lost found AG) := ⟨call195, fun F2 h2 vs ao r ha hr => by obtain ⟨dw, dx, rfl, cd⟩ := ha; exact P7 cd (h2 _ _ ai) (aa.mono (Ac _) h2) (ae.mono (Am (Ac _)) h2) (ad.mono (Am (Ac _)) h2) (ab.mono (Ac _) h2) hr⟩
  obtain ⟨cf, cg, bn⟩ := AF cb
  refine cV call199 (GS ae au cg) (uv (BB rfl) (um ?_))
  rcases Cd (!cf) with aj | aj
  ·have cj := bt bn aj
   refine fB aj (fB aj (fB aj (fB aj (fB aj ?_))))
   refine uv (AS (Hx rfl aj) rfl) ?_
   refine um (Ay (b' := true) 37 rfl rfl rfl rfl (Ay (b' := true) 37 rfl rfl rfl rfl (Ay (b' := true) 37 rfl rfl rfl rfl (Ay (b' := true) 37 rfl rfl rfl rfl (Ay (b' := true) 37 rfl rfl rfl rfl (Ay (b' := true) 37 rfl rfl rfl rfl (Ay (b' := true) 37 rfl rfl rfl rfl ?_)))))))
   refine uv (AS rfl rfl) ?_
   refine ua (Aa ?_)
   obtain rfl := AH cj
   exact mi kr ⟨ah, rfl, z3, ai⟩
  have ck := bf bn aj
  refine nB aj (uv (Ab LP rfl) (nB aj (uv (Ah isAgg36 rfl (Has.frozen ai) rfl) ?_)))
  refine nB aj (um (nB aj ?_))
  obtain ⟨cn, cp, bo⟩ := AF ck
  refine cV call199 (GS ad au cp) (nB aj (uv (BB rfl) (uv (AE (Hx rfl aj) rfl) (um ?_))))
  rcases Cd (!cn) with af | af
  ·have cq := bt bo af
   refine fB af (fB af (fB af (fB af (fB af (fB af (fB af ?_))))))
   refine uv (AS (Hx rfl af) rfl) ?_
   refine ua (Aa ?_)
   obtain rfl := AH cq
   exact mi kr ⟨ah, rfl, z3, ai⟩
  have cr := bf bo af
  refine nB af (uv (Ab Uq rfl) (nB af (uv (Ah isAgg33 rfl (Has.frozen ai) rfl) (nB af (uv (A2 underlying33 rfl) (nB af (uv (Ab Jd rfl) ?_)))))))
  refine nB af (uv (Ah isAgg36 rfl (Has.frozen ai) rfl) (nB af (uv (A2 underlying36 rfl) (nB af (uv (CI rfl rfl) (uv (AE (Hx rfl af) rfl) ?_))))))
  refine ua (Aa ?_)
  obtain rfl := AH cr
  exact mi kr ⟨ah, rfl, z3, ai⟩
 rintro e1 ay _ ⟨ar, rfl, az, aq⟩
 refine AB _ az ?_
 replace aa := aa.mono (Ac _) ar
 replace ae := ae.mono (Am (Ac _)) ar
 replace ad := ad.mono (Am (Ac _)) ar
 replace ab := ab.mono (Ac _) ar
 refine AX rfl (fun ba => ?_) (fun ba => ?_)
 ·have ct := bt ax ba
  refine AJ (ua (Aa (Aj (AD (Ai ?_)))))
  refine BZ results146 ?_
  obtain rfl := AH ct
  exact rfl
 have cu := bf ax ba
 obtain ⟨k3, cv, bb⟩ := AF cu
 refine jE ([]) [(1, .pointer (some ⟨b1, 0, none⟩)), (4, .func (.func 196) #[] #[]), (46, .bool k3)] ?_ ?_
 ·clear bb
  refine Af (uv (Ab MN rfl) (uv (Ah isAgg33 rfl (Has.frozen aq) rfl) ?_))
  have bc : Gk Tryz.prog ay 200 #[] #[] (iE .i64) Value.bool (fun ao : Int => Hp ao) := ⟨call200, fun F2 h2 vs ao r ha hr => by obtain rfl := ha; exact QJ hr⟩
  obtain ⟨cw, cx, bp⟩ := AF cv
  refine cV call197 (I0 aa bc cx) (uv (BB rfl) (um ?_))
  rcases Cd (!cw) with al | al
  ·have cy := bt bp al
   refine fB al (fB al (fB al (fB al ?_)))
   refine uv (AS (Hx rfl al) rfl) ?_
   refine ua (Aa ?_)
   obtain rfl := AH cy
   exact mi kr ⟨rfl, rfl, z3⟩
  have cz := bf bp al
  refine nB al (uv (Ab Uu rfl) (nB al (uv (Ah isAgg3 rfl (Has.frozen aq) rfl) (nB al ?_))))
  obtain ⟨dy, da, db⟩ := AF cz
  refine cV call147 (IS da) (nB al (uv (BB rfl) (uv (AE (Hx rfl al) rfl) ?_)))
  refine ua (Aa ?_)
  obtain rfl := AH db
  exact mi kr ⟨rfl, rfl, z3⟩
 refine AX rfl (fun bd => ?_) (fun bd => ?_)
 ·have dd := bt bb bd
  refine AJ (ua (Aa (Aj (AD (Ai ?_)))))
  refine BZ results146 ?_
  obtain rfl := AH dd
  exact rfl
 have de := bf bb bd
 refine AJ (uv (Ab Uq rfl) (uv (Ah isAgg33 rfl (Has.frozen aq) rfl) ?_))
 have bg : Gk Tryz.prog ay 201 #[] #[] (iE .i64) Value.bool (fun ao : Int => Hu ao) := ⟨call201, fun F2 h2 vs ao r ha hr => by obtain rfl := ha; exact QQ hr⟩
 obtain ⟨dz, df, bq⟩ := AF de
 refine cV call197 (I0 ab bg df) (uv (BB rfl) ?_)
 refine ua (Aa ?_)
 refine AX rfl (fun bj => ?_) (fun bj => ?_)
 ·have dg := bt bq bj
  refine AJ (ua (Aa (Aj (AD (Ai ?_)))))
  refine BZ results146 ?_
  obtain rfl := AH dg
  exact rfl
 have dh := bf bq bj
 obtain ⟨k4, di, bk⟩ := AF dh
 refine jE ([]) [(62, .bool k4)] ?_ ?_
 ·clear bk
  refine Af (uv (Ab Jd rfl) (uv (Ah isAgg36 rfl (Has.frozen aq) rfl) (um ?_)))
  have av : Gk Tryz.prog ay 196 #[] #[] (BC 1 (iE .i64)) Value.bool (fun ao : (List Int) => EY ao) := ⟨call196, fun F2 h2 vs ao r ha hr => by obtain ⟨e9, eb, rfl, dk⟩ := ha; exact QF dk hr⟩
  obtain ⟨dm, dn, br⟩ := AF di
  refine cV call199 (GS ae av dn) (uv (BB rfl) (um ?_))
  rcases Cd (!dm) with ak | ak
  ·have dp := bt br ak
   refine fB ak (fB ak (fB ak (fB ak (fB ak ?_))))
   refine uv (AS (Hx rfl ak) rfl) ?_
   refine ua (Aa ?_)
   obtain rfl := AH dp
   exact mi kr ⟨rfl, rfl, z1⟩
  have dq := bf br ak
  refine nB ak (uv (Ab LP rfl) (nB ak (uv (Ah isAgg36 rfl (Has.frozen aq) rfl) ?_)))
  refine nB ak (um (nB ak ?_))
  obtain ⟨ec, dr, dt⟩ := AF dq
  refine cV call199 (GS ad av dr) (nB ak (uv (BB rfl) (uv (AE (Hx rfl ak) rfl) ?_)))
  refine ua (Aa ?_)
  obtain rfl := AH dt
  exact mi kr ⟨rfl, rfl, z1⟩
 refine AX rfl (fun bl => ?_) (fun bl => ?_)
 ·have du := bt bk bl
  refine AJ (ua (Aa (Aj (AD (Ai ?_)))))
  refine BZ results146 ?_
  obtain rfl := AH du
  exact rfl
 have dv := bf bk bl
 refine Al (At (id := 0) (AJ (ua (Aa (Aj ?_)))))
 refine BZ results146 ?_
 obtain rfl := AH dv
 exact rfl
set_option maxHeartbeats 1000000 in
theorem Nf {lost : List (List Int)} (ai : As 1 (iE .i64) F AK AM weights) (au : As 1 (BC 1 (iE .i64)) F Bn Bo lost) (al : As 1 (BC 1 (iE .i64)) F A7 A6 found) (ao : As 1 (iE .i64) F AP AN AG) {r : Option ((List Int) × Int × (List (List Int)) × (List (List Int)) × (List Int) × (List Int) × (List Int))} {r2 : Int} (hr : Ia weights Be lost found AG = some (r, r2)) :
    SH.Spec Tryz.prog 72 #[.agg #[.slice AK weights.length AM, .int .i64 Be, .slice Bn lost.length Bo, .slice A7 found.length A6, .slice AP AG.length AN]] F [] fun F' L' v => ∃ (rv : Value), v = .tuple #[rv, .int .i64 r2] ∧ L' = [] ∧ Pw 204 (Ce (BC 1 (iE .i64)) (Ce (iE .i64) (Ce (BC 1 (BC 1 (iE .i64))) (Ce (BC 1 (BC 1 (iE .i64))) (Ce (BC 1 (iE .i64)) (Ce (Ll 36 (cI .i64)) (Ll 36 (cI .i64)))))))) F' rv r := by
 refine sp func72 ntmps72 fun K _ _ => ?_
 rw [Ia] at hr
 refine AJ ?_
 refine BJ rfl rfl ?_; intro b1 jz
 refine ua (ua (Aa (Aq (AJ ?_))))
 refine uv (A1 (cs := #[.slice AK weights.length AM, .int .i64 Be, .slice Bn lost.length Bo, .slice A7 found.length A6, .slice AP AG.length AN]) isAgg82 sizeOf82 rfl (Has.own 0 rfl) (CB rfl) rfl) ?_
 obtain ⟨n, h2, r3⟩ := AF hr
 refine cV call146 (R8 ai au al ao h2) ?_
 refine ua (BU (um ?_))
 refine uv (CI rfl rfl) (Aa ?_)
 refine cQ (fun c4 => ?_) fun c4 => ?_
 ·have r5 := Bi r3 c4
  refine AJ (um (ua (ua (Aa ?_))))
  refine kW kn ?_
  refine Aj (Ai ?_)
  refine Dv results72 (AY rfl) (AY rfl) (sr) ?_
  obtain ⟨rfl, rfl⟩ := DO r5
  exact ⟨_, rfl, rfl, rfl⟩
 have r6 := Bk r3 c4
 refine Al (AJ ?_)
 refine uv (A1 (cs := #[.slice AK weights.length AM, .int .i64 Be, .slice Bn lost.length Bo, .slice A7 found.length A6, .slice AP AG.length AN]) isAgg82 sizeOf82 rfl (Has.own 0 rfl) (CB rfl) rfl) ?_
 refine uv (BM (v := .agg ((([.slice AK weights.length AM] : List Value) ++ (([.int .i64 Be] : List Value) ++ (([.slice Bn lost.length Bo] : List Value) ++ (([.slice A7 found.length A6] : List Value) ++ (([.slice AP AG.length AN] : List Value) ++ ((List.replicate 36 0).flatMap (cI .i64) ++ ((List.replicate 36 0).flatMap (cI .i64)))))))).toArray)) rfl (by intro w; kernel_rfl)) ?_
 refine BJ rfl rfl ?_; intro b7 j8
 refine ua (Aa ?_)
 obtain ⟨av, aw, j9, gu⟩ := DM r6
 refine A5 (fun e1 F1 L1 => F = F1 ∧ L1 = [(b7, ce ((([.slice AK weights.length AM] : List Value) ++ (([.int .i64 Be] : List Value) ++ (([.slice Bn lost.length Bo] : List Value) ++ (([.slice A7 found.length A6] : List Value) ++ (([.slice AP AG.length AN] : List Value) ++ (av.flatMap (cI .i64) ++ (aw.flatMap (cI .i64)))))))).toArray) 204)] ∧ e1.sub [(5, .pointer (some ⟨b7, 0, none⟩))] ∧ av.length = 36 ∧ aw.length = 36) ?_ ?_
 ·clear gu
  refine AJ (uv (Ab Jd rfl) (uv (Ah isAgg36 rfl (Has.own 1 rfl) rfl) (uv (A2 underlying36 rfl) ?_)))
  refine um (Aa ?_)
  refine Ak ?_
  refine Br (fun gv e1 F1 L1 => LA lost gv fun tl k => ∃ (ad : List Int) (af : List Int), Fj weights found tl k ad af = some (av, aw) ∧ F = F1 ∧ L1 = [(b7, ce ((([.slice AK weights.length AM] : List Value) ++ (([.int .i64 Be] : List Value) ++ (([.slice Bn lost.length Bo] : List Value) ++ (([.slice A7 found.length A6] : List Value) ++ (([.slice AP AG.length AN] : List Value) ++ (ad.flatMap (cI .i64) ++ (af.flatMap (cI .i64)))))))).toArray) 204), (b1, ce #[.slice AK weights.length AM, .int .i64 Be, .slice Bn lost.length Bo, .slice A7 found.length A6, .slice AP AG.length AN] 82)] ∧ e1.sub [(1, .pointer (some ⟨b1, 0, none⟩)), (5, .pointer (some ⟨b7, 0, none⟩)), (21, .slice Bn lost.length Bo), (22, .int .i64 (lost.length : Int)), (23, .int .i64 k)] ∧ ad.length = 36 ∧ af.length = 36) _ (m0 kr ⟨_, _, rfl, BI.start _, List.replicate 36 0, List.replicate 36 0, j9, rfl, rfl, z5, List.length_replicate, List.length_replicate⟩) ?_
  rintro gv e1 _ _ ⟨tl, k, dw, bc, ad, af, dp, rfl, rfl, dx, gw, gz⟩
  refine AB _ dx (AJ (uv (Bp rfl rfl) ?_))
  refine Aa (Aq ?_)
  refine cQ (fun dq => ?_) fun dq => ?_
  ·obtain ⟨x, k7, rfl, dy, ia, dz⟩ := BI.succ bc dq
   rw [Fj] at dp
   refine Al ?_
   obtain ⟨aj, aq, ja, ib⟩ := DM dp
   refine A5 (fun e1 F1 L1 => F = F1 ∧ L1 = [(b7, ce ((([.slice AK weights.length AM] : List Value) ++ (([.int .i64 Be] : List Value) ++ (([.slice Bn lost.length Bo] : List Value) ++ (([.slice A7 found.length A6] : List Value) ++ (([.slice AP AG.length AN] : List Value) ++ (aj.flatMap (cI .i64) ++ (aq.flatMap (cI .i64)))))))).toArray) 204), (b1, ce #[.slice AK weights.length AM, .int .i64 Be, .slice Bn lost.length Bo, .slice A7 found.length A6, .slice AP AG.length AN] 82)] ∧ e1.sub [(1, .pointer (some ⟨b1, 0, none⟩)), (5, .pointer (some ⟨b7, 0, none⟩)), (21, .slice Bn lost.length Bo), (22, .int .i64 (lost.length : Int)), (23, .int .i64 k)] ∧ aj.length = 36 ∧ aq.length = 36) ?_ ?_
   ·clear ib
    refine Ak ?_
    refine AJ (um ?_)
    obtain ⟨k8, k9, kb, jb, e9, eb, ic, ⟨bp, bq, rfl, dr⟩, jc, ec⟩ := As.at (Am (Ac _)) au ([(b7, ce ((([.slice AK weights.length AM] : List Value) ++ (([.int .i64 Be] : List Value) ++ (([.slice Bn lost.length Bo] : List Value) ++ (([.slice A7 found.length A6] : List Value) ++ (([.slice AP AG.length AN] : List Value) ++ (ad.flatMap (cI .i64) ++ (af.flatMap (cI .i64)))))))).toArray) 204), (b1, ce #[.slice AK weights.length AM, .int .i64 Be, .slice Bn lost.length Bo, .slice A7 found.length A6, .slice AP AG.length AN] 82)]) ia.1 dy
    refine uv (AT underlying36 sizeOf33 rfl e9 rfl ia) (uv (Ah isAgg33 rfl eb (ec 0 (by decide))) ?_)
    refine ua (ua (BU ?_))
    refine uv (Ab LP rfl) (uv (Ah isAgg36 rfl (Has.own 1 rfl) rfl) (uv (A2 underlying36 rfl) ?_))
    refine um (Aa ?_)
    refine Ak ?_
    refine Br (fun ie e1 F1 L1 => LA found ie fun ig k2 => ∃ (ae : List Int) (ah : List Int), Fi weights k x ig k2 ae ah = some (aj, aq) ∧ F = F1 ∧ L1 = [(b7, ce ((([.slice AK weights.length AM] : List Value) ++ (([.int .i64 Be] : List Value) ++ (([.slice Bn lost.length Bo] : List Value) ++ (([.slice A7 found.length A6] : List Value) ++ (([.slice AP AG.length AN] : List Value) ++ (ae.flatMap (cI .i64) ++ (ah.flatMap (cI .i64)))))))).toArray) 204), (b1, ce #[.slice AK weights.length AM, .int .i64 Be, .slice Bn lost.length Bo, .slice A7 found.length A6, .slice AP AG.length AN] 82)] ∧ e1.sub [(1, .pointer (some ⟨b1, 0, none⟩)), (5, .pointer (some ⟨b7, 0, none⟩)), (6, .int .i64 k), (7, .slice bp x.length bq), (21, .slice Bn lost.length Bo), (22, .int .i64 (lost.length : Int)), (23, .int .i64 k), (29, .slice A7 found.length A6), (30, .int .i64 (found.length : Int)), (31, .int .i64 k2)] ∧ ae.length = 36 ∧ ah.length = 36) _ (m0 kr ⟨_, _, rfl, BI.start _, ad, af, ja, rfl, rfl, (sc rfl (sc rfl z8)), gw, gz⟩) ?_
    rintro ie e1 _ _ ⟨ig, k2, ef, bd, ae, ah, dt, rfl, rfl, eg, ij, ik⟩
    refine AB _ eg (AJ (uv (Bp rfl rfl) ?_))
    refine Aa (Aq ?_)
    refine cQ (fun du => ?_) fun du => ?_
    ·obtain ⟨x2, kh, rfl, eh, il, ei⟩ := BI.succ bd du
     rw [Fi] at dt
     refine Al ?_
     obtain ⟨ak, ar, jd, im⟩ := DM dt
     refine A5 (fun e1 F1 L1 => F = F1 ∧ L1 = [(b7, ce ((([.slice AK weights.length AM] : List Value) ++ (([.int .i64 Be] : List Value) ++ (([.slice Bn lost.length Bo] : List Value) ++ (([.slice A7 found.length A6] : List Value) ++ (([.slice AP AG.length AN] : List Value) ++ (ak.flatMap (cI .i64) ++ (ar.flatMap (cI .i64)))))))).toArray) 204), (b1, ce #[.slice AK weights.length AM, .int .i64 Be, .slice Bn lost.length Bo, .slice A7 found.length A6, .slice AP AG.length AN] 82)] ∧ e1.sub [(1, .pointer (some ⟨b1, 0, none⟩)), (5, .pointer (some ⟨b7, 0, none⟩)), (6, .int .i64 k), (7, .slice bp x.length bq), (21, .slice Bn lost.length Bo), (22, .int .i64 (lost.length : Int)), (23, .int .i64 k), (29, .slice A7 found.length A6), (30, .int .i64 (found.length : Int)), (31, .int .i64 k2)] ∧ ak.length = 36 ∧ ar.length = 36) ?_ ?_
     ·clear im
      refine Ak ?_
      refine AJ (um ?_)
      obtain ⟨kj, kl, km, je, ej, eo, iq, ⟨ir, iu, rfl, iv⟩, jf, ep⟩ := As.at (Am (Ac _)) al ([(b7, ce ((([.slice AK weights.length AM] : List Value) ++ (([.int .i64 Be] : List Value) ++ (([.slice Bn lost.length Bo] : List Value) ++ (([.slice A7 found.length A6] : List Value) ++ (([.slice AP AG.length AN] : List Value) ++ (ae.flatMap (cI .i64) ++ (ah.flatMap (cI .i64)))))))).toArray) 204), (b1, ce #[.slice AK weights.length AM, .int .i64 Be, .slice Bn lost.length Bo, .slice A7 found.length A6, .slice AP AG.length AN] 82)]) il.1 eh
      refine uv (AT underlying36 sizeOf33 rfl ej rfl il) (uv (Ah isAgg33 rfl eo (ep 0 (by decide))) ?_)
      refine ua (ua (BU (um ?_)))
      refine uv (A2 underlying33 rfl) ?_
      refine um (Aa ?_)
      refine Ak ?_
      refine Br (fun iw e1 F1 L1 => LA x iw fun iy k3 => ∃ (aa : List Int) (ab : List Int), Dj weights k k2 x2 iy k3 aa ab = some (ak, ar) ∧ F = F1 ∧ L1 = [(b7, ce ((([.slice AK weights.length AM] : List Value) ++ (([.int .i64 Be] : List Value) ++ (([.slice Bn lost.length Bo] : List Value) ++ (([.slice A7 found.length A6] : List Value) ++ (([.slice AP AG.length AN] : List Value) ++ (aa.flatMap (cI .i64) ++ (ab.flatMap (cI .i64)))))))).toArray) 204), (b1, ce #[.slice AK weights.length AM, .int .i64 Be, .slice Bn lost.length Bo, .slice A7 found.length A6, .slice AP AG.length AN] 82)] ∧ e1.sub [(1, .pointer (some ⟨b1, 0, none⟩)), (5, .pointer (some ⟨b7, 0, none⟩)), (6, .int .i64 k), (7, .slice bp x.length bq), (8, .int .i64 k2), (9, .slice ir x2.length iu), (21, .slice Bn lost.length Bo), (22, .int .i64 (lost.length : Int)), (23, .int .i64 k), (29, .slice A7 found.length A6), (30, .int .i64 (found.length : Int)), (31, .int .i64 k2), (36, .slice bp x.length bq), (37, .int .i64 (x.length : Int)), (38, .int .i64 k3)] ∧ aa.length = 36 ∧ ab.length = 36) _ (m0 kr ⟨_, _, rfl, BI.start _, ae, ah, jd, rfl, rfl, (sc rfl (sc rfl (sc rfl (sc rfl (sc rfl (sc rfl (sc rfl z8))))))), ij, ik⟩) ?_
      rintro iw e1 _ _ ⟨iy, k3, bg, ba, aa, ab, dv, rfl, rfl, er, az, bb⟩
      refine AB _ er (AJ (uv (Bp rfl rfl) ?_))
      refine Aa (Aq ?_)
      refine cQ (fun br => ?_) fun br => ?_
      ·obtain ⟨x3, ko, rfl, et, iz, bj⟩ := BI.succ ba br
       rw [Dj] at dv
       refine Al (Aq ?_)
       refine Ak ?_
       refine AJ (um ?_)
       obtain ⟨kt, ku, kv, jg, eu, ew, j0, rfl, jh, ey⟩ := As.at (Ac _) dr ([(b7, ce ((([.slice AK weights.length AM] : List Value) ++ (([.int .i64 Be] : List Value) ++ (([.slice Bn lost.length Bo] : List Value) ++ (([.slice A7 found.length A6] : List Value) ++ (([.slice AP AG.length AN] : List Value) ++ (aa.flatMap (cI .i64) ++ (ab.flatMap (cI .i64)))))))).toArray) 204), (b1, ce #[.slice AK weights.length AM, .int .i64 Be, .slice Bn lost.length Bo, .slice A7 found.length A6, .slice AP AG.length AN] 82)]) iz.1 et
       refine uv (AT underlying33 sizeOf3 rfl eu rfl iz) (uv (Ah isAgg3 rfl ew (ey 0 (by decide))) ?_)
       refine ua (ua (Aa ?_))
       refine Ak ?_
       obtain ⟨k4, j1, ez⟩ := AF dv
       refine jE ([(b7, ce ((([.slice AK weights.length AM] : List Value) ++ (([.int .i64 Be] : List Value) ++ (([.slice Bn lost.length Bo] : List Value) ++ (([.slice A7 found.length A6] : List Value) ++ (([.slice AP AG.length AN] : List Value) ++ (aa.flatMap (cI .i64) ++ (ab.flatMap (cI .i64)))))))).toArray) 204), (b1, ce #[.slice AK weights.length AM, .int .i64 Be, .slice Bn lost.length Bo, .slice A7 found.length A6, .slice AP AG.length AN] 82)]) [(1, .pointer (some ⟨b1, 0, none⟩)), (5, .pointer (some ⟨b7, 0, none⟩)), (6, .int .i64 k), (7, .slice bp x.length bq), (8, .int .i64 k2), (9, .slice ir x2.length iu), (10, .int .i64 k3), (11, .int .i64 x3), (21, .slice Bn lost.length Bo), (22, .int .i64 (lost.length : Int)), (23, .int .i64 k), (29, .slice A7 found.length A6), (30, .int .i64 (found.length : Int)), (31, .int .i64 k2), (36, .slice bp x.length bq), (37, .int .i64 (x.length : Int)), (38, .int .i64 k3), (56, .bool k4)] ?_ ?_
       ·clear ez
        refine Af (um ?_)
        refine uv (Cx rfl rfl) (um ?_)
        by_cases ax : x3 = (-1)
        ·have ji := Bi j1 ax
         refine fT ax (fT ax (fT ax (fT ax (fT ax ?_))))
         refine uv (AS (Bq rfl ax) rfl) ?_
         refine ua (Aa ?_)
         obtain rfl := AH ji
         exact mi kr ⟨rfl, rfl, (sc rfl (sc rfl (sc rfl (sc rfl (sc rfl (sc rfl (sc rfl (sc rfl (sc rfl (sc rfl z8))))))))))⟩
        have jj := Bk j1 ax
        refine nF ax (um (nF ax (um (nF ax ?_))))
        obtain ⟨x4, j2, fa, jk⟩ := BY jj
        obtain ⟨kz, l0, ld, jl, fb, fe, ff, rfl, j3, bu⟩ := As.at (Ac _) iv ([(b7, ce ((([.slice AK weights.length AM] : List Value) ++ (([.int .i64 Be] : List Value) ++ (([.slice Bn lost.length Bo] : List Value) ++ (([.slice A7 found.length A6] : List Value) ++ (([.slice AP AG.length AN] : List Value) ++ (aa.flatMap (cI .i64) ++ (ab.flatMap (cI .i64)))))))).toArray) 204), (b1, ce #[.slice AK weights.length AM, .int .i64 Be, .slice Bn lost.length Bo, .slice A7 found.length A6, .slice AP AG.length AN] 82)]) j2.1 fa
        refine uv (AT underlying33 sizeOf3 rfl fb rfl j2) (nF ax (uv (Ah isAgg3 rfl fe (bu 0 (by decide))) (nF ax (uv (Cx rfl rfl) (uv (AE (Bc rfl ax) rfl) ?_)))))
        refine ua (Aa ?_)
        obtain rfl := AH jk
        exact mi kr ⟨rfl, rfl, (sc rfl (sc rfl (sc rfl (sc rfl (sc rfl (sc rfl (sc rfl (sc rfl (sc rfl (sc rfl z8))))))))))⟩
       refine AX rfl (fun bk => ?_) (fun bk => ?_)
       ·have fg := bt ez bk
        refine Al (At (id := 6) (At (id := 5) (Af ?_)))
        refine uv (Bf rfl rfl (BI.Ed ba br (As.lt dr))) ?_
        refine um (Aa ?_)
        subst bg; exact le kr ⟨_, _, rfl, bj, aa, ab, fg, rfl, rfl, (sc rfl (sc rfl (sc rfl (sc rfl (sc rfl (sc rfl (sc rfl z8))))))), az, bb⟩
       have fh := bf ez bk
       refine AJ (um (um (um ?_)))
       obtain ⟨x5, bw, bx, bz⟩ := BY fh
       obtain ⟨jm, jn, jo, j4, ca, cb, fi, rfl, j5, cc⟩ := As.at (Ac _) iv ([(b7, ce ((([.slice AK weights.length AM] : List Value) ++ (([.int .i64 Be] : List Value) ++ (([.slice Bn lost.length Bo] : List Value) ++ (([.slice A7 found.length A6] : List Value) ++ (([.slice AP AG.length AN] : List Value) ++ (aa.flatMap (cI .i64) ++ (ab.flatMap (cI .i64)))))))).toArray) 204), (b1, ce #[.slice AK weights.length AM, .int .i64 Be, .slice Bn lost.length Bo, .slice A7 found.length A6, .slice AP AG.length AN] 82)]) bw.1 bx
       refine uv (AT underlying33 sizeOf3 rfl ca rfl bw) (uv (Ah isAgg3 rfl cb (cc 0 (by decide))) (uv (Cx rfl rfl) ?_))
       refine ua (Aa ?_)
       refine cQ (fun bl => ?_) fun bl => ?_
       ·have fj := Bi bz bl
        refine CM [(.still, 0), (.still, 1), (.still, 2), (.still, 3), (.still, 4), (.still, 5), (.still, 6), (.still, 7), (.still, 8), (.still, 9), (.still, 10), (.still, 11), (.still, 12), (.still, 13), (.still, 14), (.still, 15), (.still, 16), (.still, 17), (.seq, 18)] (by kernel_rfl) (by kernel_rfl) (trivial) (by rfl) (by kernel_rfl) (mS [5] rfl (BF rfl) (mS [6] rfl (BF rfl) (mS [8] rfl (BF rfl) (mS [73] rfl (AV rfl) (mS [76] rfl (Ab Lh rfl) ?_)))))
        obtain ⟨cd, fk⟩ := A0 fj
        refine mS [74, 77] rfl (By underlying202 sizeOf200 rfl rfl cd) ?_
        obtain ⟨cf, fl⟩ := A0 fk
        obtain ⟨x6, fm, cg, fp⟩ := BY fl
        have cj : (k * 6 + k2 : Int).toNat = (k : Int).toNat * 6 + (k2 : Int).toNat := by have := cd; have := cf; omega
        have ck := Hc (Bt .i64) az cj cg (GM (Ar (A := ([.slice AK weights.length AM] : List Value)) (k := 1) (o := 4) rfl (Ar (A := ([.int .i64 Be] : List Value)) (k := 1) (o := 3) rfl (Ar (A := ([.slice Bn lost.length Bo] : List Value)) (k := 1) (o := 2) rfl (Ar (A := ([.slice A7 found.length A6] : List Value)) (k := 1) (o := 1) rfl (Ar (A := ([.slice AP AG.length AN] : List Value)) (k := 1) (o := 0) rfl (BK (B := ab.flatMap (cI .i64)) (EJ (Bt .i64) az)))))))) (Fq (Ar (A := ([.slice AK weights.length AM] : List Value)) (k := 1) (o := 4) rfl (Ar (A := ([.int .i64 Be] : List Value)) (k := 1) (o := 3) rfl (Ar (A := ([.slice Bn lost.length Bo] : List Value)) (k := 1) (o := 2) rfl (Ar (A := ([.slice A7 found.length A6] : List Value)) (k := 1) (o := 1) rfl (Ar (A := ([.slice AP AG.length AN] : List Value)) (k := 1) (o := 0) rfl (BK (B := ab.flatMap (cI .i64)) (EJ (Bt .i64) az))))))))
        refine mS [75, 78] rfl (By underlying200 sizeOf3 rfl rfl cf) (mL [79] ([(b7, ce ((([.slice AK weights.length AM] : List Value) ++ (([.int .i64 Be] : List Value) ++ (([.slice Bn lost.length Bo] : List Value) ++ (([.slice A7 found.length A6] : List Value) ++ (([.slice AP AG.length AN] : List Value) ++ (aa.flatMap (cI .i64) ++ (ab.flatMap (cI .i64)))))))).toArray) 204)]) rfl (s0 (s2 (s1 sr))) (fun H F' L' bn bo => Ah isAgg3 rfl ((Has.own 0 rfl).ext bn bo) ((ck).2.2 0 (by decide))) (mS [1] rfl (Ab MN rfl) (mL [81] ([(b1, ce #[.slice AK weights.length AM, .int .i64 Be, .slice Bn lost.length Bo, .slice A7 found.length A6, .slice AP AG.length AN] 82)]) rfl (s0 (s1 (s2 sr))) (fun H F' L' bn bo => Ah isAgg33 rfl ((Has.own 0 rfl).ext bn bo) rfl) (mS [10] rfl (BF rfl) ?_))))
        obtain ⟨x7, cn, cp, fq⟩ := BY fp
        obtain ⟨jq, jr, js, j6, cq, cr, ft, rfl, j7, ct⟩ := As.at (Ac _) ai ([]) cn.1 cp
        refine mS [82, 83] rfl (AT underlying33 sizeOf3 rfl cq rfl cn) (mL [84] ([]) rfl sm (fun H F' L' bn bo => Ah isAgg3 rfl (cr.ext bn bo) (ct 0 (by decide))) ?_)
        obtain ⟨fv, fw⟩ := A0 fq
        refine mS (v := .int .i64 (x6 + x7)) [80, 85] rfl (Bf rfl rfl fv) (mS [73] rfl (AV rfl) (mS [87] rfl (Ab Lh rfl) ?_))
        obtain ⟨cu, fx⟩ := A0 fw
        refine mS [74, 88] rfl (By underlying202 sizeOf200 rfl rfl cu) ?_
        obtain ⟨cv, fy⟩ := A0 fx
        have cw : (k * 6 + k2 : Int).toNat = (k : Int).toNat * 6 + (k2 : Int).toNat := by have := cu; have := cv; omega
        refine mS [75, 89] rfl (By underlying200 sizeOf3 rfl rfl cv) ?_
        refine ⟨_, [(86, .int .i64 (x6 + x7)), (90, .pointer (some ⟨b7, 5 + (k : Int).toNat * 6 + (k2 : Int).toNat * 1, none⟩))], rfl, rfl, z2, by kernel_rfl, ?_⟩; intro H
        obtain ⟨ws, cx, g0⟩ := C3 fy
        have ga : ws.length = 36 := by rw [cx, List.length_set]; exact az
        refine I3 (i := 0) sizeOf3 rfl (by have := cw; omega) rfl rfl rfl (CA (A := ([.slice AK weights.length AM] : List Value)) (k := 1) rfl (CA (A := ([.int .i64 Be] : List Value)) (k := 1) rfl (CA (A := ([.slice Bn lost.length Bo] : List Value)) (k := 1) rfl (CA (A := ([.slice A7 found.length A6] : List Value)) (k := 1) rfl (CA (A := ([.slice AP AG.length AN] : List Value)) (k := 1) rfl (PH (B := ab.flatMap (cI .i64)) (Qh (p := (k * 6 + k2 : Int).toNat) (Bt .i64) (u := x6 + x7) rfl az (by have := fm; have := az; omega) F))))))) ?_
        refine AI (L' := [(b7, ce ((([.slice AK weights.length AM] : List Value) ++ (([.int .i64 Be] : List Value) ++ (([.slice Bn lost.length Bo] : List Value) ++ (([.slice A7 found.length A6] : List Value) ++ (([.slice AP AG.length AN] : List Value) ++ (ws.flatMap (cI .i64) ++ (ab.flatMap (cI .i64)))))))).toArray) 204), (b1, ce #[.slice AK weights.length AM, .int .i64 Be, .slice Bn lost.length Bo, .slice A7 found.length A6, .slice AP AG.length AN] 82)]) (by rw [cx]; rfl) ?_
        refine Aa ⟨undef, rfl, A4.refl _, [], by kernel_rfl, .inl (.inl rfl), nm, ?_⟩
        refine D1 ?_
        refine At (id := 6) (At (id := 5) (Af ?_))
        refine uv (Bf rfl rfl (BI.Ed ba br (As.lt dr))) ?_
        refine um (Aa ?_)
        subst bg; exact le kr ⟨_, _, rfl, bj, ws, ab, g0, rfl, rfl, (sc rfl (sc rfl (sc rfl (sc rfl (sc rfl (sc rfl (sc rfl z8))))))), ga, bb⟩
       have gb := Bk bz bl
       refine CM [(.still, 0), (.still, 1), (.still, 2), (.still, 3), (.still, 4), (.still, 5), (.still, 6), (.still, 7), (.still, 8), (.still, 9), (.still, 10), (.still, 11), (.still, 12), (.seq, 13)] (by kernel_rfl) (by kernel_rfl) (trivial) (by rfl) (by kernel_rfl) (mS [5] rfl (BF rfl) (mS [6] rfl (BF rfl) (mS [8] rfl (BF rfl) (mS [43] rfl (AV rfl) (mS [46] rfl (Ab On rfl) ?_)))))
       obtain ⟨cy, gg⟩ := A0 gb
       refine mS [44, 47] rfl (By underlying202 sizeOf200 rfl rfl cy) ?_
       obtain ⟨cz, gh⟩ := A0 gg
       obtain ⟨x8, gi, da, gj⟩ := BY gh
       have db : (k * 6 + k2 : Int).toNat = (k : Int).toNat * 6 + (k2 : Int).toNat := by have := cy; have := cz; omega
       have dd := Hc (Bt .i64) bb db da (GM (Ar (A := ([.slice AK weights.length AM] : List Value)) (k := 1) (o := 40) rfl (Ar (A := ([.int .i64 Be] : List Value)) (k := 1) (o := 39) rfl (Ar (A := ([.slice Bn lost.length Bo] : List Value)) (k := 1) (o := 38) rfl (Ar (A := ([.slice A7 found.length A6] : List Value)) (k := 1) (o := 37) rfl (Ar (A := ([.slice AP AG.length AN] : List Value)) (k := 1) (o := 36) rfl (Ar (A := aa.flatMap (cI .i64)) (k := 36) (o := 0) (EJ (Bt .i64) az) (Ds (EJ (Bt .i64) bb))))))))) (Fq (Ar (A := ([.slice AK weights.length AM] : List Value)) (k := 1) (o := 40) rfl (Ar (A := ([.int .i64 Be] : List Value)) (k := 1) (o := 39) rfl (Ar (A := ([.slice Bn lost.length Bo] : List Value)) (k := 1) (o := 38) rfl (Ar (A := ([.slice A7 found.length A6] : List Value)) (k := 1) (o := 37) rfl (Ar (A := ([.slice AP AG.length AN] : List Value)) (k := 1) (o := 36) rfl (Ar (A := aa.flatMap (cI .i64)) (k := 36) (o := 0) (EJ (Bt .i64) az) (Ds (EJ (Bt .i64) bb)))))))))
       refine mS [45, 48] rfl (By underlying200 sizeOf3 rfl rfl cz) (mL [49] ([(b7, ce ((([.slice AK weights.length AM] : List Value) ++ (([.int .i64 Be] : List Value) ++ (([.slice Bn lost.length Bo] : List Value) ++ (([.slice A7 found.length A6] : List Value) ++ (([.slice AP AG.length AN] : List Value) ++ (aa.flatMap (cI .i64) ++ (ab.flatMap (cI .i64)))))))).toArray) 204)]) rfl (s0 (s2 (s1 sr))) (fun H F' L' bn bo => Ah isAgg3 rfl ((Has.own 0 rfl).ext bn bo) ((dd).2.2 0 (by decide))) ?_)
       obtain ⟨gk, gl⟩ := A0 gj
       refine mS (v := .int .i64 (x8 + 1)) [50] rfl (Bf rfl rfl gk) (mS [43] rfl (AV rfl) (mS [52] rfl (Ab On rfl) ?_))
       obtain ⟨de, gm⟩ := A0 gl
       refine mS [44, 53] rfl (By underlying202 sizeOf200 rfl rfl de) ?_
       obtain ⟨df, gn⟩ := A0 gm
       have dg : (k * 6 + k2 : Int).toNat = (k : Int).toNat * 6 + (k2 : Int).toNat := by have := de; have := df; omega
       refine mS [45, 54] rfl (By underlying200 sizeOf3 rfl rfl df) ?_
       refine ⟨_, [(51, .int .i64 (x8 + 1)), (55, .pointer (some ⟨b7, 41 + (k : Int).toNat * 6 + (k2 : Int).toNat * 1, none⟩))], rfl, rfl, z2, by kernel_rfl, ?_⟩; intro H
       obtain ⟨gp, dh, gq⟩ := C3 gn
       have gr : gp.length = 36 := by rw [dh, List.length_set]; exact bb
       refine I3 (i := 0) sizeOf3 rfl (by have := dg; omega) rfl rfl rfl (CA (A := ([.slice AK weights.length AM] : List Value)) (k := 1) rfl (CA (A := ([.int .i64 Be] : List Value)) (k := 1) rfl (CA (A := ([.slice Bn lost.length Bo] : List Value)) (k := 1) rfl (CA (A := ([.slice A7 found.length A6] : List Value)) (k := 1) rfl (CA (A := ([.slice AP AG.length AN] : List Value)) (k := 1) rfl (CA (A := aa.flatMap (cI .i64)) (k := 36) (EJ (Bt .i64) az) (Qh (p := (k * 6 + k2 : Int).toNat) (Bt .i64) (u := x8 + 1) rfl bb (by have := gi; have := bb; omega) F))))))) ?_
       refine AI (L' := [(b7, ce ((([.slice AK weights.length AM] : List Value) ++ (([.int .i64 Be] : List Value) ++ (([.slice Bn lost.length Bo] : List Value) ++ (([.slice A7 found.length A6] : List Value) ++ (([.slice AP AG.length AN] : List Value) ++ (aa.flatMap (cI .i64) ++ (gp.flatMap (cI .i64)))))))).toArray) 204), (b1, ce #[.slice AK weights.length AM, .int .i64 Be, .slice Bn lost.length Bo, .slice A7 found.length A6, .slice AP AG.length AN] 82)]) (by rw [dh]; rfl) ?_
       refine Aa ⟨undef, rfl, A4.refl _, [], by kernel_rfl, .inl (.inl rfl), nm, ?_⟩
       refine D1 ?_
       refine At (id := 6) (At (id := 5) (Af ?_))
       refine uv (Bf rfl rfl (BI.Ed ba br (As.lt dr))) ?_
       refine um (Aa ?_)
       subst bg; exact le kr ⟨_, _, rfl, bj, aa, gp, gq, rfl, rfl, (sc rfl (sc rfl (sc rfl (sc rfl (sc rfl (sc rfl (sc rfl z8))))))), az, gr⟩
      obtain rfl := BI.zero ba br
      rw [Dj] at dv
      refine AW (Ae (Ae ?_))
      refine Au (At (id := 3) ?_)
      obtain ⟨rfl, rfl⟩ := DO dv
      exact mi kr ⟨rfl, rfl, (sc rfl (sc rfl z8)), az, bb⟩
     rintro e1 _ _ ⟨rfl, rfl, di, jt, ju⟩
     refine AB _ di (Af (uv (Bf rfl rfl (BI.Ed bd du (As.lt al))) ?_))
     refine um (Aa ?_)
     subst ef; exact le kr ⟨_, _, rfl, ei, ak, ar, im, rfl, rfl, (sc rfl (sc rfl z8)), jt, ju⟩
    obtain rfl := BI.zero bd du
    rw [Fi] at dt
    refine AW (Ae (Ae ?_))
    refine Au (At (id := 1) ?_)
    obtain ⟨rfl, rfl⟩ := DO dt
    exact mi kr ⟨rfl, rfl, z5, ij, ik⟩
   rintro e1 _ _ ⟨rfl, rfl, dk, jv, jw⟩
   refine AB _ dk (Af (uv (Bf rfl rfl (BI.Ed bc dq (As.lt au))) ?_))
   refine um (Aa ?_)
   subst dw; exact le kr ⟨_, _, rfl, dz, aj, aq, ib, rfl, rfl, z5, jv, jw⟩
  obtain rfl := BI.zero bc dq
  rw [Fj] at dp
  refine AW (Ae (Ae ?_))
  refine Au ?_
  obtain ⟨rfl, rfl⟩ := DO dp
  exact mi (kc kn) ⟨rfl, rfl, z1, gw, gz⟩
 rintro e1 _ _ ⟨rfl, rfl, dm, h8, h9⟩
 refine AB _ dm ?_
 refine AJ (um (ua (ua (Aa ?_))))
 refine B1 0 rfl j8 ?_; intro jx ay dn
 refine DT (L' := []) rfl ?_
 replace ai := ai.mono (Ac _) ay
 replace au := au.mono (Am (Ac _)) ay
 replace al := al.mono (Am (Ac _)) ay
 replace ao := ao.mono (Ac _) ay
 refine Aj (Dv results72 (AY rfl) (AY rfl) (sr) ?_)
 obtain ⟨rfl, rfl⟩ := DO gu
 exact ⟨_, rfl, rfl, ⟨_, _, _, rfl, dn, ⟨_, _, rfl, ⟨_, _, rfl, ai⟩, ⟨_, _, rfl, rfl, ⟨_, _, rfl, ⟨_, _, rfl, au⟩, ⟨_, _, rfl, ⟨_, _, rfl, al⟩, ⟨_, _, rfl, ⟨_, _, rfl, ao⟩, ⟨_, _, rfl, ⟨rfl, h8⟩, ⟨rfl, h9⟩⟩⟩⟩⟩⟩⟩⟩⟩
theorem O5 {lost : List (List Int)} (aa : F GZ = some (.cells ((([.slice AK weights.length AM] : List Value) ++ (([.int .i64 Be] : List Value) ++ (([.slice Bn lost.length Bo] : List Value) ++ (([.slice A7 found.length A6] : List Value) ++ (([.slice AP AG.length AN] : List Value) ++ (BE.flatMap (cI .i64) ++ (Cr.flatMap (cI .i64)))))))).toArray) 204 IZ)) (_h_weights : As 1 (iE .i64) F AK AM weights) (_h_lost : As 1 (BC 1 (iE .i64)) F Bn Bo lost) (_h_found : As 1 (BC 1 (iE .i64)) F A7 A6 found) (_h_rewards : As 1 (iE .i64) F AP AN AG) (_h_agree : BE.length = 36) (_h_slip : Cr.length = 36) {r : Bool} (hr : Ir weights Be lost found AG BE Cr n = some r) :
    Bl Tryz.prog 73 #[.pointer (some ⟨GZ, 0, none⟩), .int .i64 n] F (.bool r) := by
 refine sp func73 ntmps73 fun K _ _ => ?_
 rw [Ir] at hr
 refine AJ (ua (BU (um (um ?_))))
 refine uv (AV rfl) (uv (Ab K4 rfl) (uv (Ab Jd rfl) (uv (Ah isAgg36 rfl (Has.frozen aa) (EV (Ar (k := 1) (o := 1) rfl (Ar (k := 1) (o := 0) rfl (BK rfl))))) (uv (A2 underlying36 rfl) ?_))))
 obtain ⟨g1, r2⟩ := A0 hr
 refine uv (Fs rfl rfl g1) ?_
 obtain ⟨ok, h3, r4⟩ := AF r2
 refine cV call147 (IS h3) ?_
 refine ua (Aa (Aj ?_))
 refine BZ results73 ?_
 obtain rfl := AH r4
 exact rfl
theorem OF {lost : List (List Int)} (aa : F GZ = some (.cells ((([.slice AK weights.length AM] : List Value) ++ (([.int .i64 Be] : List Value) ++ (([.slice Bn lost.length Bo] : List Value) ++ (([.slice A7 found.length A6] : List Value) ++ (([.slice AP AG.length AN] : List Value) ++ (BE.flatMap (cI .i64) ++ (Cr.flatMap (cI .i64)))))))).toArray) 204 IZ)) (_h_weights : As 1 (iE .i64) F AK AM weights) (_h_lost : As 1 (BC 1 (iE .i64)) F Bn Bo lost) (_h_found : As 1 (BC 1 (iE .i64)) F A7 A6 found) (_h_rewards : As 1 (iE .i64) F AP AN AG) (_h_agree : BE.length = 36) (_h_slip : Cr.length = 36) {r : Bool} (hr : HT weights Be lost found AG BE Cr n = some r) :
    Bl Tryz.prog 74 #[.pointer (some ⟨GZ, 0, none⟩), .int .i64 n] F (.bool r) := by
 refine sp func74 ntmps74 fun K _ _ => ?_
 rw [HT] at hr
 refine AJ (ua (BU (um (um ?_))))
 refine uv (AV rfl) (uv (Ab K4 rfl) (uv (Ab LP rfl) (uv (Ah isAgg36 rfl (Has.frozen aa) (EV (Ar (k := 1) (o := 2) rfl (Ar (k := 1) (o := 1) rfl (Ar (k := 1) (o := 0) rfl (BK rfl)))))) (uv (A2 underlying36 rfl) ?_))))
 obtain ⟨g1, r2⟩ := A0 hr
 refine uv (Fs rfl rfl g1) ?_
 obtain ⟨ok, h3, r4⟩ := AF r2
 refine cV call147 (IS h3) ?_
 refine ua (Aa (Aj ?_))
 refine BZ results74 ?_
 obtain rfl := AH r4
 exact rfl
set_option maxHeartbeats 1000000 in
theorem LQ {lost : List (List Int)} {ad : Int} (af : F GZ = some (.cells ((([.slice AK weights.length AM] : List Value) ++ (([.int .i64 Be] : List Value) ++ (([.slice Bn lost.length Bo] : List Value) ++ (([.slice A7 found.length A6] : List Value) ++ (([.slice AP AG.length AN] : List Value) ++ (BE.flatMap (cI .i64) ++ (Cr.flatMap (cI .i64)))))))).toArray) 204 IZ)) (_h_weights : As 1 (iE .i64) F AK AM weights) (_h_lost : As 1 (BC 1 (iE .i64)) F Bn Bo lost) (_h_found : As 1 (BC 1 (iE .i64)) F A7 A6 found) (_h_rewards : As 1 (iE .i64) F AP AN AG) (ab : BE.length = 36) (ae : Cr.length = 36) {r : Bool} (hr : FG weights Be lost found AG BE Cr ad Cs = some r) :
    Bl Tryz.prog 75 #[.pointer (some ⟨GZ, 0, none⟩), .int .i64 ad, .int .i64 Cs] F (.bool r) := by
 refine sp func75 ntmps75 fun K _ _ => ?_
 rw [FG] at hr
 refine AJ (ua ?_)
 refine dN ?_
 refine wm (wm (wm ?_))
 refine wv (AV rfl) (wv (Ab Lh rfl) ?_)
 obtain ⟨g1, r2⟩ := A0 hr
 refine wv (By underlying202 sizeOf200 rfl rfl g1) ?_
 obtain ⟨g3, r4⟩ := A0 r2
 obtain ⟨x, g5, ao, r7⟩ := BY r4
 have aq : (ad * 6 + Cs : Int).toNat = (ad : Int).toNat * 6 + (Cs : Int).toNat := by have := g1; have := g3; omega
 have ar := Hc (Bt .i64) ab aq ao (GM (Ar (A := ([.slice AK weights.length AM] : List Value)) (k := 1) (o := 4) rfl (Ar (A := ([.int .i64 Be] : List Value)) (k := 1) (o := 3) rfl (Ar (A := ([.slice Bn lost.length Bo] : List Value)) (k := 1) (o := 2) rfl (Ar (A := ([.slice A7 found.length A6] : List Value)) (k := 1) (o := 1) rfl (Ar (A := ([.slice AP AG.length AN] : List Value)) (k := 1) (o := 0) rfl (BK (B := Cr.flatMap (cI .i64)) (EJ (Bt .i64) ab)))))))) (Fq (Ar (A := ([.slice AK weights.length AM] : List Value)) (k := 1) (o := 4) rfl (Ar (A := ([.int .i64 Be] : List Value)) (k := 1) (o := 3) rfl (Ar (A := ([.slice Bn lost.length Bo] : List Value)) (k := 1) (o := 2) rfl (Ar (A := ([.slice A7 found.length A6] : List Value)) (k := 1) (o := 1) rfl (Ar (A := ([.slice AP AG.length AN] : List Value)) (k := 1) (o := 0) rfl (BK (B := Cr.flatMap (cI .i64)) (EJ (Bt .i64) ab))))))))
 refine wv (By underlying200 sizeOf3 rfl rfl g3) (wv (Ah isAgg3 rfl (Has.frozen af) ((ar).2.2 0 (by decide))) (wv (Jy rfl rfl) (wm ?_)))
 by_cases aa : 0 < x
 ·have au := Bi r7 aa
  refine Bj (b := true) 16 rfl (Env.FL rfl aa) (wm (Bj (b := true) 16 rfl (Env.FL rfl aa) (wm (Bj (b := true) 16 rfl (Env.FL rfl aa) (wm (Bj (b := true) 16 rfl (Env.FL rfl aa) ?_))))))
  refine wv (AV rfl) (Bj (b := true) 16 rfl (Env.FL rfl aa) (wv (Ab On rfl) (Bj (b := true) 16 rfl (Env.FL rfl aa) ?_)))
  obtain ⟨ak, av⟩ := A0 au
  refine wv (By underlying202 sizeOf200 rfl rfl ak) (Bj (b := true) 16 rfl (Env.FL rfl aa) ?_)
  obtain ⟨al, aw⟩ := A0 av
  obtain ⟨x2, az, ah, ax⟩ := BY aw
  have ai : (ad * 6 + Cs : Int).toNat = (ad : Int).toNat * 6 + (Cs : Int).toNat := by have := ak; have := al; omega
  have aj := Hc (Bt .i64) ae ai ah (GM (Ar (A := ([.slice AK weights.length AM] : List Value)) (k := 1) (o := 40) rfl (Ar (A := ([.int .i64 Be] : List Value)) (k := 1) (o := 39) rfl (Ar (A := ([.slice Bn lost.length Bo] : List Value)) (k := 1) (o := 38) rfl (Ar (A := ([.slice A7 found.length A6] : List Value)) (k := 1) (o := 37) rfl (Ar (A := ([.slice AP AG.length AN] : List Value)) (k := 1) (o := 36) rfl (Ar (A := BE.flatMap (cI .i64)) (k := 36) (o := 0) (EJ (Bt .i64) ab) (Ds (EJ (Bt .i64) ae))))))))) (Fq (Ar (A := ([.slice AK weights.length AM] : List Value)) (k := 1) (o := 40) rfl (Ar (A := ([.int .i64 Be] : List Value)) (k := 1) (o := 39) rfl (Ar (A := ([.slice Bn lost.length Bo] : List Value)) (k := 1) (o := 38) rfl (Ar (A := ([.slice A7 found.length A6] : List Value)) (k := 1) (o := 37) rfl (Ar (A := ([.slice AP AG.length AN] : List Value)) (k := 1) (o := 36) rfl (Ar (A := BE.flatMap (cI .i64)) (k := 36) (o := 0) (EJ (Bt .i64) ab) (Ds (EJ (Bt .i64) ae)))))))))
  refine wv (By underlying200 sizeOf3 rfl rfl al) (Bj (b := true) 16 rfl (Env.FL rfl aa) (wv (Ah isAgg3 rfl (Has.frozen af) ((aj).2.2 0 (by decide))) ?_))
  refine Bj (b := true) 16 rfl (Env.FL rfl aa) (wm (Bj (b := true) 16 rfl (Env.FL rfl aa) ?_))
  refine wv (AV rfl) (Bj (b := true) 16 rfl (Env.FL rfl aa) (wv (Ab K4 rfl) (Bj (b := true) 16 rfl (Env.FL rfl aa) (wv (Ab Uu rfl) (Bj (b := true) 16 rfl (Env.FL rfl aa) (wv (Ah isAgg3 rfl (Has.frozen af) (EV (Ar (A := ([.slice AK weights.length AM] : List Value)) (k := 1) (o := 0) rfl (BK (B := ([.slice Bn lost.length Bo] : List Value) ++ (([.slice A7 found.length A6] : List Value) ++ (([.slice AP AG.length AN] : List Value) ++ (BE.flatMap (cI .i64) ++ (Cr.flatMap (cI .i64)))))) rfl)))) (Bj (b := true) 16 rfl (Env.FL rfl aa) ?_)))))))
  refine wv (Kg rfl rfl) (wv (AS (Bq rfl aa) rfl) ?_)
  refine wa (CX (Aj ?_))
  refine BZ results75 ?_
  obtain rfl := AH ax
  exact rfl
 have ay := Bk r7 aa
 refine A3 (b' := false) 16 rfl (Env.FM rfl aa) rfl rfl (A3 (b' := false) 16 rfl (Env.FM rfl aa) rfl rfl (A3 (b' := false) 16 rfl (Env.FM rfl aa) rfl rfl (A3 (b' := false) 16 rfl (Env.FM rfl aa) rfl rfl (A3 (b' := false) 16 rfl (Env.FM rfl aa) rfl rfl (A3 (b' := false) 16 rfl (Env.FM rfl aa) rfl rfl (A3 (b' := false) 16 rfl (Env.FM rfl aa) rfl rfl (A3 (b' := false) 16 rfl (Env.FM rfl aa) rfl rfl (A3 (b' := false) 16 rfl (Env.FM rfl aa) rfl rfl (A3 (b' := false) 16 rfl (Env.FM rfl aa) rfl rfl ?_)))))))))
 refine A3 (b' := false) 16 rfl (Env.FM rfl aa) rfl rfl (A3 (b' := false) 16 rfl (Env.FM rfl aa) rfl rfl (A3 (b' := false) 16 rfl (Env.FM rfl aa) rfl rfl (A3 (b' := false) 16 rfl (Env.FM rfl aa) rfl rfl ?_)))
 refine wv (AE (Bc rfl aa) rfl) ?_
 refine wa (CX (Aj ?_))
 refine BZ results75 ?_
 obtain rfl := AH ay
 exact rfl
set_option maxHeartbeats 1000000 in
theorem NQ {lost : List (List Int)} {ad : Int} (aj : As 1 (iE .i64) F AK AM weights) (ax : As 1 (BC 1 (iE .i64)) F Bn Bo lost) (av : As 1 (BC 1 (iE .i64)) F A7 A6 found) (ak : As 1 (iE .i64) F AP AN AG) {r r2 : Int} {r3 : Bool} {r4 : Int} (hr : IW weights Be lost found AG ad Cs = some (r, r2, r3, r4)) :
    Bl Tryz.prog 24 #[.agg #[.slice AK weights.length AM, .int .i64 Be, .slice Bn lost.length Bo, .slice A7 found.length A6, .slice AP AG.length AN], .int .i64 ad, .int .i64 Cs] F (.tuple #[.int .i64 r, .int .i64 r2, .bool r3, .int .i64 r4]) := by
 refine Pj (args := [.agg #[.slice AK weights.length AM, .int .i64 Be, .slice Bn lost.length Bo, .slice A7 found.length A6, .slice AP AG.length AN], .int .i64 ad, .int .i64 Cs]) func24 rfl ntmps24 (CB rfl) ?_
 intro K _ _; rw [IW] at hr
 refine AJ ?_
 refine BJ rfl rfl ?_; intro b1 fg
 refine oa rfl rfl (oa rfl rfl (oa rfl rfl (oa rfl rfl (BU ?_))))
 refine ov (A1 isAgg82 sizeOf82 rfl (Has.own 0 rfl) (CB rfl) rfl) rfl ?_
 obtain ⟨d, n, h2, r5⟩ := DM hr
 refine c0 call72 (Nf aj ax av ak h2) ?_; rintro _ F6 _ fh fi ⟨v10, rfl, rfl, ay⟩
 refine AI (ln rfl) ?_
 refine om rfl rfl (ox rfl rfl rfl (ox rfl rfl rfl (oa rfl rfl (oa rfl rfl (Aa (Aq ?_))))))
 refine Ak ?_
 refine AJ (om rfl rfl ?_)
 refine ov (CI rfl rfl) rfl ?_
 refine oa rfl rfl (Aa ?_)
 refine cQ (fun br => ?_) fun br => ?_
 ·have df := Bi r5 br
  refine AJ (om rfl rfl (oa rfl rfl (oa rfl rfl (oa rfl rfl (oa rfl rfl (Aa ?_))))))
  refine kW kn ?_
  refine Aj (AD (Ai ?_))
  refine To results24 (AY rfl) (AY rfl) (AY rfl) (AY rfl) (sr) ?_
  obtain ⟨rfl, rfl, rfl, rfl⟩ := S7 df
  exact rfl
 have dg := Bk r5 br
 obtain ⟨k, dh, bu⟩ := AF dg
 refine A5 (fun e1 F1 L1 => ∃ (bw : Value), F6 = F1 ∧ L1 = [] ∧ e1.sub [(1, .int .i64 ad), (2, .int .i64 Cs), (10, bw), (20, .bool k)] ∧ Pw 204 (Ce (BC 1 (iE .i64)) (Ce (iE .i64) (Ce (BC 1 (BC 1 (iE .i64))) (Ce (BC 1 (BC 1 (iE .i64))) (Ce (BC 1 (iE .i64)) (Ce (Ll 36 (cI .i64)) (Ll 36 (cI .i64)))))))) F1 bw d) ?_ ?_
 ·clear bu
  refine Af (om rfl rfl (om rfl rfl ?_))
  obtain ⟨ao, az, bc, ba, aq, BE, Cr, di, dk⟩ := U3 dh
  have cq := ay; rw [di] at cq; obtain ⟨bx, fj, dm, bz, aw, ⟨_, _, rfl, ⟨dn, dp, rfl, cr⟩, ⟨_, _, rfl, rfl, ⟨_, _, rfl, ⟨dq, dr, rfl, ct⟩, ⟨_, _, rfl, ⟨dt, du, rfl, cu⟩, ⟨_, _, rfl, ⟨dv, dw, rfl, cv⟩, ⟨_, _, rfl, ⟨rfl, cw⟩, ⟨rfl, cx⟩⟩⟩⟩⟩⟩⟩⟩ := cq; subst bz
  have aw : F6 bx = some (.cells ((([.slice dn ao.length dp] : List Value) ++ (([.int .i64 az] : List Value) ++ (([.slice dq bc.length dr] : List Value) ++ (([.slice dt ba.length du] : List Value) ++ (([.slice dv aq.length dw] : List Value) ++ (BE.flatMap (cI .i64) ++ (Cr.flatMap (cI .i64)))))))).toArray) 204 dm) := aw
  obtain ⟨ok, dx, cy⟩ := AF dk
  refine D2 rfl call73 rfl rfl rfl (O5 aw cr ct cu cv cw cx dx) ?_
  refine ov (BB rfl) rfl ?_
  refine om rfl rfl ?_
  rcases Cd (!ok) with al | al
  ·have dy := bt cy al
   refine Ay (b' := true) 25 rfl (I7 rfl al) rfl rfl (Ay (b' := true) 25 rfl (I7 rfl al) rfl rfl (Ay (b' := true) 25 rfl (I7 rfl al) rfl rfl (Ay (b' := true) 25 rfl (I7 rfl al) rfl rfl ?_)))
   refine ov (AS (Hx rfl al) rfl) rfl ?_
   refine oa rfl rfl (Aa ?_)
   obtain rfl := AH dy
   exact mi kn ⟨.pointer (some ⟨bx, 0, none⟩), rfl, rfl, (sc rfl (sc rfl (sc rfl (sc rfl (sn _))))), ay⟩
  have dz := bf cy al
  refine EA (b := false) 25 rfl (I7 rfl al) (om rfl rfl (EA (b := false) 25 rfl (I7 rfl al) (om rfl rfl (EA (b := false) 25 rfl (I7 rfl al) ?_))))
  obtain ⟨fk, e9, eb⟩ := AF dz
  refine D2 rfl call74 rfl rfl rfl (OF aw cr ct cu cv cw cx e9) ?_
  refine EA (b := false) 25 rfl (I7 rfl al) ?_
  refine ov (BB rfl) rfl ?_
  refine ov (AE (Hx rfl al) rfl) rfl ?_
  refine oa rfl rfl (Aa ?_)
  obtain rfl := AH eb
  exact mi kn ⟨.pointer (some ⟨bx, 0, none⟩), rfl, rfl, (sc rfl (sc rfl (sc rfl (sc rfl (sn _))))), ay⟩
 rintro e1 _ _ ⟨bw, rfl, rfl, ca, cb⟩
 refine AB _ ca ?_
 refine AX rfl (fun cc => ?_) (fun cc => ?_)
 ·have ec := bt bu cc
  refine AJ (oa rfl rfl (oa rfl rfl (oa rfl rfl (oa rfl rfl (Aa (Aj (AD (Ai ?_))))))))
  refine To results24 (AY rfl) (AY rfl) (AY rfl) (AY rfl) (sr) ?_
  obtain ⟨rfl, rfl, rfl, rfl⟩ := S7 ec
  exact rfl
 have ef := bf bu cc
 refine Al (At (id := 0) ?_)
 refine Yc (by kernel_rfl) (by kernel_rfl) (by kernel_rfl) ?_
 refine qm rfl rfl (qm rfl rfl (qm rfl rfl ?_))
 obtain ⟨aa, ae, ah, af, ab, ai, ar, eg, eh⟩ := U3 ef
 have cz := cb; rw [eg] at cz; obtain ⟨ei, fl, ej, cd, au, ⟨_, _, rfl, ⟨bd, bg, rfl, eo⟩, ⟨_, _, rfl, rfl, ⟨_, _, rfl, ⟨bj, bk, rfl, ep⟩, ⟨_, _, rfl, ⟨bl, bn, rfl, er⟩, ⟨_, _, rfl, ⟨bo, bp, rfl, et⟩, ⟨_, _, rfl, ⟨rfl, bb⟩, ⟨rfl, bq⟩⟩⟩⟩⟩⟩⟩⟩ := cz; subst cd
 have au : F6 ei = some (.cells ((([.slice bd aa.length bg] : List Value) ++ (([.int .i64 ae] : List Value) ++ (([.slice bj ah.length bk] : List Value) ++ (([.slice bl af.length bn] : List Value) ++ (([.slice bo ab.length bp] : List Value) ++ (ai.flatMap (cI .i64) ++ (ar.flatMap (cI .i64)))))))).toArray) 204 ej) := au
 refine qv (AV rfl) rfl ?_
 refine qv (Ab Lh rfl) rfl ?_
 obtain ⟨da, eu⟩ := A0 eh
 refine qv (By underlying202 sizeOf200 rfl rfl da) rfl ?_
 obtain ⟨db, ew⟩ := A0 eu
 obtain ⟨x, fm, cf, ey⟩ := BY ew
 have cg : (ad * 6 + Cs : Int).toNat = (ad : Int).toNat * 6 + (Cs : Int).toNat := by have := da; have := db; omega
 have cj := Hc (Bt .i64) bb cg cf (GM (Ar (A := ([.slice bd aa.length bg] : List Value)) (k := 1) (o := 4) rfl (Ar (A := ([.int .i64 ae] : List Value)) (k := 1) (o := 3) rfl (Ar (A := ([.slice bj ah.length bk] : List Value)) (k := 1) (o := 2) rfl (Ar (A := ([.slice bl af.length bn] : List Value)) (k := 1) (o := 1) rfl (Ar (A := ([.slice bo ab.length bp] : List Value)) (k := 1) (o := 0) rfl (BK (B := ar.flatMap (cI .i64)) (EJ (Bt .i64) bb)))))))) (Fq (Ar (A := ([.slice bd aa.length bg] : List Value)) (k := 1) (o := 4) rfl (Ar (A := ([.int .i64 ae] : List Value)) (k := 1) (o := 3) rfl (Ar (A := ([.slice bj ah.length bk] : List Value)) (k := 1) (o := 2) rfl (Ar (A := ([.slice bl af.length bn] : List Value)) (k := 1) (o := 1) rfl (Ar (A := ([.slice bo ab.length bp] : List Value)) (k := 1) (o := 0) rfl (BK (B := ar.flatMap (cI .i64)) (EJ (Bt .i64) bb))))))))
 refine qv (By underlying200 sizeOf3 rfl rfl db) rfl ?_
 refine qv (Ah isAgg3 rfl (Has.frozen au) ((cj).2.2 0 (by decide))) rfl ?_
 refine qm rfl rfl (qm rfl rfl (qm rfl rfl ?_))
 refine qv (AV rfl) rfl ?_
 refine qv (Ab On rfl) rfl ?_
 obtain ⟨dd, ez⟩ := A0 ey
 refine qv (By underlying202 sizeOf200 rfl rfl dd) rfl ?_
 obtain ⟨de, fa⟩ := A0 ez
 obtain ⟨x2, fp, ck, fb⟩ := BY fa
 have cn : (ad * 6 + Cs : Int).toNat = (ad : Int).toNat * 6 + (Cs : Int).toNat := by have := dd; have := de; omega
 have cp := Hc (Bt .i64) bq cn ck (GM (Ar (A := ([.slice bd aa.length bg] : List Value)) (k := 1) (o := 40) rfl (Ar (A := ([.int .i64 ae] : List Value)) (k := 1) (o := 39) rfl (Ar (A := ([.slice bj ah.length bk] : List Value)) (k := 1) (o := 38) rfl (Ar (A := ([.slice bl af.length bn] : List Value)) (k := 1) (o := 37) rfl (Ar (A := ([.slice bo ab.length bp] : List Value)) (k := 1) (o := 36) rfl (Ar (A := ai.flatMap (cI .i64)) (k := 36) (o := 0) (EJ (Bt .i64) bb) (Ds (EJ (Bt .i64) bq))))))))) (Fq (Ar (A := ([.slice bd aa.length bg] : List Value)) (k := 1) (o := 40) rfl (Ar (A := ([.int .i64 ae] : List Value)) (k := 1) (o := 39) rfl (Ar (A := ([.slice bj ah.length bk] : List Value)) (k := 1) (o := 38) rfl (Ar (A := ([.slice bl af.length bn] : List Value)) (k := 1) (o := 37) rfl (Ar (A := ([.slice bo ab.length bp] : List Value)) (k := 1) (o := 36) rfl (Ar (A := ai.flatMap (cI .i64)) (k := 36) (o := 0) (EJ (Bt .i64) bb) (Ds (EJ (Bt .i64) bq)))))))))
 refine qv (By underlying200 sizeOf3 rfl rfl de) rfl ?_
 refine qv (Ah isAgg3 rfl (Has.frozen au) ((cp).2.2 0 (by decide))) rfl ?_
 refine qm rfl rfl (qm rfl rfl (qm rfl rfl ?_))
 obtain ⟨fq, fe, ff⟩ := AF fb
 refine I9 rfl call75 rfl rfl rfl (LQ au eo ep er et bb bq fe) ?_
 refine qa rfl rfl (qa rfl rfl (qa rfl rfl (qa rfl rfl (CX (Aj ?_)))))
 refine To results24 (AY rfl) (AY rfl) (AY rfl) (AY rfl) (sr) ?_
 obtain ⟨rfl, rfl, rfl, rfl⟩ := S7 ff
 exact rfl
set_option maxHeartbeats 1000000 in
theorem NS {lost : List (List Int)} {aj : Nat} {aw : FuncId} {ax ay : Array Value} {can : (Int × Int) → Option Bool} {az : Nat × Nat} {af : Nat} {ao : Int} {ar : Nat × Nat} (ba : F GZ = some (.cells #[.pointer (some ⟨Pu, 0, none⟩)] 197 IZ)) (aq : F Pu = some (.cells ((([.slice AK weights.length AM] : List Value) ++ (([.int .i64 Be] : List Value) ++ (([.slice Bn lost.length Bo] : List Value) ++ (([.slice A7 found.length A6] : List Value) ++ (([.slice AP AG.length AN] : List Value) ++ (BE.flatMap (cI .i64) ++ (Cr.flatMap (cI .i64)))))))).toArray) 204 Qt)) (_bg : As 1 (iE .i64) F AK AM weights) (_bx : As 1 (BC 1 (iE .i64)) F Bn Bo lost) (aa : As 1 (BC 1 (iE .i64)) F A7 A6 found) (_bj : As 1 (iE .i64) F AP AN AG) (_bu : BE.length = 36) (_bz : Cr.length = 36) (ad : F aj = some (.cells #[.func (.func aw) ax ay] 162 az)) (ae : Gk Tryz.prog F aw ax ay (Ce (iE .i64) (iE .i64)) Value.bool can) (ab : F af = some (.cells #[.int .i64 ao] 3 ar)) (hr : HR weights Be lost found AG BE Cr can ao = some xs) :
    ES Tryz.prog 235 #[] #[.pointer (some ⟨GZ, 0, none⟩), .pointer (some ⟨aj, 0, none⟩), .pointer (some ⟨af, 0, none⟩)] F (fun x : Int => #[.int .i64 x]) xs := by
 intro G0 bk yv J Jx da cq hy Fc L0 hG cr
 replace ba := (bk.trans hG) _ _ ba
 replace aq := (bk.trans hG) _ _ aq
 replace aa := aa.mono (Am (Ac _)) (bk.trans hG)
 replace ad := (bk.trans hG) _ _ ad
 replace ae := ae.mono (bk.trans hG)
 replace ab := (bk.trans hG) _ _ ab
 have bb : xs = [] ++ xs := rfl
 show SH.Spec Tryz.prog 235 #[yv, .pointer (some ⟨GZ, 0, none⟩), .pointer (some ⟨aj, 0, none⟩), .pointer (some ⟨af, 0, none⟩)] Fc L0 _
 refine sp func235 ntmps235 fun K _ _ => ?_
 rw [HR] at hr; refine DT (L' := L0 ++ []) (by simp) ?_
 refine AJ (uv (Ah isAgg197 rfl (Has.frozen ba) rfl) (uv (AV rfl) (uv (Ab K4 rfl) (uv (Ab LP rfl) (uv (Ah isAgg36 rfl (Has.frozen aq) (EV (Ar (k := 1) (o := 2) rfl (Ar (k := 1) (o := 1) rfl (Ar (k := 1) (o := 0) rfl (BK rfl)))))) (uv (A2 underlying36 rfl) ?_))))))
 refine um (Aa ?_)
 refine Ak ?_
 refine Br (fun cj e1 F1 L1 => LA found cj fun tl k => ∃ (ai : List Int) (au : List Int) (bl : LH), Dg can ao tl k = some au ∧ A4 Fc F1 ∧ L1 = (bl ++ []) ∧ e1.sub [(0, yv), (2, .pointer (some ⟨aj, 0, none⟩)), (3, .pointer (some ⟨af, 0, none⟩)), (11, .int .i64 (found.length : Int)), (12, .int .i64 k)] ∧ xs = ai ++ au ∧ J ai F1 bl ∧ A4 G0 F1) _ (m0 kr ⟨_, _, rfl, BI.start _, [], xs, L0, hr, A4.refl _, rfl, z5, bb, cr, hG⟩) ?_
 rintro cj e1 db _ ⟨tl, k, ck, bw, ai, au, bl, r8, ak, rfl, ct, ah, ca, hG⟩
 refine AB _ ct ?_
 replace aa := aa.mono (Am (Ac _)) ak
 replace ae := ae.mono ak
 replace ad := ak _ _ ad
 replace ab := ak _ _ ab
 refine AJ (uv (Bp rfl rfl) ?_)
 refine Aa (Aq ?_)
 refine cQ (fun bn => ?_) fun bn => ?_
 ·obtain ⟨x, dd, rfl, cu, de, bo⟩ := BI.succ bw bn
  rw [Dg] at r8
  refine Al (Aq ?_)
  refine Ak ?_
  refine AJ (um (ua (BU ?_)))
  refine uv (Ah isAgg162 rfl (Has.frozen ad) rfl) (uv (Ah isAgg3 rfl (Has.frozen ab) rfl) (um ?_))
  obtain ⟨ok, cv, cn⟩ := AF r8
  refine D2 rfl ae.1 rfl rfl rfl (ae.2 _ (A4.refl _) _ _ _ ⟨_, _, rfl, rfl, rfl⟩ cv) (um ?_)
  rcases Cd ok with al | al
  ·have cw := bt cn al
   refine nB al (um (nB al (um (nB al ?_))))
   obtain ⟨bc, cx, bp⟩ := Qg cw
   refine LJ (Lb := bl) (Lr := []) (vs := [.int .i64 k]) rfl rfl rfl fP (hy ai k bc (by rw [ah, bp]) _ _ hG ca) ?_
   rintro df dg cb bd cc; obtain ⟨cy, rfl, bq, br⟩ := HZ cc
   replace aa := aa.mono (Am (Ac _)) bd
   replace hG := hG.trans bd
   refine nB al (uv (BB rfl) (uv (AS (Hx rfl al) rfl) (Aa ?_)))
   refine AX rfl (fun cd => ?_) (fun cd => ?_)
   ·have cf := br (by simpa using cd)
    refine Aj (AD (Ai (Ai (AD ?_))))
    refine Gs (.inl rfl) results235 (sr) ?_
    exact .inr (by rw [List.append_nil]; exact cf)
   have cg := bq (by simpa using cd)
   have av : xs = (ai ++ [k]) ++ bc := by rw [ah, bp]; simp
   refine Al (At (id := 1) (Af ?_))
   refine uv (Bf rfl rfl (BI.Ed bw bn (As.lt aa))) ?_
   refine um (Aa ?_)
   subst ck; exact le kr ⟨_, _, rfl, bo, ai ++ [k], bc, cb, cx, (ak.trans bd), rfl, z5, av, cg, hG⟩
  have cz := bf cn al
  refine fB al (fB al (fB al (fB al ?_)))
  refine uv (AE (Hx rfl al) rfl) (Aa ?_)
  refine AX rfl (fun cp => nomatch cp) (fun cp => ?_)
  refine Al (At (id := 1) (Af ?_))
  refine uv (Bf rfl rfl (BI.Ed bw bn (As.lt aa))) ?_
  refine um (Aa ?_)
  subst ck; exact le kr ⟨_, _, rfl, bo, ai, au, bl, cz, ak, rfl, z5, ah, ca, hG⟩
 obtain rfl := BI.zero bw bn
 rw [Dg] at r8
 refine AW (Ae (Ae ?_))
 refine Au (Gs (.inr rfl) results235 (sr) ?_)
 obtain rfl := AH r8
 exact .inl (by have e1 := ah; rw [List.append_nil] at e1; rw [List.append_nil, e1]; exact ca)
set_option maxHeartbeats 1000000 in
theorem PF {lost : List (List Int)} {ai : Int} (af : F GZ = some (.cells ((([.slice AK weights.length AM] : List Value) ++ (([.int .i64 Be] : List Value) ++ (([.slice Bn lost.length Bo] : List Value) ++ (([.slice A7 found.length A6] : List Value) ++ (([.slice AP AG.length AN] : List Value) ++ (BE.flatMap (cI .i64) ++ (Cr.flatMap (cI .i64)))))))).toArray) 204 IZ)) (aa : As 1 (iE .i64) F AK AM weights) (ae : As 1 (BC 1 (iE .i64)) F Bn Bo lost) (ad : As 1 (BC 1 (iE .i64)) F A7 A6 found) (ab : As 1 (iE .i64) F AP AN AG) (aj : BE.length = 36) (ak : Cr.length = 36) {r : List Int} (hr : HJ weights Be lost found AG BE Cr ai = some r) :
    SH.Spec Tryz.prog 203 #[.pointer (some ⟨GZ, 0, none⟩), .int .i64 ai] F [] fun F' L' v => ∃ (ay : Array Value), v = .func (.func 235) #[] ay ∧ L' = [] ∧ ES Tryz.prog 235 #[] ay F' (fun x : Int => #[.int .i64 x]) r := by
 refine sp func203 ntmps203 fun K _ _ => ?_
 rw [HJ] at hr
 refine AJ ?_
 refine BJ rfl rfl ?_; intro b1 ba
 refine BJ rfl rfl ?_; intro b2 bb
 refine ua (BU ?_)
 refine uv (Ah isAgg197 rfl (Has.own 1 rfl) rfl) (uv (BT rfl rfl) ?_)
 refine Bw rfl zeroValue162 ?_; intro b3 bc
 refine B4 (i := 0) sizeOf162 rfl rfl rfl rfl (CB rfl) (AI rfl (BU (uv (BT rfl rfl) ?_)))
 refine ua (Aa ?_)
 refine B1 2 rfl ba ?_; intro F4 ao aq
 refine DT (L' := [(b3, ce (#[.func (.func 75) #[.pointer (some ⟨GZ, 0, none⟩)] #[]]) 162), (b2, ce #[.int .i64 ai] 3)]) rfl ?_
 replace aa := aa.mono (Ac _) ao
 replace ae := ae.mono (Am (Ac _)) ao
 replace ad := ad.mono (Am (Ac _)) ao
 replace ab := ab.mono (Ac _) ao
 replace af := ao _ _ af
 refine B1 0 rfl bc ?_; intro F7 al au
 refine DT (L' := [(b2, ce #[.int .i64 ai] 3)]) rfl ?_
 replace aa := aa.mono (Ac _) al
 replace ae := ae.mono (Am (Ac _)) al
 replace ad := ad.mono (Am (Ac _)) al
 replace ab := ab.mono (Ac _) al
 replace af := al _ _ af
 replace aq := al _ _ aq
 refine B1 0 rfl bb ?_; intro az ah av
 refine DT (L' := []) rfl ?_
 replace aa := aa.mono (Ac _) ah
 replace ae := ae.mono (Am (Ac _)) ah
 replace ad := ad.mono (Am (Ac _)) ah
 replace ab := ab.mono (Ac _) ah
 replace af := ah _ _ af
 replace aq := ah _ _ aq
 replace au := ah _ _ au
 have aw : Gk Tryz.prog az 75 #[.pointer (some ⟨GZ, 0, none⟩)] #[] (Ce (iE .i64) (iE .i64)) Value.bool (fun ax : Int × Int => FG weights Be lost found AG BE Cr ax.1 ax.2) := ⟨call75, fun F2 h2 vs ax r ha hr => by obtain ⟨_, _, rfl, rfl, rfl⟩ := ha; exact LQ (h2 _ _ af) (aa.mono (Ac _) h2) (ae.mono (Am (Ac _)) h2) (ad.mono (Am (Ac _)) h2) (ab.mono (Ac _) h2) aj ak hr⟩
 obtain ⟨l, bd, bg⟩ := AF hr
 have ar : ES Tryz.prog 235 #[] #[.pointer (some ⟨b1, 0, none⟩), .pointer (some ⟨b3, 0, none⟩), .pointer (some ⟨b2, 0, none⟩)] az (fun x : Int => #[.int .i64 x]) l := NS aq af aa ae ad ab aj ak au aw av bd
 refine Aj (BZ results203 ?_)
 obtain rfl := AH bg
 exact ⟨_, rfl, rfl, ar⟩
set_option maxHeartbeats 1000000 in
theorem Mk {cq : Int → Int → (List Int) → Int → (List (List Int)) → (List (List Int)) → (List Int) → (List Int) → (List Int) → (List ((Int × Int) × (Int × Int × Int))) → ((Int × Int) → Option Int) → Option (Int × Int × Int × (List ((Int × Int) × (Int × Int × Int))))} (cu : ∀ {lost used : Int} {SN cd : Nat} {AK : Option Addr} {AM : Nat} {weights : List Int} {Be : Int} {az : Option Addr} {ba : Nat} {bb : List (List Int)} {A7 : Option Addr} {A6 : Nat} {found : List (List Int)} {AP : Option Addr} {AN : Nat} {AG BE Cr : List Int} {cf Sm : Nat × Nat} {ax bu : Nat} {bw : Array MapEntry} {cn : Nat} {x : List ((Int × Int) × (Int × Int × Int))} {bx : Nat × Nat} {av : Nat} {bn : Nat × Nat} {ao : Nat} {KZ : FuncId} {K1 K7 : Array Value} {NF : (Int × Int) → Option Int} {bc : Nat × Nat} {F : FS} (_ : F SN = some (.cells #[.pointer (some ⟨cd, 0, none⟩)] 197 Sm)) (_ : F cd = some (.cells ((([.slice AK weights.length AM] : List Value) ++ (([.int .i64 Be] : List Value) ++ (([.slice az bb.length ba] : List Value) ++ (([.slice A7 found.length A6] : List Value) ++ (([.slice AP AG.length AN] : List Value) ++ (BE.flatMap (cI .i64) ++ (Cr.flatMap (cI .i64)))))))).toArray) 204 cf)) (_ : As 1 (iE .i64) F AK AM weights) (_ : As 1 (BC 1 (iE .i64)) F az ba bb) (_ : As 1 (BC 1 (iE .i64)) F A7 A6 found) (_ : As 1 (iE .i64) F AP AN AG) (_ : BE.length = 36) (_ : Cr.length = 36) (_ : F ax = some (.cells #[.map (some bu)] 289 bx)) (_ : Dr (vA (cP (cI .i64) (cI .i64))) (vA (cP (cI .i64) (cP (cI .i64) (cI .i64)))) bw x) (_ : F av = some (.cells (#[.func (.func 202) #[] #[.pointer (some ⟨SN, 0, none⟩), .pointer (some ⟨ax, 0, none⟩), .pointer (some ⟨av, 0, none⟩), .pointer (some ⟨ao, 0, none⟩)]]) 337 bn)) (_ : F ao = some (.cells #[.func (.func KZ) K1 K7] 207 bc)) (_ : Gk Tryz.prog F KZ K1 K7 (Ce (iE .i64) (iE .i64)) (Value.int .i64) NF) {r r2 r3 : Int} {r4 : List ((Int × Int) × (Int × Int × Int))} , cq lost used weights Be bb found AG BE Cr x NF = some (r, r2, r3, r4) → SH.Spec Tryz.prog 202 #[.agg #[.int .i64 lost, .int .i64 used], .pointer (some ⟨SN, 0, none⟩), .pointer (some ⟨ax, 0, none⟩), .pointer (some ⟨av, 0, none⟩), .pointer (some ⟨ao, 0, none⟩)] F [(bu, .map bw cn)] fun _ L' v => ∃ (bq : Array MapEntry) (cg : Nat), v = .agg #[.int .i64 r, .int .i64 r2, .int .i64 r3] ∧ L' = [(bu, .map bq cg)] ∧ Dr (vA (cP (cI .i64) (cI .i64))) (vA (cP (cI .i64) (cP (cI .i64) (cI .i64)))) bq r4) {lost : Int} {SN cd : Nat} {az : Option Addr} {ba : Nat} {bb : List (List Int)} {cf Sm : Nat × Nat} {ax bu : Nat} {bw : Array MapEntry} {cn : Nat} {x : List ((Int × Int) × (Int × Int × Int))} {bx : Nat × Nat} {av : Nat} {bn : Nat × Nat} {ao : Nat} {bc : Nat × Nat} (bg : F SN = some (.cells #[.pointer (some ⟨cd, 0, none⟩)] 197 Sm)) (ay : F cd = some (.cells ((([.slice AK weights.length AM] : List Value) ++ (([.int .i64 Be] : List Value) ++ (([.slice az bb.length ba] : List Value) ++ (([.slice A7 found.length A6] : List Value) ++ (([.slice AP AG.length AN] : List Value) ++ (BE.flatMap (cI .i64) ++ (Cr.flatMap (cI .i64)))))))).toArray) 204 cf)) (af : As 1 (iE .i64) F AK AM weights) (aq : As 1 (BC 1 (iE .i64)) F az ba bb) (ar : As 1 (BC 1 (iE .i64)) F A7 A6 found) (ah : As 1 (iE .i64) F AP AN AG) (bo : BE.length = 36) (bz : Cr.length = 36) (al : F ax = some (.cells #[.map (some bu)] 289 bx)) (da : Dr (vA (cP (cI .i64) (cI .i64))) (vA (cP (cI .i64) (cP (cI .i64) (cI .i64)))) bw x) (ak : F av = some (.cells (#[.func (.func 202) #[] #[.pointer (some ⟨SN, 0, none⟩), .pointer (some ⟨ax, 0, none⟩), .pointer (some ⟨av, 0, none⟩), .pointer (some ⟨ao, 0, none⟩)]]) 337 bn)) (ae : F ao = some (.cells #[.func (.func KZ) K1 K7] 207 bc)) (aw : Gk Tryz.prog F KZ K1 K7 (Ce (iE .i64) (iE .i64)) (Value.int .i64) NF) {r r2 r3 : Int} {r4 : List ((Int × Int) × (Int × Int × Int))} (hr : Fl cq lost used weights Be bb found AG BE Cr x NF = some (r, r2, r3, r4)) :
    SH.Spec Tryz.prog 202 #[.agg #[.int .i64 lost, .int .i64 used], .pointer (some ⟨SN, 0, none⟩), .pointer (some ⟨ax, 0, none⟩), .pointer (some ⟨av, 0, none⟩), .pointer (some ⟨ao, 0, none⟩)] F [(bu, .map bw cn)] fun _ L' v => ∃ (bq : Array MapEntry) (cg : Nat), v = .agg #[.int .i64 r, .int .i64 r2, .int .i64 r3] ∧ L' = [(bu, .map bq cg)] ∧ Dr (vA (cP (cI .i64) (cI .i64))) (vA (cP (cI .i64) (cP (cI .i64) (cI .i64)))) bq r4 := by
 refine sp func202 ntmps202 fun K _ _ => ?_
 rw [Fl] at hr
 refine AJ ?_
 refine BJ rfl rfl ?_; intro b1 gm
 refine Bw rfl zeroValue292 ?_; intro b2 gn
 refine Aa (Aq ?_)
 refine dW (wv (Ab Mx rfl) (wv (Ah isAgg3 rfl (Has.own 1 rfl) rfl) (wv (Ah isAgg197 rfl (Has.frozen bg) rfl) (wv (AV rfl) (wv (Ab K4 rfl) (wv (Ab Jd rfl) (wv (Ah isAgg36 rfl (Has.frozen ay) (EV (Ar (k := 1) (o := 1) rfl (Ar (k := 1) (o := 0) rfl (BK rfl))))) ?_)))))))
 refine wv (A2 underlying36 rfl) (wv (Cx rfl rfl) (CX ?_))
 refine cQ (fun c3 => ?_) fun c3 => ?_
 ·have r5 := Bi hr c3
  refine AJ ?_
  refine uv (BM (v := .agg #[.int .i64 (-1), .int .i64 0, .int .i64 1]) rfl (by intro w; kernel_rfl)) ?_
  refine BP (i := 0) sizeOf292 rfl rfl rfl (by simp [Value.oneCell']) rfl (CB rfl) (AI rfl (Aa (kW (kc (kd kr)) ?_)))
  refine Aj (Ai ?_)
  refine IH results202 (DI (cs := #[.int .i64 (-1), .int .i64 0, .int .i64 1]) isAgg292 sizeOf292 rfl (Has.own 0 rfl) (CB rfl) rfl) (s1 (s2 sr)) ?_
  obtain ⟨rfl, rfl, rfl, rfl⟩ := S7 r5
  exact ⟨_, _, rfl, rfl, da⟩
 have r6 := Bk hr c3
 refine Al (Aq (AJ ?_))
 refine uv (Ah isAgg289 rfl (Has.frozen al) rfl) (uv (A1 (cs := #[.int .i64 lost, .int .i64 used]) isAgg294 sizeOf294 rfl (Has.own 1 rfl) (CB rfl) rfl) (uv (Ft.eq (v' := .tuple #[.agg #[.int .i64 (((Bm x (lost, used)).getD (0, 0, 0)).1), .int .i64 (((Bm x (lost, used)).getD (0, 0, 0)).2.1), .int .i64 (((Bm x (lost, used)).getD (0, 0, 0)).2.2)], .bool ((Bm x (lost, used)).isSome)]) (JZ (k := (lost, used)) (z0 := (0, 0, 0)) rfl underlying289 PN zeroValue292 rfl rfl (KO.own 2 rfl) (show Dr (vA (cP (cI .i64) (cI .i64))) (vA (cP (cI .i64) (cP (cI .i64) (cI .i64)))) bw (x : List ((Int × Int) × (Int × Int × Int))) from da)) rfl) ?_))
 refine um (ox rfl rfl rfl (ox rfl rfl rfl ?_))
 refine Bw rfl zeroValue292 ?_; intro b7 gp
 refine BP (i := 0) sizeOf292 rfl rfl rfl (by simp [Value.oneCell']) rfl (CB rfl) (AI rfl ?_)
 refine ua (BU (um (Aa ?_)))
 refine AX rfl (fun c8 => ?_) (fun c8 => ?_)
 ·have r9 := bt r6 c8
  refine AJ (uv (A1 (cs := #[.int .i64 (((Bm x (lost, used)).getD (0, 0, 0)).1), .int .i64 (((Bm x (lost, used)).getD (0, 0, 0)).2.1), .int .i64 (((Bm x (lost, used)).getD (0, 0, 0)).2.2)]) isAgg292 sizeOf292 rfl (Has.own 0 rfl) (CB rfl) rfl) (BP (i := 1) sizeOf292 rfl rfl rfl (by simp [Value.oneCell']) rfl (CB rfl) (AI rfl (Aa (kW (kd (kc (kd kr))) ?_)))))
  refine Aj (Ai ?_)
  refine IH results202 (DI (cs := #[.int .i64 (((Bm x (lost, used)).getD (0, 0, 0)).1), .int .i64 (((Bm x (lost, used)).getD (0, 0, 0)).2.1), .int .i64 (((Bm x (lost, used)).getD (0, 0, 0)).2.2)]) isAgg292 sizeOf292 rfl (Has.own 0 rfl) (CB rfl) rfl) (s1 (s2 sr)) ?_
  obtain ⟨rfl, rfl, rfl, rfl⟩ := S7 r9
  exact ⟨_, _, rfl, rfl, da⟩
 have dz := bf r6 c8
 refine Al (AJ ?_)
 refine uv (Ah isAgg337 rfl (Has.frozen ak) rfl) (uv (Ab Mx rfl) (uv (Ah isAgg3 rfl (Has.own 2 rfl) rfl) ?_))
 obtain ⟨e9, eb⟩ := A0 dz
 refine uv (Bf rfl rfl e9) (uv (Ab Qw rfl) (uv (Ah isAgg3 rfl (Has.own 2 rfl) rfl) ?_))
 refine uv (BM (v := .agg #[.int .i64 (lost + 1), .int .i64 used]) rfl (by intro w; kernel_rfl)) ?_
 obtain ⟨n, n2, n3, x2, ec, ef⟩ := Ng eb
 refine ID (Lb := [(bu, .map bw cn)]) (Lr := [(b7, ce #[.int .i64 (((Bm x (lost, used)).getD (0, 0, 0)).1), .int .i64 (((Bm x (lost, used)).getD (0, 0, 0)).2.1), .int .i64 (((Bm x (lost, used)).getD (0, 0, 0)).2.2)] 292), (b2, ce #[.int .i64 0, .int .i64 0, .int .i64 0] 292), (b1, ce #[.int .i64 lost, .int .i64 used] 294)]) rfl call202 rfl rfl rfl (((fC (fC (fC fO))).trans (pC pR))) (cu bg ay af aq ar ah bo bz al da ak ae aw ec) ?_; rintro _ eg _ bj eh ei ⟨db, dd, rfl, rfl, de⟩
 replace af := af.mono (Ac _) bj
 replace aq := aq.mono (Am (Ac _)) bj
 replace ar := ar.mono (Am (Ac _)) bj
 replace ah := ah.mono (Ac _) bj
 replace aw := aw.mono bj
 replace ay := bj _ _ ay
 replace bg := bj _ _ bg
 replace al := bj _ _ al
 replace ak := bj _ _ ak
 replace ae := bj _ _ ae
 refine AI (lb (ln rfl)) ?_
 refine Bw rfl zeroValue292 ?_; intro gq ej
 refine BP (i := 0) sizeOf292 rfl rfl rfl (by simp [Value.oneCell']) rfl (CB rfl) (AI rfl (BU (uv (Ab Of rfl) (uv (Ah isAgg3 rfl (Has.own 0 rfl) rfl) (uv (Ab MD rfl) (uv (Ah isAgg3 rfl (Has.own 0 rfl) rfl) ?_))))))
 refine uv (BM (v := .agg #[.int .i64 (-1), .int .i64 n2, .int .i64 n3]) rfl (by intro w; kernel_rfl)) ?_
 refine Bw rfl zeroValue292 ?_; intro ck eo
 refine BP (i := 0) sizeOf292 rfl rfl rfl (by simp [Value.oneCell']) rfl (CB rfl) (AI rfl (Aa ?_))
 obtain ⟨m, ai, aj, au, ep, dq⟩ := Ng ef
 refine A5 (fun e1 F1 L1 => ∃ (cp : Array MapEntry) (cv : Nat), A4 eg F1 ∧ L1 = [(ck, ce #[.int .i64 ai, .int .i64 aj, .int .i64 au] 292), (bu, .map cp cv), (b2, ce #[.int .i64 0, .int .i64 0, .int .i64 0] 292), (b1, ce #[.int .i64 lost, .int .i64 used] 294)] ∧ e1.sub [(2, .pointer (some ⟨ax, 0, none⟩)), (5, .pointer (some ⟨b1, 0, none⟩)), (6, .pointer (some ⟨b2, 0, none⟩)), (10, .pointer (some ⟨ck, 0, none⟩))] ∧ Dr (vA (cP (cI .i64) (cI .i64))) (vA (cP (cI .i64) (cP (cI .i64) (cI .i64)))) cp m) ?_ ?_
 ·clear dq
  refine AJ (uv (Ah isAgg197 rfl (Has.frozen bg) rfl) (uv (Ab Mx rfl) (uv (Ah isAgg3 rfl (Has.own 5 rfl) rfl) ?_)))
  obtain ⟨y, er, et⟩ := AF ep
  refine c0 call203 (PF ay af aq ar ah bo bz er) ?_; rintro _ gr _ bd eu ⟨df, rfl, rfl, cw⟩
  replace af := af.mono (Ac _) bd
  replace aq := aq.mono (Am (Ac _)) bd
  replace ar := ar.mono (Am (Ac _)) bd
  replace ah := ah.mono (Ac _) bd
  replace aw := aw.mono bd
  replace ay := bd _ _ ay
  replace bg := bd _ _ bg
  replace al := bd _ _ al
  replace ak := bd _ _ ak
  replace ae := bd _ _ ae
  refine AI (ln rfl) (Aa (Ak (kW (kc (kd (kc (kd kr)))) ?_)))
  refine GF (encs := (fun x : Int => #[.int .i64 x])) (xs := y) rfl call235 rfl (fun _ => rfl) cw (fun pre F1 L1 => ∃ (tl : List Int) (m2 : List ((Int × Int) × (Int × Int × Int))) (aa : Int) (ab : Int) (ad : Int) (bk : Array MapEntry) (bp : Nat), y = pre ++ tl ∧ BV lost used weights Be bb found AG BE Cr NF cq tl m2 aa ab ad = some (m, ai, aj, au) ∧ L1 = [(ck, ce #[.int .i64 aa, .int .i64 ab, .int .i64 ad] 292), (bu, .map bk bp), (b2, ce #[.int .i64 0, .int .i64 0, .int .i64 0] 292), (b1, ce #[.int .i64 lost, .int .i64 used] 294)] ∧ Dr (vA (cP (cI .i64) (cI .i64))) (vA (cP (cI .i64) (cP (cI .i64) (cI .i64)))) bk m2) (fun _ _ _ => False) ?_ ?_ ?_ ?_ ?_ ?_
  ·rintro pre F1 F2 L1 ⟨tl, m2, aa, ab, ad, bk, bp, cj, ew, rfl, cc⟩ hx; exact ⟨tl, m2, aa, ab, ad, bk, bp, cj, ew, rfl, cc⟩
  ·intro c F1 F2 L1 h hx; exact h
  ·exact ⟨_, x2, -1, n2, n3, db, dd, rfl, et, rfl, de⟩
  ·rintro gu ey ez fa fb fe dr ff pre x3 gv br gw _ bl ⟨tl, m2, aa, ab, ad, bk, bp, cj, dt, rfl, cc⟩
   obtain rfl := JP cj br
   rw [BV] at dt
   replace af := af.mono (Ac _) bl
   replace aq := aq.mono (Am (Ac _)) bl
   replace ar := ar.mono (Am (Ac _)) bl
   replace ah := ah.mono (Ac _) bl
   replace aw := aw.mono bl
   replace ay := bl _ _ ay
   replace bg := bl _ _ bg
   replace al := bl _ _ al
   replace ak := bl _ _ ak
   replace ae := bl _ _ ae
   refine AB [(2, .pointer (some ⟨ax, 0, none⟩)), (3, .pointer (some ⟨av, 0, none⟩)), (4, .pointer (some ⟨ao, 0, none⟩)), (5, .pointer (some ⟨b1, 0, none⟩)), (6, .pointer (some ⟨b2, 0, none⟩)), (10, .pointer (some ⟨ck, 0, none⟩)), (48, .func (.func 235) #[] df), (49, .int .i64 x3)] (by exact z8) ?_
   refine Af (ua (Aa ?_))
   refine ⟨rfl, ?_⟩
   refine Ak ?_
   refine Aq (AJ ?_)
   refine uv (Ab Qw rfl) (uv (Ah isAgg3 rfl (Has.own 3 rfl) rfl) (um ?_))
   obtain ⟨fg, du⟩ := A0 dt
   refine uv (Jh rfl rfl fg) (uv (KB rfl rfl) (uv (Cx rfl rfl) (Aa ?_)))
   refine cQ (fun dg => ?_) fun dg => ?_
   ·have fh := Bi du dg
    refine AW (Ae ?_)
    refine Au ?_
    refine ⟨[(ck, ce #[.int .i64 aa, .int .i64 ab, .int .i64 ad] 292), (bu, .map bk bp), (b2, ce #[.int .i64 0, .int .i64 0, .int .i64 0] 292), (b1, ce #[.int .i64 lost, .int .i64 used] 294)], ⟨_, .refl _, sr⟩, ?_⟩; exact ⟨_, m2, aa, ab, ad, bk, bp, (by rw [br]; simp), fh, rfl, cc⟩
   have fi := Bk du dg
   refine Al (Aq ?_)
   refine CM [(.pre, 11), (.still, 0), (.still, 1), (.still, 2), (.still, 3), (.still, 4), (.still, 5), (.still, 6), (.still, 7), (.still, 8), (.still, 9), (.seq, 10), (.alloc (.cells (.agg #[.int .i64 0, .int .i64 0, .int .i64 0] : Value).cells 292 (0, 0)) (fun b => .pointer (some ⟨b, 0, none⟩)) [], 11), (.seq, 12)] (by kernel_rfl) (by kernel_rfl) (⟨⟨_, _, rfl, rfl, rfl, rfl, rfl, Sn zeroValue292⟩, trivial⟩) (by rfl) (by kernel_rfl) ?_
   refine ⟨⟨[], rfl, sn _, by kernel_rfl⟩, ?_⟩
   refine mL [3] ([]) rfl sm (fun H F' L' cx cy => Ah isAgg337 rfl ((Has.frozen ak).ext cx cy) rfl) (mS [5] rfl (Ab Mx rfl) (mL [57] ([(b1, ce #[.int .i64 lost, .int .i64 used] 294)]) rfl (s0 (s1 (s1 (s1 (s2 sr))))) (fun H F' L' cx cy => Ah isAgg3 rfl ((Has.own 0 rfl).ext cx cy) rfl) ?_))
   obtain ⟨fj, fk⟩ := A0 fi
   refine mS (v := .int .i64 (lost + 1)) [58] rfl (Bf rfl rfl fj) (mS [5] rfl (Ab Qw rfl) (mL [60] ([(b1, ce #[.int .i64 lost, .int .i64 used] 294)]) rfl (s0 (s1 (s1 (s1 (s2 sr))))) (fun H F' L' cx cy => Ah isAgg3 rfl ((Has.own 0 rfl).ext cx cy) rfl) (mS [11] rfl (BF rfl) ?_)))
   obtain ⟨fl, fm⟩ := A0 fk
   refine mS (v := .int .i64 (shl 1 x3)) [62] rfl (Oy rfl rfl fl) (mS (v := .int .i64 (Oe used (shl 1 x3))) [61, 63] rfl (Tx rfl rfl) ?_)
   refine mS (v := .agg #[.int .i64 (lost + 1), .int .i64 (Oe used (shl 1 x3))]) [59, 64] rfl (BM (v := .agg #[.int .i64 (lost + 1), .int .i64 (Oe used (shl 1 x3))]) rfl (by intro w; kernel_rfl)) ?_
   refine ⟨_, [(56, .func (.func 202) #[] #[.pointer (some ⟨SN, 0, none⟩), .pointer (some ⟨ax, 0, none⟩), .pointer (some ⟨av, 0, none⟩), .pointer (some ⟨ao, 0, none⟩)]), (65, .agg #[.int .i64 (lost + 1), .int .i64 (Oe used (shl 1 x3))])], rfl, rfl, z2, by kernel_rfl, ?_⟩; intro H
   obtain ⟨n4, n5, n6, x4, fp, Ed⟩ := Ng fm
   refine ID (Lb := [(bu, .map bk bp)]) (Lr := [(ck, ce #[.int .i64 aa, .int .i64 ab, .int .i64 ad] 292), (b2, ce #[.int .i64 0, .int .i64 0, .int .i64 0] 292), (b1, ce #[.int .i64 lost, .int .i64 used] 294)]) rfl call202 rfl rfl rfl (((fC fO).trans (pC pR))) (cu bg ay af aq ar ah bo bz al cc ak ae aw fp) ?_; rintro _ gz _ cr fq ft ⟨ca, cb, rfl, rfl, ct⟩
   replace aw := aw.mono cr
   replace ae := cr _ _ ae
   refine AI (lb (ln rfl)) ?_
   refine Aa ⟨_, rfl, cr, [], by kernel_rfl, .inl (.inl rfl), nm, ?_⟩
   refine TU rfl ?_; intro dv fv
   refine Rj (L' := [(dv, ce #[.int .i64 0, .int .i64 0, .int .i64 0] 292), (bu, .map ca cb), (ck, ce #[.int .i64 aa, .int .i64 ab, .int .i64 ad] 292), (b2, ce #[.int .i64 0, .int .i64 0, .int .i64 0] 292), (b1, ce #[.int .i64 lost, .int .i64 used] 294)]) rfl ?_
   refine ⟨_, [(12, .pointer (some ⟨dv, 0, none⟩)), (66, .agg #[.int .i64 n4, .int .i64 n5, .int .i64 n6])], rfl, rfl, z2, by kernel_rfl, ?_⟩; intro H
   refine BP (i := 0) sizeOf292 rfl rfl rfl (by simp [Value.oneCell']) rfl (CB rfl) (AI rfl ?_)
   refine Aa ⟨undef, rfl, A4.refl _, [], by kernel_rfl, .inl (.inl rfl), nm, ?_⟩
   refine D1 (dW (wv (Ab Of rfl) (wv (Ah isAgg3 rfl (Has.own 0 rfl) rfl) (wv (Ab Vh rfl) (wv (Ah isAgg138 rfl (Has.frozen ae) rfl) (wv (Ab Mx rfl) (wv (Ah isAgg3 rfl (Has.own 4 rfl) rfl) ?_)))))))
   refine wm ?_
   obtain ⟨n7, fw, fx⟩ := AF Ed
   refine I9 rfl aw.1 rfl rfl rfl (aw.2 _ (A4.refl _) _ _ _ ⟨_, _, rfl, rfl, rfl⟩ fw) ?_
   obtain ⟨fy, dw⟩ := A0 fx
   refine wv (Bf rfl rfl fy) ?_
   refine wa (CX ?_)
   refine Ak ?_
   refine AJ (um ?_)
   refine uv (Ab Of rfl) (uv (Ah isAgg3 rfl (Has.own 2 rfl) rfl) (uv (Jy rfl rfl) ?_))
   refine ua (Aa ?_)
   refine cQ (fun dh => ?_) fun dh => ?_
   ·have g0 := Bi dw dh
    refine Af (um (um ?_))
    refine uv (Ab MD rfl) (uv (Ah isAgg3 rfl (Has.own 0 rfl) rfl) ?_)
    refine uv (BM (v := .agg #[.int .i64 x3, .int .i64 (n5 + n7), .int .i64 n6]) rfl (by intro w; kernel_rfl)) ?_
    refine BP (i := 2) sizeOf292 rfl rfl rfl (by simp [Value.oneCell']) rfl (CB rfl) (AI rfl ?_)
    refine Aa (At (id := 2) (At (id := 1) ?_))
    refine ⟨[(ck, ce #[.int .i64 x3, .int .i64 (n5 + n7), .int .i64 n6] 292), (bu, .map ca cb), (b2, ce #[.int .i64 0, .int .i64 0, .int .i64 0] 292), (b1, ce #[.int .i64 lost, .int .i64 used] 294)], (show KL _ _ from kd (kf (fC fO) kr)), ?_⟩; exact ⟨_, x4, x3, n5 + n7, n6, ca, cb, (by rw [br]; simp), g0, rfl, ct⟩
   have dx := Bk dw dh
   refine AJ (um ?_)
   refine uv (Ab Of rfl) (uv (Ah isAgg3 rfl (Has.own 2 rfl) rfl) (uv (Cx rfl rfl) ?_))
   refine ua (Aa ?_)
   refine cQ (fun di => ?_) fun di => ?_
   ·have ga := Bi dx di
    refine Af (uv (Ab MD rfl) (uv (Ah isAgg3 rfl (Has.own 2 rfl) rfl) (uv (Ab MD rfl) (uv (Ah isAgg3 rfl (Has.own 0 rfl) rfl) ?_))))
    obtain ⟨gb, gg⟩ := A0 ga
    refine uv (Bf rfl rfl gb) (uv (Ab MD rfl) (B4 (i := 2) sizeOf3 rfl rfl rfl rfl (CB rfl) (AI rfl ?_)))
    refine Aa (At (id := 2) (At (id := 1) ?_))
    refine ⟨[(ck, ce #[.int .i64 aa, .int .i64 ab, .int .i64 (ad + n6)] 292), (bu, .map ca cb), (b2, ce #[.int .i64 0, .int .i64 0, .int .i64 0] 292), (b1, ce #[.int .i64 lost, .int .i64 used] 294)], (show KL _ _ from kd (kf (fC fO) kr)), ?_⟩; exact ⟨_, x4, aa, ab, ad + n6, ca, cb, (by rw [br]; simp), gg, rfl, ct⟩
   have gh := Bk dx di
   refine Al (At (id := 2) (At (id := 1) ?_))
   refine ⟨[(ck, ce #[.int .i64 aa, .int .i64 ab, .int .i64 ad] 292), (bu, .map ca cb), (b2, ce #[.int .i64 0, .int .i64 0, .int .i64 0] 292), (b1, ce #[.int .i64 lost, .int .i64 used] 294)], (show KL _ _ from kd (kf (fC fO) kr)), ?_⟩; exact ⟨_, x4, aa, ab, ad, ca, cb, (by rw [br]; simp), gh, rfl, ct⟩
  ·rintro ia _ dk ⟨tl, m2, aa, ab, ad, bk, bp, cj, dy, rfl, cc⟩
   obtain rfl := Lk cj; rw [BV] at dy
   refine At (id := 0) ?_
   obtain ⟨rfl, rfl, rfl, rfl⟩ := S7 dy
   exact mi kr ⟨bk, bp, (bd.trans dk), rfl, z4, cc⟩
  intro c F1 L1 hx h; exact h.elim
 rintro e1 ib _ ⟨cp, cv, dm, rfl, dn, dp⟩
 refine AB _ dn ?_
 replace al := dm _ _ al
 refine AJ (uv (Ah isAgg289 rfl (Has.frozen al) rfl) (uv (A1 (cs := #[.int .i64 lost, .int .i64 used]) isAgg294 sizeOf294 rfl (Has.own 3 rfl) (CB rfl) rfl) (uv (A1 (cs := #[.int .i64 ai, .int .i64 aj, .int .i64 au]) isAgg292 sizeOf292 rfl (Has.own 0 rfl) (CB rfl) rfl) ?_)))
 refine Jk (i := 1) (k := (lost, used)) (v := (ai, aj, au)) underlying289 PN rfl rfl rfl rfl (show Dr (vA (cP (cI .i64) (cI .i64))) (vA (cP (cI .i64) (cP (cI .i64) (cI .i64)))) cp (m : List ((Int × Int) × (Int × Int × Int))) from dp) ?_; intro gi gj cz
 obtain ⟨met, gk, gl⟩ := C3 dq
 rw [← gk] at cz
 refine AI rfl (BU (uv (A1 (cs := #[.int .i64 ai, .int .i64 aj, .int .i64 au]) isAgg292 sizeOf292 rfl (Has.own 0 rfl) (CB rfl) rfl) (BP (i := 2) sizeOf292 rfl rfl rfl (by simp [Value.oneCell']) rfl (CB rfl) (AI rfl (Aa (kW (kd (kf (fC fO) (kc kn))) (Aj ?_)))))))
 refine IH results202 (DI (cs := #[.int .i64 ai, .int .i64 aj, .int .i64 au]) isAgg292 sizeOf292 rfl (Has.own 0 rfl) (CB rfl) rfl) (s1 (s2 sr)) ?_
 obtain ⟨rfl, rfl, rfl, rfl⟩ := S7 gl
 exact ⟨_, _, rfl, rfl, cz⟩
set_option maxHeartbeats 1000000 in
theorem MW : ∀ (fu : Nat) {lost used : Int} {SN ao : Nat} {AK : Option Addr} {AM : Nat} {weights : List Int} {Be : Int} {ad : Option Addr} {ae : Nat} {af : List (List Int)} {A7 : Option Addr} {A6 : Nat} {found : List (List Int)} {AP : Option Addr} {AN : Nat} {AG BE Cr : List Int} {aq Sm : Nat × Nat} {ah av : Nat} {ar : Array MapEntry} {aw : Nat} {x : List ((Int × Int) × (Int × Int × Int))} {al : Nat × Nat} {ab : Nat} {aj : Nat × Nat} {aa : Nat} {KZ : FuncId} {K1 K7 : Array Value} {NF : (Int × Int) → Option Int} {ai : Nat × Nat} {F : FS} (_ : F SN = some (.cells #[.pointer (some ⟨ao, 0, none⟩)] 197 Sm)) (_ : F ao = some (.cells ((([.slice AK weights.length AM] : List Value) ++ (([.int .i64 Be] : List Value) ++ (([.slice ad af.length ae] : List Value) ++ (([.slice A7 found.length A6] : List Value) ++ (([.slice AP AG.length AN] : List Value) ++ (BE.flatMap (cI .i64) ++ (Cr.flatMap (cI .i64)))))))).toArray) 204 aq)) (_ : As 1 (iE .i64) F AK AM weights) (_ : As 1 (BC 1 (iE .i64)) F ad ae af) (_ : As 1 (BC 1 (iE .i64)) F A7 A6 found) (_ : As 1 (iE .i64) F AP AN AG) (_ : BE.length = 36) (_ : Cr.length = 36) (_ : F ah = some (.cells #[.map (some av)] 289 al)) (_ : Dr (vA (cP (cI .i64) (cI .i64))) (vA (cP (cI .i64) (cP (cI .i64) (cI .i64)))) ar x) (_ : F ab = some (.cells (#[.func (.func 202) #[] #[.pointer (some ⟨SN, 0, none⟩), .pointer (some ⟨ah, 0, none⟩), .pointer (some ⟨ab, 0, none⟩), .pointer (some ⟨aa, 0, none⟩)]]) 337 aj)) (_ : F aa = some (.cells #[.func (.func KZ) K1 K7] 207 ai)) (_ : Gk Tryz.prog F KZ K1 K7 (Ce (iE .i64) (iE .i64)) (Value.int .i64) NF) {r r2 r3 : Int} {r4 : List ((Int × Int) × (Int × Int × Int))} , Da fu lost used weights Be af found AG BE Cr x NF = some (r, r2, r3, r4) → SH.Spec Tryz.prog 202 #[.agg #[.int .i64 lost, .int .i64 used], .pointer (some ⟨SN, 0, none⟩), .pointer (some ⟨ah, 0, none⟩), .pointer (some ⟨ab, 0, none⟩), .pointer (some ⟨aa, 0, none⟩)] F [(av, .map ar aw)] fun _ L' v => ∃ (ak : Array MapEntry) (au : Nat), v = .agg #[.int .i64 r, .int .i64 r2, .int .i64 r3] ∧ L' = [(av, .map ak au)] ∧ Dr (vA (cP (cI .i64) (cI .i64))) (vA (cP (cI .i64) (cP (cI .i64) (cI .i64)))) ak r4 := by
  intro fu
  induction fu with
  | zero => intros; rename_i hr; rw [Da] at hr; cases hr
  | succ fu ih => intros; rename_i hr; rw [Da] at hr; exact Mk ih (by assumption) (by assumption) (by assumption) (by assumption) (by assumption) (by assumption) (by assumption) (by assumption) (by assumption) (by assumption) (by assumption) (by assumption) (by assumption) hr
set_option maxHeartbeats 1000000 in
theorem OH {lost : List (List Int)} (ai : F GZ = some (.cells ((([.slice AK weights.length AM] : List Value) ++ (([.int .i64 Be] : List Value) ++ (([.slice Bn lost.length Bo] : List Value) ++ (([.slice A7 found.length A6] : List Value) ++ (([.slice AP AG.length AN] : List Value) ++ (BE.flatMap (cI .i64) ++ (Cr.flatMap (cI .i64)))))))).toArray) 204 IZ)) (aa : As 1 (iE .i64) F AK AM weights) (ae : As 1 (BC 1 (iE .i64)) F Bn Bo lost) (ad : As 1 (BC 1 (iE .i64)) F A7 A6 found) (ab : As 1 (iE .i64) F AP AN AG) (aq : BE.length = 36) (ar : Cr.length = 36) (af : Gk Tryz.prog F KZ K1 K7 (Ce (iE .i64) (iE .i64)) (Value.int .i64) NF) {r : List ((Int × Int) × (Int × Int × Int))} (hr : HW weights Be lost found AG BE Cr NF used = some r) :
    SH.Spec Tryz.prog 148 #[.pointer (some ⟨GZ, 0, none⟩), .agg #[.func (.func KZ) K1 K7], .int .i64 used] F [] fun _ L' v => ∃ (rb : Nat) (res : Array MapEntry) (bd : Nat), v = .map (some rb) ∧ L' = [(rb, .map res bd)] ∧ Dr (vA (cP (cI .i64) (cI .i64))) (vA (cP (cI .i64) (cP (cI .i64) (cI .i64)))) res r := by
 refine sp func148 ntmps148 fun K _ _ => ?_
 rw [HW] at hr
 refine AJ ?_
 refine BJ rfl rfl ?_; intro b1 bg
 refine BJ rfl rfl ?_; intro b2 bj
 refine ua (BU ?_)
 refine JO rfl ?_; intro b3 ca
 refine Bw rfl zeroValue289 ?_; intro b4 bk
 refine B4 (i := 0) sizeOf289 rfl rfl rfl rfl (CB rfl) (AI rfl (BU ?_))
 refine Bw rfl zeroValue337 ?_; intro b5 bl
 refine BU (uv (BT rfl rfl) (B4 (i := 0) sizeOf337 rfl rfl rfl rfl (CB rfl) (AI rfl ?_)))
 refine Aa (Aq ?_)
 refine B1 1 rfl bk ?_; intro F6 av al
 refine DT (L' := [(b5, ce (#[.func (.func 202) #[] #[.pointer (some ⟨b1, 0, none⟩), .pointer (some ⟨b4, 0, none⟩), .pointer (some ⟨b5, 0, none⟩), .pointer (some ⟨b2, 0, none⟩)]]) 337), (b3, .map #[] 0), (b2, ce #[.func (.func KZ) K1 K7] 207), (b1, ce #[.pointer (some ⟨GZ, 0, none⟩)] 197)]) rfl ?_
 replace aa := aa.mono (Ac _) av
 replace ae := ae.mono (Am (Ac _)) av
 replace ad := ad.mono (Am (Ac _)) av
 replace ab := ab.mono (Ac _) av
 replace af := af.mono av
 replace ai := av _ _ ai
 refine CM [(.still, 0), (.still, 1), (.still, 2), (.still, 3), (.still, 4), (.still, 5), (.seq, 6), (.seq, 7)] (by kernel_rfl) (by kernel_rfl) (trivial) (by rfl) (by kernel_rfl) (mL [7] ([]) rfl sm (fun H F' L' ay az => Ah isAgg289 rfl ((Has.frozen al).ext ay az) rfl) (mS [2] rfl (BF rfl) ?_))
 refine mS (v := .agg #[.int .i64 0, .int .i64 used]) [12] rfl (BM (v := .agg #[.int .i64 0, .int .i64 used]) rfl (by intro w; kernel_rfl)) ?_
 refine mL [8] ([(b5, ce (#[.func (.func 202) #[] #[.pointer (some ⟨b1, 0, none⟩), .pointer (some ⟨b4, 0, none⟩), .pointer (some ⟨b5, 0, none⟩), .pointer (some ⟨b2, 0, none⟩)]]) 337)]) rfl (s0 (s2 (s1 (s1 (s1 sr))))) (fun H F' L' ay az => Ah isAgg337 rfl ((Has.own 0 rfl).ext ay az) rfl) (mS [2] rfl (BF rfl) ?_)
 refine mS (v := .agg #[.int .i64 0, .int .i64 used]) [15] rfl (BM (v := .agg #[.int .i64 0, .int .i64 used]) rfl (by intro w; kernel_rfl)) ?_
 refine ⟨_, [(14, .func (.func 202) #[] #[.pointer (some ⟨b1, 0, none⟩), .pointer (some ⟨b4, 0, none⟩), .pointer (some ⟨b5, 0, none⟩), .pointer (some ⟨b2, 0, none⟩)]), (16, .agg #[.int .i64 0, .int .i64 used])], rfl, rfl, z2, by kernel_rfl, ?_⟩; intro H
 refine Bz 3 rfl bg ?_; intro F9 ak ao
 refine AI rfl ?_
 replace aa := aa.mono (Ac _) ak
 replace ae := ae.mono (Am (Ac _)) ak
 replace ad := ad.mono (Am (Ac _)) ak
 replace ab := ab.mono (Ac _) ak
 replace af := af.mono ak
 replace ai := ak _ _ ai
 replace al := ak _ _ al
 refine Bz 0 rfl bl ?_; intro cb aj au
 refine AI rfl ?_
 replace aa := aa.mono (Ac _) aj
 replace ae := ae.mono (Am (Ac _)) aj
 replace ad := ad.mono (Am (Ac _)) aj
 replace ab := ab.mono (Ac _) aj
 replace af := af.mono aj
 replace ai := aj _ _ ai
 replace al := aj _ _ al
 replace ao := aj _ _ ao
 refine Bz 1 rfl bj ?_; intro cc ah ba
 refine AI rfl ?_
 replace aa := aa.mono (Ac _) ah
 replace ae := ae.mono (Am (Ac _)) ah
 replace ad := ad.mono (Am (Ac _)) ah
 replace ab := ab.mono (Ac _) ah
 replace af := af.mono ah
 replace ai := ah _ _ ai
 replace al := ah _ _ al
 replace ao := ah _ _ ao
 replace au := ah _ _ au
 obtain ⟨n, n2, n3, x, bn, bo⟩ := Ng hr
 refine cG call202 ((MW FU) ao ai aa ae ad ab aq ar al Dr.nil au ba af bn) ?_; rintro _ cd _ aw bp bq ⟨bb, br, rfl, rfl, bc⟩
 replace al := aw _ _ al
 refine AI (lb (ln rfl)) ?_
 refine Aa ⟨_, rfl, (((ak.trans aj).trans ah).trans aw), [2, 1, 0], by kernel_rfl, .inl (.inr (fun d h => by cases h; rfl)), (fc sm (fc sm (fc sm nm))), ?_⟩
 refine ⟨_, [(11, .map (some b3)), (13, .agg #[.int .i64 0, .int .i64 used]), (17, .agg #[.int .i64 n, .int .i64 n2, .int .i64 n3])], rfl, rfl, z3, by kernel_rfl, ?_⟩; intro H
 refine Jk (i := 0) (k := (0, used)) (v := (n, n2, n3)) underlying289 PN rfl rfl rfl rfl (show Dr (vA (cP (cI .i64) (cI .i64))) (vA (cP (cI .i64) (cP (cI .i64) (cI .i64)))) bb (x : List ((Int × Int) × (Int × Int × Int))) from bc) ?_; intro bu bw ax
 obtain ⟨met, bx, bz⟩ := C3 bo
 rw [← bx] at ax
 refine AI rfl ?_
 refine Aa ⟨undef, rfl, A4.refl _, [], by kernel_rfl, .inl (.inl rfl), nm, ?_⟩
 refine D1 (AJ (uv (Ah isAgg289 rfl (Has.frozen al) rfl) ?_))
 refine ua (Aa (Aj ?_))
 refine BZ results148 ?_
 obtain rfl := AH bz
 exact ⟨_, _, _, rfl, rfl, ax⟩
set_option maxHeartbeats 1000000 in
theorem O3 {lost : List (List Int)} (ae : F GZ = some (.cells ((([.slice AK weights.length AM] : List Value) ++ (([.int .i64 Be] : List Value) ++ (([.slice Bn lost.length Bo] : List Value) ++ (([.slice A7 found.length A6] : List Value) ++ (([.slice AP AG.length AN] : List Value) ++ (BE.flatMap (cI .i64) ++ (Cr.flatMap (cI .i64)))))))).toArray) 204 IZ)) (ab : As 1 (iE .i64) F AK AM weights) (aa : As 1 (BC 1 (iE .i64)) F Bn Bo lost) (af : As 1 (BC 1 (iE .i64)) F A7 A6 found) (ad : As 1 (iE .i64) F AP AN AG) (ah : BE.length = 36) (al : Cr.length = 36) (ar : Gk Tryz.prog F KZ K1 K7 (Ce (iE .i64) (iE .i64)) (Value.int .i64) NF) {r : List Int} (hr : Ip weights Be lost found AG BE Cr NF = some r) :
    SH.Spec Tryz.prog 76 #[.pointer (some ⟨GZ, 0, none⟩), .agg #[.func (.func KZ) K1 K7]] F [] fun F' L' v => ∃ (ra : Option Addr) (rn : Nat) (rc : Nat) (rL : LH), v = .slice ra rn rc ∧ L' = rL ++ [] ∧ Bd 0 3 1 (iE .i64) F' ra rn rc r rL := by
 refine sp func76 ntmps76 fun K _ _ => ?_
 rw [Ip] at hr
 refine AJ ?_
 refine BJ rfl rfl ?_; intro b1 cw
 refine ua (BU (um ?_))
 refine uv (A1 isAgg207 sizeOf207 rfl (Has.own 0 rfl) (CB rfl) rfl) ?_
 obtain ⟨m, h2, r3⟩ := AF hr
 refine c0 call148 (OH ae ab aa af ad ah al ar h2) ?_; rintro _ F4 _ bu cx ⟨b8, bw, bg, rfl, rfl, bj⟩
 replace aa := aa.mono (Am (Ac _)) bu
 replace ae := bu _ _ ae
 refine AI (lb (ln rfl)) ?_
 refine ua (BU (ua (BU (ua (Aa ?_)))))
 obtain ⟨out, cf, bx⟩ := AF r3
 refine A5 (fun e1 F1 L1 => ∃ (bk : Option Addr) (bl : Nat) (bn : Nat) (ao : LH), F4 = F1 ∧ L1 = (ao ++ []) ∧ e1.sub [(6, .slice bk bl bn)] ∧ Bd K.w0.heap.size 3 1 (iE .i64) F1 bk bl bn out ao) ?_ ?_
 ·clear bx
  refine AJ (um ?_)
  refine uv (AV rfl) (uv (Ab K4 rfl) (uv (Ab Jd rfl) (uv (Ah isAgg36 rfl (Has.frozen ae) (EV (Ar (k := 1) (o := 1) rfl (Ar (k := 1) (o := 0) rfl (BK rfl))))) (uv (A2 underlying36 rfl) ?_))))
  refine um (Aa ?_)
  refine Ak (kW (kc kn) ?_)
  refine Br (fun bz e1 F1 L1 => LA lost bz fun tl k => ∃ (ai : List Int) (used : Int) (ba : Option Addr) (bb : Nat) (bc : Nat) (aj : LH), CN m tl k ai used = some out ∧ F4 = F1 ∧ L1 = ((b8, .map bw bg) :: (aj ++ [])) ∧ e1.sub [(5, .map (some b8)), (6, .slice ba bb bc), (7, .int .i64 used), (18, .int .i64 (lost.length : Int)), (19, .int .i64 k)] ∧ Bd K.w0.heap.size 3 1 (iE .i64) F1 ba bb bc ai aj) _ (m0 (kc (ke kr)) ⟨_, _, rfl, BI.start _, [], 0, none, 0, 0, [], cf, rfl, rfl, z5, Bd.nil _ _ _ _ _⟩) ?_
  rintro bz e1 _ _ ⟨tl, k, au, ak, ai, used, ba, bb, bc, aj, bd, rfl, rfl, bo, av⟩
  refine AB _ bo (AJ (uv (Bp rfl rfl) ?_))
  refine Aa (Aq ?_)
  refine cQ (fun aw => ?_) fun aw => ?_
  ·obtain ⟨x, cy, rfl, cg, cz, ax⟩ := BI.succ ak aw
   rw [CN] at bd
   refine Al (Aq ?_)
   refine Ak ?_
   refine AJ (um (ua (BU (um (um (um ?_))))))
   refine uv (BM (v := .agg #[.int .i64 k, .int .i64 used]) rfl (by intro w; kernel_rfl)) ?_
   refine uv (Ft.eq (v' := .agg #[.int .i64 (((Bm m (k, used)).getD (0, 0, 0)).1), .int .i64 (((Bm m (k, used)).getD (0, 0, 0)).2.1), .int .i64 (((Bm m (k, used)).getD (0, 0, 0)).2.2)]) (P2 (k := (k, used)) (z0 := (0, 0, 0)) rfl underlying289 PN zeroValue292 rfl rfl (KO.own 0 rfl) (show Dr (vA (cP (cI .i64) (cI .i64))) (vA (cP (cI .i64) (cP (cI .i64) (cI .i64)))) bw (m : List ((Int × Int) × (Int × Int × Int))) from bj)) rfl) ?_
   refine uv (Ws (v := .int .i64 (((Bm m (k, used)).getD (0, 0, 0)).1)) (by intro w; kernel_rfl) rfl) ?_
   obtain ⟨k2, cj, ck⟩ := C3 bd
   refine uv ((Ji rfl).i cj) ?_
   refine BU (um (um ?_))
   refine bA (cs := #[.int .i64 k2]) Ct [.int .i64 k2] ?_; intro da cn
   obtain ⟨aq, cp, cq, ca⟩ := Gp ck
   refine Ey (xs := ai) (ys := [k2]) (zs := aq) rfl Ct rfl rfl (Nat.le_refl _) (fun _ => .c (.c .h)) av (GJ.box (vss := [[.int .i64 k2]]) (ys := [k2]) 0 rfl (Ac _) (.cons rfl .nil) rfl rfl) cp cq (by decide) ?_; intro cb cc cd ay az
   refine kO (kd kr) ?_
   refine ua (BU (um ?_))
   refine uv (CI rfl rfl) (Aa ?_)
   refine cQ (fun bp => ?_) fun bp => ?_
   ·have cr := Bi ca bp
    refine Af (um (um ?_))
    obtain ⟨ct, cu⟩ := A0 cr
    refine uv (Oy rfl rfl ct) (uv (Tx rfl rfl) ?_)
    refine ua (Aa (At (id := 1) (Af ?_)))
    refine uv (Bf rfl rfl (BI.Ed ak aw (As.lt aa))) ?_
    refine um (Aa ?_)
    subst au; exact le kr ⟨_, _, rfl, ax, aq, Oe used (shl 1 k2), cb, cc, cd, ay, cu, rfl, rfl, z5, az⟩
   have cv := Bk ca bp
   refine Al (At (id := 1) (Af ?_))
   refine uv (Bf rfl rfl (BI.Ed ak aw (As.lt aa))) ?_
   refine um (Aa ?_)
   subst au; exact le kr ⟨_, _, rfl, ax, aq, used, cb, cc, cd, ay, cv, rfl, rfl, z5, az⟩
  obtain rfl := BI.zero ak aw
  rw [CN] at bd
  refine AW (Ae (Ae ?_))
  refine Au ?_
  obtain rfl := AH bd
  exact mi (kd kr) ⟨ba, bb, bc, aj, rfl, rfl, z1, av⟩
 rintro e1 _ _ ⟨bk, bl, bn, ao, rfl, rfl, bq, br⟩
 refine AB _ bq ?_
 refine AJ (um (ua (Aa (Aj ?_))))
 refine BZ results76 ?_
 obtain rfl := AH bx
 exact ⟨_, _, _, _, rfl, rfl, br.any⟩
set_option maxHeartbeats 1000000 in
theorem MT {i k : Int} {lost : List (List Int)} (ad : F GZ = some (.cells #[.pointer (some ⟨Pu, 0, none⟩)] 197 IZ)) (ab : F Pu = some (.cells ((([.slice AK weights.length AM] : List Value) ++ (([.int .i64 Be] : List Value) ++ (([.slice Bn lost.length Bo] : List Value) ++ (([.slice A7 found.length A6] : List Value) ++ (([.slice AP AG.length AN] : List Value) ++ (BE.flatMap (cI .i64) ++ (Cr.flatMap (cI .i64)))))))).toArray) 204 Qt)) (_h_weights : As 1 (iE .i64) F AK AM weights) (_h_lost : As 1 (BC 1 (iE .i64)) F Bn Bo lost) (_h_found : As 1 (BC 1 (iE .i64)) F A7 A6 found) (_h_rewards : As 1 (iE .i64) F AP AN AG) (aa : BE.length = 36) (_h_slip : Cr.length = 36) {r : Int} (hr : D7 i k weights Be lost found AG BE Cr = some r) :
    Bl Tryz.prog 149 #[.int .i64 i, .int .i64 k, .pointer (some ⟨GZ, 0, none⟩)] F (.int .i64 r) := by
 refine sp func149 ntmps149 fun K _ _ => ?_
 rw [D7] at hr
 refine AJ (ua (BU ?_))
 refine uv (Ah isAgg197 rfl (Has.frozen ad) rfl) ?_
 refine um (um ?_)
 refine uv (AV rfl) (uv (Ab Lh rfl) ?_)
 obtain ⟨g1, r2⟩ := A0 hr
 refine uv (By underlying202 sizeOf200 rfl rfl g1) ?_
 obtain ⟨g3, r4⟩ := A0 r2
 obtain ⟨x, g5, ae, r7⟩ := BY r4
 have af : (i * 6 + k : Int).toNat = (i : Int).toNat * 6 + (k : Int).toNat := by have := g1; have := g3; omega
 have ah := Hc (Bt .i64) aa af ae (GM (Ar (A := ([.slice AK weights.length AM] : List Value)) (k := 1) (o := 4) rfl (Ar (A := ([.int .i64 Be] : List Value)) (k := 1) (o := 3) rfl (Ar (A := ([.slice Bn lost.length Bo] : List Value)) (k := 1) (o := 2) rfl (Ar (A := ([.slice A7 found.length A6] : List Value)) (k := 1) (o := 1) rfl (Ar (A := ([.slice AP AG.length AN] : List Value)) (k := 1) (o := 0) rfl (BK (B := Cr.flatMap (cI .i64)) (EJ (Bt .i64) aa)))))))) (Fq (Ar (A := ([.slice AK weights.length AM] : List Value)) (k := 1) (o := 4) rfl (Ar (A := ([.int .i64 Be] : List Value)) (k := 1) (o := 3) rfl (Ar (A := ([.slice Bn lost.length Bo] : List Value)) (k := 1) (o := 2) rfl (Ar (A := ([.slice A7 found.length A6] : List Value)) (k := 1) (o := 1) rfl (Ar (A := ([.slice AP AG.length AN] : List Value)) (k := 1) (o := 0) rfl (BK (B := Cr.flatMap (cI .i64)) (EJ (Bt .i64) aa))))))))
 refine uv (By underlying200 sizeOf3 rfl rfl g3) (uv (Ah isAgg3 rfl (Has.frozen ab) ((ah).2.2 0 (by decide))) ?_)
 refine ua (Aa (Aj ?_))
 refine BZ results149 ?_
 obtain rfl := AH r7
 exact rfl
set_option maxHeartbeats 1000000 in
theorem Od {lost : List (List Int)} (ah : F GZ = some (.cells ((([.slice AK weights.length AM] : List Value) ++ (([.int .i64 Be] : List Value) ++ (([.slice Bn lost.length Bo] : List Value) ++ (([.slice A7 found.length A6] : List Value) ++ (([.slice AP AG.length AN] : List Value) ++ (BE.flatMap (cI .i64) ++ (Cr.flatMap (cI .i64)))))))).toArray) 204 IZ)) (aa : As 1 (iE .i64) F AK AM weights) (ae : As 1 (BC 1 (iE .i64)) F Bn Bo lost) (ad : As 1 (BC 1 (iE .i64)) F A7 A6 found) (ab : As 1 (iE .i64) F AP AN AG) (af : BE.length = 36) (ai : Cr.length = 36) {r : (Int × Int) → Option Int} (hr : HS weights Be lost found AG BE Cr = some r) :
    SH.Spec Tryz.prog 77 #[.pointer (some ⟨GZ, 0, none⟩)] F [] fun F' L' v => ∃ (al : FuncId) (ao : Array Value) (aq : Array Value), v = .agg #[.func (.func al) ao aq] ∧ L' = [] ∧ Gk Tryz.prog F' al ao aq (Ce (iE .i64) (iE .i64)) (Value.int .i64) r := by
 refine sp func77 ntmps77 fun K _ _ => ?_
 rw [HS] at hr
 refine AJ ?_
 refine BJ rfl rfl ?_; intro b1 ar
 refine Bw rfl zeroValue207 ?_; intro b2 aw
 refine BU (uv (BT rfl rfl) ?_)
 refine uv (BM (v := .agg (#[.func (.func 149) #[] #[.pointer (some ⟨b1, 0, none⟩)]])) rfl (by intro w; kernel_rfl)) ?_
 refine BP (i := 0) sizeOf207 rfl rfl rfl (by simp [Value.oneCell']) rfl (CB rfl) (AI rfl (Aa ?_))
 refine B1 1 rfl ar ?_; intro F3 aj au
 refine DT (L' := [(b2, ce (#[.func (.func 149) #[] #[.pointer (some ⟨b1, 0, none⟩)]]) 207)]) rfl ?_
 replace aa := aa.mono (Ac _) aj
 replace ae := ae.mono (Am (Ac _)) aj
 replace ad := ad.mono (Am (Ac _)) aj
 replace ab := ab.mono (Ac _) aj
 replace ah := aj _ _ ah
 have av : Gk Tryz.prog F3 149 #[] #[.pointer (some ⟨b1, 0, none⟩)] (Ce (iE .i64) (iE .i64)) (Value.int .i64) (fun ak : Int × Int => D7 ak.1 ak.2 weights Be lost found AG BE Cr) := ⟨call149, fun F2 h2 vs ak r ha hr => by obtain ⟨_, _, rfl, rfl, rfl⟩ := ha; exact MT (h2 _ _ au) (h2 _ _ ah) (aa.mono (Ac _) h2) (ae.mono (Am (Ac _)) h2) (ad.mono (Am (Ac _)) h2) (ab.mono (Ac _) h2) af ai hr⟩
 refine Aj (IH results77 (DI (cs := #[.func (.func 149) #[] #[.pointer (some ⟨b1, 0, none⟩)]]) isAgg207 sizeOf207 rfl (Has.own 0 rfl) (CB rfl) rfl) (s1 sr) ?_)
 obtain rfl := AH hr
 exact ⟨_, _, _, rfl, rfl, av⟩
theorem Tz {l : List Int} (ah : As 1 (iE .i64) F Ko J0 l) {r : Int} (hr : Ol l = some r) :
    Bl Tryz.prog 150 #[.slice Ko l.length J0] F (.int .i64 r) := by
 refine sp func150 ntmps150 fun K _ _ => ?_
 rw [Ol] at hr
 refine AJ (ua (BU (ua (Aa ?_))))
 obtain ⟨n, h1, r2⟩ := AF hr
 refine jE ([]) [(3, .int .i64 n)] ?_ ?_
 ·clear r2
  refine AJ (um ?_)
  refine uv (A2 underlying33 rfl) ?_
  refine um (Aa ?_)
  refine Ak ?_
  refine Br (fun ai e1 F1 L1 => LA l ai fun tl k => ∃ (n2 : Int), Ie tl n2 = some n ∧ F = F1 ∧ L1 = [] ∧ e1.sub [(3, .int .i64 n2), (6, .slice Ko l.length J0), (7, .int .i64 (l.length : Int)), (8, .int .i64 k)]) _ (m0 kr ⟨_, _, rfl, BI.start _, 0, h1, rfl, rfl, z4⟩) ?_
  rintro ai e1 _ _ ⟨tl, k, al, aa, n2, r5, rfl, rfl, ao⟩
  refine AB _ ao (AJ (uv (Bp rfl rfl) ?_))
  refine Aa (Aq ?_)
  refine cQ (fun c8 => ?_) fun c8 => ?_
  ·obtain ⟨x, ax, rfl, ab, aj, aq⟩ := BI.succ aa c8
   rw [Ie] at r5
   refine Al (Aq ?_)
   refine Ak (AJ ?_)
   obtain ⟨Ue, ay, az, ar, ad, ae, ak, rfl, au, af⟩ := As.at (Ac _) ah ([]) aj.1 ab
   refine uv (AT underlying33 sizeOf3 rfl ad rfl aj) (uv (Ah isAgg3 rfl ae (af 0 (by decide))) ?_)
   refine ua (Aa (Af (um (um ?_))))
   obtain ⟨av, aw⟩ := A0 r5
   refine uv (Bf rfl rfl av) ?_
   refine ua (Aa (At (id := 1) (Af ?_)))
   refine uv (Bf rfl rfl (BI.Ed aa c8 (As.lt ah))) ?_
   refine um (Aa ?_)
   subst al; exact le kr ⟨_, _, rfl, aq, n2 + x, aw, rfl, rfl, z4⟩
  obtain rfl := BI.zero aa c8
  rw [Ie] at r5
  refine AW (Ae (Ae ?_))
  refine Au ?_
  obtain rfl := AH r5
  exact mi kr ⟨rfl, rfl, z1⟩
 refine AJ (um (ua (Aa (Aj ?_))))
 refine BZ results150 ?_
 obtain rfl := AH r2
 exact rfl
end Go.Proofs.YtfmapnhfamoecaaGreat
