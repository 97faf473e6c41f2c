/- The walks that this claim needs, printed by a program of mine; part 2. -/
import Derived.Test.YtfmapnhfamoecaaGreatZLNL1
namespace Go.Proofs.YtfmapnhfamoecaaGreat
open Go.SH Go.PL
open Tryz 
variable {KQ KW LC LD : Array Value} {ES : Bool} {F : FS} {La LJ : FuncId} {at_ down h hi hour Ad lo n Ba Ab p CF DK GB wide Cf : Int} {Az : List (Int × Int × Int)} {Al : List (List (List Int))} {metal By Ak : List Int} {Zl Il MY JI Ra AQ Ax Hl B3 CI AE SX SC BY : Nat} {Ox Sa : Nat × Nat} {Zm Zq AR Aw Hp B4 CJ AF Sk SM B0 : Option Addr}
set_option maxHeartbeats 1000000 in
theorem Kq (ae : F JI = some (.cells #[.int .i64 Ad, .int .i64 Ab, .slice Aw Al.length Ax, .slice AF Ak.length AE, .slice AR Az.length AQ] 247 Ox)) (ab : Av 1 (BK 1 (BK 1 (iE .i64))) F Aw Ax Al) (aa : Av 1 (iE .i64) F AF AE Ak) (ad : Av 3 (Br (iE .i64) (Br (iE .i64) (iE .i64))) F AR AQ Az) {r : List ((List Bool) × (List Int))} (hr : Dg Ad Ab Al Ak Az = some r) :
    SH.Spec Tryz.prog 109 #[.pointer (some ⟨JI, 0, none⟩)] F [] fun F' L' v => ∃ (ra : Option Addr) (rn : Nat) (rc : Nat) (rL : LH), v = .slice ra rn rc ∧ L' = rL ++ [] ∧ Be 0 223 25 (Br (IZ 24 cB) (BK 1 (iE .i64))) F' ra rn rc r rL := by
 refine sp func109 ntmps109 fun K _ _ => ?_
 rw [Dg] at hr
 refine AN ?_
 refine Bt rfl rfl ?_; intro b1 pk
 refine ua (BX (ua (Aa ?_)))
 obtain ⟨now, h8, r9⟩ := AG hr
 refine A0 (fun e1 F1 L1 => ∃ (a2 : Option Addr) (n6 : Nat) (c3 : Nat) (ga : LH), A3 F F1 ∧ L1 = (ga ++ []) ∧ e1.sub [(3, .slice a2 n6 c3)] ∧ Be 0 315 26 (Br (iE .i64) (Br (IZ 24 cB) (BK 1 (iE .i64)))) F1 a2 n6 c3 now ga) ?_ ?_
 ·clear r9
  refine AN (uv (An isAgg215 rfl (Has.own 0 rfl) rfl) (uv (A2 rfl) (uv (Ae K4 rfl) (uv (Ae Hw rfl) (uv (An isAgg33 rfl (Has.frozen ae) rfl) (uv (A7 underlying33 rfl) ?_))))))
  refine um (Aa ?_)
  refine Ap ?_
  refine Cs 0 rfl pk ?_; intro pn dr af
  refine E7 (L' := []) rfl ?_
  replace ab := ab.mono (Ar (Ar (Ac _))) dr
  replace aa := aa.mono (Ac _) dr
  replace ad := ad.mono (Au (Ac _) (Au (Ac _) (Ac _))) dr
  replace ae := dr _ _ ae
  refine SF (fun oh e1 F1 L1 => LA Ak oh fun tl k => ∃ (cn : List (Int × (List Bool) × (List Int))) (ey : Option Addr) (ez : Nat) (fa : Nat) (ah : LH), Cj Ad Ab Al Ak Az tl k cn = some now ∧ A3 pn F1 ∧ L1 = (ah ++ []) ∧ e1.sub [(1, .pointer (some ⟨b1, 0, none⟩)), (3, .slice ey ez fa), (21, .int .i64 (Ak.length : Int)), (22, .int .i64 k)] ∧ Be 0 315 26 (Br (iE .i64) (Br (IZ 24 cB) (BK 1 (iE .i64)))) F1 ey ez fa cn ah) _ (m0 (ke kr) ⟨_, _, rfl, BL.start _, [], none, 0, 0, [], h8, A3.refl _, rfl, z4, Be.nil _ _ _ _ _⟩) ?_
  rintro oh e1 oi _ ⟨tl, k, ml, gu, cn, ey, ez, fa, ah, lx, cp, rfl, mn, ax⟩
  refine AB _ mn ?_
  replace ab := ab.mono (Ar (Ar (Ac _))) cp
  replace aa := aa.mono (Ac _) cp
  replace ad := ad.mono (Au (Ac _) (Au (Ac _) (Ac _))) cp
  replace ae := cp _ _ ae
  replace af := cp _ _ af
  refine AN (uv (Bb rfl rfl) ?_)
  refine Aa (As ?_)
  refine cQ (fun ly => ?_) fun ly => ?_
  ·obtain ⟨x, qx, rfl, po, qy, mo⟩ := BL.succ gu ly
   rw [Cj] at lx
   refine Aq ?_
   obtain ⟨ik, pq, oj⟩ := AG lx
   refine A0 (fun e1 F1 L1 => ∃ (ma : Option Addr) (mb : Nat) (mc : Nat) (fb : LH), A3 oi F1 ∧ L1 = (fb ++ []) ∧ e1.sub [(1, .pointer (some ⟨b1, 0, none⟩)), (3, .slice ma mb mc), (21, .int .i64 (Ak.length : Int)), (22, .int .i64 k)] ∧ Be 0 315 26 (Br (iE .i64) (Br (IZ 24 cB) (BK 1 (iE .i64)))) F1 ma mb mc ik fb) ?_ ?_
   ·clear oj
    refine Ap ?_
    refine AN (um ?_)
    refine Bo rfl zeroValue3 ?_; intro bh il
    refine Cv (i := 0) sizeOf3 rfl rfl rfl rfl (CK rfl) (AI rfl (BX ?_))
    refine LX rfl ?_; intro bc pr
    refine Bo rfl zeroValue311 ?_; intro bd im
    refine Cv (i := 0) sizeOf311 rfl rfl rfl rfl (CK rfl) (AI rfl (BX ?_))
    refine Bo rfl zeroValue310 ?_; intro ai pt
    refine BX (uv (An isAgg215 rfl (Has.frozen af) rfl) (uv (A2 rfl) (uv (Ae K4 rfl) (uv (AS (cs := #[.int .i64 Ad, .int .i64 Ab, .slice Aw Al.length Ax, .slice AF Ak.length AE, .slice AR Az.length AQ]) isAgg100 sizeOf100 rfl (Has.frozen ae) (CK rfl) rfl) (uv (BP rfl rfl) ?_)))))
    refine Bo rfl zeroValue162 ?_; intro bn iq
    refine Cv (i := 0) sizeOf162 rfl rfl rfl rfl (CK rfl) (AI rfl (BX (uv (BP rfl rfl) ?_)))
    refine Bo rfl zeroValue316 ?_; intro bg pv
    refine Cv (i := 0) sizeOf316 rfl rfl rfl rfl (CK rfl) (AI rfl (Aa ?_))
    obtain ⟨cq, m, oo, oq⟩ := Es pq
    refine VE (fun e1 F1 L1 => ∃ (me : Option Addr) (mg : Nat) (mh : Nat) (fe : LH) (ff : Array MapEntry) (gv : Nat), A3 oi F1 ∧ L1 = ((bg, ce (#[.func (.func 174) #[] #[.pointer (some ⟨bn, 0, none⟩), .pointer (some ⟨bh, 0, none⟩), .pointer (some ⟨b1, 0, none⟩), .pointer (some ⟨bd, 0, none⟩), .pointer (some ⟨ai, 0, none⟩)]]) 316) :: ((ai, ce #[.slice me mg mh] 310) :: ((bc, .map ff gv) :: (ah ++ (fe ++ []))))) ∧ e1.sub [(1, .pointer (some ⟨b1, 0, none⟩)), (3, .slice ey ez fa), (6, .pointer (some ⟨ai, 0, none⟩)), (8, .pointer (some ⟨bg, 0, none⟩)), (21, .int .i64 (Ak.length : Int)), (22, .int .i64 k)] ∧ Be 0 315 26 (Br (iE .i64) (Br (IZ 24 cB) (BK 1 (iE .i64)))) F1 me mg mh cq fe ∧ F1 bn = some (ce (#[.func (.func 173) #[.agg #[.int .i64 Ad, .int .i64 Ab, .slice Aw Al.length Ax, .slice AF Ak.length AE, .slice AR Az.length AQ]] #[]]) 162) ∧ F1 bh = some (ce #[.int .i64 k] 3) ∧ FK IA (vA (cP (cI .i64) (cA cB))) Value.bool ff m ∧ F1 bd = some (ce #[.map (some bc)] 311)) ?_ ?_
    ·clear oq
     refine AN (uv (An isAgg3 rfl (Has.own 5 rfl) rfl) (uv (CR rfl rfl) (Aa ?_)))
     refine cQ (fun mq => ?_) fun mq => ?_
     ·have pw := Bf oo mq
      refine AN (um (Aa ?_))
      refine Ap ?_
      refine Cs 1 rfl iq ?_; intro qz dh bo
      refine E7 (L' := (bg, ce (#[.func (.func 174) #[] #[.pointer (some ⟨bn, 0, none⟩), .pointer (some ⟨bh, 0, none⟩), .pointer (some ⟨b1, 0, none⟩), .pointer (some ⟨bd, 0, none⟩), .pointer (some ⟨ai, 0, none⟩)]]) 316) :: ((ai, ce #[.slice none 0 0] 310) :: ((bd, ce #[.map (some bc)] 311) :: ((bc, .map #[] 0) :: ((bh, ce #[.int .i64 k] 3) :: (ah ++ [])))))) rfl ?_
      replace ab := ab.mono (Ar (Ar (Ac _))) dh
      replace aa := aa.mono (Ac _) dh
      replace ad := ad.mono (Au (Ac _) (Au (Ac _) (Ac _))) dh
      replace ae := dh _ _ ae
      replace af := dh _ _ af
      refine Cs 4 rfl il ?_; intro re ct di
      refine E7 (L' := (bg, ce (#[.func (.func 174) #[] #[.pointer (some ⟨bn, 0, none⟩), .pointer (some ⟨bh, 0, none⟩), .pointer (some ⟨b1, 0, none⟩), .pointer (some ⟨bd, 0, none⟩), .pointer (some ⟨ai, 0, none⟩)]]) 316) :: ((ai, ce #[.slice none 0 0] 310) :: ((bd, ce #[.map (some bc)] 311) :: ((bc, .map #[] 0) :: (ah ++ []))))) rfl ?_
      replace ab := ab.mono (Ar (Ar (Ac _))) ct
      replace aa := aa.mono (Ac _) ct
      replace ad := ad.mono (Au (Ac _) (Au (Ac _) (Ac _))) ct
      replace ae := ct _ _ ae
      replace af := ct _ _ af
      replace bo := ct _ _ bo
      refine Cs 2 rfl im ?_; intro px bp fg
      refine E7 (L' := (bg, ce (#[.func (.func 174) #[] #[.pointer (some ⟨bn, 0, none⟩), .pointer (some ⟨bh, 0, none⟩), .pointer (some ⟨b1, 0, none⟩), .pointer (some ⟨bd, 0, none⟩), .pointer (some ⟨ai, 0, none⟩)]]) 316) :: ((ai, ce #[.slice none 0 0] 310) :: ((bc, .map #[] 0) :: (ah ++ [])))) rfl ?_
      replace ab := ab.mono (Ar (Ar (Ac _))) bp
      replace aa := aa.mono (Ac _) bp
      replace ad := ad.mono (Au (Ac _) (Au (Ac _) (Ac _))) bp
      replace ae := bp _ _ ae
      replace af := bp _ _ af
      replace bo := bp _ _ bo
      replace di := bp _ _ di
      obtain ⟨mr, mu⟩ := A1 pw
      refine SF (fun mj e1 F1 L1 => ∃ (k2 : Int), Dc 0 8 k2 mj ∧ ∃ (cu : List (Int × (List Bool) × (List Int))) (m2 : List ((Int × (List Bool)) × Bool)) (ir : Option Addr) (dt : Nat) (du : Nat) (bq : LH) (br : Array MapEntry) (cz : Nat), Ck Ad Ab Al Ak Az k mj k2 cu m2 = some (cq, m) ∧ A3 px F1 ∧ L1 = ((bg, ce (#[.func (.func 174) #[] #[.pointer (some ⟨bn, 0, none⟩), .pointer (some ⟨bh, 0, none⟩), .pointer (some ⟨b1, 0, none⟩), .pointer (some ⟨bd, 0, none⟩), .pointer (some ⟨ai, 0, none⟩)]]) 316) :: ((ai, ce #[.slice ir dt du] 310) :: ((bc, .map br cz) :: (ah ++ (bq ++ []))))) ∧ e1.sub [(1, .pointer (some ⟨b1, 0, none⟩)), (3, .slice ey ez fa), (6, .pointer (some ⟨ai, 0, none⟩)), (8, .pointer (some ⟨bg, 0, none⟩)), (21, .int .i64 (Ak.length : Int)), (22, .int .i64 k), (34, .int .i64 k2)] ∧ Be 0 315 26 (Br (iE .i64) (Br (IZ 24 cB) (BK 1 (iE .i64)))) F1 ir dt du cu bq ∧ FK IA (vA (cP (cI .i64) (cA cB))) Value.bool br m2) _ (m0 (kc (kc (kc (ka (ke kr))))) ⟨_, Dc.start _ _, [], [], none, 0, 0, [], #[], 0, mu, A3.refl _, rfl, z7, Be.nil _ _ _ _ _, FK.nil⟩) ?_
      rintro mj e1 mv _ ⟨k2, dv, cu, m2, ir, dt, du, bq, br, cz, fh, ao, rfl, iu, gb, gg⟩
      refine AB _ iu ?_
      replace ab := ab.mono (Ar (Ar (Ac _))) ao
      replace aa := aa.mono (Ac _) ao
      replace ad := ad.mono (Au (Ac _) (Au (Ac _) (Ac _))) ao
      replace ae := ao _ _ ae
      replace af := ao _ _ af
      replace bo := ao _ _ bo
      replace di := ao _ _ di
      replace fg := ao _ _ fg
      refine AN (uv (Bb rfl rfl) ?_)
      refine Aa (As ?_)
      refine cQ (fun fi => ?_) fun fi => ?_
      ·obtain ⟨mj, rfl, iv⟩ := Dc.succ dv fi
       rw [Ck] at fh
       refine Aq (As ?_)
       refine Ap ?_
       refine AN (um (ua (Aa (Am ?_))))
       refine uv (An isAgg316 rfl (Has.own 0 rfl) rfl) ?_
       refine uv (BH (v := .agg ((([.int .i64 0] : List Value) ++ ((List.replicate 24 false).flatMap cB ++ (([.slice none 0 0] : List Value)))).toArray)) rfl (by intro w; kernel_rfl)) ?_
       refine um ?_
       have iw : HG Tryz.prog mv 173 #[.agg #[.int .i64 Ad, .int .i64 Ab, .slice Aw Al.length Ax, .slice AF Ak.length AE, .slice AR Az.length AQ]] #[] (Br (iE .i64) (iE .i64)) Value.bool (fun dw : Int × Int => Dy Ad Ab Al Ak Az dw.1 dw.2) := ⟨call173, fun F2 h2 vs dw r ha hr => by obtain ⟨_, _, rfl, rfl, rfl⟩ := ha; exact MG (ab.mono (Ar (Ar (Ac _))) h2) (aa.mono (Ac _) h2) (ad.mono (Au (Ac _) (Au (Ac _) (Ac _))) h2) hr⟩
       obtain ⟨x2, gw, mw, mx⟩ := Es fh
       refine Jw (Lb := (bc, .map br cz) :: ((ai, ce #[.slice ir dt du] 310) :: (bq ++ []))) (Lr := (bg, ce (#[.func (.func 174) #[] #[.pointer (some ⟨bn, 0, none⟩), .pointer (some ⟨bh, 0, none⟩), .pointer (some ⟨b1, 0, none⟩), .pointer (some ⟨bd, 0, none⟩), .pointer (some ⟨ai, 0, none⟩)]]) 316) :: (ah ++ [])) rfl call174 rfl rfl rfl (pT ((fC (fC fO)).trans (pC ((fC fO).trans (pC ((fC (fS fP)).trans (pA pR)))))) (lb (lb (lp (ln rfl))))) (JJ List.length_replicate (Av.nil _ _ _) bo iw di af ae ab aa ad fg gg gb mw) ?_; rintro _ py _ iy ot ou ⟨iz, j0, my, mz, na, j1, rfl, rfl, j2, j3⟩
       refine AI (lb (lb (lp (ln rfl)))) (kO (kc (kc (kf (fS fO) kr))) ?_)
       refine Aa (AD (id := 3) (Am ?_))
       refine uv (Bd rfl rfl (Dc.Eg dv fi mr)) ?_
       refine um (Aa ?_)
       refine lf ?_
       exact mf (kf (fC (fC fO)) (kf (fC fO) (kc (kg (fS fP) kr)))) ⟨_, iv, gw, x2, my, mz, na, j1, iz, j0, mx, (ao.trans iy), rfl, z7, j3, j2⟩
      obtain rfl := Dc.zero dv fi
      rw [Ck] at fh
      refine AT (Af (Af ?_))
      refine Ay ?_
      obtain ⟨rfl, rfl⟩ := D2 fh
      exact mf kr ⟨ir, dt, du, bq, br, cz, (((dh.trans ct).trans bp).trans ao), rfl, z6, gb, bo, di, gg, fg⟩
     have nc := Bg oo mq
     refine Aq ?_
     refine Nf 1 rfl iq ?_; intro pz j4 bu
     refine Us (L' := (bg, ce (#[.func (.func 174) #[] #[.pointer (some ⟨bn, 0, none⟩), .pointer (some ⟨bh, 0, none⟩), .pointer (some ⟨b1, 0, none⟩), .pointer (some ⟨bd, 0, none⟩), .pointer (some ⟨ai, 0, none⟩)]]) 316) :: ((ai, ce #[.slice none 0 0] 310) :: ((bd, ce #[.map (some bc)] 311) :: ((bc, .map #[] 0) :: ((bh, ce #[.int .i64 k] 3) :: (ah ++ [])))))) rfl ?_
     refine Nf 4 rfl il ?_; intro q0 gh dx
     refine Us (L' := (bg, ce (#[.func (.func 174) #[] #[.pointer (some ⟨bn, 0, none⟩), .pointer (some ⟨bh, 0, none⟩), .pointer (some ⟨b1, 0, none⟩), .pointer (some ⟨bd, 0, none⟩), .pointer (some ⟨ai, 0, none⟩)]]) 316) :: ((ai, ce #[.slice none 0 0] 310) :: ((bd, ce #[.map (some bc)] 311) :: ((bc, .map #[] 0) :: (ah ++ []))))) rfl ?_
     replace bu := gh _ _ bu
     refine Nf 2 rfl im ?_; intro qb dy j5
     refine Us (L' := (bg, ce (#[.func (.func 174) #[] #[.pointer (some ⟨bn, 0, none⟩), .pointer (some ⟨bh, 0, none⟩), .pointer (some ⟨b1, 0, none⟩), .pointer (some ⟨bd, 0, none⟩), .pointer (some ⟨ai, 0, none⟩)]]) 316) :: ((ai, ce #[.slice none 0 0] 310) :: ((bc, .map #[] 0) :: (ah ++ [])))) rfl ?_
     replace bu := dy _ _ bu
     replace dx := dy _ _ dx
     obtain ⟨rfl, rfl⟩ := D2 nc
     exact mf (kc (kc (kc (ka (ke kr))))) ⟨none, 0, 0, [], #[], 0, ((j4.trans gh).trans dy), rfl, z6, Be.nil _ _ _ _ _, bu, dx, FK.nil, j5⟩
    rintro e1 j6 _ ⟨me, mg, mh, fe, ff, gv, ay, rfl, j7, nd, cv, cw, nf, cx⟩
    refine AB _ j7 ?_
    replace ab := ab.mono (Ar (Ar (Ac _))) ay
    replace aa := aa.mono (Ac _) ay
    replace ad := ad.mono (Au (Ac _) (Au (Ac _) (Ac _))) ay
    replace ax := ax.mono (Au (Ac _) (Au (CD (n := 24) (sz := 1) Bq) (Ar (Ac _)))) ay
    replace ae := ay _ _ ae
    replace af := ay _ _ af
    obtain ⟨dz, ng, j8⟩ := AG oq
    refine A0 (fun e1 F1 L1 => ∃ (fj : Option Addr) (fk : Nat) (fl : Nat) (da : LH), A3 j6 F1 ∧ L1 = ((ai, ce #[.slice fj fk fl] 310) :: (da ++ [])) ∧ e1.sub [(1, .pointer (some ⟨b1, 0, none⟩)), (6, .pointer (some ⟨ai, 0, none⟩)), (21, .int .i64 (Ak.length : Int)), (22, .int .i64 k)] ∧ Be 0 315 26 (Br (iE .i64) (Br (IZ 24 cB) (BK 1 (iE .i64)))) F1 fj fk fl dz da) ?_ ?_
    ·clear j8
     refine AN (um ?_)
     refine uv ((A7 underlying310 rfl).i (Be.Kw ax)) ?_
     refine um (Aa ?_)
     refine Ap ?_
     refine Bh (fun ow e1 F1 L1 => LA cn ow fun oy k3 => ∃ (bk : List (Int × (List Bool) × (List Int))) (m3 : List ((Int × (List Bool)) × Bool)) (bw : Option Addr) (bx : Nat) (bz : Nat) (au : LH) (az : Array MapEntry) (bj : Nat), Cl Ad Ab Al Ak Az k oy bk m3 = some dz ∧ A3 j6 F1 ∧ L1 = ((bg, ce (#[.func (.func 174) #[] #[.pointer (some ⟨bn, 0, none⟩), .pointer (some ⟨bh, 0, none⟩), .pointer (some ⟨b1, 0, none⟩), .pointer (some ⟨bd, 0, none⟩), .pointer (some ⟨ai, 0, none⟩)]]) 316) :: ((ai, ce #[.slice bw bx bz] 310) :: ((bc, .map az bj) :: (au ++ (ah ++ []))))) ∧ e1.sub [(1, .pointer (some ⟨b1, 0, none⟩)), (6, .pointer (some ⟨ai, 0, none⟩)), (8, .pointer (some ⟨bg, 0, none⟩)), (21, .int .i64 (Ak.length : Int)), (22, .int .i64 k), (42, .slice ey ez fa), (43, .int .i64 (cn.length : Int)), (44, .int .i64 k3)] ∧ Be 0 315 26 (Br (iE .i64) (Br (IZ 24 cB) (BK 1 (iE .i64)))) F1 bw bx bz bk au ∧ FK IA (vA (cP (cI .i64) (cA cB))) Value.bool az m3) _ (m0 (kc (kc (kc (kg (fS fP) kr)))) ⟨_, _, rfl, BL.start _, cq, m, me, mg, mh, fe, ff, gv, ng, A3.refl _, rfl, z8, nd, nf⟩) ?_
     rintro ow e1 nh _ ⟨oy, k3, j9, eb, bk, m3, bw, bx, bz, au, az, bj, fm, aj, rfl, ja, db, jb⟩
     refine AB _ ja ?_
     replace ab := ab.mono (Ar (Ar (Ac _))) aj
     replace aa := aa.mono (Ac _) aj
     replace ad := ad.mono (Au (Ac _) (Au (Ac _) (Ac _))) aj
     replace ax := ax.mono (Au (Ac _) (Au (CD (n := 24) (sz := 1) Bq) (Ar (Ac _)))) aj
     replace ae := aj _ _ ae
     replace af := aj _ _ af
     replace cv := aj _ _ cv
     replace cw := aj _ _ cw
     replace cx := aj _ _ cx
     refine AN (uv (Bb rfl rfl) ?_)
     refine Aa (As ?_)
     refine cQ (fun fo => ?_) fun fo => ?_
     ·obtain ⟨x3, rf, rfl, jc, jd, je⟩ := BL.succ eb fo
      rw [Cl] at fm
      refine Aq ?_
      obtain ⟨cy, m4, ni, jf⟩ := Es fm
      refine A0 (fun e1 F1 L1 => ∃ (fp : Option Addr) (fq : Nat) (ft : Nat) (dd : LH) (de : Array MapEntry) (ec : Nat), A3 nh F1 ∧ L1 = ((bg, ce (#[.func (.func 174) #[] #[.pointer (some ⟨bn, 0, none⟩), .pointer (some ⟨bh, 0, none⟩), .pointer (some ⟨b1, 0, none⟩), .pointer (some ⟨bd, 0, none⟩), .pointer (some ⟨ai, 0, none⟩)]]) 316) :: ((ai, ce #[.slice fp fq ft] 310) :: ((bc, .map de ec) :: (dd ++ (ah ++ []))))) ∧ e1.sub [(1, .pointer (some ⟨b1, 0, none⟩)), (6, .pointer (some ⟨ai, 0, none⟩)), (8, .pointer (some ⟨bg, 0, none⟩)), (21, .int .i64 (Ak.length : Int)), (22, .int .i64 k), (42, .slice ey ez fa), (43, .int .i64 (cn.length : Int)), (44, .int .i64 k3)] ∧ Be 0 315 26 (Br (iE .i64) (Br (IZ 24 cB) (BK 1 (iE .i64)))) F1 fp fq ft cy dd ∧ FK IA (vA (cP (cI .i64) (cA cB))) Value.bool de m4) ?_ ?_
      ·clear jf
       refine Ap (AN ?_)
       obtain ⟨qc, qd, qe, oz, jg, jh, eg, ⟨_, _, rfl, rfl, ⟨_, _, rfl, ⟨rfl, bl⟩, ⟨dk, dm, rfl, eh⟩⟩⟩, ji, jj⟩ := Be.at (Au (Ac _) (Au (CD (n := 24) (sz := 1) Bq) (Ar (Ac _)))) ax (L := (bg, ce (#[.func (.func 174) #[] #[.pointer (some ⟨bn, 0, none⟩), .pointer (some ⟨bh, 0, none⟩), .pointer (some ⟨b1, 0, none⟩), .pointer (some ⟨bd, 0, none⟩), .pointer (some ⟨ai, 0, none⟩)]]) 316) :: ((ai, ce #[.slice bw bx bz] 310) :: ((bc, .map az bj) :: (au ++ (ah ++ []))))) (fC (fC (fC (fS fP)))) jd.1 jc
       refine uv (AK underlying310 sizeOf315 rfl jg rfl (Be.idx ax jd)) (uv (AS (cs := (([.int .i64 x3.1] : List Value) ++ (x3.2.1.flatMap cB ++ (([.slice dk x3.2.2.length dm] : List Value)))).toArray) isAgg315 sizeOf315 rfl jh eg (BB eg ji jj)) ?_)
       refine Bo rfl zeroValue315 ?_; intro dn p0
       refine AI (L' := (dn, ce ((([.int .i64 0] : List Value) ++ ((List.replicate 24 false).flatMap cB ++ (([.slice none 0 0] : List Value)))).toArray) 315) :: ((bg, ce (#[.func (.func 174) #[] #[.pointer (some ⟨bn, 0, none⟩), .pointer (some ⟨bh, 0, none⟩), .pointer (some ⟨b1, 0, none⟩), .pointer (some ⟨bd, 0, none⟩), .pointer (some ⟨ai, 0, none⟩)]]) 316) :: ((ai, ce #[.slice bw bx bz] 310) :: ((bc, .map az bj) :: (au ++ (ah ++ [])))))) rfl (Ef (i := 0) sizeOf315 rfl rfl rfl (lz (la rfl (la (DM Bq List.length_replicate) rfl))) (lz (la rfl (la (DM Bq bl) rfl))) (N8 (by simp [Value.oneCell']) (N8 (J7 Bq _) (by simp [Value.oneCell']))) (AI (L' := (dn, ce ((([.int .i64 x3.1] : List Value) ++ (x3.2.1.flatMap cB ++ (([.slice dk x3.2.2.length dm] : List Value)))).toArray) 315) :: ((bg, ce (#[.func (.func 174) #[] #[.pointer (some ⟨bn, 0, none⟩), .pointer (some ⟨bh, 0, none⟩), .pointer (some ⟨b1, 0, none⟩), .pointer (some ⟨bd, 0, none⟩), .pointer (some ⟨ai, 0, none⟩)]]) 316) :: ((ai, ce #[.slice bw bx bz] 310) :: ((bc, .map az bj) :: (au ++ (ah ++ [])))))) rfl (BX (uv (Ae O1 rfl) (uv (Ae WH rfl) (uv (An isAgg3 rfl (Has.own 0 rfl) (E8 (Bm rfl))) ?_))))))
       obtain ⟨y, nj, nk⟩ := AG ni
       refine c0 call175 (RT nj) ?_; rintro _ qf _ ak p3 ⟨jk, rfl, rfl, gz⟩
       replace ab := ab.mono (Ar (Ar (Ac _))) ak
       replace aa := aa.mono (Ac _) ak
       replace ad := ad.mono (Au (Ac _) (Au (Ac _) (Ac _))) ak
       replace eh := eh.mono (Ac _) ak
       replace db := db.mono (Au (Ac _) (Au (CD (n := 24) (sz := 1) Bq) (Ar (Ac _)))) ak
       replace ae := ak _ _ ae
       replace af := ak _ _ af
       replace cv := ak _ _ cv
       replace cw := ak _ _ cw
       replace cx := ak _ _ cx
       refine AI (ln rfl) (Aa (Ap ?_))
       refine J0 (encs := (fun x : Int => #[.int .i64 x])) (xs := y) rfl call220 rfl (fun _ => rfl) gz (fun pre F1 L1 => ∃ (ij : List Int) (al : List (Int × (List Bool) × (List Int))) (m5 : List ((Int × (List Bool)) × Bool)) (ca : Option Addr) (cb : Nat) (cd : Nat) (av : LH) (aw : Array MapEntry) (ba : Nat), y = pre ++ ij ∧ Dr Ad Ab Al Ak Az k x3 ij al m5 = some (cy, m4) ∧ L1 = ((dn, ce ((([.int .i64 x3.1] : List Value) ++ (x3.2.1.flatMap cB ++ (([.slice dk x3.2.2.length dm] : List Value)))).toArray) 315) :: ((bg, ce (#[.func (.func 174) #[] #[.pointer (some ⟨bn, 0, none⟩), .pointer (some ⟨bh, 0, none⟩), .pointer (some ⟨b1, 0, none⟩), .pointer (some ⟨bd, 0, none⟩), .pointer (some ⟨ai, 0, none⟩)]]) 316) :: ((ai, ce #[.slice ca cb cd] 310) :: ((bc, .map aw ba) :: (av ++ (ah ++ [])))))) ∧ Be 0 315 26 (Br (iE .i64) (Br (IZ 24 cB) (BK 1 (iE .i64)))) F1 ca cb cd al av ∧ FK IA (vA (cP (cI .i64) (cA cB))) Value.bool aw m5) (fun _ _ _ => False) ?_ ?_ ?_ ?_ ?_ ?_
       ·rintro pre F1 F2 L1 ⟨ij, al, m5, ca, cb, cd, av, aw, ba, cf, np, rfl, cg, cj⟩ hx; exact ⟨ij, al, m5, ca, cb, cd, av, aw, ba, cf, np, rfl, cg.mono (Au (Ac _) (Au (CD (n := 24) (sz := 1) Bq) (Ar (Ac _)))) hx, cj⟩
       ·intro c F1 F2 L1 h hx; exact h
       ·exact ⟨_, bk, m3, bw, bx, bz, au, az, bj, rfl, nk, rfl, db, jb⟩
       ·rintro qg p4 p5 p6 p7 p8 nq p9 pre x4 rh ei nr _ aq ⟨ij, al, m5, ca, cb, cd, av, aw, ba, cf, jl, rfl, cg, cj⟩
        obtain rfl := NI cf ei
        rw [Dr] at jl
        replace ab := ab.mono (Ar (Ar (Ac _))) aq
        replace aa := aa.mono (Ac _) aq
        replace ad := ad.mono (Au (Ac _) (Au (Ac _) (Ac _))) aq
        replace eh := eh.mono (Ac _) aq
        replace ae := aq _ _ ae
        replace af := aq _ _ af
        replace cv := aq _ _ cv
        replace cw := aq _ _ cw
        replace cx := aq _ _ cx
        refine AB [(1, .pointer (some ⟨b1, 0, none⟩)), (6, .pointer (some ⟨ai, 0, none⟩)), (8, .pointer (some ⟨bg, 0, none⟩)), (11, .pointer (some ⟨dn, 0, none⟩)), (21, .int .i64 (Ak.length : Int)), (22, .int .i64 k), (42, .slice ey ez fa), (43, .int .i64 (cn.length : Int)), (44, .int .i64 k3), (51, .func (.func 220) #[] jk), (52, .int .i64 x4)] (by exact (sc rfl (sc rfl (sc rfl z8)))) ?_
        refine Am (ua (Aa ?_))
        refine ⟨rfl, ?_⟩
        refine Ap (Am (uv (An isAgg316 rfl (Has.own 1 rfl) rfl) (uv (AS (cs := (([.int .i64 x3.1] : List Value) ++ (x3.2.1.flatMap cB ++ (([.slice dk x3.2.2.length dm] : List Value)))).toArray) isAgg315 sizeOf315 rfl (Has.own 0 rfl) (Eb (FX rfl (Bm rfl) (FX (DM Bq bl) (At (A := ([.int .i64 x3.1] : List Value)) (k := 1) (o := 0) rfl (Bm (DM Bq bl))) (At (A := ([.int .i64 x3.1] : List Value)) (k := 1) (o := 24) rfl (At (A := x3.2.1.flatMap cB) (k := 24) (o := 0) (DM Bq bl) (Cd rfl)))))) (G9 (la rfl (la (DM Bq bl) rfl)) (FX rfl (Bm rfl) (FX (DM Bq bl) (At (A := ([.int .i64 x3.1] : List Value)) (k := 1) (o := 0) rfl (Bm (DM Bq bl))) (At (A := ([.int .i64 x3.1] : List Value)) (k := 1) (o := 24) rfl (At (A := x3.2.1.flatMap cB) (k := 24) (o := 0) (DM Bq bl) (Cd rfl))))))) (um ?_))))
        have jm : HG Tryz.prog nr 173 #[.agg #[.int .i64 Ad, .int .i64 Ab, .slice Aw Al.length Ax, .slice AF Ak.length AE, .slice AR Az.length AQ]] #[] (Br (iE .i64) (iE .i64)) Value.bool (fun dw : Int × Int => Dy Ad Ab Al Ak Az dw.1 dw.2) := ⟨call173, fun F2 h2 vs dw r ha hr => by obtain ⟨_, _, rfl, rfl, rfl⟩ := ha; exact MG (ab.mono (Ar (Ar (Ac _))) h2) (aa.mono (Ac _) h2) (ad.mono (Au (Ac _) (Au (Ac _) (Ac _))) h2) hr⟩
        obtain ⟨x5, fv, ns, nt⟩ := Es jl
        refine Jw (Lb := (bc, .map aw ba) :: ((ai, ce #[.slice ca cb cd] 310) :: (av ++ []))) (Lr := (dn, ce ((([.int .i64 x3.1] : List Value) ++ (x3.2.1.flatMap cB ++ (([.slice dk x3.2.2.length dm] : List Value)))).toArray) 315) :: ((bg, ce (#[.func (.func 174) #[] #[.pointer (some ⟨bn, 0, none⟩), .pointer (some ⟨bh, 0, none⟩), .pointer (some ⟨b1, 0, none⟩), .pointer (some ⟨bd, 0, none⟩), .pointer (some ⟨ai, 0, none⟩)]]) 316) :: (ah ++ []))) rfl call174 rfl rfl rfl (pT ((fC (fC (fC fO))).trans (pC ((fC (fC fO)).trans (pC ((fC (fC fP)).trans (pA pR)))))) (lb (lb (lp (ln rfl))))) (JJ bl eh cv jm cw af ae ab aa ad cx cj cg ns) ?_; rintro _ qh _ pa pb pc ⟨gk, gl, jn, jo, jq, gm, rfl, rfl, jr, js⟩
        refine AI (lb (lb (lp (ln rfl)))) (kO (kc (kc (kf (fS fO) (kf (fS fO) kr)))) ?_)
        refine Aa (AD (id := 7) ?_)
        refine ⟨(dn, ce ((([.int .i64 x3.1] : List Value) ++ (x3.2.1.flatMap cB ++ (([.slice dk x3.2.2.length dm] : List Value)))).toArray) 315) :: ((bg, ce (#[.func (.func 174) #[] #[.pointer (some ⟨bn, 0, none⟩), .pointer (some ⟨bh, 0, none⟩), .pointer (some ⟨b1, 0, none⟩), .pointer (some ⟨bd, 0, none⟩), .pointer (some ⟨ai, 0, none⟩)]]) 316) :: ((ai, ce #[.slice jn jo jq] 310) :: ((bc, .map gk gl) :: (gm ++ (ah ++ []))))), (show KL _ _ from kf (fC (fC fO)) (kf (fC (fC fO)) (kf (fC fO) kr))), ?_⟩; exact ⟨_, fv, x5, jn, jo, jq, gm, gk, gl, (by rw [ei]; simp), nt, rfl, js, jr⟩
       ·rintro qi _ jt ⟨ij, al, m5, ca, cb, cd, av, aw, ba, cf, ju, rfl, cg, cj⟩
        obtain rfl := O9 cf; rw [Dr] at ju
        refine AD (id := 6) (AD (id := 5) ?_)
        obtain ⟨rfl, rfl⟩ := D2 ju
        exact mi (kd kr) ⟨ca, cb, cd, av, aw, ba, (ak.trans jt), rfl, z8, cg, cj⟩
       intro c F1 L1 hx h; exact h.elim
      rintro e1 qj _ ⟨fp, fq, ft, dd, de, ec, gn, rfl, jv, jw, jx⟩
      refine AB _ jv ?_
      replace ax := ax.mono (Au (Ac _) (Au (CD (n := 24) (sz := 1) Bq) (Ar (Ac _)))) gn
      refine Am (uv (Bd rfl rfl (BL.Eg eb fo (Be.X5 ax))) ?_)
      refine um (Aa ?_)
      subst j9; exact le kr ⟨_, _, rfl, je, cy, m4, fp, fq, ft, dd, de, ec, jf, (aj.trans gn), rfl, z8, jw, jx⟩
     obtain rfl := BL.zero eb fo
     rw [Cl] at fm
     refine AT (Af (Af ?_))
     refine Ay ?_
     obtain rfl := AL fm
     exact mi (kd (kc (kd (ka kn)))) ⟨bw, bx, bz, au, aj, rfl, z4, db⟩
    rintro e1 qk _ ⟨fj, fk, fl, da, jz, rfl, kb, kh⟩
    refine AB _ kb (Am (uv (An isAgg310 rfl (Has.own 0 rfl) rfl) ?_))
    refine ua (Aa (AD (id := 1) ?_))
    obtain rfl := AL j8
    exact mi (kd kr) ⟨fj, fk, fl, da, (ay.trans jz), rfl, z4, kh⟩
   rintro e1 ql _ ⟨ma, mb, mc, fb, gp, rfl, kj, nu⟩
   refine AB _ kj ?_
   replace aa := aa.mono (Ac _) gp
   refine Am (uv (Bd rfl rfl (BL.Eg gu ly (Av.lt aa))) ?_)
   refine um (Aa ?_)
   subst ml; refine lf ?_
   exact mf kr ⟨_, _, rfl, mo, ik, ma, mb, mc, fb, oj, (cp.trans gp), rfl, z4, nu⟩
  obtain rfl := BL.zero gu ly
  rw [Cj] at lx
  refine AT (Af (Af ?_))
  refine Ay ?_
  obtain rfl := AL lx
  exact mi kr ⟨ey, ez, fa, ah, (dr.trans cp), rfl, z1, ax⟩
 rintro e1 kl _ ⟨a2, n6, c3, ga, pd, rfl, km, fw⟩
 refine AB _ km ?_
 refine AN (ua (Aa ?_))
 obtain ⟨out, nv, ko⟩ := AG r9
 refine A0 (fun e1 F1 L1 => ∃ (ia : Option Addr) (ib : Nat) (ic : Nat) (ej : LH), A3 kl F1 ∧ L1 = (ej ++ []) ∧ e1.sub [(13, .slice ia ib ic)] ∧ Be K.w0.heap.size 223 25 (Br (IZ 24 cB) (BK 1 (iE .i64))) F1 ia ib ic out ej) ?_ ?_
 ·clear ko
  refine AN (um ?_)
  refine uv ((A7 underlying310 rfl).i (Be.Kw fw)) ?_
  refine um (Aa ?_)
  refine Ap ?_
  refine Bh (fun pe e1 F1 L1 => LA now pe fun pf k4 => ∃ (BD : List ((List Bool) × (List Int))) (en : Option Addr) (eo : Nat) (ep : Nat) (ar : LH), CW pf BD = some out ∧ A3 kl F1 ∧ L1 = (ar ++ (ga ++ [])) ∧ e1.sub [(13, .slice en eo ep), (60, .slice a2 n6 c3), (61, .int .i64 (now.length : Int)), (62, .int .i64 k4)] ∧ Be K.w0.heap.size 223 25 (Br (IZ 24 cB) (BK 1 (iE .i64))) F1 en eo ep BD ar) _ (m0 (ke kr) ⟨_, _, rfl, BL.start _, [], none, 0, 0, [], nv, A3.refl _, rfl, z4, Be.nil _ _ _ _ _⟩) ?_
  rintro pe e1 qn _ ⟨pf, k4, gq, df, BD, en, eo, ep, ar, fx, dg, rfl, kt, bb⟩
  refine AB _ kt ?_
  replace fw := fw.mono (Au (Ac _) (Au (CD (n := 24) (sz := 1) Bq) (Ar (Ac _)))) dg
  refine AN (uv (Bb rfl rfl) ?_)
  refine Aa (As ?_)
  refine cQ (fun er => ?_) fun er => ?_
  ·obtain ⟨x6, ri, rfl, ku, kv, gr⟩ := BL.succ df er
   rw [CW] at fx
   refine Aq (As ?_)
   refine Ap (AN ?_)
   obtain ⟨qo, qp, qq, pg, kz, l0, eu, ⟨_, _, rfl, rfl, ⟨_, _, rfl, ⟨rfl, bm⟩, ⟨dp, dq, rfl, fy⟩⟩⟩, ld, lg⟩ := Be.at (Au (Ac _) (Au (CD (n := 24) (sz := 1) Bq) (Ar (Ac _)))) fw (L := ar ++ (ga ++ [])) (fS fP) kv.1 ku
   refine uv (AK underlying310 sizeOf315 rfl kz rfl (Be.idx fw kv)) (uv (AS (cs := (([.int .i64 x6.1] : List Value) ++ (x6.2.1.flatMap cB ++ (([.slice dp x6.2.2.length dq] : List Value)))).toArray) isAgg315 sizeOf315 rfl l0 eu (BB eu ld lg)) ?_)
   refine Bo rfl zeroValue315 ?_; intro ie lh
   refine AI (L' := (ie, ce ((([.int .i64 0] : List Value) ++ ((List.replicate 24 false).flatMap cB ++ (([.slice none 0 0] : List Value)))).toArray) 315) :: (ar ++ (ga ++ []))) rfl (Ef (i := 0) sizeOf315 rfl rfl rfl (lz (la rfl (la (DM Bq List.length_replicate) rfl))) (lz (la rfl (la (DM Bq bm) rfl))) (N8 (by simp [Value.oneCell']) (N8 (J7 Bq _) (by simp [Value.oneCell']))) (AI (L' := (ie, ce ((([.int .i64 x6.1] : List Value) ++ (x6.2.1.flatMap cB ++ (([.slice dp x6.2.2.length dq] : List Value)))).toArray) 315) :: (ar ++ (ga ++ []))) rfl ?_))
   refine BX (um ?_)
   refine uv (BP rfl rfl) ?_
   refine Bi 0 rfl lh ?_; intro nw ck ew
   refine AI rfl ?_
   replace fy := fy.mono (Ac _) ck
   replace fw := fw.mono (Au (Ac _) (Au (CD (n := 24) (sz := 1) Bq) (Ar (Ac _)))) ck
   replace bb := bb.mono (Au (CD (n := 24) (sz := 1) Bq) (Ar (Ac _))) ck
   have lj : HG Tryz.prog nw 177 #[] #[.pointer (some ⟨ie, 0, none⟩)] (Pu (Br (IZ 24 cB) (BK 1 (iE .i64)))) Value.bool (fun dw : ((List Bool) × (List Int)) => Fp dw.1 dw.2 x6.1 x6.2.1 x6.2.2) := ⟨call177, fun F2 h2 vs dw r ha hr => by obtain ⟨_, rfl, ⟨_, _, rfl, ⟨rfl, ny⟩, ⟨qs, qt, rfl, nz⟩⟩⟩ := ha; exact MQ ny nz (h2 _ _ ew) bm (fy.mono (Ac _) h2) hr⟩
   obtain ⟨ok, o2, lk⟩ := AG fx
   refine OG (Lt := ar ++ []) (Lr := ga ++ []) rfl call176 rfl rfl rfl (pT pR (lp (ln rfl))) (fun F2 h2 h3 => by rw [(Be.Eu bb).1]; exact GC (bb.row (Au (CD (n := 24) (sz := 1) Bq) (Ar (Ac _))) h2 (fun p hp => h3 p (List.mem_append_left _ hp))) (lj.mono h2) o2) ?_
   refine uv (BC rfl) (Aa ?_)
   refine A5 rfl (fun ig => ?_) (fun ig => ?_)
   ·have o3 := bt lk ig
    refine Am (um ?_)
    refine uv (Ae O1 rfl) (uv (Ae Q7 rfl) (uv (AS (cs := arr cB x6.2.1) isAgg221 sizeOf221 rfl (Has.frozen ew) (Eb (At (A := ([.int .i64 x6.1] : List Value)) (k := 1) (o := 0) rfl (Bm (DM Bq bm)))) (G9 (DM Bq bm) (At (A := ([.int .i64 x6.1] : List Value)) (k := 1) (o := 0) rfl (Bm (DM Bq bm))))) (uv (Ae TM rfl) (uv (An isAgg33 rfl (Has.frozen ew) (E8 (At (A := ([.int .i64 x6.1] : List Value)) (k := 1) (o := 24) rfl (At (A := x6.2.1.flatMap cB) (k := 24) (o := 0) (DM Bq bm) (Cd rfl))))) ?_))))
    refine uv (BH (v := .agg ((x6.2.1.flatMap cB ++ (([.slice dp x6.2.2.length dq] : List Value))).toArray)) rfl (by intro w; have o4 := bm; revert o4; generalize x6.2.1 = zq_; intro o4; obtain ⟨a0, a1, a2, a3, a4, a5, a6, a7, a8, a9, rj, rk, rl, ey, rm, rp, rq, ru, ry, rz, s5, s6, s7, s8, rfl⟩ := Nx o4; show _ = _; kernel_rfl)) ?_
    refine Jk (cs := (x6.2.1.flatMap cB ++ (([.slice dp x6.2.2.length dq] : List Value))).toArray) rfl rfl (Nc UC (.agg (x6.2.1.flatMap cB ++ (([.slice dp x6.2.2.length dq] : List Value))).toArray) (lz (la (DM Bq bm) rfl)) (by decide)) ?_; intro qu ph
    obtain ⟨ll, o7, o8, o9⟩ := GM o3
    refine Fm (xs := BD) (ys := [(x6.2.1, x6.2.2)]) (zs := ll) rfl UC rfl rfl (Nat.le_refl _) (fun _ => .c .h) bb (H2.box (vss := [(x6.2.1.flatMap cB ++ (([.slice dp x6.2.2.length dq] : List Value)))]) (ys := [(x6.2.1, x6.2.2)]) 0 rfl (Au (CD (n := 24) (sz := 1) Bq) (Ar (Ac _))) (.cons ⟨_, _, rfl, ⟨rfl, bm⟩, ⟨_, _, rfl, fy⟩⟩ .nil) (by simp) rfl) o7 o8 (by decide) ?_; intro oc od oe lq lr
    refine kO (kd kr) ?_
    refine ua (Aa (AD (id := 9) (Am ?_)))
    refine uv (Bd rfl rfl (BL.Eg df er (Be.X5 fw))) ?_
    refine um (Aa ?_)
    subst gq; exact le kr ⟨_, _, rfl, gr, ll, oc, od, oe, lq, o9, (dg.trans ck), rfl, z4, lr⟩
   have og := bf lk ig
   refine Aq (AD (id := 9) (Am ?_))
   refine uv (Bd rfl rfl (BL.Eg df er (Be.X5 fw))) ?_
   refine um (Aa ?_)
   subst gq; exact le kr ⟨_, _, rfl, gr, BD, en, eo, ep, ar, og, (dg.trans ck), rfl, z4, bb⟩
  obtain rfl := BL.zero df er
  rw [CW] at fx
  refine AT (Af (Af ?_))
  refine Ay ?_
  obtain rfl := AL fx
  exact mi (ka kn) ⟨en, eo, ep, ar, dg, rfl, z1, bb⟩
 rintro e1 qw _ ⟨ia, ib, ic, ej, pj, rfl, lu, lv⟩
 refine AB _ lu ?_
 refine AN (um (ua (Aa (Ao ?_))))
 refine BU results109 ?_
 obtain rfl := AL ko
 exact ⟨_, _, _, _, rfl, rfl, lv.any⟩
theorem HL {r : Bool} (hr : HV n lo hi = some r) :
    Bl Tryz.prog 159 #[.int .i64 n, .int .i64 lo, .int .i64 hi] F (.bool r) := by
 refine sp func159 ntmps159 fun K _ _ => ?_
 rw [HV] at hr
 refine AN (ua (BX (um (um ?_))))
 refine uv (HQ rfl rfl) (um ?_)
 by_cases c1 : lo ≤ n
 ·have r2 := Bf hr c1
  refine nT c1 (um (nT c1 (um (nT c1 ?_))))
  refine uv (My rfl rfl) (uv (AW (Bn rfl c1) rfl) ?_)
  refine ua (Aa (Ao ?_))
  refine BU results159 ?_
  obtain rfl := AL r2
  exact rfl
 have r3 := Bg hr c1
 refine fF c1 (fF c1 (fF c1 ?_))
 refine uv (AH (A8 rfl c1) rfl) ?_
 refine ua (Aa (Ao ?_))
 refine BU results159 ?_
 obtain rfl := AL r3
 exact rfl
theorem Lq (_h_hears : Av 1 (BK 1 (BK 1 (iE .i64))) F Aw Ax Al) (_h_readings : Av 1 (iE .i64) F AF AE Ak) (_h_cries : Av 3 (Br (iE .i64) (Br (iE .i64) (iE .i64))) F AR AQ Az) {r : Bool} (hr : Gc Ad Ab Al Ak Az h = some r) :
    Bl Tryz.prog 171 #[.agg #[.int .i64 Ad, .int .i64 Ab, .slice Aw Al.length Ax, .slice AF Ak.length AE, .slice AR Az.length AQ], .int .i64 h] F (.bool r) := by
 refine sp func171 ntmps171 fun K _ _ => ?_
 rw [Gc] at hr
 refine AN ?_
 refine Bt rfl rfl ?_; intro b1 aa
 refine ua (BX (um ?_))
 refine uv (Ae Jz rfl) (uv (An isAgg3 rfl (Has.own 0 rfl) rfl) ?_)
 obtain ⟨g2, r3⟩ := A1 hr
 refine uv (Fa rfl rfl g2) ?_
 obtain ⟨ok, h4, r5⟩ := AG r3
 refine cV call159 (HL h4) ?_
 refine ua (Aa ?_)
 refine kW kn (Ao (BU results171 ?_))
 obtain rfl := AL r5
 exact rfl
set_option maxHeartbeats 1000000 in
theorem K8 {l : List Int} (ab : Av 1 (BK 1 (BK 1 (iE .i64))) F Aw Ax Al) (aa : Av 1 (iE .i64) F AF AE Ak) (ad : Av 3 (Br (iE .i64) (Br (iE .i64) (iE .i64))) F AR AQ Az) (af : Av 1 (iE .i64) F Hp Hl l) {r : Int} (hr : GU Ad Ab Al Ak Az l = some r) :
    Bl Tryz.prog 103 #[.agg #[.int .i64 Ad, .int .i64 Ab, .slice Aw Al.length Ax, .slice AF Ak.length AE, .slice AR Az.length AQ], .slice Hp l.length Hl] F (.int .i64 r) := by
 refine sp func103 ntmps103 fun K _ _ => ?_
 rw [GU] at hr
 refine AN ?_
 refine Bt rfl rfl ?_; intro b1 bw
 refine ua (Aa ?_)
 refine A0 (fun e1 F1 L1 => IB = some r ∧ F = F1 ∧ L1 = [] ∧ e1.sub []) ?_ ?_
 ·refine AN (um ?_)
  refine uv (A7 underlying33 rfl) ?_
  refine um (Aa ?_)
  refine Ap ?_
  refine Bh (fun ar e1 F1 L1 => LA l ar fun tl k => DP Ad Ab Al Ak Az l tl k = some r ∧ F = F1 ∧ L1 = [(b1, ce #[.int .i64 Ad, .int .i64 Ab, .slice Aw Al.length Ax, .slice AF Ak.length AE, .slice AR Az.length AQ] 100)] ∧ e1.sub [(1, .slice Hp l.length Hl), (2, .pointer (some ⟨b1, 0, none⟩)), (7, .slice Hp l.length Hl), (8, .int .i64 (l.length : Int)), (9, .int .i64 k)]) _ (m0 kr ⟨_, _, rfl, BL.start _, hr, rfl, rfl, z5⟩) ?_
  rintro ar e1 _ _ ⟨tl, k, az, ah, r4, rfl, rfl, ba⟩
  refine AB _ ba (AN (uv (Bb rfl rfl) ?_))
  refine Aa (As ?_)
  refine cQ (fun c7 => ?_) fun c7 => ?_
  ·obtain ⟨x, bx, rfl, bb, au, bc⟩ := BL.succ ah c7
   rw [DP] at r4
   refine Aq (As ?_)
   refine Ap ?_
   refine AN (um ?_)
   obtain ⟨Rf, bz, ca, bd, ai, aj, av, rfl, bg, ak⟩ := Av.at (Ac _) af ([(b1, ce #[.int .i64 Ad, .int .i64 Ab, .slice Aw Al.length Ax, .slice AF Ak.length AE, .slice AR Az.length AQ] 100)]) au.1 bb
   refine uv (AK underlying33 sizeOf3 rfl ai rfl au) (uv (An isAgg3 rfl aj (ak 0 (by decide))) ?_)
   refine ua (ua (Aa (As (AN ?_))))
   refine uv (AS isAgg100 sizeOf100 rfl (Has.own 0 rfl) (CK rfl) rfl) (um ?_)
   obtain ⟨ok, bh, aw⟩ := AG r4
   refine cV call171 (Lq ab aa ad bh) (uv (BC rfl) (Aa ?_))
   refine A5 rfl (fun al => ?_) (fun al => ?_)
   ·have bj := bt aw al
    refine AN (ua (Aa ?_))
    refine kW kn ?_
    refine Ao (Ah (AA (Ah (Ah (AA (Ah ?_))))))
    refine BU results103 ?_
    obtain rfl := AL bj
    exact rfl
   have bk := bf aw al
   refine Aq (AN (um (um ?_)))
   obtain ⟨bl, bm⟩ := A1 bk
   obtain ⟨l2, bn, bo⟩ := CH bm
   obtain ⟨cb, cd, bp, ae⟩ := Av.slice (Ac _) af bl bn
   refine uv ((NK (l := 0) (h := k) underlying33 sizeOf3 rfl (.inl ⟨rfl, rfl⟩) (.inr ⟨_, rfl, rfl⟩) ae.1).eq ae.2) (um ?_)
   obtain ⟨cf, bq, ax⟩ := AG bo
   refine cV call18 (C2 bp bq) (Aa ?_)
   refine A5 rfl (fun ao => ?_) (fun ao => ?_)
   ·have br := bt ax ao
    refine AN (ua (Aa ?_))
    refine kW kn ?_
    refine Ao (AA (Ah (Ah (AA (Ah ?_)))))
    refine BU results103 ?_
    obtain rfl := AL br
    exact rfl
   have bu := bf ax ao
   refine Aq (AD (id := 1) (Am ?_))
   refine uv (Bd rfl rfl (BL.Eg ah c7 (Av.lt af))) ?_
   refine um (Aa ?_)
   subst az; exact le kr ⟨_, _, rfl, bc, bu, rfl, rfl, z5⟩
  obtain rfl := BL.zero ah c7
  rw [DP] at r4
  refine AT (Af (Af ?_))
  refine Ay ?_
  exact mi kn ⟨r4, rfl, rfl, (sn _)⟩
 rintro e1 _ _ ⟨ay, rfl, rfl, aq⟩
 refine AB _ aq ?_
 rw [IB] at ay
 refine AN (ua (Aa (Ao ?_)))
 refine BU results103 ?_
 obtain rfl := AL ay
 exact rfl
set_option maxHeartbeats 1000000 in
theorem KA {s_ : List Int} {f : Int → Option Bool} (aa : Av 1 (iE .i64) F B0 BY s_) (aj : HG Tryz.prog F La KQ KW (iE .i64) Value.bool f) {r : Int} (hr : EC s_ f = some r) :
    Bl Tryz.prog 79 #[.slice B0 s_.length BY, .func (.func La) KQ KW] F (.int .i64 r) := by
 refine sp func79 ntmps79 fun K _ _ => ?_
 rw [EC] at hr
 refine AN (ua (Aa ?_))
 refine A0 (fun e1 F1 L1 => Fl = some r ∧ F = F1 ∧ L1 = [] ∧ e1.sub []) ?_ ?_
 ·refine AN (um ?_)
  refine uv (A7 underlying33 rfl) ?_
  refine um (Aa ?_)
  refine Ap ?_
  refine Bh (fun ak e1 F1 L1 => LA s_ ak fun tl k => Cc f tl k = some r ∧ F = F1 ∧ L1 = [] ∧ e1.sub [(0, .slice B0 s_.length BY), (1, .func (.func La) KQ KW), (7, .int .i64 (s_.length : Int)), (8, .int .i64 k)]) _ (m0 kr ⟨_, _, rfl, BL.start _, hr, rfl, rfl, z4⟩) ?_
  rintro ak e1 _ _ ⟨tl, k, MM, ab, r3, rfl, rfl, ar⟩
  refine AB _ ar (AN (uv (Bb rfl rfl) ?_))
  refine Aa (As ?_)
  refine cQ (fun c6 => ?_) fun c6 => ?_
  ·obtain ⟨x, bb, rfl, au, g9, av⟩ := BL.succ ab c6
   rw [Cc] at r3
   refine Aq (As ?_)
   refine Ap ?_
   refine AN (um (ua (BX (um (um (um ?_))))))
   obtain ⟨J4, bc, bd, aw, ad, ae, al, rfl, ax, af⟩ := Av.at (Ac _) aa ([]) g9.1 au
   refine uv (AK underlying33 sizeOf3 rfl ad rfl g9) (uv (An isAgg3 rfl ae (af 0 (by decide))) ?_)
   obtain ⟨ok, ay, ao⟩ := AG r3
   refine Em rfl aj.1 rfl rfl rfl (aj.2 _ (A3.refl _) _ _ _ rfl ay) (Aa ?_)
   refine A5 rfl (fun ah => ?_) (fun ah => ?_)
   ·have az := bt ao ah
    refine AN (um (ua (Aa (Ao (AA (Ah (Ah (AA (Ah ?_)))))))))
    refine BU results79 ?_
    obtain rfl := AL az
    exact rfl
   have ba := bf ao ah
   refine Aq (AD (id := 1) (Am ?_))
   refine uv (Bd rfl rfl (BL.Eg ab c6 (Av.lt aa))) ?_
   refine um (Aa ?_)
   subst MM; exact le kr ⟨_, _, rfl, av, ba, rfl, rfl, z4⟩
  obtain rfl := BL.zero ab c6
  rw [Cc] at r3
  refine AT (Af (Af ?_))
  refine Ay ?_
  exact mi kr ⟨r3, rfl, rfl, (sn _)⟩
 rintro e1 _ _ ⟨aq, rfl, rfl, ai⟩
 refine AB _ ai ?_
 rw [Fl] at aq
 refine AN (ua (Aa (Ao ?_)))
 refine BU results79 ?_
 obtain rfl := AL aq
 exact rfl
theorem GQ {s_ : List Int} {f : Int → Option Bool} (aa : Av 1 (iE .i64) F B0 BY s_) (ab : HG Tryz.prog F La KQ KW (iE .i64) Value.bool f) {r : Bool} (hr : CC s_ f = some r) :
    Bl Tryz.prog 26 #[.slice B0 s_.length BY, .func (.func La) KQ KW] F (.bool r) := by
 refine sp func26 ntmps26 fun K _ _ => ?_
 rw [CC] at hr
 refine AN (ua (BX (um (um ?_))))
 obtain ⟨n, h1, r2⟩ := AG hr
 refine cV call79 (KA aa ab h1) (uv (HQ rfl rfl) ?_)
 refine ua (Aa (Ao ?_))
 refine BU results26 ?_
 obtain rfl := AL r2
 exact rfl
theorem Oe {x : Int} {so : Int → Option Bool} (aa : F Ra = some (.cells #[.func (.func LJ) LC LD] 89 Sa)) (ab : HG Tryz.prog F LJ LC LD (iE .i64) Value.bool so) {r : Bool} (hr : GL x so = some r) :
    Bl Tryz.prog 172 #[.int .i64 x, .pointer (some ⟨Ra, 0, none⟩)] F (.bool r) := by
 refine sp func172 ntmps172 fun K _ _ => ?_
 rw [GL] at hr
 refine AN (ua (BX ?_))
 refine uv (An isAgg89 rfl (Has.frozen aa) rfl) (um ?_)
 obtain ⟨ok, h1, r2⟩ := AG hr
 refine Em rfl ab.1 rfl rfl rfl (ab.2 _ (A3.refl _) _ _ _ rfl h1) (uv (BC rfl) ?_)
 refine ua (Aa (Ao ?_))
 refine BU results172 ?_
 obtain rfl := AL r2
 exact rfl
theorem JX {l : List Int} {so : Int → Option Bool} (ab : Av 1 (iE .i64) F Hp Hl l) (aa : HG Tryz.prog F LJ LC LD (iE .i64) Value.bool so) {r : Bool} (hr : FN l so = some r) :
    Bl Tryz.prog 107 #[.slice Hp l.length Hl, .func (.func LJ) LC LD] F (.bool r) := by
 refine sp func107 ntmps107 fun K _ _ => ?_
 rw [FN] at hr
 refine AN ?_
 refine Bt rfl rfl ?_; intro b1 af
 refine ua (BX (um ?_))
 refine uv (BP rfl rfl) ?_
 refine Bi 0 rfl af ?_; intro F2 ad ah
 refine AI rfl ?_
 replace ab := ab.mono (Ac _) ad
 replace aa := aa.mono ad
 have ai : HG Tryz.prog F2 172 #[] #[.pointer (some ⟨b1, 0, none⟩)] (iE .i64) Value.bool (fun ae : Int => GL ae so) := ⟨call172, fun F2 h2 vs ae r ha hr => by obtain rfl := ha; exact Oe (h2 _ _ ah) (aa.mono h2) hr⟩
 obtain ⟨ok, h6, r7⟩ := AG hr
 refine cV call26 (GQ ab ai h6) (uv (BC rfl) ?_)
 refine ua (Aa (Ao ?_))
 refine BU results107 ?_
 obtain rfl := AL r7
 exact rfl
set_option maxHeartbeats 1000000 in
theorem Ko {s_ : List (List (List Int))} {f : (List (List Int)) → Option Bool} (aa : Av 1 (BK 1 (BK 1 (iE .i64))) F B0 BY s_) (aj : HG Tryz.prog F La KQ KW (BK 1 (BK 1 (iE .i64))) Value.bool f) {r : Int} (hr : Er s_ f = some r) :
    Bl Tryz.prog 273 #[.slice B0 s_.length BY, .func (.func La) KQ KW] F (.int .i64 r) := by
 refine sp func273 ntmps273 fun K _ _ => ?_
 rw [Er] at hr
 refine AN (ua (Aa ?_))
 refine A0 (fun e1 F1 L1 => EW = some r ∧ F = F1 ∧ L1 = [] ∧ e1.sub []) ?_ ?_
 ·refine AN (um ?_)
  refine uv (A7 underlying97 rfl) ?_
  refine um (Aa ?_)
  refine Ap ?_
  refine Bh (fun ak e1 F1 L1 => LA s_ ak fun tl k => B6 f tl k = some r ∧ F = F1 ∧ L1 = [] ∧ e1.sub [(0, .slice B0 s_.length BY), (1, .func (.func La) KQ KW), (7, .int .i64 (s_.length : Int)), (8, .int .i64 k)]) _ (m0 kr ⟨_, _, rfl, BL.start _, hr, rfl, rfl, z4⟩) ?_
  rintro ak e1 _ _ ⟨tl, k, MM, ab, r3, rfl, rfl, ar⟩
  refine AB _ ar (AN (uv (Bb rfl rfl) ?_))
  refine Aa (As ?_)
  refine cQ (fun c6 => ?_) fun c6 => ?_
  ·obtain ⟨x, bc, rfl, au, g9, av⟩ := BL.succ ab c6
   rw [B6] at r3
   refine Aq (As ?_)
   refine Ap ?_
   refine AN (um (ua (BX (um (um (um ?_))))))
   obtain ⟨J4, bd, bg, aw, ad, ae, al, ⟨bh, bj, rfl, ax⟩, ay, af⟩ := Av.at (Ar (Ar (Ac _))) aa ([]) g9.1 au
   refine uv (AK underlying97 sizeOf36 rfl ad rfl g9) (uv (An isAgg36 rfl ae (af 0 (by decide))) ?_)
   obtain ⟨ok, az, ao⟩ := AG r3
   refine Em rfl aj.1 rfl rfl rfl (aj.2 _ (A3.refl _) _ _ _ ⟨_, _, rfl, ax⟩ az) (Aa ?_)
   refine A5 rfl (fun ah => ?_) (fun ah => ?_)
   ·have ba := bt ao ah
    refine AN (um (ua (Aa (Ao (AA (Ah (Ah (AA (Ah ?_)))))))))
    refine BU results273 ?_
    obtain rfl := AL ba
    exact rfl
   have bb := bf ao ah
   refine Aq (AD (id := 1) (Am ?_))
   refine uv (Bd rfl rfl (BL.Eg ab c6 (Av.lt aa))) ?_
   refine um (Aa ?_)
   subst MM; exact le kr ⟨_, _, rfl, av, bb, rfl, rfl, z4⟩
  obtain rfl := BL.zero ab c6
  rw [B6] at r3
  refine AT (Af (Af ?_))
  refine Ay ?_
  exact mi kr ⟨r3, rfl, rfl, (sn _)⟩
 rintro e1 _ _ ⟨aq, rfl, rfl, ai⟩
 refine AB _ ai ?_
 rw [EW] at aq
 refine AN (ua (Aa (Ao ?_)))
 refine BU results273 ?_
 obtain rfl := AL aq
 exact rfl
theorem JH {s_ : List (List (List Int))} {f : (List (List Int)) → Option Bool} (aa : Av 1 (BK 1 (BK 1 (iE .i64))) F B0 BY s_) (ab : HG Tryz.prog F La KQ KW (BK 1 (BK 1 (iE .i64))) Value.bool f) {r : Bool} (hr : CX s_ f = some r) :
    Bl Tryz.prog 245 #[.slice B0 s_.length BY, .func (.func La) KQ KW] F (.bool r) := by
 refine sp func245 ntmps245 fun K _ _ => ?_
 rw [CX] at hr
 refine AN (ua (BX (um (um ?_))))
 obtain ⟨n, h1, r2⟩ := AG hr
 refine cV call273 (Ko aa ab h1) (uv (HQ rfl rfl) ?_)
 refine ua (Aa (Ao ?_))
 refine BU results245 ?_
 obtain rfl := AL r2
 exact rfl
theorem NL {Vz : Option Addr} {VC : Nat} {x : List (List Int)} {so : (List (List Int)) → Option Bool} (ad : Av 1 (BK 1 (iE .i64)) F Vz VC x) (aa : F Ra = some (.cells #[.func (.func LJ) LC LD] 343 Sa)) (ab : HG Tryz.prog F LJ LC LD (BK 1 (BK 1 (iE .i64))) Value.bool so) {r : Bool} (hr : Ge x so = some r) :
    Bl Tryz.prog 246 #[.slice Vz x.length VC, .pointer (some ⟨Ra, 0, none⟩)] F (.bool r) := by
 refine sp func246 ntmps246 fun K _ _ => ?_
 rw [Ge] at hr
 refine AN (ua (BX ?_))
 refine uv (An isAgg343 rfl (Has.frozen aa) rfl) (um ?_)
 obtain ⟨ok, h1, r2⟩ := AG hr
 refine Em rfl ab.1 rfl rfl rfl (ab.2 _ (A3.refl _) _ _ _ ⟨_, _, rfl, ad⟩ h1) (uv (BC rfl) ?_)
 refine ua (Aa (Ao ?_))
 refine BU results246 ?_
 obtain rfl := AL r2
 exact rfl
theorem Pn {l : List (List (List Int))} {so : (List (List Int)) → Option Bool} (ab : Av 1 (BK 1 (BK 1 (iE .i64))) F Hp Hl l) (aa : HG Tryz.prog F LJ LC LD (BK 1 (BK 1 (iE .i64))) Value.bool so) {r : Bool} (hr : Hu l so = some r) :
    Bl Tryz.prog 215 #[.slice Hp l.length Hl, .func (.func LJ) LC LD] F (.bool r) := by
 refine sp func215 ntmps215 fun K _ _ => ?_
 rw [Hu] at hr
 refine AN ?_
 refine Bt rfl rfl ?_; intro b1 af
 refine ua (BX (um ?_))
 refine uv (BP rfl rfl) ?_
 refine Bi 0 rfl af ?_; intro F2 ad ah
 refine AI rfl ?_
 replace ab := ab.mono (Ar (Ar (Ac _))) ad
 replace aa := aa.mono ad
 have ai : HG Tryz.prog F2 246 #[] #[.pointer (some ⟨b1, 0, none⟩)] (BK 1 (BK 1 (iE .i64))) Value.bool (fun ae : (List (List Int)) => Ge ae so) := ⟨call246, fun F2 h2 vs ae r ha hr => by obtain ⟨a5, c6, rfl, h7⟩ := ha; exact NL h7 (h2 _ _ ah) (aa.mono h2) hr⟩
 obtain ⟨ok, h9, aj⟩ := AG hr
 refine cV call245 (JH ab ai h9) (uv (BC rfl) ?_)
 refine ua (Aa (Ao ?_))
 refine BU results215 ?_
 obtain rfl := AL aj
 exact rfl
theorem MP {l : List (List Int)} (_h_l : Av 1 (BK 1 (iE .i64)) F Hp Hl l) {r : Bool} (hr : Fq l = some r) :
    Bl Tryz.prog 216 #[.slice Hp l.length Hl] F (.bool r) := by
 refine sp func216 ntmps216 fun K _ _ => ?_
 rw [Fq] at hr
 refine AN (ua (BX (um ?_)))
 refine uv (A7 underlying36 rfl) (uv (CR rfl rfl) ?_)
 refine ua (Aa (Ao ?_))
 refine BU results216 ?_
 obtain rfl := AL hr
 exact rfl
set_option maxHeartbeats 1000000 in
theorem NN (ae : Av 1 (BK 1 (BK 1 (iE .i64))) F Aw Ax Al) (_h_readings : Av 1 (iE .i64) F AF AE Ak) (_h_cries : Av 3 (Br (iE .i64) (Br (iE .i64) (iE .i64))) F AR AQ Az) {r : Bool} (hr : HR Ad Ab Al Ak Az = some r) :
    Bl Tryz.prog 167 #[.agg #[.int .i64 Ad, .int .i64 Ab, .slice Aw Al.length Ax, .slice AF Ak.length AE, .slice AR Az.length AQ]] F (.bool r) := by
 refine sp func167 ntmps167 fun K _ _ => ?_
 rw [HR] at hr
 refine AN ?_
 refine Bt rfl rfl ?_; intro b1 bh
 refine ua (BX ?_)
 refine uv (Ae Jz rfl) (uv (An isAgg3 rfl (Has.own 0 rfl) rfl) ?_)
 obtain ⟨ok, h2, r3⟩ := AG hr
 refine cV call159 (HL h2) (um ?_)
 rcases Co ok with c4 | c4
 ·have r5 := bt r3 c4
  refine nB c4 (uv (Ae LU rfl) (nB c4 (uv (An isAgg3 rfl (Has.own 0 rfl) rfl) (nB c4 ?_))))
  obtain ⟨al, h6, r7⟩ := AG r5
  refine cV call159 (HL h6) (uv (AW (Iy rfl c4) rfl) (um ?_))
  rcases Co al with c8 | c8
  ·have r9 := bt r7 c8
   refine nB c8 (uv (Ae G4 rfl) (nB c8 (uv (An isAgg97 rfl (Has.own 0 rfl) rfl) (nB c8 (uv (A7 underlying97 rfl) (nB c8 ?_))))))
   obtain ⟨ao, aq, ah⟩ := AG r9
   refine cV call159 (HL aq) (uv (AW (Iy rfl c8) rfl) (um ?_))
   rcases Co ao with aa | aa
   ·have ar := bt ah aa
    refine nB aa (uv (Ae Hw rfl) (nB aa (uv (An isAgg33 rfl (Has.own 0 rfl) rfl) (nB aa (uv (A7 underlying33 rfl) (nB aa ?_))))))
    obtain ⟨au, av, ai⟩ := AG ar
    refine cV call159 (HL av) (uv (AW (Iy rfl aa) rfl) (um ?_))
    rcases Co au with ab | ab
    ·have aj := bt ai ab
     refine nB ab (uv (Ae GS rfl) (nB ab (uv (An isAgg98 rfl (Has.own 0 rfl) rfl) (nB ab (uv (A7 underlying98 rfl) (nB ab (uv (My rfl rfl) ?_)))))))
     refine uv (AW (Iy rfl ab) rfl) (um ?_)
     by_cases ad : (Az.length : Int) ≤ 12
     ·have aw := Bf aj ad
      refine nT ad (uv (Ae G4 rfl) (nT ad (uv (An isAgg97 rfl (Has.own 0 rfl) rfl) (nT ad ?_))))
      have af : HG Tryz.prog F 216 #[] #[] (BK 1 (BK 1 (iE .i64))) Value.bool (fun ak : (List (List Int)) => Fq ak) := ⟨call216, fun F2 h2 vs ak r ha hr => by obtain ⟨bj, bk, rfl, ax⟩ := ha; exact MP ax hr⟩
      obtain ⟨bl, ay, az⟩ := AG aw
      refine cV call215 (Pn ae af ay) (uv (AW (Bn rfl ad) rfl) ?_)
      refine ua (Aa ?_)
      refine kW kn (Ao (BU results167 ?_))
      obtain rfl := AL az
      exact rfl
     have ba := Bg aj ad
     refine fF ad (fF ad (fF ad ?_))
     refine uv (AH (A8 rfl ad) rfl) ?_
     refine ua (Aa ?_)
     refine kW kn (Ao (BU results167 ?_))
     obtain rfl := AL ba
     exact rfl
    have bb := bf ai ab
    refine fB ab (fB ab (fB ab (fB ab ?_)))
    refine uv (AH (Iy rfl ab) rfl) ?_
    refine um (AM (b' := false) 29 rfl rfl rfl rfl (AM (b' := false) 29 rfl rfl rfl rfl (AM (b' := false) 29 rfl rfl rfl rfl ?_)))
    refine uv (AH rfl rfl) ?_
    refine ua (Aa ?_)
    refine kW kn (Ao (BU results167 ?_))
    obtain rfl := AL bb
    exact rfl
   have bc := bf ah aa
   refine fB aa (fB aa (fB aa (fB aa ?_)))
   refine uv (AH (Iy rfl aa) rfl) ?_
   refine um (AM (b' := false) 23 rfl rfl rfl rfl (AM (b' := false) 23 rfl rfl rfl rfl (AM (b' := false) 23 rfl rfl rfl rfl (AM (b' := false) 23 rfl rfl rfl rfl ?_))))
   refine uv (AH rfl rfl) ?_
   refine um (AM (b' := false) 29 rfl rfl rfl rfl (AM (b' := false) 29 rfl rfl rfl rfl (AM (b' := false) 29 rfl rfl rfl rfl ?_)))
   refine uv (AH rfl rfl) ?_
   refine ua (Aa ?_)
   refine kW kn (Ao (BU results167 ?_))
   obtain rfl := AL bc
   exact rfl
  have bd := bf r7 c8
  refine fB c8 (fB c8 (fB c8 (fB c8 ?_)))
  refine uv (AH (Iy rfl c8) rfl) ?_
  refine um (AM (b' := false) 17 rfl rfl rfl rfl (AM (b' := false) 17 rfl rfl rfl rfl (AM (b' := false) 17 rfl rfl rfl rfl (AM (b' := false) 17 rfl rfl rfl rfl ?_))))
  refine uv (AH rfl rfl) ?_
  refine um (AM (b' := false) 23 rfl rfl rfl rfl (AM (b' := false) 23 rfl rfl rfl rfl (AM (b' := false) 23 rfl rfl rfl rfl (AM (b' := false) 23 rfl rfl rfl rfl ?_))))
  refine uv (AH rfl rfl) ?_
  refine um (AM (b' := false) 29 rfl rfl rfl rfl (AM (b' := false) 29 rfl rfl rfl rfl (AM (b' := false) 29 rfl rfl rfl rfl ?_)))
  refine uv (AH rfl rfl) ?_
  refine ua (Aa ?_)
  refine kW kn (Ao (BU results167 ?_))
  obtain rfl := AL bd
  exact rfl
 have bg := bf r3 c4
 refine fB c4 (fB c4 (fB c4 ?_))
 refine uv (AH (Iy rfl c4) rfl) ?_
 refine um (AM (b' := false) 11 rfl rfl rfl rfl (AM (b' := false) 11 rfl rfl rfl rfl (AM (b' := false) 11 rfl rfl rfl rfl (AM (b' := false) 11 rfl rfl rfl rfl ?_))))
 refine uv (AH rfl rfl) ?_
 refine um (AM (b' := false) 17 rfl rfl rfl rfl (AM (b' := false) 17 rfl rfl rfl rfl (AM (b' := false) 17 rfl rfl rfl rfl (AM (b' := false) 17 rfl rfl rfl rfl ?_))))
 refine uv (AH rfl rfl) ?_
 refine um (AM (b' := false) 23 rfl rfl rfl rfl (AM (b' := false) 23 rfl rfl rfl rfl (AM (b' := false) 23 rfl rfl rfl rfl (AM (b' := false) 23 rfl rfl rfl rfl ?_))))
 refine uv (AH rfl rfl) ?_
 refine um (AM (b' := false) 29 rfl rfl rfl rfl (AM (b' := false) 29 rfl rfl rfl rfl (AM (b' := false) 29 rfl rfl rfl rfl ?_)))
 refine uv (AH rfl rfl) ?_
 refine ua (Aa ?_)
 refine kW kn (Ao (BU results167 ?_))
 obtain rfl := AL bg
 exact rfl
theorem TP {r : Bool} (hr : KD n = some r) :
    Bl Tryz.prog 168 #[.int .i64 n] F (.bool r) := by
 refine sp func168 ntmps168 fun K _ _ => ?_
 rw [KD] at hr
 refine AN (ua (BX (um ?_)))
 refine uv (CR rfl rfl) (um ?_)
 by_cases c1 : n = (-1)
 ·have r2 := Bf hr c1
  refine fT c1 (fT c1 ?_)
  refine uv (AW (Bn rfl c1) rfl) ?_
  refine ua (Aa (Ao ?_))
  refine BU results168 ?_
  obtain rfl := AL r2
  exact rfl
 have r3 := Bg hr c1
 refine nF c1 (um (nF c1 ?_))
 obtain ⟨ok, h4, r5⟩ := AG r3
 refine cV call159 (HL h4) (uv (AH (A8 rfl c1) rfl) ?_)
 refine ua (Aa (Ao ?_))
 refine BU results168 ?_
 obtain rfl := AL r5
 exact rfl
set_option maxHeartbeats 1000000 in
theorem IE {s_ : List (Int × Int × Int)} {f : (Int × Int × Int) → Option Bool} (ab : Av 3 (Br (iE .i64) (Br (iE .i64) (iE .i64))) F B0 BY s_) (al : HG Tryz.prog F La KQ KW (Pu (Br (iE .i64) (Br (iE .i64) (iE .i64)))) Value.bool f) {r : Int} (hr : C6 s_ f = some r) :
    Bl Tryz.prog 247 #[.slice B0 s_.length BY, .func (.func La) KQ KW] F (.int .i64 r) := by
 refine sp func247 ntmps247 fun K _ _ => ?_
 rw [C6] at hr
 refine AN (ua (Aa ?_))
 refine A0 (fun e1 F1 L1 => DC = some r ∧ F = F1 ∧ L1 = [] ∧ e1.sub []) ?_ ?_
 ·refine AN (um ?_)
  refine uv (A7 underlying98 rfl) ?_
  refine um (Aa ?_)
  refine Ap ?_
  refine Bh (fun ao e1 F1 L1 => LA s_ ao fun tl k => BE f tl k = some r ∧ F = F1 ∧ L1 = [] ∧ e1.sub [(0, .slice B0 s_.length BY), (1, .func (.func La) KQ KW), (7, .int .i64 (s_.length : Int)), (8, .int .i64 k)]) _ (m0 kr ⟨_, _, rfl, BL.start _, hr, rfl, rfl, z4⟩) ?_
  rintro ao e1 _ _ ⟨tl, k, MM, ad, r3, rfl, rfl, au⟩
  refine AB _ au (AN (uv (Bb rfl rfl) ?_))
  refine Aa (As ?_)
  refine cQ (fun c6 => ?_) fun c6 => ?_
  ·obtain ⟨x, bb, rfl, av, g9, aw⟩ := BL.succ ad c6
   rw [BE] at r3
   refine Aq (As ?_)
   refine Ap ?_
   refine AN (um (ua (BX (um (um (um ?_))))))
   obtain ⟨J4, bc, bd, ax, ae, af, aa, ⟨_, _, rfl, rfl, ⟨_, _, rfl, rfl, rfl⟩⟩, ah, ai⟩ := Av.at (Au (Ac _) (Au (Ac _) (Ac _))) ab ([]) g9.1 av
   refine uv (AK underlying98 sizeOf132 rfl ae rfl g9) (uv (AS isAgg132 sizeOf132 rfl af aa (BB aa ah ai)) ?_)
   obtain ⟨ok, ay, aq⟩ := AG r3
   refine Em rfl al.1 rfl rfl rfl (al.2 _ (A3.refl _) _ _ _ ⟨_, rfl, ⟨_, _, rfl, rfl, ⟨_, _, rfl, rfl, rfl⟩⟩⟩ ay) (Aa ?_)
   refine A5 rfl (fun aj => ?_) (fun aj => ?_)
   ·have az := bt aq aj
    refine AN (um (ua (Aa (Ao (AA (Ah (Ah (AA (Ah ?_)))))))))
    refine BU results247 ?_
    obtain rfl := AL az
    exact rfl
   have ba := bf aq aj
   refine Aq (AD (id := 1) (Am ?_))
   refine uv (Bd rfl rfl (BL.Eg ad c6 (Av.lt ab))) ?_
   refine um (Aa ?_)
   subst MM; exact le kr ⟨_, _, rfl, aw, ba, rfl, rfl, z4⟩
  obtain rfl := BL.zero ad c6
  rw [BE] at r3
  refine AT (Af (Af ?_))
  refine Ay ?_
  exact mi kr ⟨r3, rfl, rfl, (sn _)⟩
 rintro e1 _ _ ⟨ar, rfl, rfl, ak⟩
 refine AB _ ak ?_
 rw [DC] at ar
 refine AN (ua (Aa (Ao ?_)))
 refine BU results247 ?_
 obtain rfl := AL ar
 exact rfl
theorem HZ {s_ : List (Int × Int × Int)} {f : (Int × Int × Int) → Option Bool} (aa : Av 3 (Br (iE .i64) (Br (iE .i64) (iE .i64))) F B0 BY s_) (ab : HG Tryz.prog F La KQ KW (Pu (Br (iE .i64) (Br (iE .i64) (iE .i64)))) Value.bool f) {r : Bool} (hr : Ca s_ f = some r) :
    Bl Tryz.prog 217 #[.slice B0 s_.length BY, .func (.func La) KQ KW] F (.bool r) := by
 refine sp func217 ntmps217 fun K _ _ => ?_
 rw [Ca] at hr
 refine AN (ua (BX (um (um ?_))))
 obtain ⟨n, h1, r2⟩ := AG hr
 refine cV call247 (IE aa ab h1) (uv (HQ rfl rfl) ?_)
 refine ua (Aa (Ao ?_))
 refine BU results217 ?_
 obtain rfl := AL r2
 exact rfl
theorem Ov {so : (Int × Int × Int) → Option Bool} (aa : F Ra = some (.cells #[.func (.func LJ) LC LD] 309 Sa)) (ab : HG Tryz.prog F LJ LC LD (Pu (Br (iE .i64) (Br (iE .i64) (iE .i64)))) Value.bool so) {r : Bool} (hr : GK hour DK Ba so = some r) :
    Bl Tryz.prog 218 #[.agg #[.int .i64 hour, .int .i64 DK, .int .i64 Ba], .pointer (some ⟨Ra, 0, none⟩)] F (.bool r) := by
 refine sp func218 ntmps218 fun K _ _ => ?_
 rw [GK] at hr
 refine AN ?_
 refine Bt rfl rfl ?_; intro b1 ad
 refine ua (BX ?_)
 refine uv (An isAgg309 rfl (Has.frozen aa) rfl) (uv (AS isAgg132 sizeOf132 rfl (Has.own 0 rfl) (CK rfl) rfl) ?_)
 obtain ⟨ok, h2, r3⟩ := AG hr
 refine Em rfl ab.1 rfl rfl rfl (ab.2 _ (A3.refl _) _ _ _ ⟨_, rfl, ⟨_, _, rfl, rfl, ⟨_, _, rfl, rfl, rfl⟩⟩⟩ h2) (uv (BC rfl) ?_)
 refine ua (Aa ?_)
 refine kW kn (Ao (BU results218 ?_))
 obtain rfl := AL r3
 exact rfl
theorem PX {l : List (Int × Int × Int)} {so : (Int × Int × Int) → Option Bool} (ad : Av 3 (Br (iE .i64) (Br (iE .i64) (iE .i64))) F Hp Hl l) (aa : HG Tryz.prog F LJ LC LD (Pu (Br (iE .i64) (Br (iE .i64) (iE .i64)))) Value.bool so) {r : Bool} (hr : Ib l so = some r) :
    Bl Tryz.prog 169 #[.slice Hp l.length Hl, .func (.func LJ) LC LD] F (.bool r) := by
 refine sp func169 ntmps169 fun K _ _ => ?_
 rw [Ib] at hr
 refine AN ?_
 refine Bt rfl rfl ?_; intro b1 af
 refine ua (BX (um ?_))
 refine uv (BP rfl rfl) ?_
 refine Bi 0 rfl af ?_; intro F2 ae ah
 refine AI rfl ?_
 replace ad := ad.mono (Au (Ac _) (Au (Ac _) (Ac _))) ae
 replace aa := aa.mono ae
 have ai : HG Tryz.prog F2 218 #[] #[.pointer (some ⟨b1, 0, none⟩)] (Pu (Br (iE .i64) (Br (iE .i64) (iE .i64)))) Value.bool (fun ab : (Int × Int × Int) => GK ab.1 ab.2.1 ab.2.2 so) := ⟨call218, fun F2 h2 vs ab r ha hr => by obtain ⟨_, rfl, ⟨_, _, rfl, rfl, ⟨_, _, rfl, rfl, rfl⟩⟩⟩ := ha; exact Ov (h2 _ _ ah) (aa.mono h2) hr⟩
 obtain ⟨ok, h6, r7⟩ := AG hr
 refine cV call217 (HZ ad ai h6) (uv (BC rfl) ?_)
 refine ua (Aa (Ao ?_))
 refine BU results169 ?_
 obtain rfl := AL r7
 exact rfl
theorem I1 (_h_hears : Av 1 (BK 1 (BK 1 (iE .i64))) F Aw Ax Al) (_h_readings : Av 1 (iE .i64) F AF AE Ak) (_h_cries : Av 3 (Br (iE .i64) (Br (iE .i64) (iE .i64))) F AR AQ Az) {r : Bool} (hr : EG Ad Ab Al Ak Az n = some r) :
    Bl Tryz.prog 101 #[.agg #[.int .i64 Ad, .int .i64 Ab, .slice Aw Al.length Ax, .slice AF Ak.length AE, .slice AR Az.length AQ], .int .i64 n] F (.bool r) := by
 refine sp func101 ntmps101 fun K _ _ => ?_
 rw [EG] at hr
 refine AN ?_
 refine Bt rfl rfl ?_; intro b1 aa
 refine ua (BX (um ?_))
 refine uv (Ae LU rfl) (uv (An isAgg3 rfl (Has.own 0 rfl) rfl) ?_)
 obtain ⟨g2, r3⟩ := A1 hr
 refine uv (Fa rfl rfl g2) ?_
 obtain ⟨ok, h4, r5⟩ := AG r3
 refine cV call159 (HL h4) ?_
 refine ua (Aa ?_)
 refine kW kn (Ao (BU results101 ?_))
 obtain rfl := AL r5
 exact rfl
theorem L9 (_h_hears : Av 1 (BK 1 (BK 1 (iE .i64))) F Aw Ax Al) (_h_readings : Av 1 (iE .i64) F AF AE Ak) (_h_cries : Av 3 (Br (iE .i64) (Br (iE .i64) (iE .i64))) F AR AQ Az) {r : Bool} (hr : GP Ad Ab Al Ak Az h = some r) :
    Bl Tryz.prog 102 #[.agg #[.int .i64 Ad, .int .i64 Ab, .slice Aw Al.length Ax, .slice AF Ak.length AE, .slice AR Az.length AQ], .int .i64 h] F (.bool r) := by
 refine sp func102 ntmps102 fun K _ _ => ?_
 rw [GP] at hr
 refine AN ?_
 refine Bt rfl rfl ?_; intro b1 aa
 refine ua (BX (um ?_))
 refine uv (Ae Hw rfl) (uv (An isAgg33 rfl (Has.own 0 rfl) rfl) (uv (A7 underlying33 rfl) ?_))
 obtain ⟨g2, r3⟩ := A1 hr
 refine uv (Fa rfl rfl g2) ?_
 obtain ⟨ok, h4, r5⟩ := AG r3
 refine cV call159 (HL h4) ?_
 refine ua (Aa ?_)
 refine kW kn (Ao (BU results102 ?_))
 obtain rfl := AL r5
 exact rfl
set_option maxHeartbeats 1000000 in
theorem Q5 {ah : Nat × Nat} (af : F Il = some (.cells #[.int .i64 Ad, .int .i64 Ab, .slice Aw Al.length Ax, .slice AF Ak.length AE, .slice AR Az.length AQ] 100 ah)) (ab : Av 1 (BK 1 (BK 1 (iE .i64))) F Aw Ax Al) (aa : Av 1 (iE .i64) F AF AE Ak) (ad : Av 3 (Br (iE .i64) (Br (iE .i64) (iE .i64))) F AR AQ Az) {r : Bool} (hr : Jj hour DK Ba Ad Ab Al Ak Az = some r) :
    Bl Tryz.prog 170 #[.agg #[.int .i64 hour, .int .i64 DK, .int .i64 Ba], .pointer (some ⟨Il, 0, none⟩)] F (.bool r) := by
 refine sp func170 ntmps170 fun K _ _ => ?_
 rw [Jj] at hr
 refine AN ?_
 refine Bt rfl rfl ?_; intro b1 ar
 refine ua (BX ?_)
 refine uv (AS isAgg100 sizeOf100 rfl (Has.frozen af) (CK rfl) rfl) (uv (Ae Te rfl) (uv (An isAgg3 rfl (Has.own 0 rfl) rfl) ?_))
 obtain ⟨ok, h2, r3⟩ := AG hr
 refine cV call102 (L9 ab aa ad h2) (um ?_)
 rcases Co ok with c4 | c4
 ·have r5 := bt r3 c4
  refine nB c4 (uv (Ae Tf rfl) (nB c4 (uv (An isAgg3 rfl (Has.own 0 rfl) rfl) (nB c4 (uv (Ae G4 rfl) (nB c4 (uv (An isAgg97 rfl (Has.frozen af) rfl) ?_)))))))
  refine nB c4 (uv (A7 underlying97 rfl) (nB c4 ?_))
  obtain ⟨g6, r7⟩ := A1 r5
  refine uv (Fa rfl rfl g6) (nB c4 ?_)
  obtain ⟨ai, h8, r9⟩ := AG r7
  refine cV call159 (HL h8) (uv (AW (Iy rfl c4) rfl) (um ?_))
  rcases Co ai with ae | ae
  ·have aj := bt r9 ae
   refine nB ae (uv (AS isAgg100 sizeOf100 rfl (Has.frozen af) (CK rfl) rfl) (nB ae (uv (Ae TH rfl) (nB ae (uv (An isAgg3 rfl (Has.own 0 rfl) rfl) (nB ae ?_))))))
   obtain ⟨au, ak, al⟩ := AG aj
   refine cV call101 (I1 ab aa ad ak) (uv (AW (Iy rfl ae) rfl) ?_)
   refine ua (Aa ?_)
   refine kW kn (Ao (BU results170 ?_))
   obtain rfl := AL al
   exact rfl
  have ao := bf r9 ae
  refine fB ae (fB ae (fB ae (fB ae ?_)))
  refine uv (AH (Iy rfl ae) rfl) ?_
  refine ua (Aa ?_)
  refine kW kn (Ao (BU results170 ?_))
  obtain rfl := AL ao
  exact rfl
 have aq := bf r3 c4
 refine fB c4 (fB c4 (fB c4 (fB c4 (fB c4 (fB c4 (fB c4 ?_))))))
 refine uv (AH (Iy rfl c4) rfl) ?_
 refine um (AM (b' := false) 17 rfl rfl rfl rfl (AM (b' := false) 17 rfl rfl rfl rfl (AM (b' := false) 17 rfl rfl rfl rfl (AM (b' := false) 17 rfl rfl rfl rfl ?_))))
 refine uv (AH rfl rfl) ?_
 refine ua (Aa ?_)
 refine kW kn (Ao (BU results170 ?_))
 obtain rfl := AL aq
 exact rfl
set_option maxHeartbeats 1000000 in
theorem Mp (ab : Av 1 (BK 1 (BK 1 (iE .i64))) F Aw Ax Al) (aa : Av 1 (iE .i64) F AF AE Ak) (ad : Av 3 (Br (iE .i64) (Br (iE .i64) (iE .i64))) F AR AQ Az) {r : Int} (hr : I0 Ad Ab Al Ak Az = some r) :
    Bl Tryz.prog 100 #[.agg #[.int .i64 Ad, .int .i64 Ab, .slice Aw Al.length Ax, .slice AF Ak.length AE, .slice AR Az.length AQ]] F (.int .i64 r) := by
 refine sp func100 ntmps100 fun K _ _ => ?_
 rw [I0] at hr
 refine AN ?_
 refine Bt rfl rfl ?_; intro b1 cn
 refine ua (Aa (As (AN ?_)))
 refine uv (AS isAgg100 sizeOf100 rfl (Has.own 0 rfl) (CK rfl) rfl) ?_
 obtain ⟨ok, h2, r3⟩ := AG hr
 refine cV call167 (NN ab aa ad h2) (uv (BC rfl) (Aa ?_))
 refine A5 rfl (fun c4 => ?_) (fun c4 => ?_)
 ·have r5 := bt r3 c4
  refine AN (ua (Aa ?_))
  refine kW kn ?_
  refine Ao (Ah ?_)
  refine BU results100 ?_
  obtain rfl := AL r5
  exact rfl
 have r6 := bf r3 c4
 refine Aq ?_
 refine A0 (fun e1 F1 L1 => JZ Ad Ab Al Ak Az = some r ∧ F = F1 ∧ L1 = [(b1, ce #[.int .i64 Ad, .int .i64 Ab, .slice Aw Al.length Ax, .slice AF Ak.length AE, .slice AR Az.length AQ] 100)] ∧ e1.sub [(1, .pointer (some ⟨b1, 0, none⟩))]) ?_ ?_
 ·refine AN (uv (Ae G4 rfl) (uv (An isAgg97 rfl (Has.own 0 rfl) rfl) (uv (A7 underlying97 rfl) ?_)))
  refine um (Aa ?_)
  refine Ap ?_
  refine Bh (fun bp e1 F1 L1 => LA Al bp fun tl k => Ek Ad Ab Al Ak Az tl = some r ∧ F = F1 ∧ L1 = [(b1, ce #[.int .i64 Ad, .int .i64 Ab, .slice Aw Al.length Ax, .slice AF Ak.length AE, .slice AR Az.length AQ] 100)] ∧ e1.sub [(1, .pointer (some ⟨b1, 0, none⟩)), (12, .slice Aw Al.length Ax), (13, .int .i64 (Al.length : Int)), (14, .int .i64 k)]) _ (m0 kr ⟨_, _, rfl, BL.start _, r6, rfl, rfl, z4⟩) ?_
  rintro bp e1 _ _ ⟨tl, k, cp, al, r9, rfl, rfl, ao⟩
  refine AB _ ao (AN (uv (Bb rfl rfl) ?_))
  refine Aa (As ?_)
  refine cQ (fun ai => ?_) fun ai => ?_
  ·obtain ⟨x, bq, rfl, aq, br, ar⟩ := BL.succ al ai
   rw [Ek] at r9
   refine Aq ?_
   refine A0 (fun e1 F1 L1 => LM (Ek Ad Ab Al Ak Az bq) = some r ∧ F = F1 ∧ L1 = [(b1, ce #[.int .i64 Ad, .int .i64 Ab, .slice Aw Al.length Ax, .slice AF Ak.length AE, .slice AR Az.length AQ] 100)] ∧ e1.sub [(1, .pointer (some ⟨b1, 0, none⟩)), (12, .slice Aw Al.length Ax), (13, .int .i64 (Al.length : Int)), (14, .int .i64 k)]) ?_ ?_
   ·refine Ap (AN ?_)
    obtain ⟨dm, dn, dp, cq, au, av, bu, ⟨ct, cu, rfl, bw⟩, cv, aw⟩ := Av.at (Ar (Ar (Ac _))) ab ([(b1, ce #[.int .i64 Ad, .int .i64 Ab, .slice Aw Al.length Ax, .slice AF Ak.length AE, .slice AR Az.length AQ] 100)]) br.1 aq
    refine uv (AK underlying97 sizeOf36 rfl au rfl br) (uv (An isAgg36 rfl av (aw 0 (by decide))) ?_)
    refine ua (BX (um ?_))
    refine uv (A7 underlying36 rfl) ?_
    refine um (Aa ?_)
    refine Ap ?_
    refine Bh (fun bx e1 F1 L1 => LA x bx fun bz k2 => Gv Ad Ab Al Ak Az (Ek Ad Ab Al Ak Az bq) bz = some r ∧ F = F1 ∧ L1 = [(b1, ce #[.int .i64 Ad, .int .i64 Ab, .slice Aw Al.length Ax, .slice AF Ak.length AE, .slice AR Az.length AQ] 100)] ∧ e1.sub [(1, .pointer (some ⟨b1, 0, none⟩)), (12, .slice Aw Al.length Ax), (13, .int .i64 (Al.length : Int)), (14, .int .i64 k), (18, .slice ct x.length cu), (19, .int .i64 (x.length : Int)), (20, .int .i64 k2)]) _ (m0 kr ⟨_, _, rfl, BL.start _, r9, rfl, rfl, z7⟩) ?_
    rintro bx e1 _ _ ⟨bz, k2, ax, ae, aj, rfl, rfl, ay⟩
    refine AB _ ay (AN (uv (Bb rfl rfl) ?_))
    refine Aa (As ?_)
    refine cQ (fun ak => ?_) fun ak => ?_
    ·obtain ⟨x2, dq, rfl, az, ca, ba⟩ := BL.succ ae ak
     rw [Gv] at aj
     refine Aq (As ?_)
     refine Ap (AN ?_)
     obtain ⟨dr, dt, du, cw, bb, bc, cb, ⟨dv, dw, rfl, cx⟩, cy, bd⟩ := Av.at (Ar (Ac _)) bw ([(b1, ce #[.int .i64 Ad, .int .i64 Ab, .slice Aw Al.length Ax, .slice AF Ak.length AE, .slice AR Az.length AQ] 100)]) ca.1 az
     refine uv (AK underlying36 sizeOf33 rfl bb rfl ca) (uv (An isAgg33 rfl bc (bd 0 (by decide))) ?_)
     refine ua (BX ?_)
     refine uv (AS isAgg100 sizeOf100 rfl (Has.own 0 rfl) (CK rfl) rfl) (um ?_)
     obtain ⟨n, cz, cd⟩ := AG aj
     refine cV call103 (K8 ab aa ad cx cz) ?_
     refine ua (BX (um ?_))
     refine uv (B7 rfl rfl) (Aa ?_)
     refine cQ (fun bg => ?_) fun bg => ?_
     ·have da := Bf cd bg
      refine AN (um (ua (Aa ?_)))
      refine kW kn ?_
      refine Ao (AA (Ah (Ah (AA (AA (Ah (Ah (AA (Ah ?_)))))))))
      refine BU results100 ?_
      obtain rfl := AL da
      exact rfl
     have db := Bg cd bg
     refine Aq (AD (id := 3) (Am ?_))
     refine uv (Bd rfl rfl (BL.Eg ae ak (Av.lt bw))) ?_
     refine um (Aa ?_)
     subst ax; exact le kr ⟨_, _, rfl, ba, db, rfl, rfl, z7⟩
    obtain rfl := BL.zero ae ak
    rw [Gv] at aj
    refine AT (Af (Af ?_))
    refine Ay (AD (id := 1) ?_)
    exact mi kr ⟨aj, rfl, rfl, z4⟩
   rintro e1 _ _ ⟨cf, rfl, rfl, bh⟩
   refine AB _ bh ?_
   rw [LM] at cf
   refine Am (uv (Bd rfl rfl (BL.Eg al ai (Av.lt ab))) ?_)
   refine um (Aa ?_)
   subst cp; exact le kr ⟨_, _, rfl, ar, cf, rfl, rfl, z4⟩
  obtain rfl := BL.zero al ai
  rw [Ek] at r9
  refine AT (Af (Af ?_))
  refine Ay ?_
  exact mi kr ⟨r9, rfl, rfl, z1⟩
 rintro e1 _ _ ⟨cg, rfl, rfl, bj⟩
 refine AB _ bj ?_
 rw [JZ] at cg
 refine As (Ap (AN (uv (Ae Hw rfl) (uv (An isAgg33 rfl (Has.own 0 rfl) rfl) ?_))))
 have bk : HG Tryz.prog F 168 #[] #[] (iE .i64) Value.bool (fun af : Int => KD af) := ⟨call168, fun F2 h2 vs af r ha hr => by obtain rfl := ha; exact TP hr⟩
 obtain ⟨dx, dd, cj⟩ := AG cg
 refine cV call107 (JX aa bk dd) (uv (BC rfl) ?_)
 refine ua (Aa ?_)
 refine A5 rfl (fun bl => ?_) (fun bl => ?_)
 ·have de := bt cj bl
  refine AN (ua (Aa ?_))
  refine kW kn ?_
  refine Ao (AA (Ah ?_))
  refine BU results100 ?_
  obtain rfl := AL de
  exact rfl
 have df := bf cj bl
 refine AN (uv (Ae GS rfl) (uv (An isAgg98 rfl (Has.own 0 rfl) rfl) (uv (BP rfl rfl) ?_)))
 refine Bi 0 rfl cn ?_; intro dg ah bm
 refine AI rfl ?_
 replace ab := ab.mono (Ar (Ar (Ac _))) ah
 replace aa := aa.mono (Ac _) ah
 replace ad := ad.mono (Au (Ac _) (Au (Ac _) (Ac _))) ah
 have bn : HG Tryz.prog dg 170 #[] #[.pointer (some ⟨b1, 0, none⟩)] (Pu (Br (iE .i64) (Br (iE .i64) (iE .i64)))) Value.bool (fun af : (Int × Int × Int) => Jj af.1 af.2.1 af.2.2 Ad Ab Al Ak Az) := ⟨call170, fun F2 h2 vs af r ha hr => by obtain ⟨_, rfl, ⟨_, _, rfl, rfl, ⟨_, _, rfl, rfl, rfl⟩⟩⟩ := ha; exact Q5 (h2 _ _ bm) (ab.mono (Ar (Ar (Ac _))) h2) (aa.mono (Ac _) h2) (ad.mono (Au (Ac _) (Au (Ac _) (Ac _))) h2) hr⟩
 obtain ⟨dy, dh, ck⟩ := AG df
 refine cV call169 (PX ad bn dh) (uv (BC rfl) ?_)
 refine ua (Aa ?_)
 refine A5 rfl (fun bo => ?_) (fun bo => ?_)
 ·have di := bt ck bo
  refine AN (ua (Aa (Ao (AA (Ah ?_)))))
  refine BU results100 ?_
  obtain rfl := AL di
  exact rfl
 have dk := bf ck bo
 refine Aq (AD (id := 4) (AN (ua (Aa (Ao ?_)))))
 refine BU results100 ?_
 obtain rfl := AL dk
 exact rfl
set_option maxHeartbeats 1000000 in
theorem N1 (ab : Av 1 (BK 1 (BK 1 (iE .i64))) F Aw Ax Al) (aa : Av 1 (iE .i64) F AF AE Ak) (ad : Av 3 (Br (iE .i64) (Br (iE .i64) (iE .i64))) F AR AQ Az) {r : Option (Int × Int × (List (List (List Int))) × (List Int) × (List (Int × Int × Int)))} {r2 : Int} (hr : I9 Ad Ab Al Ak Az = some (r, r2)) :
    SH.Spec Tryz.prog 157 #[.agg #[.int .i64 Ad, .int .i64 Ab, .slice Aw Al.length Ax, .slice AF Ak.length AE, .slice AR Az.length AQ]] F [] fun F' L' v => ∃ (rv : Value), v = .tuple #[rv, .int .i64 r2] ∧ L' = [] ∧ PU 247 (Br (iE .i64) (Br (iE .i64) (Br (BK 1 (BK 1 (BK 1 (iE .i64)))) (Br (BK 1 (iE .i64)) (BK 3 (Br (iE .i64) (Br (iE .i64) (iE .i64)))))))) F' rv r := by
 refine sp func157 ntmps157 fun K _ _ => ?_
 rw [I9] at hr
 refine AN ?_
 refine Bt rfl rfl ?_; intro b1 ai
 refine ua (ua (Aa (As (AN ?_))))
 refine uv (AS isAgg100 sizeOf100 rfl (Has.own 0 rfl) (CK rfl) rfl) ?_
 obtain ⟨n, h2, r3⟩ := AG hr
 refine cV call100 (Mp ab aa ad h2) ?_
 refine ua (BX (um ?_))
 refine uv (B7 rfl rfl) (Aa ?_)
 refine cQ (fun c4 => ?_) fun c4 => ?_
 ·have r5 := Bf r3 c4
  refine AN (um (ua (ua (Aa ?_))))
  refine kW kn ?_
  refine Ao (Ah ?_)
  refine CT results157 (A6 rfl) (A6 rfl) (sr) ?_
  obtain ⟨rfl, rfl⟩ := D2 r5
  exact ⟨_, rfl, rfl, rfl⟩
 have r6 := Bg r3 c4
 refine Aq (AN ?_)
 refine uv (AS isAgg100 sizeOf100 rfl (Has.own 0 rfl) (CK rfl) rfl) ?_
 refine uv (BH (v := .agg #[.int .i64 Ad, .int .i64 Ab, .slice Aw Al.length Ax, .slice AF Ak.length AE, .slice AR Az.length AQ]) rfl (by intro w; kernel_rfl)) ?_
 refine Bt rfl rfl ?_; intro b7 ah
 refine ua (ua (Aa ?_))
 refine Cs 0 rfl ah ?_; intro F8 ae af
 refine E7 (L' := [(b1, ce #[.int .i64 Ad, .int .i64 Ab, .slice Aw Al.length Ax, .slice AF Ak.length AE, .slice AR Az.length AQ] 100)]) rfl ?_
 replace ab := ab.mono (Ar (Ar (Ac _))) ae
 replace aa := aa.mono (Ac _) ae
 replace ad := ad.mono (Au (Ac _) (Au (Ac _) (Ac _))) ae
 refine kW kn (Ao (CT results157 (A6 rfl) (A6 rfl) (sr) ?_))
 obtain ⟨rfl, rfl⟩ := D2 r6
 exact ⟨_, rfl, rfl, ⟨_, _, _, rfl, af, ⟨_, _, rfl, rfl, ⟨_, _, rfl, rfl, ⟨_, _, rfl, ⟨_, _, rfl, ab⟩, ⟨_, _, rfl, ⟨_, _, rfl, aa⟩, ⟨_, _, rfl, ad⟩⟩⟩⟩⟩⟩⟩
set_option maxHeartbeats 1000000 in
theorem Nd (af : Av 1 (BK 1 (BK 1 (iE .i64))) F Aw Ax Al) (aa : Av 1 (iE .i64) F AF AE Ak) (ah : Av 3 (Br (iE .i64) (Br (iE .i64) (iE .i64))) F AR AQ Az) {r : Option (Int × Int × (List (List (List Int))) × (List Int) × (List (Int × Int × Int)))} {r2 : List ((List Bool) × (List Int))} {r3 : Int} (hr : JT Ad Ab Al Ak Az = some (r, r2, r3)) :
    SH.Spec Tryz.prog 89 #[.agg #[.int .i64 Ad, .int .i64 Ab, .slice Aw Al.length Ax, .slice AF Ak.length AE, .slice AR Az.length AQ]] F [] fun F' L' v => ∃ (rv : Value) (az : Option Addr) (ba : Nat) (bb : Nat) (bc : LH), v = .tuple #[rv, .slice az ba bb, .int .i64 r3] ∧ L' = bc ++ [] ∧ PU 247 (Br (iE .i64) (Br (iE .i64) (Br (BK 1 (BK 1 (BK 1 (iE .i64)))) (Br (BK 1 (iE .i64)) (BK 3 (Br (iE .i64) (Br (iE .i64) (iE .i64)))))))) F' rv r ∧ Be 0 223 25 (Br (IZ 24 cB) (BK 1 (iE .i64))) F' az ba bb r2 bc := by
 refine sp func89 ntmps89 fun K _ _ => ?_
 rw [JT] at hr
 refine AN ?_
 refine Bt rfl rfl ?_; intro b1 cd
 refine ua (ua (ua (BX ?_)))
 refine uv (AS isAgg100 sizeOf100 rfl (Has.own 0 rfl) (CK rfl) rfl) ?_
 obtain ⟨d, n, h2, r4⟩ := Es hr
 refine c0 call157 (N1 af aa ah h2) ?_; rintro _ F5 _ cf cg ⟨v9, rfl, rfl, au⟩
 refine AI (ln rfl) ?_
 refine um (ox rfl rfl rfl (ox rfl rfl rfl (ua (ua (Aa (As (AN (um ?_))))))))
 refine uv (B7 rfl rfl) (Aa ?_)
 refine cQ (fun av => ?_) fun av => ?_
 ·have bh := Bf r4 av
  refine AN (um (ua (ua (ua (Aa ?_)))))
  refine kW kn ?_
  refine Ao (Ah ?_)
  refine M8 results89 (A6 rfl) (A6 rfl) (A6 rfl) (sr) ?_
  obtain ⟨rfl, rfl, rfl⟩ := Kf bh
  exact ⟨_, _, _, _, [], rfl, rfl, rfl, Be.nil _ _ _ _ _⟩
 have bj := Bg r4 av
 refine Aq (AN (um ?_))
 obtain ⟨Bp, ae, ak, ab, al, bk, bl⟩ := Rd bj
 have bd := au; rw [bk] at bd; obtain ⟨bm, cj, bn, aw, ad, ⟨_, _, rfl, rfl, ⟨_, _, rfl, rfl, ⟨_, _, rfl, ⟨bo, bp, rfl, ao⟩, ⟨_, _, rfl, ⟨bq, br, rfl, aq⟩, ⟨bu, bw, rfl, ar⟩⟩⟩⟩⟩⟩ := bd; subst aw
 have ad : F5 bm = some (.cells #[.int .i64 Bp, .int .i64 ae, .slice bo ak.length bp, .slice bq ab.length br, .slice bu al.length bw] 247 bn) := ad
 obtain ⟨l, bx, bg⟩ := AG bl
 refine c0 call109 (Kq ad ao aq ar bx) ?_; rintro _ ck _ ai ax ⟨cn, cp, cq, bz, rfl, rfl, aj⟩
 replace ao := ao.mono (Ar (Ar (Ac _))) ai
 replace aq := aq.mono (Ac _) ai
 replace ar := ar.mono (Au (Ac _) (Au (Ac _) (Ac _))) ai
 replace ad := ai _ _ ad
 replace aj := aj.new fun p hp => ax p (by simp [hp])
 refine AI (lp (ln rfl)) (kO (kf (fS fO) kr) ?_)
 refine ua (Aa (As (AN (um ?_))))
 refine uv ((A7 underlying216 rfl).i (Be.Kw aj)) (uv (CR rfl rfl) (Aa ?_))
 refine cQ (fun ay => ?_) fun ay => ?_
 ·have ca := Bf bg ay
  refine AN (ua (ua (ua (Aa ?_))))
  refine kW kn ?_
  refine Ao (Ah ?_)
  refine M8 results89 (A6 rfl) (A6 rfl) (A6 rfl) (sr) ?_
  obtain ⟨rfl, rfl, rfl⟩ := Kf ca
  exact ⟨_, _, _, _, [], rfl, rfl, rfl, Be.nil _ _ _ _ _⟩
 have cb := Bg bg ay
 refine Aq (AN (um (um (ua (ua (ua (Aa ?_)))))))
 refine kW (kd kr) (Ao (M8 results89 (A6 rfl) (A6 rfl) (A6 rfl) (sr) ?_))
 obtain ⟨rfl, rfl, rfl⟩ := Kf cb
 exact ⟨_, _, _, _, _, rfl, rfl, ⟨_, _, _, rfl, ad, ⟨_, _, rfl, rfl, ⟨_, _, rfl, rfl, ⟨_, _, rfl, ⟨_, _, rfl, ao⟩, ⟨_, _, rfl, ⟨_, _, rfl, aq⟩, ⟨_, _, rfl, ar⟩⟩⟩⟩⟩⟩, aj.any⟩
set_option maxHeartbeats 1000000 in
theorem MH (aq : Av 1 (BK 1 (BK 1 (iE .i64))) F Aw Ax Al) (ah : Av 1 (iE .i64) F AF AE Ak) (ar : Av 3 (Br (iE .i64) (Br (iE .i64) (iE .i64))) F AR AQ Az) {r : List (List Int)} {r2 : Int} (hr : HM Ad Ab Al Ak Az = some (r, r2)) :
    SH.Spec Tryz.prog 31 #[.agg #[.int .i64 Ad, .int .i64 Ab, .slice Aw Al.length Ax, .slice AF Ak.length AE, .slice AR Az.length AQ]] F [] fun F' L' v => ∃ (ra : Option Addr) (rc : Nat), v = .tuple #[.slice ra r.length rc, .int .i64 r2] ∧ L' = [] ∧ Av 1 (BK 1 (iE .i64)) F' ra rc r := by
 refine sp func31 ntmps31 fun K _ _ => ?_
 rw [HM] at hr
 refine AN ?_
 refine Bt rfl rfl ?_; intro b1 jf
 refine ua (ua (BX ?_))
 refine uv (AS (cs := #[.int .i64 Ad, .int .i64 Ab, .slice Aw Al.length Ax, .slice AF Ak.length AE, .slice AR Az.length AQ]) isAgg100 sizeOf100 rfl (Has.own 0 rfl) (CK rfl) rfl) ?_
 obtain ⟨d, l, n, h2, r3⟩ := E5 hr
 refine c0 call89 (Nd aq ah ar h2) ?_; rintro _ F4 _ jg gz ⟨v8, ax, ay, az, ab, rfl, rfl, jh, ae⟩
 replace ae := ae.new fun p hp => gz p (by simp [hp])
 refine AI (lp (ln rfl)) (kO (kf (fS fO) kr) ?_)
 refine um (ox rfl rfl rfl (ox rfl rfl rfl (ox rfl rfl rfl (ua (ua (ua (Aa (As (AN ?_)))))))))
 refine um (uv (B7 rfl rfl) (Aa ?_))
 refine cQ (fun dw => ?_) fun dw => ?_
 ·have ia := Bf r3 dw
  refine AN (um (ua (ua (Aa ?_))))
  refine kW kn ?_
  refine Ao (Ah ?_)
  refine CT results31 (A6 rfl) (A6 rfl) (sr) ?_
  obtain ⟨rfl, rfl⟩ := D2 ia
  exact ⟨_, _, rfl, rfl, Av.nil _ _ _⟩
 have ib := Bg r3 dw
 refine Aq (AN ?_)
 refine uv (Ae Jz rfl) (uv (An isAgg3 rfl (Has.own 0 rfl) rfl) ?_)
 obtain ⟨ic, ie⟩ := A1 ib
 obtain ⟨l2, ig, ij⟩ := CH ie
 refine Mx (R := Tz) (z0 := (none, 0, 0)) (zs := List.replicate (Ad : Int).toNat (none, 0, 0)) rfl Vj (by decide) Jl (fun _ => rfl) rfl ic rfl (fun _ => .c .n) ?_; intro ai aa bq dx
 have br : JF K.w0.heap.size 123 124 1 (iE .i64) F4 ai aa aa l2 bq := JF.made dx ig
 refine ua (Aa ?_)
 obtain ⟨out, ik, fv⟩ := AG ij
 refine A0 (fun e1 F1 L1 => ∃ (bh : LH), F4 = F1 ∧ L1 = (bh ++ []) ∧ e1.sub [(7, .slice ai aa aa)] ∧ JF K.w0.heap.size 123 124 1 (iE .i64) F1 ai aa aa out bh) ?_ ?_
 ·clear fv
  refine AN (um ?_)
  refine uv ((A7 underlying103 rfl).i (JF.Kw br)) ?_
  refine um (Aa ?_)
  refine Ap ?_
  obtain ⟨il, im⟩ := A1 ik
  refine Bh (fun di e1 F1 L1 => ∃ (k : Int), Dc 0 (l2.length : Int) k di ∧ ∃ (BD : List (List Int)) (ak : LH), D6 Ab l di k BD = some out ∧ F4 = F1 ∧ L1 = ((b1, ce #[.int .i64 Ad, .int .i64 Ab, .slice Aw Al.length Ax, .slice AF Ak.length AE, .slice AR Az.length AQ] 100) :: (ab ++ (ak ++ []))) ∧ e1.sub [(1, .pointer (some ⟨b1, 0, none⟩)), (5, .slice ax ay az), (7, .slice ai aa aa), (27, .int .i64 (l2.length : Int)), (28, .int .i64 k)] ∧ JF K.w0.heap.size 123 124 1 (iE .i64) F1 ai aa aa BD ak) _ (m0 (kc (kg (fS fP) kr)) ⟨_, Dc.start _ _, l2, bq, im, rfl, rfl, z5, br⟩) ?_
  rintro di e1 _ _ ⟨k, bj, BD, ak, dk, rfl, rfl, dy, bu⟩
  refine AB _ dy (AN (uv (Bb rfl rfl) ?_))
  refine Aa (As ?_)
  refine cQ (fun dm => ?_) fun dm => ?_
  ·obtain ⟨di, rfl, dz⟩ := Dc.succ bj dm
   rw [D6] at dk
   refine Aq ?_
   obtain ⟨bk, iq, fw⟩ := AG dk
   refine A0 (fun e1 F1 L1 => ∃ (au : LH), F4 = F1 ∧ L1 = ((b1, ce #[.int .i64 Ad, .int .i64 Ab, .slice Aw Al.length Ax, .slice AF Ak.length AE, .slice AR Az.length AQ] 100) :: (ab ++ (au ++ []))) ∧ e1.sub [(1, .pointer (some ⟨b1, 0, none⟩)), (5, .slice ax ay az), (7, .slice ai aa aa), (27, .int .i64 (l2.length : Int)), (28, .int .i64 k)] ∧ JF K.w0.heap.size 123 124 1 (iE .i64) F1 ai aa aa bk au) ?_ ?_
   ·clear fw
    refine Ap ?_
    refine AN (um (ua (BX ?_)))
    refine uv (Ae LU rfl) (uv (An isAgg3 rfl (Has.own 0 rfl) rfl) ?_)
    refine um (Aa ?_)
    refine Ap ?_
    obtain ⟨ir, iu⟩ := A1 iq
    refine Bh (fun dn e1 F1 L1 => ∃ (k2 : Int), Dc 0 Ab k2 dn ∧ ∃ (bl : List (List Int)) (ad : LH), D8 l k dn k2 bl = some bk ∧ F4 = F1 ∧ L1 = ((b1, ce #[.int .i64 Ad, .int .i64 Ab, .slice Aw Al.length Ax, .slice AF Ak.length AE, .slice AR Az.length AQ] 100) :: (ab ++ (ad ++ []))) ∧ e1.sub [(1, .pointer (some ⟨b1, 0, none⟩)), (5, .slice ax ay az), (7, .slice ai aa aa), (8, .int .i64 k), (27, .int .i64 (l2.length : Int)), (28, .int .i64 k), (32, .int .i64 Ab), (33, .int .i64 k2)] ∧ JF K.w0.heap.size 123 124 1 (iE .i64) F1 ai aa aa bl ad) _ (m0 kr ⟨_, Dc.start _ _, BD, ak, iu, rfl, rfl, z8, bu⟩) ?_
    rintro dn e1 _ _ ⟨k2, bm, bl, ad, dp, rfl, rfl, eb, bn⟩
    refine AB _ eb (AN (uv (Bb rfl rfl) ?_))
    refine Aa (As ?_)
    refine cQ (fun dq => ?_) fun dq => ?_
    ·obtain ⟨dn, rfl, ec⟩ := Dc.succ bm dq
     rw [D8] at dp
     refine Aq ?_
     obtain ⟨bw, iv, fx⟩ := AG dp
     refine A0 (fun e1 F1 L1 => ∃ (av : LH), F4 = F1 ∧ L1 = ((b1, ce #[.int .i64 Ad, .int .i64 Ab, .slice Aw Al.length Ax, .slice AF Ak.length AE, .slice AR Az.length AQ] 100) :: (ab ++ (av ++ []))) ∧ e1.sub [(1, .pointer (some ⟨b1, 0, none⟩)), (5, .slice ax ay az), (7, .slice ai aa aa), (8, .int .i64 k), (27, .int .i64 (l2.length : Int)), (28, .int .i64 k), (32, .int .i64 Ab), (33, .int .i64 k2)] ∧ JF K.w0.heap.size 123 124 1 (iE .i64) F1 ai aa aa bw av) ?_ ?_
     ·clear fx
      refine Ap ?_
      refine AN (um (ua (BX (ua (Aa ?_)))))
      obtain ⟨many, iw, Eg⟩ := AG iv
      refine jE (((b1, ce #[.int .i64 Ad, .int .i64 Ab, .slice Aw Al.length Ax, .slice AF Ak.length AE, .slice AR Az.length AQ] 100) :: (ab ++ (ad ++ [])))) [(1, .pointer (some ⟨b1, 0, none⟩)), (5, .slice ax ay az), (7, .slice ai aa aa), (8, .int .i64 k), (10, .int .i64 many), (27, .int .i64 (l2.length : Int)), (28, .int .i64 k), (32, .int .i64 Ab), (33, .int .i64 k2)] ?_ ?_
      ·clear Eg
       refine AN (um ?_)
       refine uv ((A7 underlying216 rfl).i (Be.Kw ae)) ?_
       refine um (Aa ?_)
       refine Ap ?_
       refine Bh (fun fy e1 F1 L1 => LA l fy fun tl k3 => ∃ (af : Int), DA k k2 tl af = some many ∧ F4 = F1 ∧ L1 = ((b1, ce #[.int .i64 Ad, .int .i64 Ab, .slice Aw Al.length Ax, .slice AF Ak.length AE, .slice AR Az.length AQ] 100) :: (ab ++ (ad ++ []))) ∧ e1.sub [(1, .pointer (some ⟨b1, 0, none⟩)), (5, .slice ax ay az), (7, .slice ai aa aa), (8, .int .i64 k), (9, .int .i64 k2), (10, .int .i64 af), (27, .int .i64 (l2.length : Int)), (28, .int .i64 k), (32, .int .i64 Ab), (33, .int .i64 k2), (36, .slice ax ay az), (37, .int .i64 (l.length : Int)), (38, .int .i64 k3)]) _ (m0 kr ⟨_, _, rfl, BL.start _, 0, iw, rfl, rfl, (sc rfl (sc rfl (sc rfl (sc rfl (sc rfl z8)))))⟩) ?_
       rintro fy e1 _ _ ⟨tl, k3, bx, aw, af, dr, rfl, rfl, eg⟩
       refine AB _ eg (AN (uv (Bb rfl rfl) ?_))
       refine Aa (As ?_)
       refine cQ (fun bz => ?_) fun bz => ?_
       ·obtain ⟨x, ji, rfl, eh, ga, ca⟩ := BL.succ aw bz
        rw [DA] at dr
        refine Aq (As ?_)
        refine Ap (AN ?_)
        obtain ⟨jj, jk, jl, iy, ei, ej, ba, ⟨_, _, rfl, ⟨rfl, dt⟩, ⟨du, dv, rfl, jm⟩⟩, en, eo⟩ := Be.at (Au (CD (n := 24) (sz := 1) Bq) (Ar (Ac _))) ae (L := (b1, ce #[.int .i64 Ad, .int .i64 Ab, .slice Aw Al.length Ax, .slice AF Ak.length AE, .slice AR Az.length AQ] 100) :: (ab ++ (ad ++ []))) (fC fP) ga.1 eh
        refine uv (AK underlying216 sizeOf223 rfl ei rfl (Be.idx ae ga)) (uv (AS (cs := (x.1.flatMap cB ++ (([.slice du x.2.length dv] : List Value))).toArray) isAgg223 sizeOf223 rfl ej ba (BB ba en eo)) ?_)
        refine Bo rfl zeroValue223 ?_; intro gb iz
        refine AI (L' := (gb, ce (((List.replicate 24 false).flatMap cB ++ (([.slice none 0 0] : List Value))).toArray) 223) :: ((b1, ce #[.int .i64 Ad, .int .i64 Ab, .slice Aw Al.length Ax, .slice AF Ak.length AE, .slice AR Az.length AQ] 100) :: (ab ++ (ad ++ [])))) rfl (Ef (i := 0) sizeOf223 rfl rfl rfl (lz (la (DM Bq List.length_replicate) rfl)) (lz (la (DM Bq dt) rfl)) (N8 (J7 Bq _) (by simp [Value.oneCell'])) (AI (L' := (gb, ce ((x.1.flatMap cB ++ (([.slice du x.2.length dv] : List Value))).toArray) 223) :: ((b1, ce #[.int .i64 Ad, .int .i64 Ab, .slice Aw Al.length Ax, .slice AF Ak.length AE, .slice AR Az.length AQ] 100) :: (ab ++ (ad ++ [])))) rfl ?_))
        refine BX (um (um ?_))
        refine uv (Ae QJ rfl) ?_
        obtain ⟨gg, j0⟩ := A1 dr
        refine uv (Bj underlying221 sizeOf219 rfl rfl gg) ?_
        obtain ⟨gh, j1⟩ := A1 j0
        obtain ⟨x2, jn, ep, gk⟩ := Bx j1
        have er : (k * 4 + k2 : Int).toNat = (k : Int).toNat * 4 + (k2 : Int).toNat := by have := gg; have := gh; omega
        have eu := Jh Bq dt er ep (FY (Bm (B := ([.slice du x.2.length dv] : List Value)) (DM Bq dt))) (Eb (Bm (B := ([.slice du x.2.length dv] : List Value)) (DM Bq dt)))
        refine uv (Bj underlying219 sizeOf4 rfl rfl gh) (uv (An isAgg4 rfl (Has.own 0 rfl) ((eu).2.2 0 (by decide))) (Aa ?_))
        refine A5 rfl (fun ew => ?_) (fun ew => ?_)
        ·have j2 := bt gk ew
         refine Am (um ?_)
         obtain ⟨j3, ey⟩ := A1 j2
         refine uv (Bd rfl rfl j3) ?_
         refine ua (Aa (AD (id := 5) (Am ?_)))
         refine uv (Bd rfl rfl (BL.Eg aw bz (Be.X5 ae))) ?_
         refine um (Aa ?_)
         subst bx; exact le (kd kr) ⟨_, _, rfl, ca, af + 1, ey, rfl, rfl, (sc rfl (sc rfl (sc rfl (sc rfl (sc rfl z8)))))⟩
        have ez := bf gk ew
        refine Aq (AD (id := 5) (Am ?_))
        refine uv (Bd rfl rfl (BL.Eg aw bz (Be.X5 ae))) ?_
        refine um (Aa ?_)
        subst bx; exact le (kd kr) ⟨_, _, rfl, ca, af, ez, rfl, rfl, (sc rfl (sc rfl (sc rfl (sc rfl (sc rfl z8)))))⟩
       obtain rfl := BL.zero aw bz
       rw [DA] at dr
       refine AT (Af (Af ?_))
       refine Ay ?_
       obtain rfl := AL dr
       exact mi kr ⟨rfl, rfl, (sc rfl z8)⟩
      refine AN (ua (Aa ?_))
      obtain ⟨v, cb, cd⟩ := AG Eg
      refine jE (((b1, ce #[.int .i64 Ad, .int .i64 Ab, .slice Aw Al.length Ax, .slice AF Ak.length AE, .slice AR Az.length AQ] 100) :: (ab ++ (ad ++ [])))) [(1, .pointer (some ⟨b1, 0, none⟩)), (5, .slice ax ay az), (7, .slice ai aa aa), (8, .int .i64 k), (13, .int .i64 v), (27, .int .i64 (l2.length : Int)), (28, .int .i64 k), (32, .int .i64 Ab), (33, .int .i64 k2)] ?_ ?_
      ·clear cd
       refine AN (um (Aa ?_))
       refine Ap ?_
       refine AN (um ?_)
       refine uv ((A7 underlying216 rfl).i (Be.Kw ae)) (uv (CR rfl rfl) ?_)
       refine ua (Aa ?_)
       refine cQ (fun bo => ?_) fun bo => ?_
       ·have fa := Bf cb bo
        refine Am (ua (Aa (AD (id := 6) ?_)))
        obtain rfl := AL fa
        exact mi kr ⟨rfl, rfl, (sc rfl z8)⟩
       have cf := Bg cb bo
       refine AN (uv (CR rfl rfl) ?_)
       refine ua (Aa ?_)
       refine cQ (fun bp => ?_) fun bp => ?_
       ·have fb := Bf cf bp
        refine Am (ua (Aa (AD (id := 6) ?_)))
        obtain rfl := AL fb
        exact mi kr ⟨rfl, rfl, (sc rfl z8)⟩
       have fe := Bg cf bp
       refine Aq (AD (id := 6) ?_)
       obtain rfl := AL fe
       exact mi kr ⟨rfl, rfl, (sc rfl z8)⟩
      refine Am (um (um (um (um ?_))))
      obtain ⟨x3, al, cg, ff⟩ := Bx cd
      have ao := (JF.Eu bn).1
      refine Re (fC (fS fP)) bn cg ?_; intro cj bb bc j4 j5 j6 ck bd aj cn cp
      refine kO (kf (fS (fS (fS fO))) kr) ?_
      obtain ⟨j7, j8, j9, gl, cq, ct, fg, rfl, gm, cu⟩ := Be.at Jl aj (L := (b1, ce #[.int .i64 Ad, .int .i64 Ab, .slice Aw Al.length Ax, .slice AF Ak.length AE, .slice AR Az.length AQ] 100) :: (bb ++ (ck ++ (bc ++ (ab ++ []))))) (fC fP) al.1 bd
      refine uv (AK underlying103 sizeOf123 rfl cq rfl (V8 ao al)) (uv (An isAgg123 rfl ct (cu 0 (by decide))) (um ?_))
      refine bA (cs := #[.int .i64 v]) Qx [.int .i64 v] ?_; intro ja gn
      obtain ⟨l3, fh, fi, fj⟩ := GM ff
      refine Fm (xs := x3) (ys := [v]) (zs := l3) rfl Qx rfl rfl (Nat.le_refl _) (fun _ => .c (.c (.s .h))) cn (H2.box (vss := [[.int .i64 v]]) (ys := [v]) 0 rfl (Ac _) (.cons rfl .nil) rfl rfl) fh fi (by decide) ?_; intro cv cw cx cy cz
      refine kO (kd kr) ?_
      obtain ⟨jb, jc, jd, gp, bg, gq, fk, rfl, gr, gu⟩ := Be.at Jl aj (L := (b1, ce #[.int .i64 Ad, .int .i64 Ab, .slice Aw Al.length Ax, .slice AF Ak.length AE, .slice AR Az.length AQ] 100) :: (bb ++ (cy ++ (bc ++ (ab ++ []))))) (fC fP) al.1 bd
      refine uv (AK underlying103 sizeOf123 rfl bg rfl (V8 ao al)) ?_
      refine Gp (zs := cj.set (k : Int).toNat (cv, cw, cx)) (u := (cv, cw, cx)) sizeOf123 Jl rfl bg rfl rfl (fun _ => .c .h) aj rfl (Yn ao aj al) ?_; intro gv da
      obtain ⟨fl, fm, fo⟩ := CH fj
      refine QN (p := fun X => JF K.w0.heap.size 123 124 1 (iE .i64) F4 ai aa aa fl X) (S5.back cp da cz fm) (pT ((fC fP).trans (pA ((fC fP).trans (pA ((fC fP).trans (pA pR)))))) (lp (lp (lp (ln rfl))))) ?_; intro db dd
      refine kO (kf (fS fO) kr) ?_
      refine Aa (AD (id := 3) ?_)
      obtain rfl := AL fo
      exact mi (kc (kg (fS fP) kr)) ⟨db, rfl, rfl, z8, dd⟩
     rintro e1 _ _ ⟨av, rfl, rfl, de, fp⟩
     refine AB _ de (Am (uv (Bd rfl rfl (Dc.Eg bm dq ir)) ?_))
     refine um (Aa ?_)
     exact le kr ⟨_, ec, bw, av, fx, rfl, rfl, z8, fp⟩
    obtain rfl := Dc.zero bm dq
    rw [D8] at dp
    refine AT (Af (Af ?_))
    refine Ay (AD (id := 1) ?_)
    obtain rfl := AL dp
    exact mi kr ⟨ad, rfl, rfl, z5, bn⟩
   rintro e1 _ _ ⟨au, rfl, rfl, df, fq⟩
   refine AB _ df (Am (uv (Bd rfl rfl (Dc.Eg bj dm il)) ?_))
   refine um (Aa ?_)
   exact le kr ⟨_, dz, bk, au, fw, rfl, rfl, z5, fq⟩
  obtain rfl := Dc.zero bj dm
  rw [D6] at dk
  refine AT (Af (Af ?_))
  refine Ay ?_
  obtain rfl := AL dk
  exact mi (kd (kx kr)) ⟨ak, rfl, rfl, z1, bu⟩
 rintro e1 _ _ ⟨bh, rfl, rfl, dg, dh⟩
 refine AB _ dg ?_
 refine AN (um (ua (ua (Aa ?_))))
 obtain rfl := (JF.Eu dh).1
 refine Qa (Nat.le_refl _) (Ac _) fP dh ?_; intro je gw ft
 refine Ao (CT results31 (A6 rfl) (A6 rfl) (sr) ?_)
 obtain ⟨rfl, rfl⟩ := D2 fv
 exact ⟨_, _, rfl, rfl, ft⟩
theorem Mb {r : Bool} (hr : Mn n lo hi = some r) :
    Bl Tryz.prog 121 #[.int .i64 n, .int .i64 lo, .int .i64 hi] F (.bool r) := by
 refine sp func121 ntmps121 fun K _ _ => ?_
 rw [Mn] at hr
 refine AN (ua (BX (um (um ?_))))
 refine uv (HQ rfl rfl) (um ?_)
 by_cases c1 : lo ≤ n
 ·have r2 := Bf hr c1
  refine nT c1 (um (nT c1 (um (nT c1 ?_))))
  refine uv (My rfl rfl) (uv (AW (Bn rfl c1) rfl) ?_)
  refine ua (Aa (Ao ?_))
  refine BU results121 ?_
  obtain rfl := AL r2
  exact rfl
 have r3 := Bg hr c1
 refine fF c1 (fF c1 (fF c1 ?_))
 refine uv (AH (A8 rfl c1) rfl) ?_
 refine ua (Aa (Ao ?_))
 refine BU results121 ?_
 obtain rfl := AL r3
 exact rfl
theorem LY (_h_plots : Av 1 (iE .i64) F CJ CI By) {r : Bool} (hr : Jp wide By p = some r) :
    Bl Tryz.prog 47 #[.agg #[.int .i64 wide, .slice CJ By.length CI], .int .i64 p] F (.bool r) := by
 refine sp func47 ntmps47 fun K _ _ => ?_
 rw [Jp] at hr
 refine AN ?_
 refine Bt rfl rfl ?_; intro b1 aa
 refine ua (BX (um ?_))
 refine uv (Ae Jr rfl) (uv (An isAgg25 rfl (Has.own 0 rfl) rfl) (uv (A7 underlying25 rfl) ?_))
 obtain ⟨g2, r3⟩ := A1 hr
 refine uv (Fa rfl rfl g2) ?_
 obtain ⟨ok, h4, r5⟩ := AG r3
 refine cV call121 (Mb h4) ?_
 refine ua (Aa ?_)
 refine kW kn (Ao (BU results47 ?_))
 obtain rfl := AL r5
 exact rfl
theorem Rp {kind : Int} (aa : Av 1 (iE .i64) F CJ CI By) {r : Int} (hr : Mr wide By p kind = some r) :
    Bl Tryz.prog 65 #[.agg #[.int .i64 wide, .slice CJ By.length CI], .int .i64 p, .int .i64 kind] F (.int .i64 r) := by
 refine sp func65 ntmps65 fun K _ _ => ?_
 rw [Mr] at hr
 refine AN ?_
 refine Bt rfl rfl ?_; intro b1 aq
 refine ua (Aa (As ?_))
 refine Ap (AN (uv (AS isAgg27 sizeOf27 rfl (Has.own 0 rfl) (CK rfl) rfl) (um ?_)))
 obtain ⟨ok, h2, r3⟩ := AG hr
 refine cV call47 (LY aa h2) (uv (BC rfl) ?_)
 refine ua (Aa ?_)
 refine A5 rfl (fun c4 => ?_) (fun c4 => ?_)
 ·have r5 := bt r3 c4
  refine AN (ua (Aa ?_))
  refine kW kn ?_
  refine Ao (AA (Ah ?_))
  refine BU results65 ?_
  obtain rfl := AL r5
  exact rfl
 have r6 := bf r3 c4
 refine AN (uv (Ae Jr rfl) (uv (An isAgg25 rfl (Has.own 0 rfl) rfl) (um ?_)))
 obtain ⟨x, g7, ai, r9⟩ := Bx r6
 obtain ⟨J4, ar, au, aj, ab, ad, ah, rfl, ak, ae⟩ := Av.at (Ac _) aa ([(b1, ce #[.int .i64 wide, .slice CJ By.length CI] 27)]) g7.1 ai
 refine uv (AK underlying25 sizeOf34 rfl ab rfl g7) (uv (An isAgg34 rfl ad (ae 0 (by decide))) (um (uv (B7 rfl rfl) ?_)))
 refine ua (Aa ?_)
 refine cQ (fun af => ?_) fun af => ?_
 ·have al := Bf r9 af
  refine AN (ua (Aa ?_))
  refine kW kn ?_
  refine Ao (AA (Ah ?_))
  refine BU results65 ?_
  obtain rfl := AL al
  exact rfl
 have ao := Bg r9 af
 refine Aq (AD (id := 0) (AN (ua (Aa ?_))))
 refine kW kn (Ao (BU results65 ?_))
 obtain rfl := AL ao
 exact rfl
set_option maxHeartbeats 1000000 in
theorem Ik {s_ : List Int} {f : Int → Option Bool} (aa : Av 1 (iE .i64) F B0 BY s_) (aj : HG Tryz.prog F La KQ KW (iE .i64) Value.bool f) {r : Int} (hr : DN s_ f = some r) :
    Bl Tryz.prog 230 #[.slice B0 s_.length BY, .func (.func La) KQ KW] F (.int .i64 r) := by
 refine sp func230 ntmps230 fun K _ _ => ?_
 rw [DN] at hr
 refine AN (ua (Aa ?_))
 refine A0 (fun e1 F1 L1 => Dk = some r ∧ F = F1 ∧ L1 = [] ∧ e1.sub []) ?_ ?_
 ·refine AN (um ?_)
  refine uv (A7 underlying25 rfl) ?_
  refine um (Aa ?_)
  refine Ap ?_
  refine Bh (fun ak e1 F1 L1 => LA s_ ak fun tl k => B2 f tl k = some r ∧ F = F1 ∧ L1 = [] ∧ e1.sub [(0, .slice B0 s_.length BY), (1, .func (.func La) KQ KW), (7, .int .i64 (s_.length : Int)), (8, .int .i64 k)]) _ (m0 kr ⟨_, _, rfl, BL.start _, hr, rfl, rfl, z4⟩) ?_
  rintro ak e1 _ _ ⟨tl, k, MM, ab, r3, rfl, rfl, ar⟩
  refine AB _ ar (AN (uv (Bb rfl rfl) ?_))
  refine Aa (As ?_)
  refine cQ (fun c6 => ?_) fun c6 => ?_
  ·obtain ⟨x, bb, rfl, au, g9, av⟩ := BL.succ ab c6
   rw [B2] at r3
   refine Aq (As ?_)
   refine Ap ?_
   refine AN (um (ua (BX (um (um (um ?_))))))
   obtain ⟨J4, bc, bd, aw, ad, ae, al, rfl, ax, af⟩ := Av.at (Ac _) aa ([]) g9.1 au
   refine uv (AK underlying25 sizeOf34 rfl ad rfl g9) (uv (An isAgg34 rfl ae (af 0 (by decide))) ?_)
   obtain ⟨ok, ay, ao⟩ := AG r3
   refine Em rfl aj.1 rfl rfl rfl (aj.2 _ (A3.refl _) _ _ _ rfl ay) (Aa ?_)
   refine A5 rfl (fun ah => ?_) (fun ah => ?_)
   ·have az := bt ao ah
    refine AN (um (ua (Aa (Ao (AA (Ah (Ah (AA (Ah ?_)))))))))
    refine BU results230 ?_
    obtain rfl := AL az
    exact rfl
   have ba := bf ao ah
   refine Aq (AD (id := 1) (Am ?_))
   refine uv (Bd rfl rfl (BL.Eg ab c6 (Av.lt aa))) ?_
   refine um (Aa ?_)
   subst MM; exact le kr ⟨_, _, rfl, av, ba, rfl, rfl, z4⟩
  obtain rfl := BL.zero ab c6
  rw [B2] at r3
  refine AT (Af (Af ?_))
  refine Ay ?_
  exact mi kr ⟨r3, rfl, rfl, (sn _)⟩
 rintro e1 _ _ ⟨aq, rfl, rfl, ai⟩
 refine AB _ ai ?_
 rw [Dk] at aq
 refine AN (ua (Aa (Ao ?_)))
 refine BU results230 ?_
 obtain rfl := AL aq
 exact rfl
theorem Hv {s_ : List Int} {f : Int → Option Bool} (aa : Av 1 (iE .i64) F B0 BY s_) (ab : HG Tryz.prog F La KQ KW (iE .i64) Value.bool f) {r : Bool} (hr : Dj s_ f = some r) :
    Bl Tryz.prog 192 #[.slice B0 s_.length BY, .func (.func La) KQ KW] F (.bool r) := by
 refine sp func192 ntmps192 fun K _ _ => ?_
 rw [Dj] at hr
 refine AN (ua (BX (um (um ?_))))
 obtain ⟨n, h1, r2⟩ := AG hr
 refine cV call230 (Ik aa ab h1) (uv (HQ rfl rfl) ?_)
 refine ua (Aa (Ao ?_))
 refine BU results192 ?_
 obtain rfl := AL r2
 exact rfl
theorem NS {x : Int} {so : Int → Option Bool} (aa : F Ra = some (.cells #[.func (.func LJ) LC LD] 287 Sa)) (ab : HG Tryz.prog F LJ LC LD (iE .i64) Value.bool so) {r : Bool} (hr : HX x so = some r) :
    Bl Tryz.prog 193 #[.int .i64 x, .pointer (some ⟨Ra, 0, none⟩)] F (.bool r) := by
 refine sp func193 ntmps193 fun K _ _ => ?_
 rw [HX] at hr
 refine AN (ua (BX ?_))
 refine uv (An isAgg287 rfl (Has.frozen aa) rfl) (um ?_)
 obtain ⟨ok, h1, r2⟩ := AG hr
 refine Em rfl ab.1 rfl rfl rfl (ab.2 _ (A3.refl _) _ _ _ rfl h1) (uv (BC rfl) ?_)
 refine ua (Aa (Ao ?_))
 refine BU results193 ?_
 obtain rfl := AL r2
 exact rfl
theorem O2 {l : List Int} {so : Int → Option Bool} (ab : Av 1 (iE .i64) F Hp Hl l) (aa : HG Tryz.prog F LJ LC LD (iE .i64) Value.bool so) {r : Bool} (hr : Ke l so = some r) :
    Bl Tryz.prog 141 #[.slice Hp l.length Hl, .func (.func LJ) LC LD] F (.bool r) := by
 refine sp func141 ntmps141 fun K _ _ => ?_
 rw [Ke] at hr
 refine AN ?_
 refine Bt rfl rfl ?_; intro b1 af
 refine ua (BX (um ?_))
 refine uv (BP rfl rfl) ?_
 refine Bi 0 rfl af ?_; intro F2 ad ah
 refine AI rfl ?_
 replace ab := ab.mono (Ac _) ad
 replace aa := aa.mono ad
 have ai : HG Tryz.prog F2 193 #[] #[.pointer (some ⟨b1, 0, none⟩)] (iE .i64) Value.bool (fun ae : Int => HX ae so) := ⟨call193, fun F2 h2 vs ae r ha hr => by obtain rfl := ha; exact NS (h2 _ _ ah) (aa.mono h2) hr⟩
 obtain ⟨ok, h6, r7⟩ := AG hr
 refine cV call192 (Hv ab ai h6) (uv (BC rfl) ?_)
 refine ua (Aa (Ao ?_))
 refine BU results141 ?_
 obtain rfl := AL r7
 exact rfl
theorem QF {r : Bool} (hr : Kz p = some r) :
    Bl Tryz.prog 142 #[.int .i64 p] F (.bool r) := by
 refine sp func142 ntmps142 fun K _ _ => ?_
 rw [Kz] at hr
 refine AN (ua (BX (um ?_)))
 obtain ⟨ok, h1, r2⟩ := AG hr
 refine cV call121 (Mb h1) ?_
 refine ua (Aa (Ao ?_))
 refine BU results142 ?_
 obtain rfl := AL r2
 exact rfl
set_option maxHeartbeats 1000000 in
theorem Oh (aa : Av 1 (iE .i64) F CJ CI By) {r : Int} (hr : JP wide By = some r) :
    Bl Tryz.prog 143 #[.agg #[.int .i64 wide, .slice CJ By.length CI]] F (.int .i64 r) := by
 refine sp func143 ntmps143 fun K _ _ => ?_
 rw [JP] at hr
 refine AN ?_
 refine Bt rfl rfl ?_; intro b1 ba
 refine ua (BX (ua (Aa ?_)))
 obtain ⟨n, h2, r3⟩ := AG hr
 refine jE ([]) [(3, .int .i64 n)] ?_ ?_
 ·clear r3
  refine AN (uv (Ae Jr rfl) (uv (An isAgg25 rfl (Has.own 0 rfl) rfl) (uv (A7 underlying25 rfl) ?_)))
  refine um (Aa ?_)
  refine Ap (kW kn ?_)
  refine Bh (fun ak e1 F1 L1 => LA By ak fun tl k => ∃ (n2 : Int), Ex tl n2 = some n ∧ F = F1 ∧ L1 = [] ∧ e1.sub [(3, .int .i64 n2), (7, .slice CJ By.length CI), (8, .int .i64 (By.length : Int)), (9, .int .i64 k)]) _ (m0 kr ⟨_, _, rfl, BL.start _, 0, h2, rfl, rfl, z4⟩) ?_
  rintro ak e1 _ _ ⟨tl, k, al, ad, n2, r6, rfl, rfl, ar⟩
  refine AB _ ar (AN (uv (Bb rfl rfl) ?_))
  refine Aa (As ?_)
  refine cQ (fun c9 => ?_) fun c9 => ?_
  ·obtain ⟨x, bb, rfl, ae, ao, ab⟩ := BL.succ ad c9
   rw [Ex] at r6
   refine Aq (As ?_)
   refine Ap (AN ?_)
   obtain ⟨bc, bd, bg, au, af, ah, aq, rfl, av, ai⟩ := Av.at (Ac _) aa ([]) ao.1 ae
   refine uv (AK underlying25 sizeOf34 rfl af rfl ao) (uv (An isAgg34 rfl ah (ai 0 (by decide))) ?_)
   refine ua (BX (um ?_))
   refine uv (CR rfl rfl) (Aa ?_)
   refine cQ (fun aj => ?_) fun aj => ?_
   ·have aw := Bf r6 aj
    refine Am (um ?_)
    obtain ⟨ax, ay⟩ := A1 aw
    refine uv (Bd rfl rfl ax) ?_
    refine ua (Aa (AD (id := 1) (Am ?_)))
    refine uv (Bd rfl rfl (BL.Eg ad c9 (Av.lt aa))) ?_
    refine um (Aa ?_)
    subst al; exact le kr ⟨_, _, rfl, ab, n2 + 1, ay, rfl, rfl, z4⟩
   have az := Bg r6 aj
   refine Aq (AD (id := 1) (Am ?_))
   refine uv (Bd rfl rfl (BL.Eg ad c9 (Av.lt aa))) ?_
   refine um (Aa ?_)
   subst al; exact le kr ⟨_, _, rfl, ab, n2, az, rfl, rfl, z4⟩
  obtain rfl := BL.zero ad c9
  rw [Ex] at r6
  refine AT (Af (Af ?_))
  refine Ay ?_
  obtain rfl := AL r6
  exact mi kr ⟨rfl, rfl, z1⟩
 refine AN (um (ua (Aa (Ao ?_))))
 refine BU results143 ?_
 obtain rfl := AL r3
 exact rfl
set_option maxHeartbeats 1000000 in
theorem Sh (ab : Av 1 (iE .i64) F CJ CI By) {r : Int} (hr : Ou wide By = some r) :
    Bl Tryz.prog 64 #[.agg #[.int .i64 wide, .slice CJ By.length CI]] F (.int .i64 r) := by
 refine sp func64 ntmps64 fun K _ _ => ?_
 rw [Ou] at hr
 refine AN ?_
 refine Bt rfl rfl ?_; intro b1 bg
 refine ua (Aa (As ?_))
 refine Ap ?_
 obtain ⟨k, h2, r3⟩ := AG hr
 refine jE ([(b1, ce #[.int .i64 wide, .slice CJ By.length CI] 27)]) [(1, .pointer (some ⟨b1, 0, none⟩)), (3, .bool k)] ?_ ?_
 ·clear r3
  refine Am (uv (Ae NF rfl) (uv (An isAgg3 rfl (Has.own 0 rfl) rfl) ?_))
  obtain ⟨ok, h4, r5⟩ := AG h2
  refine cV call121 (Mb h4) (uv (BC rfl) (um ?_))
  rcases Co (!ok) with c6 | c6
  ·have r7 := bt r5 c6
   refine fB c6 (fB c6 (fB c6 (fB c6 (fB c6 ?_))))
   refine uv (AW (Iy rfl c6) rfl) ?_
   refine um (AM (b' := true) 15 rfl rfl rfl rfl (AM (b' := true) 15 rfl rfl rfl rfl (AM (b' := true) 15 rfl rfl rfl rfl (AM (b' := true) 15 rfl rfl rfl rfl (AM (b' := true) 15 rfl rfl rfl rfl (AM (b' := true) 15 rfl rfl rfl rfl (AM (b' := true) 15 rfl rfl rfl rfl ?_)))))))
   refine uv (AW rfl rfl) ?_
   refine ua (Aa ?_)
   obtain rfl := AL r7
   exact mi kr ⟨rfl, rfl, z2⟩
  have r8 := bf r5 c6
  refine nB c6 (uv (Ae Jr rfl) (nB c6 (uv (An isAgg25 rfl (Has.own 0 rfl) rfl) (nB c6 (uv (A7 underlying25 rfl) (nB c6 ?_))))))
  obtain ⟨ao, h9, ai⟩ := AG r8
  refine cV call121 (Mb h9) (nB c6 (uv (BC rfl) (uv (AH (Iy rfl c6) rfl) (um ?_))))
  rcases Co (!ao) with aa | aa
  ·have aq := bt ai aa
   refine fB aa (fB aa (fB aa (fB aa (fB aa (fB aa (fB aa ?_))))))
   refine uv (AW (Iy rfl aa) rfl) ?_
   refine ua (Aa ?_)
   obtain rfl := AL aq
   exact mi kr ⟨rfl, rfl, z2⟩
  have ar := bf ai aa
  refine nB aa (uv (Ae Jr rfl) (nB aa (uv (An isAgg25 rfl (Has.own 0 rfl) rfl) (nB aa (uv (A7 underlying25 rfl) (nB aa (uv (Ae NF rfl) ?_)))))))
  refine nB aa (uv (An isAgg3 rfl (Has.own 0 rfl) rfl) (nB aa ?_))
  obtain ⟨au, av⟩ := A1 ar
  refine uv (RG rfl rfl au) (nB aa (uv (B7 rfl rfl) (uv (AH (Iy rfl aa) rfl) ?_)))
  refine ua (Aa ?_)
  obtain rfl := AL av
  exact mi kr ⟨rfl, rfl, z2⟩
 refine A5 rfl (fun ad => ?_) (fun ad => ?_)
 ·have aw := bt r3 ad
  refine AN (ua (Aa ?_))
  refine kW kn ?_
  refine Ao (AA (Ah ?_))
  refine BU results64 ?_
  obtain rfl := AL aw
  exact rfl
 have ax := bf r3 ad
 refine AN (uv (Ae Jr rfl) (uv (An isAgg25 rfl (Has.own 0 rfl) rfl) ?_))
 have ae : HG Tryz.prog F 142 #[] #[] (iE .i64) Value.bool (fun aj : Int => Kz aj) := ⟨call142, fun F2 h2 vs aj r ha hr => by obtain rfl := ha; exact QF hr⟩
 obtain ⟨bh, ay, ak⟩ := AG ax
 refine cV call141 (O2 ab ae ay) (uv (BC rfl) ?_)
 refine ua (Aa ?_)
 refine A5 rfl (fun af => ?_) (fun af => ?_)
 ·have az := bt ak af
  refine AN (ua (Aa ?_))
  refine kW kn ?_
  refine Ao (AA (Ah ?_))
  refine BU results64 ?_
  obtain rfl := AL az
  exact rfl
 have ba := bf ak af
 refine AN (uv (AS isAgg27 sizeOf27 rfl (Has.own 0 rfl) (CK rfl) rfl) ?_)
 obtain ⟨n, bb, al⟩ := AG ba
 refine cV call143 (Oh ab bb) (uv (KS rfl rfl) ?_)
 refine ua (Aa ?_)
 refine cQ (fun ah => ?_) fun ah => ?_
 ·have bc := Bf al ah
  refine AN (ua (Aa ?_))
  refine kW kn ?_
  refine Ao (AA (Ah ?_))
  refine BU results64 ?_
  obtain rfl := AL bc
  exact rfl
 have bd := Bg al ah
 refine Aq (AD (id := 0) (AN (ua (Aa ?_))))
 refine kW kn (Ao (BU results64 ?_))
 obtain rfl := AL bd
 exact rfl
theorem PN {w : Int} {r : Bool} (hr : KZ w = some r) :
    Bl Tryz.prog 189 #[.int .i64 w] F (.bool r) := by
 refine sp func189 ntmps189 fun K _ _ => ?_
 rw [KZ] at hr
 refine AN (ua (BX (um ?_)))
 obtain ⟨ok, h1, r2⟩ := AG hr
 refine cV call121 (Mb h1) ?_
 refine ua (Aa (Ao ?_))
 refine BU results189 ?_
 obtain rfl := AL r2
 exact rfl
theorem Sx {r : List (Int × (Int × Int))} (hr : Of = some r) :
    SH.Spec Tryz.prog 190 #[] F [] fun _ L' v => ∃ (rb : Nat) (res : Array MapEntry) (aj : Nat), v = .map (some rb) ∧ L' = [(rb, .map res aj)] ∧ Ih (Value.int .i64) (vA (cP (cI .i64) (cI .i64))) res r := by
 refine sp func190 ntmps190 fun K _ _ => ?_
 rw [Of] at hr
 refine AN (ua (BX ?_))
 refine LX rfl ?_; intro b1 bb
 refine uv (BH (v := .agg #[.int .i64 (-1), .int .i64 0]) rfl (by intro w; kernel_rfl)) ?_
 refine Ni (i := 0) (k := 1) (v := (-1, 0)) underlying331 (Ma underlying29) rfl rfl rfl rfl (show Ih (Value.int .i64) (vA (cP (cI .i64) (cI .i64))) #[] ([] : List (Int × (Int × Int))) from Ih.nil) ?_; intro ak bc ah
 obtain ⟨met, h5, r6⟩ := CH hr
 rw [← h5] at ah
 refine AI rfl ?_
 refine uv (BH (v := .agg #[.int .i64 0, .int .i64 1]) rfl (by intro w; kernel_rfl)) ?_
 refine Ni (i := 0) (k := 2) (v := (0, 1)) underlying331 (Ma underlying29) rfl rfl rfl rfl (show Ih (Value.int .i64) (vA (cP (cI .i64) (cI .i64))) ak (met : List (Int × (Int × Int))) from ah) ?_; intro al bd ai
 obtain ⟨ad, ao, aq⟩ := CH r6
 rw [← ao] at ai
 refine AI rfl ?_
 refine uv (BH (v := .agg #[.int .i64 1, .int .i64 0]) rfl (by intro w; kernel_rfl)) ?_
 refine Ni (i := 0) (k := 3) (v := (1, 0)) underlying331 (Ma underlying29) rfl rfl rfl rfl (show Ih (Value.int .i64) (vA (cP (cI .i64) (cI .i64))) al (ad : List (Int × (Int × Int))) from ai) ?_; intro ae ar aa
 obtain ⟨af, au, av⟩ := CH aq
 rw [← au] at aa
 refine AI rfl ?_
 refine uv (BH (v := .agg #[.int .i64 0, .int .i64 (-1)]) rfl (by intro w; kernel_rfl)) ?_
 refine Ni (i := 0) (k := 4) (v := (0, -1)) underlying331 (Ma underlying29) rfl rfl rfl rfl (show Ih (Value.int .i64) (vA (cP (cI .i64) (cI .i64))) ae (af : List (Int × (Int × Int))) from aa) ?_; intro aw ax ab
 obtain ⟨ay, az, ba⟩ := CH av
 rw [← az] at ab
 refine AI rfl ?_
 refine um (ua (Aa (Ao ?_)))
 refine BU results190 ?_
 obtain rfl := AL ba
 exact ⟨_, _, _, rfl, rfl, ab⟩
set_option maxHeartbeats 1000000 in
theorem RN (aa : Av 1 (iE .i64) F CJ CI By) {r : Option (Int × (List Int) × Int × Int × Bool)} {r2 : Int} (hr : Ns wide By Cf = some (r, r2)) :
    SH.Spec Tryz.prog 131 #[.agg #[.int .i64 wide, .slice CJ By.length CI], .int .i64 Cf] F [] fun F' L' v => ∃ (rv : Value), v = .tuple #[rv, .int .i64 r2] ∧ L' = [] ∧ PU 323 (Br (iE .i64) (Br (BK 1 (iE .i64)) (Br (iE .i64) (Br (iE .i64) bE)))) F' rv r := by
 refine sp func131 ntmps131 fun K _ _ => ?_
 rw [Ns] at hr
 refine AN ?_
 refine Bt rfl rfl ?_; intro b1 ax
 refine ua (ua (Aa (As (AN ?_))))
 refine uv (AS isAgg27 sizeOf27 rfl (Has.own 0 rfl) (CK rfl) rfl) ?_
 obtain ⟨n, h2, r3⟩ := AG hr
 refine cV call64 (Sh aa h2) ?_
 refine ua (BX (um ?_))
 refine uv (B7 rfl rfl) (Aa ?_)
 refine cQ (fun c4 => ?_) fun c4 => ?_
 ·have r5 := Bf r3 c4
  refine AN (um (ua (ua (Aa ?_))))
  refine kW kn ?_
  refine Ao (Ah ?_)
  refine CT results131 (A6 rfl) (A6 rfl) (sr) ?_
  obtain ⟨rfl, rfl⟩ := D2 r5
  exact ⟨_, rfl, rfl, rfl⟩
 have r6 := Bg r3 c4
 refine Aq (As (AN (um ?_)))
 obtain ⟨ok, h7, r8⟩ := AG r6
 refine cV call189 (PN h7) (uv (BC rfl) (Aa ?_))
 refine A5 rfl (fun c9 => ?_) (fun c9 => ?_)
 ·have ak := bt r8 c9
  refine AN (ua (ua (Aa ?_)))
  refine kW kn ?_
  refine Ao (Ah ?_)
  refine CT results131 (A6 rfl) (A6 rfl) (sr) ?_
  obtain ⟨rfl, rfl⟩ := D2 ak
  exact ⟨_, rfl, rfl, rfl⟩
 have al := bf r8 c9
 refine Aq (AN ?_)
 obtain ⟨m, ao, aq⟩ := AG al
 refine c0 call190 (Sx ao) ?_; rintro _ ay _ ad ar ⟨au, ab, ae, rfl, rfl, af⟩
 replace aa := aa.mono (Ac _) ad
 refine AI (lb (ln rfl)) (um (uv (Gs.eq (v' := .tuple #[.agg #[.int .i64 (((Bz m Cf).getD (0, 0)).1), .int .i64 (((Bz m Cf).getD (0, 0)).2)], .bool ((Bz m Cf).isSome)]) (OJ (k := Cf) (z0 := (0, 0)) rfl underlying331 (Ma underlying29) zeroValue321 rfl rfl (MR.own 0 rfl) (show Ih (Value.int .i64) (vA (cP (cI .i64) (cI .i64))) ab (m : List (Int × (Int × Int))) from af)) rfl) ?_))
 refine um (ox rfl rfl rfl (ox rfl rfl rfl ?_))
 refine Bo rfl zeroValue321 ?_; intro av aw
 refine B1 (i := 0) sizeOf321 rfl rfl rfl (by simp [Value.oneCell']) rfl (CK rfl) (AI rfl ?_)
 refine ua (BX ?_)
 refine uv (AS isAgg27 sizeOf27 rfl (Has.own 2 rfl) (CK rfl) rfl) (uv (AS isAgg321 sizeOf321 rfl (Has.own 0 rfl) (CK rfl) rfl) (um ?_))
 refine uv (BH (v := .agg #[.int .i64 wide, .slice CJ By.length CI, .int .i64 (((Bz m Cf).getD (0, 0)).1), .int .i64 (((Bz m Cf).getD (0, 0)).2), .bool ((Bz m Cf).isSome)]) rfl (by intro w; kernel_rfl)) ?_
 refine Bt rfl rfl ?_; intro az ah
 refine ua (ua (Aa ?_))
 refine Cs 0 rfl ah ?_; intro ba ai aj
 refine E7 (L' := [(av, ce #[.int .i64 (((Bz m Cf).getD (0, 0)).1), .int .i64 (((Bz m Cf).getD (0, 0)).2)] 321), (au, .map ab ae), (b1, ce #[.int .i64 wide, .slice CJ By.length CI] 27)]) rfl ?_
 replace aa := aa.mono (Ac _) ai
 refine kW kn (Ao (CT results131 (A6 rfl) (A6 rfl) (sr) ?_))
 obtain ⟨rfl, rfl⟩ := D2 aq
 exact ⟨_, rfl, rfl, ⟨_, _, _, rfl, aj, ⟨_, _, rfl, rfl, ⟨_, _, rfl, ⟨_, _, rfl, aa⟩, ⟨_, _, rfl, rfl, ⟨_, _, rfl, rfl, rfl⟩⟩⟩⟩⟩⟩
theorem Qi (aa : Av 1 (iE .i64) F CJ CI By) {r : Option (Int × (List Int) × Int × Int × Bool)} {r2 : Int} (hr : LB wide By Cf DK = some (r, r2)) :
    SH.Spec Tryz.prog 116 #[.agg #[.int .i64 wide, .slice CJ By.length CI], .int .i64 Cf, .int .i64 DK] F [] fun F' L' v => ∃ (rv : Value), v = .tuple #[rv, .int .i64 r2] ∧ L' = [] ∧ PU 323 (Br (iE .i64) (Br (BK 1 (iE .i64)) (Br (iE .i64) (Br (iE .i64) bE)))) F' rv r := by
 refine sp func116 ntmps116 fun K _ _ => ?_
 rw [LB] at hr
 refine AN ?_
 refine Bt rfl rfl ?_; intro b1 aq
 refine ua (ua (BX ?_))
 refine uv (AS isAgg27 sizeOf27 rfl (Has.own 0 rfl) (CK rfl) rfl) (um ?_)
 obtain ⟨d, n, h2, r3⟩ := Es hr
 refine c0 call131 (RN aa h2) ?_; rintro _ F4 _ af ar ⟨v8, rfl, rfl, ah⟩
 replace aa := aa.mono (Ac _) af
 refine AI (ln rfl) ?_
 refine um (ox rfl rfl rfl (ox rfl rfl rfl (ua (ua (Aa (As (AN (um ?_))))))))
 refine uv (B7 rfl rfl) (Aa ?_)
 refine cQ (fun ab => ?_) fun ab => ?_
 ·have ai := Bf r3 ab
  refine AN (um (ua (ua (Aa ?_))))
  refine kW kn ?_
  refine Ao (Ah ?_)
  refine CT results116 (A6 rfl) (A6 rfl) (sr) ?_
  obtain ⟨rfl, rfl⟩ := D2 ai
  exact ⟨_, rfl, rfl, rfl⟩
 have aj := Bg r3 ab
 refine Aq (As (AN ?_))
 refine uv (AS isAgg27 sizeOf27 rfl (Has.own 0 rfl) (CK rfl) rfl) (um ?_)
 obtain ⟨n2, ak, ae⟩ := AG aj
 refine cV call65 (Rp aa ak) ?_
 refine ua (BX (um ?_))
 refine uv (B7 rfl rfl) (Aa ?_)
 refine cQ (fun ad => ?_) fun ad => ?_
 ·have al := Bf ae ad
  refine AN (um (ua (ua (Aa ?_))))
  refine kW kn ?_
  refine Ao (Ah ?_)
  refine CT results116 (A6 rfl) (A6 rfl) (sr) ?_
  obtain ⟨rfl, rfl⟩ := D2 al
  exact ⟨_, rfl, rfl, rfl⟩
 have ao := Bg ae ad
 refine Aq (AN (um (ua (ua (Aa ?_)))))
 refine kW kn (Ao (CT results116 (A6 rfl) (A6 rfl) (sr) ?_))
 obtain ⟨rfl, rfl⟩ := D2 ao
 exact ⟨_, rfl, rfl, ah⟩
theorem PS (aa : Av 1 (iE .i64) F CJ CI By) {r : Bool} (hr : Jn wide By p = some r) :
    Bl Tryz.prog 222 #[.agg #[.int .i64 wide, .slice CJ By.length CI], .int .i64 p] F (.bool r) := by
 refine sp func222 ntmps222 fun K _ _ => ?_
 rw [Jn] at hr
 refine AN ?_
 refine Bt rfl rfl ?_; intro b1 aj
 refine ua (BX ?_)
 refine uv (Ae Jr rfl) (uv (An isAgg25 rfl (Has.own 0 rfl) rfl) (um ?_))
 obtain ⟨x, g2, af, r4⟩ := Bx hr
 obtain ⟨b5, o6, c7, ak, ah, ab, ae, rfl, ai, ad⟩ := Av.at (Ac _) aa ([(b1, ce #[.int .i64 wide, .slice CJ By.length CI] 27)]) g2.1 af
 refine uv (AK underlying25 sizeOf34 rfl ah rfl g2) (uv (An isAgg34 rfl ab (ad 0 (by decide))) (uv (CR rfl rfl) ?_))
 refine ua (Aa ?_)
 refine kW kn (Ao (BU results222 ?_))
 obtain rfl := AL r4
 exact rfl
theorem PI {r r2 : Int} (hr : KK down CF = some (r, r2)) :
    Bl Tryz.prog 249 #[.agg #[.int .i64 down, .int .i64 CF]] F (.agg #[.int .i64 r, .int .i64 r2]) := by
 refine sp func249 ntmps249 fun K _ _ => ?_
 rw [KK] at hr
 refine AN ?_
 refine Bt rfl rfl ?_; intro b1 aa
 refine Bo rfl zeroValue321 ?_; intro b2 ab
 refine BX (uv (Ae QT rfl) (uv (An isAgg3 rfl (Has.own 1 rfl) rfl) ?_))
 obtain ⟨g3, r4⟩ := A1 hr
 refine uv (W2 rfl g3) (uv (Ae TR rfl) (uv (An isAgg3 rfl (Has.own 1 rfl) rfl) ?_))
 obtain ⟨g5, r6⟩ := A1 r4
 refine uv (W2 rfl g5) ?_
 refine uv (BH (v := .agg #[.int .i64 (-down), .int .i64 (-CF)]) rfl (by intro w; kernel_rfl)) ?_
 refine B1 (i := 0) sizeOf321 rfl rfl rfl (by simp [Value.oneCell']) rfl (CK rfl) (AI rfl (Aa (kW (kc kn) (Ao (Jv results249 (Fg (cs := #[.int .i64 (-down), .int .i64 (-CF)]) isAgg321 sizeOf321 rfl (Has.own 0 rfl) (CK rfl) rfl) (s1 sr) ?_)))))
 obtain ⟨rfl, rfl⟩ := D2 r6
 exact rfl
set_option maxHeartbeats 1000000 in
theorem Lz {ae aa to : Int} (ab : F JI = some (.cells #[.int .i64 wide, .slice CJ By.length CI, .int .i64 down, .int .i64 CF, .bool ES] 323 Ox)) (ad : Av 1 (iE .i64) F CJ CI By) {r : Int} (hr : IU wide By down CF ES ae aa to = some r) :
    Bl Tryz.prog 224 #[.pointer (some ⟨JI, 0, none⟩), .agg #[.int .i64 ae, .int .i64 aa], .int .i64 to] F (.int .i64 r) := by
 refine sp func224 ntmps224 fun K _ _ => ?_
 rw [IU] at hr
 refine AN ?_
 refine Bt rfl rfl ?_; intro b1 bg
 refine ua (BX (ua (Aa ?_)))
 obtain ⟨n, h2, r3⟩ := AG hr
 refine jE ([]) [(0, .pointer (some ⟨JI, 0, none⟩)), (2, .int .i64 to), (7, .int .i64 n)] ?_ ?_
 ·clear r3
  refine Ap ?_
  refine AN (um ?_)
  refine uv (A2 rfl) (uv (Ae W0 rfl) (uv (An isAgg4 rfl (Has.frozen ab) rfl) (uv (BC rfl) ?_)))
  refine ua (Aa ?_)
  refine A5 rfl (fun c4 => ?_) (fun c4 => ?_)
  ·have r5 := bt h2 c4
   refine Aq (AD (id := 0) ?_)
   obtain rfl := AL r5
   exact mi kn ⟨rfl, rfl, z3⟩
  have r6 := bf h2 c4
  refine dW (wv (AS isAgg321 sizeOf321 rfl (Has.own 0 rfl) (CK rfl) rfl) (wm (wv (A2 rfl) (wv (Ae TV rfl) (wv (AS isAgg321 sizeOf321 rfl (Has.frozen ab) (CK rfl) rfl) (wv (UP (Vh _ _ _ _) (Wx _ _ _ _) rfl rfl) ?_))))))
  refine wa (CQ ?_)
  refine cQ (fun c7 => ?_) fun c7 => ?_
  ·have r8 := Bf r6 c7
   refine Am (ua (Aa (AD (id := 0) ?_)))
   obtain rfl := AL r8
   exact mi kn ⟨rfl, rfl, z3⟩
  have r9 := Bg r6 c7
  refine dW (wv (AS isAgg321 sizeOf321 rfl (Has.own 0 rfl) (CK rfl) rfl) (wm (wv (A2 rfl) (wv (Ae TV rfl) (wv (AS isAgg321 sizeOf321 rfl (Has.frozen ab) (CK rfl) rfl) ?_)))))
  obtain ⟨n2, n3, av, ao⟩ := Es r9
  refine I8 rfl call249 rfl rfl rfl (PI av) (wv (UP (Vh _ _ _ _) (Wx _ _ _ _) rfl rfl) ?_)
  refine wa (CQ ?_)
  refine cQ (fun af => ?_) fun af => ?_
  ·have aw := Bf ao af
   refine Am (ua (Aa (AD (id := 0) ?_)))
   obtain rfl := AL aw
   exact mi kn ⟨rfl, rfl, z3⟩
  have ax := Bg ao af
  refine Aq (AD (id := 0) ?_)
  obtain rfl := AL ax
  exact mi kn ⟨rfl, rfl, z3⟩
 refine As (AN (um ?_))
 refine uv (A2 rfl) (uv (Ae K5 rfl) (uv (Ae Jr rfl) (uv (An isAgg25 rfl (Has.frozen ab) rfl) (um ?_))))
 obtain ⟨x, aq, ah, ar⟩ := Bx r3
 obtain ⟨bh, bj, bk, ay, ai, aj, au, rfl, az, ak⟩ := Av.at (Ac _) ad ([]) aq.1 ah
 refine uv (AK underlying25 sizeOf34 rfl ai rfl aq) (uv (An isAgg34 rfl aj (ak 0 (by decide))) (uv (CR rfl rfl) (Aa ?_)))
 refine cQ (fun al => ?_) fun al => ?_
 ·have ba := Bf ar al
  refine Am (um ?_)
  obtain ⟨bb, bc⟩ := A1 ba
  refine uv (Bd rfl rfl bb) ?_
  refine ua (BX (um (ua (Aa (Ao ?_)))))
  refine BU results224 ?_
  obtain rfl := AL bc
  exact rfl
 have bd := Bg ar al
 refine Aq (AN (um (ua (Aa (Ao ?_)))))
 refine BU results224 ?_
 obtain rfl := AL bd
 exact rfl
set_option maxHeartbeats 1000000 in
theorem Oc {cg : Nat} {cn : Nat × Nat} {bp : Nat} {bq : Nat × Nat} {ai : Nat} {al : FuncId} {ao aq : Array Value} {closed : Int → Option Bool} {ax : Nat × Nat} (ar : F cg = some (.cells #[.int .i64 p] 3 cn)) (ak : F JI = some (.cells #[.pointer (some ⟨bp, 0, none⟩)] 253 Ox)) (af : F bp = some (.cells #[.int .i64 wide, .slice CJ By.length CI, .int .i64 down, .int .i64 CF, .bool ES] 323 bq)) (ad : Av 1 (iE .i64) F CJ CI By) (ab : F ai = some (.cells #[.func (.func al) ao aq] 89 ax)) (aa : HG Tryz.prog F al ao aq (iE .i64) Value.bool closed) {xs : List (Int × Int)} (hr : JM p wide By down CF ES closed = some xs) :
    Hs Tryz.prog 223 #[] #[.pointer (some ⟨cg, 0, none⟩), .pointer (some ⟨JI, 0, none⟩), .pointer (some ⟨ai, 0, none⟩)] F (fun x : Int × Int => #[.int .i64 x.1, .int .i64 x.2]) xs := by
 intro G0 bn yv J Jx dx dy hy Fc L0 hG cp
 replace ar := (bn.trans hG) _ _ ar
 replace ak := (bn.trans hG) _ _ ak
 replace af := (bn.trans hG) _ _ af
 replace ad := ad.mono (Ac _) (bn.trans hG)
 replace ab := (bn.trans hG) _ _ ab
 replace aa := aa.mono (bn.trans hG)
 have bj : xs = [] ++ xs := rfl
 show SH.Spec Tryz.prog 223 #[yv, .pointer (some ⟨cg, 0, none⟩), .pointer (some ⟨JI, 0, none⟩), .pointer (some ⟨ai, 0, none⟩)] Fc L0 _
 refine sp func223 ntmps223 fun K _ _ => ?_
 rw [JM] at hr; refine E7 (L' := L0 ++ []) (by simp) ?_
 refine AN ?_
 refine uv (BH (v := .agg #[.int .i64 (-1), .int .i64 0]) rfl (by intro w; kernel_rfl)) ?_
 refine uv (BH (v := .agg #[.int .i64 0, .int .i64 (-1)]) rfl (by intro w; kernel_rfl)) ?_
 refine uv (BH (v := .agg #[.int .i64 0, .int .i64 1]) rfl (by intro w; kernel_rfl)) ?_
 refine uv (BH (v := .agg #[.int .i64 1, .int .i64 0]) rfl (by intro w; kernel_rfl)) ?_
 refine bA (cs := #[.int .i64 (-1), .int .i64 0, .int .i64 0, .int .i64 (-1), .int .i64 0, .int .i64 1, .int .i64 1, .int .i64 0]) Xe [.agg #[.int .i64 (-1), .int .i64 0], .agg #[.int .i64 0, .int .i64 (-1)], .agg #[.int .i64 0, .int .i64 1], .agg #[.int .i64 1, .int .i64 0]] ?_; intro b1 dz
 refine uv (A7 underlying345 rfl) ?_
 refine um (Aa ?_)
 refine Ap ?_
 refine Cs 0 rfl dz ?_; intro F2 bg eb
 refine E7 (L' := L0 ++ []) rfl ?_
 replace ad := ad.mono (Ac _) bg
 replace aa := aa.mono bg
 replace ar := bg _ _ ar
 replace af := bg _ _ af
 replace ak := bg _ _ ak
 replace ab := bg _ _ ab
 replace hG := hG.trans bg
 replace cp := dx _ _ _ _ cp bg
 have h5 : Av 2 (Br (iE .i64) (iE .i64)) F2 (some ⟨b1, 0, none⟩) 4 [(-1, 0), (0, -1), (0, 1), (1, 0)] := Av.BM (Au (Ac _) (Ac _)) (vss := [[.int .i64 (-1), .int .i64 0], [.int .i64 0, .int .i64 (-1)], [.int .i64 0, .int .i64 1], [.int .i64 1, .int .i64 0]]) (xs := [(-1, 0), (0, -1), (0, 1), (1, 0)]) eb (.cons ⟨_, _, rfl, rfl, rfl⟩ (.cons ⟨_, _, rfl, rfl, rfl⟩ (.cons ⟨_, _, rfl, rfl, rfl⟩ (.cons ⟨_, _, rfl, rfl, rfl⟩ .nil)))) rfl (by simp [maxLen])
 obtain ⟨bo, ec⟩ := A1 hr
 refine Bh (fun cj e1 F1 L1 => ∃ (k : Int), Dc 0 4 k cj ∧ ∃ (pre6 : List (Int × Int)) (aw : List (Int × Int)) (ba : LH), Cx p wide By down CF ES closed cj k = some aw ∧ A3 F2 F1 ∧ L1 = (ba ++ []) ∧ e1.sub [(0, yv), (1, .pointer (some ⟨cg, 0, none⟩)), (2, .pointer (some ⟨JI, 0, none⟩)), (3, .pointer (some ⟨ai, 0, none⟩)), (12, .slice (some ⟨b1, 0, none⟩) [(-1, 0), (0, -1), (0, 1), (1, 0)].length 4), (13, .int .i64 4), (14, .int .i64 k)] ∧ xs = pre6 ++ aw ∧ J pre6 F1 ba ∧ A3 G0 F1) _ (m0 kr ⟨_, Dc.start _ _, [], xs, L0, ec, A3.refl _, rfl, z7, bj, cp, hG⟩) ?_
 rintro cj e1 gb _ ⟨k, au, pre6, aw, ba, ck, aj, rfl, cq, ae, bk, hG⟩
 refine AB _ cq ?_
 replace ad := ad.mono (Ac _) aj
 replace h5 := h5.mono (Au (Ac _) (Ac _)) aj
 replace aa := aa.mono aj
 replace ar := aj _ _ ar
 replace af := aj _ _ af
 replace ak := aj _ _ ak
 replace ab := aj _ _ ab
 refine AN (uv (Bb rfl rfl) ?_)
 refine Aa (As ?_)
 refine cQ (fun bc => ?_) fun bc => ?_
 ·obtain ⟨cj, rfl, ay⟩ := Dc.succ au bc
  rw [Cx] at ck
  refine Aq (As ?_)
  refine Ap (AN ?_)
  obtain ⟨x, dm, ct, eg⟩ := Bx ck
  obtain ⟨gg, gh, gk, eh, cu, cv, bh, ⟨_, _, rfl, rfl, rfl⟩, cw, cx⟩ := Av.at (Au (Ac _) (Ac _)) h5 (ba ++ []) dm.1 ct
  refine uv (AK underlying345 sizeOf321 rfl cu rfl dm) (uv (AS isAgg321 sizeOf321 rfl cv bh (BB bh cw cx)) ?_)
  refine Bo rfl zeroValue321 ?_; intro dn ei
  refine B1 (i := 0) sizeOf321 rfl rfl rfl (by simp [Value.oneCell']) rfl (CK rfl) (AI rfl (dN (wv (An isAgg3 rfl (Has.frozen ar) rfl) (wv (Ae QT rfl) (wv (An isAgg3 rfl (Has.own 0 rfl) rfl) (wv (An isAgg253 rfl (Has.frozen ak) rfl) (wv (A2 rfl) ?_)))))))
  refine wv (Ae K5 rfl) (wv (Ae NF rfl) (wv (An isAgg3 rfl (Has.frozen af) rfl) ?_))
  obtain ⟨ej, en⟩ := A1 eg
  refine wv (Zd rfl rfl ej) ?_
  obtain ⟨eo, ep⟩ := A1 en
  refine wv (Bd rfl rfl eo) (wv (Ae TR rfl) (wv (An isAgg3 rfl (Has.own 0 rfl) rfl) ?_))
  obtain ⟨er, eu⟩ := A1 ep
  refine wv (Bd rfl rfl er) ?_
  refine wa (CQ (As ?_))
  refine dW (wv (An isAgg253 rfl (Has.frozen ak) rfl) (wv (A2 rfl) (wv (Ae K5 rfl) (wv (AS isAgg27 sizeOf27 rfl (Has.frozen af) (CK rfl) rfl) (wm ?_)))))
  obtain ⟨ok, ew, dp⟩ := AG eu
  refine I8 rfl call47 rfl rfl rfl (LY ad ew) (wv (BC rfl) (wm ?_))
  rcases Co (!ok) with av | av
  ·have ey := bt dp av
   refine Bv (b' := true) 38 rfl (JS rfl av) rfl rfl (Bv (b' := true) 38 rfl (JS rfl av) rfl rfl (Bv (b' := true) 38 rfl (JS rfl av) rfl rfl (Bv (b' := true) 38 rfl (JS rfl av) rfl rfl (FF 42 rfl rfl rfl (FF 42 rfl rfl rfl (FF 42 rfl rfl rfl (FF 42 rfl rfl rfl (FF 42 rfl rfl rfl (FF 42 rfl rfl rfl ?_)))))))))
   refine FF 42 rfl rfl rfl (FF 42 rfl rfl rfl (FF 42 rfl rfl rfl (FF 42 rfl rfl rfl (FF 42 rfl rfl rfl (FF 42 rfl rfl rfl (FF 42 rfl rfl rfl (FF 42 rfl rfl rfl (FF 42 rfl rfl rfl (Bv (b' := true) 38 rfl (JS rfl av) rfl rfl ?_)))))))))
   refine wv (AW (Iy rfl av) rfl) ?_
   refine wm (Bv (b' := true) 60 rfl rfl rfl rfl (Bv (b' := true) 60 rfl rfl rfl rfl (Bv (b' := true) 60 rfl rfl rfl rfl ?_)))
   refine wv (AW rfl rfl) (CQ ?_)
   refine A5 rfl (fun dq => ?_) (fun dq => nomatch dq)
   refine AT (Af ?_)
   refine Ay (Am (uv (Bd rfl rfl (Dc.Eg au bc bo)) ?_))
   refine um (Aa ?_)
   exact le (kd kr) ⟨_, ay, pre6, aw, ba, ey, aj, rfl, z7, ae, bk, hG⟩
  have dr := bf dp av
  refine BN (b := false) 38 rfl (JS rfl av) (wv (Ae QT rfl) (BN (b := false) 38 rfl (JS rfl av) (wv (An isAgg3 rfl (Has.own 0 rfl) rfl) (BN (b := false) 38 rfl (JS rfl av) (wv (CR rfl rfl) ?_)))))
  refine BN (b := false) 38 rfl (JS rfl av) (wm ?_)
  by_cases ah : x.1 = 0
  ·have ez := Bf dr ah
   refine BN (b := true) 42 rfl (Env.Ky rfl ah) (wm (BN (b := true) 42 rfl (Env.Ky rfl ah) ?_))
   refine wv (An isAgg253 rfl (Has.frozen ak) rfl) (BN (b := true) 42 rfl (Env.Ky rfl ah) (wv (A2 rfl) (BN (b := true) 42 rfl (Env.Ky rfl ah) (wv (Ae K5 rfl) (BN (b := true) 42 rfl (Env.Ky rfl ah) (wv (Ae NF rfl) (BN (b := true) 42 rfl (Env.Ky rfl ah) ?_)))))))
   refine wv (An isAgg3 rfl (Has.frozen af) rfl) (BN (b := true) 42 rfl (Env.Ky rfl ah) ?_)
   obtain ⟨fa, fb⟩ := A1 ez
   refine wv (WA rfl rfl fa) (BN (b := true) 42 rfl (Env.Ky rfl ah) (wv (An isAgg3 rfl (Has.frozen ar) rfl) (BN (b := true) 42 rfl (Env.Ky rfl ah) (wv (An isAgg253 rfl (Has.frozen ak) rfl) (BN (b := true) 42 rfl (Env.Ky rfl ah) (wv (A2 rfl) (BN (b := true) 42 rfl (Env.Ky rfl ah) ?_)))))))
   refine wv (Ae K5 rfl) (BN (b := true) 42 rfl (Env.Ky rfl ah) (wv (Ae NF rfl) (BN (b := true) 42 rfl (Env.Ky rfl ah) (wv (An isAgg3 rfl (Has.frozen af) rfl) (BN (b := true) 42 rfl (Env.Ky rfl ah) ?_)))))
   obtain ⟨fe, dt⟩ := A1 fb
   refine wv (WA rfl rfl fe) (BN (b := true) 42 rfl (Env.Ky rfl ah) (wv (B7 rfl rfl) (BN (b := false) 38 rfl (JS rfl av) (wv (AW (Bn rfl ah) rfl) (wv (AH (Iy rfl av) rfl) (wm ?_))))))
   by_cases bb : (Int.tdiv ((p + (x.1 * wide)) + x.2) wide) ≠ (Int.tdiv p wide)
   ·have ff := Bf dt bb
    refine Bv (b' := true) 60 rfl (Env.Ky rfl bb) rfl rfl (Bv (b' := true) 60 rfl (Env.Ky rfl bb) rfl rfl (Bv (b' := true) 60 rfl (Env.Ky rfl bb) rfl rfl ?_))
    refine wv (AW (Bn rfl bb) rfl) (CQ ?_)
    refine A5 rfl (fun du => ?_) (fun du => nomatch du)
    refine AT (Af ?_)
    refine Ay (Am (uv (Bd rfl rfl (Dc.Eg au bc bo)) ?_))
    refine um (Aa ?_)
    exact le (kd kr) ⟨_, ay, pre6, aw, ba, ff, aj, rfl, z7, ae, bk, hG⟩
   have fg := Bg dt bb
   refine BN (b := false) 60 rfl (Env.Kt rfl bb) (wv (An isAgg89 rfl (Has.frozen ab) rfl) ?_)
   refine BN (b := false) 60 rfl (Env.Kt rfl bb) (wm (BN (b := false) 60 rfl (Env.Kt rfl bb) ?_))
   obtain ⟨gl, fh, dv⟩ := AG fg
   refine I8 rfl aa.1 rfl rfl rfl (aa.2 _ (A3.refl _) _ _ _ rfl fh) (wv (AH (A8 rfl bb) rfl) (CQ ?_))
   refine A5 rfl (fun cy => ?_) (fun cy => ?_)
   ·have fi := bt dv cy
    refine AT (Af ?_)
    refine Ay (Am (uv (Bd rfl rfl (Dc.Eg au bc bo)) ?_))
    refine um (Aa ?_)
    exact le (kd kr) ⟨_, ay, pre6, aw, ba, fi, aj, rfl, z7, ae, bk, hG⟩
   have fj := bf dv cy
   refine Aq (AN (um (um ?_)))
   refine uv (An isAgg253 rfl (Has.frozen ak) rfl) (uv (AS isAgg321 sizeOf321 rfl (Has.own 0 rfl) (CK rfl) rfl) (um ?_))
   obtain ⟨n, fk, fl⟩ := AG fj
   refine cV call224 (Lz af ad fk) ?_
   obtain ⟨bl, fm, br⟩ := TA fl
   refine OW (Lb := ba) (Lr := [(dn, ce #[.int .i64 x.1, .int .i64 x.2] 321)]) (vs := [.int .i64 ((p + (x.1 * wide)) + x.2), .int .i64 n]) rfl rfl rfl (fC fP) (hy pre6 ((p + (x.1 * wide)) + x.2, n) bl (by rw [ae, br]) _ _ hG bk) ?_
   rintro gm gn cz bu da; obtain ⟨fo, rfl, bw, bx⟩ := K7 da
   replace hG := hG.trans bu
   refine kO (kf (fS fO) kr) (uv (BC rfl) (Aa ?_))
   refine A5 rfl (fun db => ?_) (fun db => ?_)
   ·have dd := bx (by simpa using db)
    refine Ao (AA (Ah (Ah (AA ?_))))
    refine Ju (.inl rfl) results223 (s1 (s4 sr)) ?_
    exact .inr (by rw [List.append_nil]; exact dd)
   have de := bw (by simpa using db)
   have bd : xs = (pre6 ++ [((p + (x.1 * wide)) + x.2, n)]) ++ bl := by rw [ae, br]; simp
   refine Aq (AD (id := 1) (Am ?_))
   refine uv (Bd rfl rfl (Dc.Eg au bc bo)) ?_
   refine um (Aa ?_)
   exact le (kd kr) ⟨_, ay, pre6 ++ [((p + (x.1 * wide)) + x.2, n)], bl, cz, fm, (aj.trans bu), rfl, z7, bd, de, hG⟩
  have fp := Bg dr ah
  refine Bv (b' := false) 42 rfl (Env.Kt rfl ah) rfl rfl (Bv (b' := false) 42 rfl (Env.Kt rfl ah) rfl rfl (Bv (b' := false) 42 rfl (Env.Kt rfl ah) rfl rfl (Bv (b' := false) 42 rfl (Env.Kt rfl ah) rfl rfl (Bv (b' := false) 42 rfl (Env.Kt rfl ah) rfl rfl (Bv (b' := false) 42 rfl (Env.Kt rfl ah) rfl rfl (Bv (b' := false) 42 rfl (Env.Kt rfl ah) rfl rfl (Bv (b' := false) 42 rfl (Env.Kt rfl ah) rfl rfl (Bv (b' := false) 42 rfl (Env.Kt rfl ah) rfl rfl (Bv (b' := false) 42 rfl (Env.Kt rfl ah) rfl rfl ?_)))))))))
  refine Bv (b' := false) 42 rfl (Env.Kt rfl ah) rfl rfl (Bv (b' := false) 42 rfl (Env.Kt rfl ah) rfl rfl (Bv (b' := false) 42 rfl (Env.Kt rfl ah) rfl rfl (Bv (b' := false) 42 rfl (Env.Kt rfl ah) rfl rfl (Bv (b' := false) 42 rfl (Env.Kt rfl ah) rfl rfl (BN (b := false) 38 rfl (JS rfl av) ?_)))))
  refine wv (AH (A8 rfl ah) rfl) (wv (AH (Iy rfl av) rfl) ?_)
  refine wm (BN (b := false) 60 rfl rfl ?_)
  refine wv (An isAgg89 rfl (Has.frozen ab) rfl) ?_
  refine BN (b := false) 60 rfl rfl (wm (BN (b := false) 60 rfl rfl ?_))
  obtain ⟨gp, fq, dw⟩ := AG fp
  refine I8 rfl aa.1 rfl rfl rfl (aa.2 _ (A3.refl _) _ _ _ rfl fq) (wv (AH rfl rfl) (CQ ?_))
  refine A5 rfl (fun df => ?_) (fun df => ?_)
  ·have ft := bt dw df
   refine AT (Af ?_)
   refine Ay (Am (uv (Bd rfl rfl (Dc.Eg au bc bo)) ?_))
   refine um (Aa ?_)
   exact le (kd kr) ⟨_, ay, pre6, aw, ba, ft, aj, rfl, z7, ae, bk, hG⟩
  have fv := bf dw df
  refine Aq (AN (um (um ?_)))
  refine uv (An isAgg253 rfl (Has.frozen ak) rfl) (uv (AS isAgg321 sizeOf321 rfl (Has.own 0 rfl) (CK rfl) rfl) (um ?_))
  obtain ⟨n2, fw, fx⟩ := AG fv
  refine cV call224 (Lz af ad fw) ?_
  obtain ⟨bm, fy, bz⟩ := TA fx
  refine OW (Lb := ba) (Lr := [(dn, ce #[.int .i64 x.1, .int .i64 x.2] 321)]) (vs := [.int .i64 ((p + (x.1 * wide)) + x.2), .int .i64 n2]) rfl rfl rfl (fC fP) (hy pre6 ((p + (x.1 * wide)) + x.2, n2) bm (by rw [ae, bz]) _ _ hG bk) ?_
  rintro gq gr dg ca dh; obtain ⟨ga, rfl, cb, cd⟩ := K7 dh
  replace hG := hG.trans ca
  refine kO (kf (fS fO) kr) (uv (BC rfl) (Aa ?_))
  refine A5 rfl (fun di => ?_) (fun di => ?_)
  ·have dk := cd (by simpa using di)
   refine Ao (AA (Ah (Ah (AA ?_))))
   refine Ju (.inl rfl) results223 (s1 (s4 sr)) ?_
   exact .inr (by rw [List.append_nil]; exact dk)
  have cf := cb (by simpa using di)
  have az : xs = (pre6 ++ [((p + (x.1 * wide)) + x.2, n2)]) ++ bm := by rw [ae, bz]; simp
  refine Aq (AD (id := 1) (Am ?_))
  refine uv (Bd rfl rfl (Dc.Eg au bc bo)) ?_
  refine um (Aa ?_)
  exact le (kd kr) ⟨_, ay, pre6 ++ [((p + (x.1 * wide)) + x.2, n2)], bm, dg, fy, (aj.trans ca), rfl, z7, az, cf, hG⟩
 obtain rfl := Dc.zero au bc
 rw [Cx] at ck
 refine AT (Af (Af ?_))
 refine Ay (Ju (.inr rfl) results223 (sr) ?_)
 obtain rfl := AL ck
 exact .inl (by have e1 := ae; rw [List.append_nil] at e1; rw [List.append_nil, e1]; exact bk)
set_option maxHeartbeats 1000000 in
theorem PB (ab : F JI = some (.cells #[.int .i64 wide, .slice CJ By.length CI, .int .i64 down, .int .i64 CF, .bool ES] 323 Ox)) (aa : Av 1 (iE .i64) F CJ CI By) {r : List (Int × Int)} (hr : KE wide By down CF ES p = some r) :
    SH.Spec Tryz.prog 178 #[.pointer (some ⟨JI, 0, none⟩), .int .i64 p] F [] fun F' L' v => ∃ (al : Array Value), v = .func (.func 223) #[] al ∧ L' = [] ∧ Hs Tryz.prog 223 #[] al F' (fun x : Int × Int => #[.int .i64 x.1, .int .i64 x.2]) r := by
 refine sp func178 ntmps178 fun K _ _ => ?_
 rw [KE] at hr
 refine AN ?_
 refine Bt rfl rfl ?_; intro b1 au
 refine Bt rfl rfl ?_; intro b2 av
 refine ua (BX ?_)
 refine uv (An isAgg253 rfl (Has.own 1 rfl) rfl) (uv (A2 rfl) (uv (Ae K5 rfl) (uv (AS isAgg27 sizeOf27 rfl (Has.frozen ab) (CK rfl) rfl) (uv (BP rfl rfl) ?_))))
 refine Bo rfl zeroValue89 ?_; intro b3 aw
 refine Cv (i := 0) sizeOf89 rfl rfl rfl rfl (CK rfl) (AI rfl (BX (uv (BP rfl rfl) ?_)))
 refine ua (Aa ?_)
 refine Cs 1 rfl av ?_; intro F4 ao ae
 refine E7 (L' := [(b3, ce (#[.func (.func 222) #[.agg #[.int .i64 wide, .slice CJ By.length CI]] #[]]) 89), (b1, ce #[.pointer (some ⟨JI, 0, none⟩)] 253)]) rfl ?_
 replace aa := aa.mono (Ac _) ao
 replace ab := ao _ _ ab
 refine Cs 1 rfl au ?_; intro F7 ah ai
 refine E7 (L' := [(b3, ce (#[.func (.func 222) #[.agg #[.int .i64 wide, .slice CJ By.length CI]] #[]]) 89)]) rfl ?_
 replace aa := aa.mono (Ac _) ah
 replace ab := ah _ _ ab
 replace ae := ah _ _ ae
 refine Cs 0 rfl aw ?_; intro aq ad aj
 refine E7 (L' := []) rfl ?_
 replace aa := aa.mono (Ac _) ad
 replace ab := ad _ _ ab
 replace ae := ad _ _ ae
 replace ai := ad _ _ ai
 have ak : HG Tryz.prog aq 222 #[.agg #[.int .i64 wide, .slice CJ By.length CI]] #[] (iE .i64) Value.bool (fun ar : Int => Jn wide By ar) := ⟨call222, fun F2 h2 vs ar r ha hr => by obtain rfl := ha; exact PS (aa.mono (Ac _) h2) hr⟩
 obtain ⟨l, ax, ay⟩ := AG hr
 have af : Hs Tryz.prog 223 #[] #[.pointer (some ⟨b2, 0, none⟩), .pointer (some ⟨b1, 0, none⟩), .pointer (some ⟨b3, 0, none⟩)] aq (fun x : Int × Int => #[.int .i64 x.1, .int .i64 x.2]) l := Oc ae ai ab aa aj ak ax
 refine Ao (BU results178 ?_)
 obtain rfl := AL ay
 exact ⟨_, rfl, rfl, af⟩
set_option maxHeartbeats 1000000 in
theorem PE (az : F JI = some (.cells #[.int .i64 wide, .slice CJ By.length CI, .int .i64 down, .int .i64 CF, .bool ES] 323 Ox)) (al : Av 1 (iE .i64) F CJ CI By) {r : List Int} (hr : KY wide By down CF ES DK = some r) :
    SH.Spec Tryz.prog 117 #[.pointer (some ⟨JI, 0, none⟩), .int .i64 DK] F [] fun F' L' v => ∃ (ra : Option Addr) (rn : Nat) (rc : Nat) (rL : LH), v = .slice ra rn rc ∧ L' = rL ++ [] ∧ Be 0 3 1 (iE .i64) F' ra rn rc r rL := by
 refine sp func117 ntmps117 fun K _ _ => ?_
 rw [KY] at hr
 refine AN (ua (BX (um ?_)))
 refine uv (A2 rfl) (uv (Ae K5 rfl) (uv (Ae Jr rfl) (uv (An isAgg25 rfl (Has.frozen az) rfl) (uv (A7 underlying25 rfl) ?_))))
 obtain ⟨g1, r2⟩ := A1 hr
 obtain ⟨l, h3, r4⟩ := CH r2
 refine Mx (R := (iE .i64)) (z0 := 0) (zs := l) rfl Cm (by decide) (Ac _) (fun _ => rfl) rfl g1 h3 (fun _ => .n) ?_; intro a5 n8 jv j0
 refine Bo rfl zeroValue33 ?_; intro J4 jw
 refine Cv (i := 0) sizeOf33 rfl rfl rfl rfl (CK rfl) (AI rfl (Aa ?_))
 obtain ⟨out, jx, j1⟩ := AG r4
 refine A0 (fun e1 F1 L1 => ∃ (ba : LH), F = F1 ∧ L1 = ((J4, ce #[.slice a5 n8 n8] 33) :: (ba ++ [])) ∧ e1.sub [(0, .pointer (some ⟨JI, 0, none⟩)), (1, .int .i64 DK), (5, .pointer (some ⟨J4, 0, none⟩))] ∧ Be K.w0.heap.size 3 1 (iE .i64) F1 a5 n8 n8 out ba) ?_ ?_
 ·clear j1
  refine AN (uv (An isAgg33 rfl (Has.own 0 rfl) rfl) (uv ((A7 underlying33 rfl).i (Be.Kw j0)) ?_))
  refine um (Aa ?_)
  refine Ap ?_
  obtain ⟨jz, kb⟩ := A1 jx
  refine Bh (fun ej e1 F1 L1 => ∃ (k : Int), Dc 0 (l.length : Int) k ej ∧ ∃ (BD : List Int) (aw : LH), Gg ej k BD = some out ∧ F = F1 ∧ L1 = ((J4, ce #[.slice a5 n8 n8] 33) :: (aw ++ [])) ∧ e1.sub [(0, .pointer (some ⟨JI, 0, none⟩)), (1, .int .i64 DK), (5, .pointer (some ⟨J4, 0, none⟩)), (19, .int .i64 (l.length : Int)), (20, .int .i64 k)] ∧ Be K.w0.heap.size 3 1 (iE .i64) F1 a5 n8 n8 BD aw) _ (m0 kr ⟨_, Dc.start _ _, l, jv, kb, rfl, rfl, z5, j0⟩) ?_
  rintro ej e1 _ _ ⟨k, br, BD, aw, en, rfl, rfl, ey, bb⟩
  refine AB _ ey (AN (uv (Bb rfl rfl) ?_))
  refine Aa (As ?_)
  refine cQ (fun eo => ?_) fun eo => ?_
  ·obtain ⟨ej, rfl, ez⟩ := Dc.succ br eo
   rw [Gg] at en
   refine Aq (As ?_)
   refine Ap ?_
   refine AN (um (ua (Aa (Am ?_))))
   refine uv (An isAgg33 rfl (Has.own 0 rfl) rfl) (um ?_)
   obtain ⟨x, fa, fb, kh⟩ := Bx en
   obtain ⟨nf, ng, nh, kj, ct, kl, j2, rfl, km, ko⟩ := Be.at (Ac _) bb (L := (J4, ce #[.slice a5 n8 n8] 33) :: (aw ++ [])) (fC fP) fa.1 fb
   refine uv (AK underlying33 sizeOf3 rfl ct rfl (Be.idx bb fa)) ?_
   obtain ⟨fe, kt, ku⟩ := CH kh
   refine Gp (u := -1) sizeOf3 (Ac _) rfl ct rfl rfl (fun _ => .c .h) bb kt fa ?_; intro ff fg
   refine Aa (AD (id := 1) (Am ?_))
   refine uv (Bd rfl rfl (Dc.Eg br eo jz)) ?_
   refine um (Aa ?_)
   exact le kr ⟨_, ez, fe, ff, ku, rfl, rfl, z5, fg⟩
  obtain rfl := Dc.zero br eo
  rw [Gg] at en
  refine AT (Af (Af ?_))
  refine Ay ?_
  obtain rfl := AL en
  exact mi kr ⟨aw, rfl, rfl, z3, bb⟩
 rintro e1 _ _ ⟨ba, rfl, rfl, fh, bu⟩
 refine AB _ fh (AN (uv (An isAgg33 rfl (Has.own 0 rfl) rfl) (um ?_)))
 obtain ⟨x2, fi, fj, kv⟩ := Bx j1
 obtain ⟨ni, nj, nk, kz, cu, l0, j3, rfl, ld, lg⟩ := Be.at (Ac _) bu (L := (J4, ce #[.slice a5 n8 n8] 33) :: (ba ++ [])) (fC fP) fi.1 fj
 refine uv (AK underlying33 sizeOf3 rfl cu rfl (Be.idx bu fi)) ?_
 obtain ⟨fk, lh, lj⟩ := CH kv
 refine Gp (u := 0) sizeOf3 (Ac _) rfl cu rfl rfl (fun _ => .c .h) bu lh fi ?_; intro bw fl
 refine BX (um ?_)
 refine bA (cs := #[.int .i64 DK]) Cm [.int .i64 DK] ?_; intro ep fm
 refine Bo rfl zeroValue33 ?_; intro au lk
 have cv : Be K.w0.heap.size 3 1 (iE .i64) F (some ⟨ep, 0, none⟩) 1 1 [DK] [(ep, ce #[.int .i64 DK] 3)] := Be.BM (vss := [[.int .i64 DK]]) (Ac _) fm (.cons rfl .nil) rfl rfl (by simp [maxLen])
 generalize bx : ([(ep, ce #[.int .i64 DK] 3)] : LH) = bz at cv
 refine Cz (L' := bz ++ ((au, ce #[.slice none 0 0] 33) :: ((J4, ce #[.slice a5 n8 n8] 33) :: (bw ++ [])))) (by rw [← bx]; exact (fC fO)) ?_
 refine Cz (L' := (au, ce #[.slice none 0 0] 33) :: ((J4, ce #[.slice a5 n8 n8] 33) :: (bz ++ (bw ++ [])))) (List.Perm.symm (fC (fC fP))) (Cv (i := 0) sizeOf33 rfl rfl rfl rfl (CK rfl) (AI rfl (Aa ?_)))
 obtain ⟨ca, ll, j4⟩ := AG lj
 refine A0 (fun e1 F1 L1 => ∃ (cb : LH), A3 F F1 ∧ L1 = ((J4, ce #[.slice a5 n8 n8] 33) :: (cb ++ [])) ∧ e1.sub [(5, .pointer (some ⟨J4, 0, none⟩))] ∧ Be K.w0.heap.size 3 1 (iE .i64) F1 a5 n8 n8 ca cb) ?_ ?_
 ·clear j4
  refine Ap ?_
  refine Bh (fun cw e1 F1 L1 => ∃ (bc : List Int) (line : List Int) (av : LH) (er : Option Addr) (eu : Nat) (ew : Nat) (bd : LH), Fi wide By down CF ES cw bc line = some ca ∧ A3 F F1 ∧ L1 = ((au, ce #[.slice er eu ew] 33) :: ((J4, ce #[.slice a5 n8 n8] 33) :: (av ++ (bd ++ [])))) ∧ e1.sub [(0, .pointer (some ⟨JI, 0, none⟩)), (5, .pointer (some ⟨J4, 0, none⟩)), (7, .pointer (some ⟨au, 0, none⟩))] ∧ Be K.w0.heap.size 3 1 (iE .i64) F1 a5 n8 n8 bc av ∧ Be K.w0.heap.size 3 1 (iE .i64) F1 er eu ew line bd) FU (m0 (kc (kc (kg (fS fP) kr))) ⟨fk, [DK], bw, (some ⟨ep, 0, none⟩), 1, 1, bz, ll, A3.refl _, rfl, z3, fl, cv⟩) ?_
  rintro cw e1 np _ ⟨bc, line, av, er, eu, ew, bd, cx, bg, rfl, fo, bh, bj⟩
  refine AB _ fo ?_
  replace al := al.mono (Ac _) bg
  replace az := bg _ _ az
  rcases cw with _ | cw
  ·rw [Fi] at cx; cases cx
  rw [Fi] at cx
  refine As (AN ?_)
  refine uv (An isAgg33 rfl (Has.own 0 rfl) rfl) (uv ((A7 underlying33 rfl).i (Be.Kw bj)) (uv (KS rfl rfl) (Aa ?_)))
  refine cQ (fun fp => ?_) fun fp => ?_
  ·have lq := Bf cx fp
   refine Aq (Ap (AN (uv (An isAgg33 rfl (Has.own 0 rfl) rfl) ?_)))
   obtain ⟨x3, j5, fq, lr⟩ := Bx lq
   obtain ⟨nq, nr, ns, lu, ft, fv, j6, rfl, lv, fw⟩ := Be.at (Ac _) bj (L := (au, ce #[.slice er eu ew] 33) :: ((J4, ce #[.slice a5 n8 n8] 33) :: (av ++ (bd ++ [])))) (fC (fC (fS fP))) j5.1 fq
   refine uv (AK underlying33 sizeOf3 rfl ft rfl (Be.idx bj j5)) (uv (An isAgg3 rfl fv (fw 0 (by decide))) ?_)
   refine Bo rfl zeroValue3 ?_; intro ay lx
   refine Cv (i := 0) sizeOf3 rfl rfl rfl rfl (CK rfl) (AI rfl (BX (uv (An isAgg33 rfl (Has.own 1 rfl) rfl) ?_)))
   obtain ⟨ly, ma⟩ := A1 lr
   obtain ⟨bl, mb, fx⟩ := CH ma
   refine Rl (l := 1) (h := (line.length : Int)) (zs := bl) rfl Cm (Ac _) rfl (.inr ⟨_, rfl, rfl⟩) (.inl ⟨rfl, rfl⟩) (fun _ => .c (.c (.c (.s .h)))) bj ly mb ?_; intro fy ga gb cy cd
   refine Cv (i := 1) sizeOf33 rfl rfl rfl rfl (CK rfl) (AI rfl ?_)
   refine BX (um ?_)
   refine uv (An isAgg3 rfl (Has.own 0 rfl) rfl) ?_
   obtain ⟨y, gg, gh⟩ := AG fx
   refine c0 call178 (PB az al gg) ?_; rintro _ mc _ ax j7 ⟨j8, rfl, rfl, cf⟩
   replace bh := bh.mono (Ac _) ax
   replace cd := cd.mono (Ac _) ax
   refine AI (ln rfl) (Aa (Ap ?_))
   refine J0 (encs := (fun x : Int × Int => #[.int .i64 x.1, .int .i64 x.2])) (xs := y) rfl call223 rfl (fun _ => rfl) cf (fun pre F1 L1 => ∃ (tl : List (Int × Int)) (ao : List Int) (af : List Int) (ab : LH) (ah : Option Addr) (ai : Nat) (aj : Nat) (ae : LH), y = pre ++ tl ∧ E9 x3 (Fi wide By down CF ES cw) tl ao af = some ca ∧ L1 = ((ay, ce #[.int .i64 x3] 3) :: ((au, ce #[.slice ah ai aj] 33) :: ((J4, ce #[.slice a5 n8 n8] 33) :: (ab ++ (ae ++ []))))) ∧ Be K.w0.heap.size 3 1 (iE .i64) F1 a5 n8 n8 ao ab ∧ Be K.w0.heap.size 3 1 (iE .i64) F1 ah ai aj af ae) (fun _ _ _ => False) ?_ ?_ ?_ ?_ ?_ ?_
   ·rintro pre F1 F2 L1 ⟨tl, ao, af, ab, ah, ai, aj, ae, aq, gk, rfl, ad, ak⟩ hx; exact ⟨tl, ao, af, ab, ah, ai, aj, ae, aq, gk, rfl, ad.mono (Ac _) hx, ak.mono (Ac _) hx⟩
   ·intro c F1 F2 L1 h hx; exact h
   ·exact ⟨_, bc, bl, av, fy, ga, gb, cy, rfl, gh, rfl, bh, cd⟩
   ·rintro me j9 ja jb jc jd cg je pre x4 nt ar mg _ jf ⟨tl, ao, af, ab, ah, ai, aj, ae, aq, cz, rfl, ad, ak⟩
    obtain rfl := NI aq ar
    rw [E9] at cz
    refine AB [(0, .pointer (some ⟨JI, 0, none⟩)), (5, .pointer (some ⟨J4, 0, none⟩)), (7, .pointer (some ⟨au, 0, none⟩)), (8, .pointer (some ⟨ay, 0, none⟩)), (43, .int .i64 x4.1), (44, .int .i64 x4.2)] (by exact z6) ?_
    refine AN (ua (Aa (Am (ua (Aa ?_)))))
    refine ⟨rfl, ?_⟩
    refine Ap ?_
    obtain ⟨k2, gl, cj⟩ := AG cz
    refine jE (((ay, ce #[.int .i64 x3] 3) :: ((au, ce #[.slice ah ai aj] 33) :: ((J4, ce #[.slice a5 n8 n8] 33) :: (ab ++ (ae ++ [])))))) [(0, .pointer (some ⟨JI, 0, none⟩)), (5, .pointer (some ⟨J4, 0, none⟩)), (7, .pointer (some ⟨au, 0, none⟩)), (8, .pointer (some ⟨ay, 0, none⟩)), (9, .int .i64 x4.1), (10, .int .i64 x4.2), (43, .int .i64 x4.1), (44, .int .i64 x4.2), (62, .bool k2)] ?_ ?_
    ·clear cj
     refine O6 (by kernel_rfl) (by kernel_rfl) (by kernel_rfl) (wv (An isAgg33 rfl (Has.own 2 rfl) rfl) (wm ?_))
     obtain ⟨x5, bk, bm, da⟩ := Bx gl
     obtain ⟨mh, mj, ml, jg, db, dd, gm, rfl, jh, de⟩ := Be.at (Ac _) ad (L := (ay, ce #[.int .i64 x3] 3) :: ((au, ce #[.slice ah ai aj] 33) :: ((J4, ce #[.slice a5 n8 n8] 33) :: (ab ++ (ae ++ []))))) (fC (fC (fC fP))) bk.1 bm
     refine wv (AK underlying33 sizeOf3 rfl db rfl (Be.idx ad bk)) (wv (An isAgg3 rfl dd (de 0 (by decide))) (wv (CR rfl rfl) (wm ?_)))
     by_cases aa : x5 = (-1)
     ·have gn := Bf da aa
      refine Bv (b' := true) 50 rfl (Env.Ky rfl aa) rfl rfl (Bv (b' := true) 50 rfl (Env.Ky rfl aa) rfl rfl (Bv (b' := true) 50 rfl (Env.Ky rfl aa) rfl rfl (Bv (b' := true) 50 rfl (Env.Ky rfl aa) rfl rfl (Bv (b' := true) 50 rfl (Env.Ky rfl aa) rfl rfl (Bv (b' := true) 50 rfl (Env.Ky rfl aa) rfl rfl (Bv (b' := true) 50 rfl (Env.Ky rfl aa) rfl rfl (Bv (b' := true) 50 rfl (Env.Ky rfl aa) rfl rfl (Bv (b' := true) 50 rfl (Env.Ky rfl aa) rfl rfl (Bv (b' := true) 50 rfl (Env.Ky rfl aa) rfl rfl ?_)))))))))
      refine Bv (b' := true) 50 rfl (Env.Ky rfl aa) rfl rfl (wv (AW (Bn rfl aa) rfl) (CQ ?_))
      obtain rfl := AL gn
      exact mi kr ⟨rfl, rfl, (sc rfl z8)⟩
     have gp := Bg da aa
     refine BN (b := false) 50 rfl (Env.Kt rfl aa) (wv (An isAgg33 rfl (Has.own 2 rfl) rfl) (BN (b := false) 50 rfl (Env.Kt rfl aa) (wv (An isAgg3 rfl (Has.own 0 rfl) rfl) (BN (b := false) 50 rfl (Env.Kt rfl aa) ?_))))
     obtain ⟨x6, df, dg, gq⟩ := Bx gp
     obtain ⟨mn, mo, mq, ji, dh, di, gr, rfl, jj, dk⟩ := Be.at (Ac _) ad (L := (ay, ce #[.int .i64 x3] 3) :: ((au, ce #[.slice ah ai aj] 33) :: ((J4, ce #[.slice a5 n8 n8] 33) :: (ab ++ (ae ++ []))))) (fC (fC (fC fP))) df.1 dg
     refine wv (AK underlying33 sizeOf3 rfl dh rfl (Be.idx ad df)) (BN (b := false) 50 rfl (Env.Kt rfl aa) (wv (An isAgg3 rfl di (dk 0 (by decide))) ?_))
     refine BN (b := false) 50 rfl (Env.Kt rfl aa) (wm (BN (b := false) 50 rfl (Env.Kt rfl aa) ?_))
     obtain ⟨gu, gv⟩ := A1 gq
     refine wv (Bd rfl rfl gu) (BN (b := false) 50 rfl (Env.Kt rfl aa) (wv (An isAgg33 rfl (Has.own 2 rfl) rfl) ?_))
     refine BN (b := false) 50 rfl (Env.Kt rfl aa) (wm (BN (b := false) 50 rfl (Env.Kt rfl aa) ?_))
     obtain ⟨mr, mu, mv, jk, dm, dn, gw, rfl, jl, dp⟩ := Be.at (Ac _) ad (L := (ay, ce #[.int .i64 x3] 3) :: ((au, ce #[.slice ah ai aj] 33) :: ((J4, ce #[.slice a5 n8 n8] 33) :: (ab ++ (ae ++ []))))) (fC (fC (fC fP))) bk.1 bm
     refine wv (AK underlying33 sizeOf3 rfl dm rfl (Be.idx ad bk)) (BN (b := false) 50 rfl (Env.Kt rfl aa) (wv (An isAgg3 rfl dn (dp 0 (by decide))) (BN (b := false) 50 rfl (Env.Kt rfl aa) (wv (Bb rfl rfl) (wv (AH (A8 rfl aa) rfl) (CQ ?_))))))
     obtain rfl := AL gv
     exact mi kr ⟨rfl, rfl, (sc rfl z8)⟩
    refine A5 rfl (fun ck => ?_) (fun ck => ?_)
    ·have gz := bt cj ck
     refine As (Dp [(.still, 0), (.still, 1), (.still, 2), (.still, 3), (.still, 4), (.still, 5), (.still, 6), (.still, 7), (.still, 8), (.seq, 9)] (by kernel_rfl) (by kernel_rfl) (trivial) (by rfl) (by kernel_rfl) (mL [5] ([(J4, ce #[.slice a5 n8 n8] 33)]) rfl (s0 (s1 (s1 (s2 (s3 (s3 sr)))))) (fun H F' L' cn cp => An isAgg33 rfl ((Has.own 0 rfl).ext cn cp) rfl) (mS [9] rfl (Bw rfl) (mL [5] ([(J4, ce #[.slice a5 n8 n8] 33)]) rfl (s0 (s1 (s1 (s2 (s3 (s3 sr)))))) (fun H F' L' cn cp => An isAgg33 rfl ((Has.own 0 rfl).ext cn cp) rfl) (mL [8] ([(ay, ce #[.int .i64 x3] 3)]) rfl (s0 (s2 (s1 (s1 (s3 (s3 sr)))))) (fun H F' L' cn cp => An isAgg3 rfl ((Has.own 0 rfl).ext cn cp) rfl) ?_)))))
     obtain ⟨x7, dq, dr, ia⟩ := Bx gz
     obtain ⟨mw, mx, my, jm, dt, du, ib, rfl, jn, dv⟩ := Be.at (Ac _) ad (L := ab ++ []) fP dq.1 dr
     refine mS [65, 66] rfl (AK underlying33 sizeOf3 rfl dt rfl (Be.idx ad dq)) (mL [67] (ab ++ []) rfl (s0 (s1 (s1 (s1 (s4 (s3 sr)))))) (fun H F' L' cn cp => An isAgg3 rfl (du.ext cn cp) (dv 0 (by decide))) (mS [10] rfl (Bw rfl) ?_))
     obtain ⟨ic, ie⟩ := A1 ia
     refine mS (v := .int .i64 (x7 + x4.2)) [68, 69] rfl (Bd rfl rfl ic) ?_
     obtain ⟨x8, cq, dw, ig⟩ := Bx ie
     obtain ⟨ij, ik, mz, jo, bn, jq, il, rfl, jr, js⟩ := Be.at (Ac _) ad (L := ab ++ []) fP cq.1 dw
     refine mS [63, 64] rfl (AK underlying33 sizeOf3 rfl bn rfl (Be.idx ad cq)) ?_
     refine ⟨_, [(70, .int .i64 (x7 + x4.2)), (71, .pointer (some ⟨ij, ik + (x4.1 : Int).toNat * 1, none⟩))], rfl, rfl, z2, by kernel_rfl, ?_⟩; intro H
     obtain ⟨l2, im, iq⟩ := CH ig
     refine Gp (u := x7 + x4.2) sizeOf3 (Ac _) rfl bn rfl rfl (fun _ => .c (.c (.c .h))) ad im cq ?_; intro bo dx
     refine Aa ⟨undef, rfl, A3.refl _, [], by kernel_rfl, .inl (.inl rfl), nm, ?_⟩
     refine Ff (Am (uv (An isAgg33 rfl (Has.own 1 rfl) rfl) (um ?_)))
     refine bA (cs := #[.int .i64 x4.1]) Cm [.int .i64 x4.1] ?_; intro na jt
     obtain ⟨bp, ir, iu, iv⟩ := GM iq
     refine Fm (xs := af) (ys := [x4.1]) (zs := bp) rfl Cm rfl rfl cg (fun _ => .c (.c (.c (.c (.s .h))))) ak (H2.box (vss := [[.int .i64 x4.1]]) (ys := [x4.1]) 0 rfl (Ac _) (.cons rfl .nil) rfl rfl) ir iu (by decide) ?_; intro dy dz eb bq ec
     refine kO (kd kr) (Cv (i := 1) sizeOf33 rfl rfl rfl rfl (CK rfl) (AI rfl ?_))
     refine Aa (AD (id := 5) ?_)
     refine ⟨(ay, ce #[.int .i64 x3] 3) :: ((au, ce #[.slice dy dz eb] 33) :: ((J4, ce #[.slice a5 n8 n8] 33) :: (bo ++ (bq ++ [])))), ⟨_, .refl _, sr⟩, ?_⟩; exact ⟨_, l2, bp, bo, dy, dz, eb, bq, (by rw [ar]; simp), iv, rfl, dx, ec⟩
    have iw := bf cj ck
    refine Aq (AD (id := 5) ?_)
    refine ⟨(ay, ce #[.int .i64 x3] 3) :: ((au, ce #[.slice ah ai aj] 33) :: ((J4, ce #[.slice a5 n8 n8] 33) :: (ab ++ (ae ++ [])))), ⟨_, .refl _, sr⟩, ?_⟩; exact ⟨_, ao, af, ab, ah, ai, aj, ae, (by rw [ar]; simp), iw, rfl, ad, ak⟩
   ·rintro nc _ eg ⟨tl, ao, af, ab, ah, ai, aj, ae, aq, eh, rfl, ad, ak⟩
    obtain rfl := O9 aq; rw [E9] at eh
    refine AD (id := 4) (AD (id := 3) ?_)
    exact le (kd kr) ⟨ao, af, ab, ah, ai, aj, ae, eh, ((bg.trans ax).trans eg), rfl, z3, ad, ak⟩
   intro c F1 L1 hx h; exact h.elim
  have iy := Bg cx fp
  refine AT (Af (Af ?_))
  refine Ay ?_
  obtain rfl := AL iy
  exact mi (kd (kc (ka kn))) ⟨av, bg, rfl, z1, bh⟩
 rintro e1 nd _ ⟨cb, ju, rfl, ei, iz⟩
 refine AB _ ei (AN (uv (An isAgg33 rfl (Has.own 0 rfl) rfl) ?_))
 refine ua (Aa ?_)
 refine kW (kd kr) (Ao (BU results117 ?_))
 obtain rfl := AL j4
 exact ⟨_, _, _, _, rfl, rfl, iz.any⟩
theorem SQ (aa : Av 1 (iE .i64) F CJ CI By) {r : List Int} {r2 : Int} (hr : OB wide By Cf DK = some (r, r2)) :
    SH.Spec Tryz.prog 41 #[.agg #[.int .i64 wide, .slice CJ By.length CI], .int .i64 Cf, .int .i64 DK] F [] fun F' L' v => ∃ (ra : Option Addr) (rn : Nat) (rc : Nat) (rL : LH), v = .tuple #[.slice ra rn rc, .int .i64 r2] ∧ L' = rL ++ [] ∧ Be 0 3 1 (iE .i64) F' ra rn rc r rL := by
 refine sp func41 ntmps41 fun K _ _ => ?_
 rw [OB] at hr
 refine AN ?_
 refine Bt rfl rfl ?_; intro b1 bg
 refine ua (ua (BX ?_))
 refine uv (AS isAgg27 sizeOf27 rfl (Has.own 0 rfl) (CK rfl) rfl) ?_
 refine um (um ?_)
 obtain ⟨d, n, h2, r3⟩ := Es hr
 refine c0 call116 (Qi aa h2) ?_; rintro _ F4 _ bh bj ⟨v8, rfl, rfl, al⟩
 refine AI (ln rfl) ?_
 refine um (ox rfl rfl rfl (ox rfl rfl rfl (ua (ua (Aa (As (AN (um ?_))))))))
 refine uv (B7 rfl rfl) (Aa ?_)
 refine cQ (fun ah => ?_) fun ah => ?_
 ·have ao := Bf r3 ah
  refine AN (um (ua (ua (Aa ?_))))
  refine kW kn ?_
  refine Ao (Ah ?_)
  refine CT results41 (A6 rfl) (A6 rfl) (sr) ?_
  obtain ⟨rfl, rfl⟩ := D2 ao
  exact ⟨_, _, _, [], rfl, rfl, Be.nil _ _ _ _ _⟩
 have aq := Bg r3 ah
 refine Aq (AN (um (um ?_)))
 obtain ⟨af, ab, down, CF, ES, ar, au⟩ := Rd aq
 have ak := al; rw [ar] at ak; obtain ⟨av, bk, aw, ai, ad, ⟨_, _, rfl, rfl, ⟨_, _, rfl, ⟨ax, ay, rfl, az⟩, ⟨_, _, rfl, rfl, ⟨_, _, rfl, rfl, rfl⟩⟩⟩⟩⟩ := ak; subst ai
 have ad : F4 av = some (.cells #[.int .i64 af, .slice ax ab.length ay, .int .i64 down, .int .i64 CF, .bool ES] 323 aw) := ad
 obtain ⟨l, ba, bb⟩ := AG au
 refine c0 call117 (PE ad az ba) ?_; rintro _ bl _ bc aj ⟨bm, bn, bo, bd, rfl, rfl, ae⟩
 replace ae := ae.new fun p hp => aj p (by simp [hp])
 refine AI (lp (ln rfl)) (kO (kf (fS fO) kr) ?_)
 refine ua (ua (Aa ?_))
 refine kW (kd kr) (Ao (CT results41 (A6 rfl) (A6 rfl) (sr) ?_))
 obtain ⟨rfl, rfl⟩ := D2 bb
 exact ⟨_, _, _, _, rfl, rfl, ae.any⟩
set_option maxHeartbeats 1000000 in
theorem OQ {aa : Option Addr} {ab : Nat} {rows : List (List Int)} (ao : Av 1 sE F aa ab rows) {r : Int} {r2 : List Int} (hr : Kp rows = some (r, r2)) :
    SH.Spec Tryz.prog 42 #[.slice aa rows.length ab] F [] fun F' L' v => ∃ (cq : Option Addr) (ct : Nat) (cu : Nat) (cv : LH), v = .agg #[.int .i64 r, .slice cq ct cu] ∧ L' = cv ++ [] ∧ Be 0 34 1 (iE .i64) F' cq ct cu r2 cv := by
 refine sp func42 ntmps42 fun K _ _ => ?_
 rw [Kp] at hr
 refine AN ?_
 refine Bo rfl zeroValue27 ?_; intro b1 eo
 refine BX ?_
 refine Bo rfl zeroValue27 ?_; intro b2 ep
 refine Aa ?_
 obtain ⟨ai, aj, h9, cw⟩ := Es hr
 refine A0 (fun e1 F1 L1 => ∃ (a3 : Option Addr) (n7 : Nat) (c4 : Nat) (bn : LH), F = F1 ∧ L1 = ((b2, ce #[.int .i64 ai, .slice a3 n7 c4] 27) :: ((b1, ce #[.int .i64 0, .slice none 0 0] 27) :: (bn ++ []))) ∧ e1.sub [(2, .pointer (some ⟨b1, 0, none⟩)), (3, .pointer (some ⟨b2, 0, none⟩))] ∧ Be K.w0.heap.size 34 1 (iE .i64) F1 a3 n7 c4 aj bn) ?_ ?_
 ·clear cw
  refine AN (um ?_)
  refine uv (A7 underlying256 rfl) ?_
  refine um (Aa ?_)
  refine Ap ?_
  refine Bh (fun cx e1 F1 L1 => LA rows cx fun tl k => ∃ (af : Int) (ad : List Int) (au : Option Addr) (av : Nat) (aw : Nat) (ak : LH), FO tl af ad = some (ai, aj) ∧ F = F1 ∧ L1 = ((b2, ce #[.int .i64 af, .slice au av aw] 27) :: ((b1, ce #[.int .i64 0, .slice none 0 0] 27) :: (ak ++ []))) ∧ e1.sub [(2, .pointer (some ⟨b1, 0, none⟩)), (3, .pointer (some ⟨b2, 0, none⟩)), (9, .slice aa rows.length ab), (10, .int .i64 (rows.length : Int)), (11, .int .i64 k)] ∧ Be K.w0.heap.size 34 1 (iE .i64) F1 au av aw ad ak) _ (m0 (kc (kc (ke kr))) ⟨_, _, rfl, BL.start _, 0, [], none, 0, 0, [], h9, rfl, rfl, z5, Be.nil _ _ _ _ _⟩) ?_
  rintro cx e1 _ _ ⟨tl, k, bo, ar, af, ad, au, av, aw, ak, bg, rfl, rfl, bp, bb⟩
  refine AB _ bp (AN (uv (Bb rfl rfl) ?_))
  refine Aa (As ?_)
  refine cQ (fun bh => ?_) fun bh => ?_
  ·obtain ⟨x, er, rfl, bq, cy, br⟩ := BL.succ ar bh
   rw [FO] at bg
   refine Aq ?_
   obtain ⟨ah, di, cz⟩ := AG bg
   refine A0 (fun e1 F1 L1 => ∃ (bj : Option Addr) (bk : Nat) (bl : Nat) (aq : LH), F = F1 ∧ L1 = ((b2, ce #[.int .i64 (x.length : Int), .slice bj bk bl] 27) :: ((b1, ce #[.int .i64 0, .slice none 0 0] 27) :: (aq ++ []))) ∧ e1.sub [(2, .pointer (some ⟨b1, 0, none⟩)), (3, .pointer (some ⟨b2, 0, none⟩)), (9, .slice aa rows.length ab), (10, .int .i64 (rows.length : Int)), (11, .int .i64 k)] ∧ Be K.w0.heap.size 34 1 (iE .i64) F1 bj bk bl ah aq) ?_ ?_
   ·clear cz
    refine Ap (AN ?_)
    obtain ⟨eu, ew, ey, dk, bu, bw, da, rfl, dm, bx⟩ := Av.at XT ao ((b2, ce #[.int .i64 af, .slice au av aw] 27) :: ((b1, ce #[.int .i64 0, .slice none 0 0] 27) :: (ak ++ []))) cy.1 bq
    refine uv (AK underlying256 sizeOf9 rfl bu rfl cy) (uv (An isAgg9 rfl bw (bx 0 (by decide))) ?_)
    refine ua (BX (um ?_))
    refine uv (WM underlying9 rfl) (uv (Ae NF rfl) (Cv (i := 0) sizeOf3 rfl rfl rfl rfl (CK rfl) (AI rfl ?_)))
    refine BX (um ?_)
    refine Uf (s := x) rfl underlying9 rfl ?_; intro ax dn
    refine Aa (Ap ?_)
    refine Bh (fun bm e1 F1 L1 => ∃ (ae : List Int) (pos : Nat) (ay : Option Addr) (az : Nat) (ba : Nat) (al : LH), FR x bm ae pos = some ah ∧ F = F1 ∧ L1 = ((ax, .stringIter (sB x) pos) :: ((b2, ce #[.int .i64 (x.length : Int), .slice ay az ba] 27) :: ((b1, ce #[.int .i64 0, .slice none 0 0] 27) :: (al ++ [])))) ∧ e1.sub [(2, .pointer (some ⟨b1, 0, none⟩)), (3, .pointer (some ⟨b2, 0, none⟩)), (9, .slice aa rows.length ab), (10, .int .i64 (rows.length : Int)), (11, .int .i64 k), (19, .pointer (some ⟨ax, 0, none⟩))] ∧ Be K.w0.heap.size 34 1 (iE .i64) F1 ay az ba ae al) FU (m0 kr ⟨ad, 0, au, av, aw, ak, di, rfl, rfl, z6, bb⟩) ?_
    rintro bm e1 _ _ ⟨ae, pos, ay, az, ba, al, bc, rfl, rfl, bz, bd⟩
    refine AB _ bz ?_
    rcases bm with _ | bm
    ·rw [FR] at bc; cases bc
    rw [FR] at bc
    refine AN ?_
    by_cases ca : pos < x.length
    ·have dp := Bf bc ca
     obtain ⟨c, ez, cb, dq⟩ := Bx dp
     obtain ⟨dr, dt⟩ := A1 dq
     refine Vx (i := 0) (c := c) rfl rfl rfl (by simpa using cb) dr (AI rfl ?_)
     refine ox rfl rfl rfl (Aa (As ?_))
     refine A5 rfl (fun db => ?_) (fun db => nomatch db)
     refine Aq (Ap ?_)
     refine AN (ox rfl rfl rfl (ua (BX (ua (Aa ?_)))))
     obtain ⟨p, dd, de⟩ := AG dt
     refine jE (((ax, .stringIter (sB x) (pos + 1)) :: ((b2, ce #[.int .i64 (x.length : Int), .slice ay az ba] 27) :: ((b1, ce #[.int .i64 0, .slice none 0 0] 27) :: (al ++ []))))) [(2, .pointer (some ⟨b1, 0, none⟩)), (3, .pointer (some ⟨b2, 0, none⟩)), (7, .int .i32 c), (8, .int .i64 p), (9, .slice aa rows.length ab), (10, .int .i64 (rows.length : Int)), (11, .int .i64 k), (19, .pointer (some ⟨ax, 0, none⟩))] ?_ ?_
     ·clear de
      refine AN (um ?_)
      refine uv (CR rfl rfl) (Aa ?_)
      refine cQ (fun cd => ?_) fun cd => ?_
      ·have du := Bf dd cd
       refine Am (ua (Aa ?_))
       obtain rfl := AL du
       exact mi kr ⟨rfl, rfl, z8⟩
      have dv := Bg dd cd
      refine Aq ?_
      obtain rfl := AL dv
      exact mi kr ⟨rfl, rfl, z8⟩
     obtain ⟨p2, df, dg⟩ := AG de
     refine jE (((ax, .stringIter (sB x) (pos + 1)) :: ((b2, ce #[.int .i64 (x.length : Int), .slice ay az ba] 27) :: ((b1, ce #[.int .i64 0, .slice none 0 0] 27) :: (al ++ []))))) [(2, .pointer (some ⟨b1, 0, none⟩)), (3, .pointer (some ⟨b2, 0, none⟩)), (8, .int .i64 p2), (9, .slice aa rows.length ab), (10, .int .i64 (rows.length : Int)), (11, .int .i64 k), (19, .pointer (some ⟨ax, 0, none⟩))] ?_ ?_
     ·clear dg
      refine AN (um ?_)
      refine uv (CR rfl rfl) (Aa ?_)
      refine cQ (fun cf => ?_) fun cf => ?_
      ·have dw := Bf df cf
       refine Am (ua (Aa ?_))
       obtain rfl := AL dw
       exact mi kr ⟨rfl, rfl, z7⟩
      have dx := Bg df cf
      refine Aq ?_
      obtain rfl := AL dx
      exact mi kr ⟨rfl, rfl, z7⟩
     refine Am (uv (Ae Jr rfl) (uv (An isAgg25 rfl (Has.own 1 rfl) rfl) (um ?_)))
     refine bA (cs := #[.int .i64 p2]) Wd [.int .i64 p2] ?_; intro fa dy
     obtain ⟨t, dz, eb, ec⟩ := GM dg
     refine Fm (xs := ae) (ys := [p2]) (zs := t) rfl Wd rfl rfl (Nat.le_refl _) (fun _ => .c (.c (.c (.c .h)))) bd (H2.box (vss := [[.int .i64 p2]]) (ys := [p2]) 0 rfl (Ac _) (.cons rfl .nil) rfl rfl) dz eb (by decide) ?_; intro eg eh ei cg cj
     refine kO (kd kr) (uv (Ae Jr rfl) (Cv (i := 1) sizeOf25 rfl rfl rfl rfl (CK rfl) (AI rfl ?_)))
     refine Aa (AD (id := 3) ?_)
     exact le kr ⟨t, pos + 1, eg, eh, ei, cg, ec, rfl, rfl, z6, cj⟩
    have ej := Bg bc ca
    refine Ut (i := 0) (s := x) rfl rfl rfl ca ?_
    refine ox rfl rfl rfl (Aa (As ?_))
    refine A5 rfl (fun dh => nomatch dh) (fun dh => ?_)
    refine AT (Af (Af ?_))
    refine Ay (AD (id := 1) ?_)
    obtain rfl := AL ej
    exact mi (kd kr) ⟨ay, az, ba, al, rfl, rfl, z5, bd⟩
   rintro e1 _ _ ⟨bj, bk, bl, aq, rfl, rfl, ck, cn⟩
   refine AB _ ck (Am (uv (Bd rfl rfl (BL.Eg ar bh (Av.lt ao))) ?_))
   refine um (Aa ?_)
   subst bo; exact le kr ⟨_, _, rfl, br, (x.length : Int), ah, bj, bk, bl, aq, cz, rfl, rfl, z5, cn⟩
  obtain rfl := BL.zero ar bh
  rw [FO] at bg
  refine AT (Af (Af ?_))
  refine Ay ?_
  obtain ⟨rfl, rfl⟩ := D2 bg
  exact mi kr ⟨au, av, aw, ak, rfl, rfl, z2, bb⟩
 rintro e1 _ _ ⟨a3, n7, c4, bn, rfl, rfl, cp, en⟩
 refine AB _ cp (AN (uv (AS isAgg27 sizeOf27 rfl (Has.own 0 rfl) (CK rfl) rfl) (B1 (i := 1) sizeOf27 rfl rfl rfl (by simp [Value.oneCell']) rfl (CK rfl) (AI rfl (Aa (kW (kd kr) (Ao ?_)))))))
 refine Jv results42 (Fg (cs := #[.int .i64 ai, .slice a3 n7 c4]) isAgg27 sizeOf27 rfl (Has.own 0 rfl) (CK rfl) rfl) (s1 (s4 sr)) ?_
 obtain ⟨rfl, rfl⟩ := D2 cw
 exact ⟨_, _, _, _, rfl, rfl, en.any⟩
set_option maxHeartbeats 1000000 in
theorem Pg {r r2 : List (List Int)} {r3 r4 : Int} {r5 : List ((List Int) × Int × Int)} (hr : Kl = some (r, r2, r3, r4, r5)) :
    SH.Spec Tryz.prog 43 #[] F [] fun F' L' v => ∃ (ra : Option Addr) (rn : Nat) (rc : Nat) (rL : LH) (bq : Option Addr) (br : Nat) (bu : Nat) (bw : LH) (bx : Option Addr) (bz : Nat) (ca : Nat) (cb : LH), v = .agg #[.slice ra rn rc, .slice bq br bu, .int .i64 r3, .int .i64 r4, .slice bx bz ca] ∧ L' = rL ++ (bw ++ (cb ++ [])) ∧ Be 0 33 1 (BK 1 (iE .i64)) F' ra rn rc r rL ∧ Be 0 33 1 (BK 1 (iE .i64)) F' bq br bu r2 bw ∧ Be 0 41 3 (Br (BK 1 (iE .i64)) (Br (iE .i64) (iE .i64))) F' bx bz ca r5 cb := by
 refine sp func43 ntmps43 fun K _ _ => ?_
 rw [Kl] at hr
 refine AN ?_
 refine Bo rfl zeroValue39 ?_; intro b1 dg
 refine BX ?_
 refine bA (cs := #[.int .i64 0, .int .i64 2, .int .i64 (-1)]) Cm [.int .i64 0, .int .i64 2, .int .i64 (-1)] ?_; intro b2 cj
 refine bA (cs := #[.int .i64 2, .int .i64 0, .int .i64 2]) Cm [.int .i64 2, .int .i64 0, .int .i64 2] ?_; intro b3 ck
 refine bA (cs := #[.int .i64 (-1), .int .i64 2, .int .i64 0]) Cm [.int .i64 (-1), .int .i64 2, .int .i64 0] ?_; intro b4 cn
 refine bA (cs := #[.slice (some ⟨b2, 0, none⟩) 3 3, .slice (some ⟨b3, 0, none⟩) 3 3, .slice (some ⟨b4, 0, none⟩) 3 3]) LL [.slice (some ⟨b2, 0, none⟩) 3 3, .slice (some ⟨b3, 0, none⟩) 3 3, .slice (some ⟨b4, 0, none⟩) 3 3] ?_; intro b5 cp
 refine bA (cs := #[.int .i64 0]) Cm [.int .i64 0] ?_; intro b6 cq
 refine bA (cs := #[.int .i64 1]) Cm [.int .i64 1] ?_; intro b7 ct
 refine bA (cs := #[.int .i64 1, .int .i64 2]) Cm [.int .i64 1, .int .i64 2] ?_; intro b8 cu
 refine bA (cs := #[.slice (some ⟨b6, 0, none⟩) 1 1, .slice (some ⟨b7, 0, none⟩) 1 1, .slice (some ⟨b8, 0, none⟩) 2 2]) LL [.slice (some ⟨b6, 0, none⟩) 1 1, .slice (some ⟨b7, 0, none⟩) 1 1, .slice (some ⟨b8, 0, none⟩) 2 2] ?_; intro b9 cv
 refine bA (cs := #[.int .i64 0, .int .i64 2]) Cm [.int .i64 0, .int .i64 2] ?_; intro J4 ax
 refine uv (BH (v := .agg #[.slice (some ⟨J4, 0, none⟩) 2 2, .int .i64 3, .int .i64 12]) rfl (by intro w; kernel_rfl)) ?_
 refine bA (cs := #[.int .i64 1]) Cm [.int .i64 1] ?_; intro Rf ay
 refine uv (BH (v := .agg #[.slice (some ⟨Rf, 0, none⟩) 1 1, .int .i64 1, .int .i64 20]) rfl (by intro w; kernel_rfl)) ?_
 refine bA (cs := #[.slice (some ⟨J4, 0, none⟩) 2 2, .int .i64 3, .int .i64 12, .slice (some ⟨Rf, 0, none⟩) 1 1, .int .i64 1, .int .i64 20]) Ym [.agg #[.slice (some ⟨J4, 0, none⟩) 2 2, .int .i64 3, .int .i64 12], .agg #[.slice (some ⟨Rf, 0, none⟩) 1 1, .int .i64 1, .int .i64 20]] ?_; intro Ud az
 refine uv (BH (v := .agg #[.slice (some ⟨b5, 0, none⟩) 3 3, .slice (some ⟨b9, 0, none⟩) 3 3, .int .i64 3, .int .i64 0, .slice (some ⟨Ud, 0, none⟩) 2 2]) rfl (by intro w; kernel_rfl)) ?_
 refine Bi 10 rfl cj ?_; intro cw cx ba
 refine AI rfl ?_
 have al : Av 1 (iE .i64) cw (some ⟨b2, 0, none⟩) 3 [0, 2, -1] := Av.BM (Ac _) (vss := [[.int .i64 0], [.int .i64 2], [.int .i64 (-1)]]) (xs := [0, 2, -1]) ba (.cons rfl (.cons rfl (.cons rfl .nil))) rfl (by simp [maxLen])
 refine Bi 9 rfl ck ?_; intro cy bb bc
 refine AI rfl ?_
 replace al := al.mono (Ac _) bb
 have bd : Av 1 (iE .i64) cy (some ⟨b3, 0, none⟩) 3 [2, 0, 2] := Av.BM (Ac _) (vss := [[.int .i64 2], [.int .i64 0], [.int .i64 2]]) (xs := [2, 0, 2]) bc (.cons rfl (.cons rfl (.cons rfl .nil))) rfl (by simp [maxLen])
 refine Bi 8 rfl cn ?_; intro cd ao bg
 refine AI rfl ?_
 replace al := al.mono (Ac _) ao
 replace bd := bd.mono (Ac _) ao
 have cz : Av 1 (iE .i64) cd (some ⟨b4, 0, none⟩) 3 [-1, 2, 0] := Av.BM (Ac _) (vss := [[.int .i64 (-1)], [.int .i64 2], [.int .i64 0]]) (xs := [-1, 2, 0]) bg (.cons rfl (.cons rfl (.cons rfl .nil))) rfl (by simp [maxLen])
 have aa : Be K.w0.heap.size 33 1 (BK 1 (iE .i64)) cd (some ⟨b5, 0, none⟩) 3 3 [[0, 2, -1], [2, 0, 2], [-1, 2, 0]] [(b5, ce (#[.slice (some ⟨b2, 0, none⟩) [0, 2, -1].length 3, .slice (some ⟨b3, 0, none⟩) [2, 0, 2].length 3, .slice (some ⟨b4, 0, none⟩) [-1, 2, 0].length 3]) 33)] := Be.BM (vss := [[.slice (some ⟨b2, 0, none⟩) [0, 2, -1].length 3], [.slice (some ⟨b3, 0, none⟩) [2, 0, 2].length 3], [.slice (some ⟨b4, 0, none⟩) [-1, 2, 0].length 3]]) (Ar (Ac _)) cp (.cons ⟨_, _, rfl, al⟩ (.cons ⟨_, _, rfl, bd⟩ (.cons ⟨_, _, rfl, cz⟩ .nil))) rfl rfl (by simp [maxLen])
 generalize af : ([(b5, ce (#[.slice (some ⟨b2, 0, none⟩) [0, 2, -1].length 3, .slice (some ⟨b3, 0, none⟩) [2, 0, 2].length 3, .slice (some ⟨b4, 0, none⟩) [-1, 2, 0].length 3]) 33)] : LH) = ab at aa
 refine Cz (L' := ab ++ [(Ud, ce #[.slice (some ⟨J4, 0, none⟩) 2 2, .int .i64 3, .int .i64 12, .slice (some ⟨Rf, 0, none⟩) 1 1, .int .i64 1, .int .i64 20] 41), (Rf, ce #[.int .i64 1] 3), (J4, ce #[.int .i64 0, .int .i64 2] 3), (b9, ce #[.slice (some ⟨b6, 0, none⟩) 1 1, .slice (some ⟨b7, 0, none⟩) 1 1, .slice (some ⟨b8, 0, none⟩) 2 2] 33), (b8, ce #[.int .i64 1, .int .i64 2] 3), (b7, ce #[.int .i64 1] 3), (b6, ce #[.int .i64 0] 3), (b1, ce #[.slice none 0 0, .slice none 0 0, .int .i64 0, .int .i64 0, .slice none 0 0] 39)]) (by rw [← af]; exact (fC (fC (fC (fC (fC (fC (fC fO)))))))) ?_
 refine Cz (L' := (Ud, ce #[.slice (some ⟨J4, 0, none⟩) 2 2, .int .i64 3, .int .i64 12, .slice (some ⟨Rf, 0, none⟩) 1 1, .int .i64 1, .int .i64 20] 41) :: ((Rf, ce #[.int .i64 1] 3) :: ((J4, ce #[.int .i64 0, .int .i64 2] 3) :: ((b9, ce #[.slice (some ⟨b6, 0, none⟩) 1 1, .slice (some ⟨b7, 0, none⟩) 1 1, .slice (some ⟨b8, 0, none⟩) 2 2] 33) :: ((b8, ce #[.int .i64 1, .int .i64 2] 3) :: ((b7, ce #[.int .i64 1] 3) :: ((b6, ce #[.int .i64 0] 3) :: ((b1, ce #[.slice none 0 0, .slice none 0 0, .int .i64 0, .int .i64 0, .slice none 0 0] 39) :: (ab ++ []))))))))) (List.Perm.symm (fC (fC (fC (fC (fC (fC (fC (fC fP))))))))) ?_
 refine Bi 6 rfl cq ?_; intro da bh bj
 refine AI rfl ?_
 replace aa := aa.mono (Ar (Ac _)) bh
 have aq : Av 1 (iE .i64) da (some ⟨b6, 0, none⟩) 1 [0] := Av.BM (Ac _) (vss := [[.int .i64 0]]) (xs := [0]) bj (.cons rfl .nil) rfl (by simp [maxLen])
 refine Bi 5 rfl ct ?_; intro db ar bk
 refine AI rfl ?_
 replace aq := aq.mono (Ac _) ar
 replace aa := aa.mono (Ar (Ac _)) ar
 have bl : Av 1 (iE .i64) db (some ⟨b7, 0, none⟩) 1 [1] := Av.BM (Ac _) (vss := [[.int .i64 1]]) (xs := [1]) bk (.cons rfl .nil) rfl (by simp [maxLen])
 refine Bi 4 rfl cu ?_; intro cf ah bm
 refine AI rfl ?_
 replace aq := aq.mono (Ac _) ah
 replace bl := bl.mono (Ac _) ah
 replace aa := aa.mono (Ar (Ac _)) ah
 have dd : Av 1 (iE .i64) cf (some ⟨b8, 0, none⟩) 2 [1, 2] := Av.BM (Ac _) (vss := [[.int .i64 1], [.int .i64 2]]) (xs := [1, 2]) bm (.cons rfl (.cons rfl .nil)) rfl (by simp [maxLen])
 have ad : Be K.w0.heap.size 33 1 (BK 1 (iE .i64)) cf (some ⟨b9, 0, none⟩) 3 3 [[0], [1], [1, 2]] [(b9, ce (#[.slice (some ⟨b6, 0, none⟩) [0].length 1, .slice (some ⟨b7, 0, none⟩) [1].length 1, .slice (some ⟨b8, 0, none⟩) [1, 2].length 2]) 33)] := Be.BM (vss := [[.slice (some ⟨b6, 0, none⟩) [0].length 1], [.slice (some ⟨b7, 0, none⟩) [1].length 1], [.slice (some ⟨b8, 0, none⟩) [1, 2].length 2]]) (Ar (Ac _)) cv (.cons ⟨_, _, rfl, aq⟩ (.cons ⟨_, _, rfl, bl⟩ (.cons ⟨_, _, rfl, dd⟩ .nil))) rfl rfl (by simp [maxLen])
 generalize ai : ([(b9, ce (#[.slice (some ⟨b6, 0, none⟩) [0].length 1, .slice (some ⟨b7, 0, none⟩) [1].length 1, .slice (some ⟨b8, 0, none⟩) [1, 2].length 2]) 33)] : LH) = ae at ad
 refine Cz (L' := ae ++ ((Ud, ce #[.slice (some ⟨J4, 0, none⟩) 2 2, .int .i64 3, .int .i64 12, .slice (some ⟨Rf, 0, none⟩) 1 1, .int .i64 1, .int .i64 20] 41) :: ((Rf, ce #[.int .i64 1] 3) :: ((J4, ce #[.int .i64 0, .int .i64 2] 3) :: ((b1, ce #[.slice none 0 0, .slice none 0 0, .int .i64 0, .int .i64 0, .slice none 0 0] 39) :: (ab ++ [])))))) (by rw [← ai]; exact (fC (fC (fC fO)))) ?_
 refine Cz (L' := (Ud, ce #[.slice (some ⟨J4, 0, none⟩) 2 2, .int .i64 3, .int .i64 12, .slice (some ⟨Rf, 0, none⟩) 1 1, .int .i64 1, .int .i64 20] 41) :: ((Rf, ce #[.int .i64 1] 3) :: ((J4, ce #[.int .i64 0, .int .i64 2] 3) :: ((b1, ce #[.slice none 0 0, .slice none 0 0, .int .i64 0, .int .i64 0, .slice none 0 0] 39) :: (ae ++ (ab ++ [])))))) (List.Perm.symm (fC (fC (fC (fC fP))))) ?_
 refine Bi 2 rfl ax ?_; intro de au bn
 refine AI rfl ?_
 replace aa := aa.mono (Ar (Ac _)) au
 replace ad := ad.mono (Ar (Ac _)) au
 have bo : Av 1 (iE .i64) de (some ⟨J4, 0, none⟩) 2 [0, 2] := Av.BM (Ac _) (vss := [[.int .i64 0], [.int .i64 2]]) (xs := [0, 2]) bn (.cons rfl (.cons rfl .nil)) rfl (by simp [maxLen])
 refine Bi 1 rfl ay ?_; intro cg aj bp
 refine AI rfl ?_
 replace bo := bo.mono (Ac _) aj
 replace aa := aa.mono (Ar (Ac _)) aj
 replace ad := ad.mono (Ar (Ac _)) aj
 have df : Av 1 (iE .i64) cg (some ⟨Rf, 0, none⟩) 1 [1] := Av.BM (Ac _) (vss := [[.int .i64 1]]) (xs := [1]) bp (.cons rfl .nil) rfl (by simp [maxLen])
 have av : Be K.w0.heap.size 41 3 (Br (BK 1 (iE .i64)) (Br (iE .i64) (iE .i64))) cg (some ⟨Ud, 0, none⟩) 2 2 [([0, 2], 3, 12), ([1], 1, 20)] [(Ud, ce (#[.slice (some ⟨J4, 0, none⟩) [0, 2].length 2, .int .i64 3, .int .i64 12, .slice (some ⟨Rf, 0, none⟩) [1].length 1, .int .i64 1, .int .i64 20]) 41)] := Be.BM (vss := [[.slice (some ⟨J4, 0, none⟩) [0, 2].length 2, .int .i64 3, .int .i64 12], [.slice (some ⟨Rf, 0, none⟩) [1].length 1, .int .i64 1, .int .i64 20]]) (Au (Ar (Ac _)) (Au (Ac _) (Ac _))) az (.cons ⟨_, _, rfl, ⟨_, _, rfl, bo⟩, ⟨_, _, rfl, rfl, rfl⟩⟩ (.cons ⟨_, _, rfl, ⟨_, _, rfl, df⟩, ⟨_, _, rfl, rfl, rfl⟩⟩ .nil)) rfl rfl (by simp [maxLen])
 generalize ak : ([(Ud, ce (#[.slice (some ⟨J4, 0, none⟩) [0, 2].length 2, .int .i64 3, .int .i64 12, .slice (some ⟨Rf, 0, none⟩) [1].length 1, .int .i64 1, .int .i64 20]) 41)] : LH) = aw at av
 refine Cz (L' := aw ++ ((b1, ce #[.slice none 0 0, .slice none 0 0, .int .i64 0, .int .i64 0, .slice none 0 0] 39) :: (ae ++ (ab ++ [])))) (by rw [← ak]; exact fO) ?_
 refine Cz (L' := (b1, ce #[.slice none 0 0, .slice none 0 0, .int .i64 0, .int .i64 0, .slice none 0 0] 39) :: (aw ++ (ae ++ (ab ++ [])))) (List.Perm.symm (fC fP)) (B1 (i := 0) sizeOf39 rfl rfl rfl (by simp [Value.oneCell']) rfl (CK rfl) (AI rfl (Aa (kW (kc (kg (fS (fS fP)) (kg (fS fP) kr))) (Ao (Jv results43 (Fg (cs := #[.slice (some ⟨b5, 0, none⟩) 3 3, .slice (some ⟨b9, 0, none⟩) 3 3, .int .i64 3, .int .i64 0, .slice (some ⟨Ud, 0, none⟩) 2 2]) isAgg39 sizeOf39 rfl (Has.own 0 rfl) (CK rfl) rfl) (s1 (s4 (s4 (s4 sr)))) ?_))))))
 obtain ⟨rfl, rfl, rfl, rfl, rfl⟩ := Yk hr
 exact ⟨_, _, _, _, _, _, _, _, _, _, _, _, rfl, rfl, aa.any, ad.any, av.any⟩
set_option maxHeartbeats 1000000 in
theorem PK {r r2 : Int} {r3 : List (List (List Int))} {r4 : List Int} {r5 : List (Int × Int × Int)} (hr : KP = some (r, r2, r3, r4, r5)) :
    SH.Spec Tryz.prog 44 #[] F [] fun F' L' v => ∃ (bd : Option Addr) (bg : Nat) (bh : Nat) (bj : LH) (bk : Option Addr) (bl : Nat) (bm : Nat) (bn : LH) (bo : Option Addr) (bp : Nat) (bq : Nat) (br : LH), v = .agg #[.int .i64 r, .int .i64 r2, .slice bd bg bh, .slice bk bl bm, .slice bo bp bq] ∧ L' = bj ++ (bn ++ (br ++ [])) ∧ Be 0 36 1 (BK 1 (BK 1 (iE .i64))) F' bd bg bh r3 bj ∧ Be 0 3 1 (iE .i64) F' bk bl bm r4 bn ∧ Be 0 132 3 (Br (iE .i64) (Br (iE .i64) (iE .i64))) F' bo bp bq r5 br := by
 refine sp func44 ntmps44 fun K _ _ => ?_
 rw [KP] at hr
 refine AN ?_
 refine Bo rfl zeroValue100 ?_; intro b1 ct
 refine BX ?_
 refine bA (cs := #[.int .i64 0]) Cm [.int .i64 0] ?_; intro b2 bu
 refine bA (cs := #[.int .i64 0, .int .i64 1]) Cm [.int .i64 0, .int .i64 1] ?_; intro b3 bw
 refine bA (cs := #[.int .i64 1]) Cm [.int .i64 1] ?_; intro b4 bx
 refine bA (cs := #[.int .i64 1]) Cm [.int .i64 1] ?_; intro b5 bz
 refine bA (cs := #[.slice (some ⟨b2, 0, none⟩) 1 1, .slice (some ⟨b3, 0, none⟩) 2 2, .slice (some ⟨b4, 0, none⟩) 1 1, .slice (some ⟨b5, 0, none⟩) 1 1, .slice none 0 0, .slice none 0 0, .slice none 0 0, .slice none 0 0]) LL [.slice (some ⟨b2, 0, none⟩) 1 1, .slice (some ⟨b3, 0, none⟩) 2 2, .slice (some ⟨b4, 0, none⟩) 1 1, .slice (some ⟨b5, 0, none⟩) 1 1, .slice none 0 0, .slice none 0 0, .slice none 0 0, .slice none 0 0] ?_; intro b6 ca
 refine bA (cs := #[.slice (some ⟨b6, 0, none⟩) 8 8]) SO [.slice (some ⟨b6, 0, none⟩) 8 8] ?_; intro b7 cb
 refine bA (cs := #[.int .i64 1, .int .i64 (-1), .int .i64 4]) Cm [.int .i64 1, .int .i64 (-1), .int .i64 4] ?_; intro b8 cd
 refine uv (BH (v := .agg #[.int .i64 0, .int .i64 0, .int .i64 0]) rfl (by intro w; kernel_rfl)) ?_
 refine uv (BH (v := .agg #[.int .i64 2, .int .i64 0, .int .i64 0]) rfl (by intro w; kernel_rfl)) ?_
 refine bA (cs := #[.int .i64 0, .int .i64 0, .int .i64 0, .int .i64 2, .int .i64 0, .int .i64 0]) KU [.agg #[.int .i64 0, .int .i64 0, .int .i64 0], .agg #[.int .i64 2, .int .i64 0, .int .i64 0]] ?_; intro b9 cf
 refine uv (BH (v := .agg #[.int .i64 2, .int .i64 1, .slice (some ⟨b7, 0, none⟩) 1 1, .slice (some ⟨b8, 0, none⟩) 3 3, .slice (some ⟨b9, 0, none⟩) 2 2]) rfl (by intro w; kernel_rfl)) ?_
 refine Bi 7 rfl bu ?_; intro cg cj aw
 refine AI rfl ?_
 have aa : Av 1 (iE .i64) cg (some ⟨b2, 0, none⟩) 1 [0] := Av.BM (Ac _) (vss := [[.int .i64 0]]) (xs := [0]) aw (.cons rfl .nil) rfl (by simp [maxLen])
 refine Bi 6 rfl bw ?_; intro ck ax ay
 refine AI rfl ?_
 replace aa := aa.mono (Ac _) ax
 have ae : Av 1 (iE .i64) ck (some ⟨b3, 0, none⟩) 2 [0, 1] := Av.BM (Ac _) (vss := [[.int .i64 0], [.int .i64 1]]) (xs := [0, 1]) ay (.cons rfl (.cons rfl .nil)) rfl (by simp [maxLen])
 refine Bi 5 rfl bx ?_; intro cn ak az
 refine AI rfl ?_
 replace aa := aa.mono (Ac _) ak
 replace ae := ae.mono (Ac _) ak
 have al : Av 1 (iE .i64) cn (some ⟨b4, 0, none⟩) 1 [1] := Av.BM (Ac _) (vss := [[.int .i64 1]]) (xs := [1]) az (.cons rfl .nil) rfl (by simp [maxLen])
 refine Bi 4 rfl bz ?_; intro cp af ba
 refine AI rfl ?_
 replace aa := aa.mono (Ac _) af
 replace ae := ae.mono (Ac _) af
 replace al := al.mono (Ac _) af
 have bb : Av 1 (iE .i64) cp (some ⟨b5, 0, none⟩) 1 [1] := Av.BM (Ac _) (vss := [[.int .i64 1]]) (xs := [1]) ba (.cons rfl .nil) rfl (by simp [maxLen])
 refine Bi 3 rfl ca ?_; intro av ab bc
 refine AI rfl ?_
 replace aa := aa.mono (Ac _) ab
 replace ae := ae.mono (Ac _) ab
 replace al := al.mono (Ac _) ab
 replace bb := bb.mono (Ac _) ab
 have cq : Av 1 (BK 1 (iE .i64)) av (some ⟨b6, 0, none⟩) 8 [[0], [0, 1], [1], [1], [], [], [], []] := Av.BM (Ar (Ac _)) (vss := [[.slice (some ⟨b2, 0, none⟩) [0].length 1], [.slice (some ⟨b3, 0, none⟩) [0, 1].length 2], [.slice (some ⟨b4, 0, none⟩) [1].length 1], [.slice (some ⟨b5, 0, none⟩) [1].length 1], [.slice none 0 0], [.slice none 0 0], [.slice none 0 0], [.slice none 0 0]]) (xs := [[0], [0, 1], [1], [1], [], [], [], []]) bc (.cons ⟨_, _, rfl, aa⟩ (.cons ⟨_, _, rfl, ae⟩ (.cons ⟨_, _, rfl, al⟩ (.cons ⟨_, _, rfl, bb⟩ (.cons ⟨_, _, rfl, Av.nil _ _ _⟩ (.cons ⟨_, _, rfl, Av.nil _ _ _⟩ (.cons ⟨_, _, rfl, Av.nil _ _ _⟩ (.cons ⟨_, _, rfl, Av.nil _ _ _⟩ .nil)))))))) rfl (by simp [maxLen])
 have ao : Be K.w0.heap.size 36 1 (BK 1 (BK 1 (iE .i64))) av (some ⟨b7, 0, none⟩) 1 1 [[[0], [0, 1], [1], [1], [], [], [], []]] [(b7, ce (#[.slice (some ⟨b6, 0, none⟩) [[0], [0, 1], [1], [1], [], [], [], []].length 8]) 36)] := Be.BM (vss := [[.slice (some ⟨b6, 0, none⟩) [[0], [0, 1], [1], [1], [], [], [], []].length 8]]) (Ar (Ar (Ac _))) cb (.cons ⟨_, _, rfl, cq⟩ .nil) rfl rfl (by simp [maxLen])
 generalize ah : ([(b7, ce (#[.slice (some ⟨b6, 0, none⟩) [[0], [0, 1], [1], [1], [], [], [], []].length 8]) 36)] : LH) = Lb30 at ao
 refine Cz (L' := Lb30 ++ [(b9, ce #[.int .i64 0, .int .i64 0, .int .i64 0, .int .i64 2, .int .i64 0, .int .i64 0] 132), (b8, ce #[.int .i64 1, .int .i64 (-1), .int .i64 4] 3), (b1, ce #[.int .i64 0, .int .i64 0, .slice none 0 0, .slice none 0 0, .slice none 0 0] 100)]) (by rw [← ah]; exact (fC (fC fO))) ?_
 refine Cz (L' := (b9, ce #[.int .i64 0, .int .i64 0, .int .i64 0, .int .i64 2, .int .i64 0, .int .i64 0] 132) :: ((b8, ce #[.int .i64 1, .int .i64 (-1), .int .i64 4] 3) :: ((b1, ce #[.int .i64 0, .int .i64 0, .slice none 0 0, .slice none 0 0, .slice none 0 0] 100) :: (Lb30 ++ [])))) (List.Perm.symm (fC (fC (fC fP)))) ?_
 have aq : Be K.w0.heap.size 3 1 (iE .i64) av (some ⟨b8, 0, none⟩) 3 3 [1, -1, 4] [(b8, ce #[.int .i64 1, .int .i64 (-1), .int .i64 4] 3)] := Be.BM (vss := [[.int .i64 1], [.int .i64 (-1)], [.int .i64 4]]) (Ac _) cd (.cons rfl (.cons rfl (.cons rfl .nil))) rfl rfl (by simp [maxLen])
 generalize ai : ([(b8, ce #[.int .i64 1, .int .i64 (-1), .int .i64 4] 3)] : LH) = ad at aq
 refine Cz (L' := ad ++ ((b9, ce #[.int .i64 0, .int .i64 0, .int .i64 0, .int .i64 2, .int .i64 0, .int .i64 0] 132) :: ((b1, ce #[.int .i64 0, .int .i64 0, .slice none 0 0, .slice none 0 0, .slice none 0 0] 100) :: (Lb30 ++ [])))) (by rw [← ai]; exact (fC fO)) ?_
 refine Cz (L' := (b9, ce #[.int .i64 0, .int .i64 0, .int .i64 0, .int .i64 2, .int .i64 0, .int .i64 0] 132) :: ((b1, ce #[.int .i64 0, .int .i64 0, .slice none 0 0, .slice none 0 0, .slice none 0 0] 100) :: (ad ++ (Lb30 ++ [])))) (List.Perm.symm (fC (fC fP))) ?_
 have ar : Be K.w0.heap.size 132 3 (Br (iE .i64) (Br (iE .i64) (iE .i64))) av (some ⟨b9, 0, none⟩) 2 2 [(0, 0, 0), (2, 0, 0)] [(b9, ce #[.int .i64 0, .int .i64 0, .int .i64 0, .int .i64 2, .int .i64 0, .int .i64 0] 132)] := Be.BM (vss := [[.int .i64 0, .int .i64 0, .int .i64 0], [.int .i64 2, .int .i64 0, .int .i64 0]]) (Au (Ac _) (Au (Ac _) (Ac _))) cf (.cons ⟨_, _, rfl, rfl, ⟨_, _, rfl, rfl, rfl⟩⟩ (.cons ⟨_, _, rfl, rfl, ⟨_, _, rfl, rfl, rfl⟩⟩ .nil)) rfl rfl (by simp [maxLen])
 generalize aj : ([(b9, ce #[.int .i64 0, .int .i64 0, .int .i64 0, .int .i64 2, .int .i64 0, .int .i64 0] 132)] : LH) = au at ar
 refine Cz (L' := au ++ ((b1, ce #[.int .i64 0, .int .i64 0, .slice none 0 0, .slice none 0 0, .slice none 0 0] 100) :: (ad ++ (Lb30 ++ [])))) (by rw [← aj]; exact fO) ?_
 refine Cz (L' := (b1, ce #[.int .i64 0, .int .i64 0, .slice none 0 0, .slice none 0 0, .slice none 0 0] 100) :: (au ++ (ad ++ (Lb30 ++ [])))) (List.Perm.symm (fC fP)) (B1 (i := 0) sizeOf100 rfl rfl rfl (by simp [Value.oneCell']) rfl (CK rfl) (AI rfl (Aa (kW (kc (kg (fS (fS fP)) (kg (fS fP) kr))) (Ao (Jv results44 (Fg (cs := #[.int .i64 2, .int .i64 1, .slice (some ⟨b7, 0, none⟩) 1 1, .slice (some ⟨b8, 0, none⟩) 3 3, .slice (some ⟨b9, 0, none⟩) 2 2]) isAgg100 sizeOf100 rfl (Has.own 0 rfl) (CK rfl) rfl) (s1 (s4 (s4 (s4 sr)))) ?_))))))
 obtain ⟨rfl, rfl, rfl, rfl, rfl⟩ := Yk hr
 exact ⟨_, _, _, _, _, _, _, _, _, _, _, _, rfl, rfl, ao.any, aq.any, ar.any⟩
set_option maxHeartbeats 1000000 in
theorem Mv {s1 s2 : List Int} (aa : Av 1 (iE .i64) F Sk SX s1) (ab : Av 1 (iE .i64) F SM SC s2) {r : Bool} (hr : Ig s1 s2 = some r) :
    Bl Tryz.prog 118 #[.slice Sk s1.length SX, .slice SM s2.length SC] F (.bool r) := by
 refine sp func118 ntmps118 fun K _ _ => ?_
 rw [Ig] at hr
 refine AN (ua (Aa (As (AN (um ?_)))))
 refine uv (A7 underlying33 rfl) (um (uv (A7 underlying33 rfl) (uv (B7 rfl rfl) (Aa ?_))))
 refine cQ (fun c1 => ?_) fun c1 => ?_
 ·have r2 := Bf hr c1
  refine AN (ua (Aa (Ao (Ah ?_))))
  refine BU results118 ?_
  obtain rfl := AL r2
  exact rfl
 have r3 := Bg hr c1
 refine Aq ?_
 refine A0 (fun e1 F1 L1 => G2 = some r ∧ F = F1 ∧ L1 = [] ∧ e1.sub []) ?_ ?_
 ·refine AN (um ?_)
  refine uv (A7 underlying33 rfl) ?_
  refine um (Aa ?_)
  refine Ap ?_
  refine Bh (fun av e1 F1 L1 => LA s1 av fun tl k => Ea s2 tl k = some r ∧ F = F1 ∧ L1 = [] ∧ e1.sub [(0, .slice Sk s1.length SX), (1, .slice SM s2.length SC), (12, .int .i64 (s1.length : Int)), (13, .int .i64 k)]) _ (m0 kr ⟨_, _, rfl, BL.start _, r3, rfl, rfl, z4⟩) ?_
  rintro av e1 _ _ ⟨tl, k, bc, ad, r6, rfl, rfl, bd⟩
  refine AB _ bd (AN (uv (Bb rfl rfl) ?_))
  refine Aa (As ?_)
  refine cQ (fun c9 => ?_) fun c9 => ?_
  ·obtain ⟨x, bn, rfl, ae, aw, af⟩ := BL.succ ad c9
   rw [Ea] at r6
   refine Aq (As ?_)
   refine Ap ?_
   refine AN (um (ua ?_))
   refine dN ?_
   refine wm (wm ?_)
   obtain ⟨bo, bp, bq, bg, ah, ai, ax, rfl, bh, aj⟩ := Av.at (Ac _) aa ([]) aw.1 ae
   refine wv (AK underlying33 sizeOf3 rfl ah rfl aw) (wv (An isAgg3 rfl ai (aj 0 (by decide))) ?_)
   refine wm (wm ?_)
   obtain ⟨x2, ay, ak, az⟩ := Bx r6
   obtain ⟨br, bu, bw, bj, al, ao, ba, rfl, bk, aq⟩ := Av.at (Ac _) ab ([]) ay.1 ak
   refine wv (AK underlying33 sizeOf3 rfl al rfl ay) (wv (An isAgg3 rfl ao (aq 0 (by decide))) (wv (B7 rfl rfl) (CQ ?_)))
   refine cQ (fun ar => ?_) fun ar => ?_
   ·have bl := Bf az ar
    refine AN (ua (Aa (Ao (AA (Ah (Ah (AA (Ah ?_))))))))
    refine BU results118 ?_
    obtain rfl := AL bl
    exact rfl
   have bm := Bg az ar
   refine Aq (AD (id := 1) (Am ?_))
   refine uv (Bd rfl rfl (BL.Eg ad c9 (Av.lt aa))) ?_
   refine um (Aa ?_)
   subst bc; exact le kr ⟨_, _, rfl, af, bm, rfl, rfl, z4⟩
  obtain rfl := BL.zero ad c9
  rw [Ea] at r6
  refine AT (Af (Af ?_))
  refine Ay ?_
  exact mi kr ⟨r6, rfl, rfl, (sn _)⟩
 rintro e1 _ _ ⟨bb, rfl, rfl, au⟩
 refine AB _ au ?_
 rw [G2] at bb
 refine AN (ua (Aa (Ao ?_)))
 refine BU results118 ?_
 obtain rfl := AL bb
 exact rfl
theorem Oi {a b : List Int} (aa : Av 1 (iE .i64) F Zm Zl a) (ab : Av 1 (iE .i64) F Zq MY b) {r : Bool} (hr : JU a b = some r) :
    Bl Tryz.prog 45 #[.slice Zm a.length Zl, .slice Zq b.length MY] F (.bool r) := by
 refine sp func45 ntmps45 fun K _ _ => ?_
 rw [JU] at hr
 refine AN (ua (BX (um (um ?_))))
 obtain ⟨ok, h1, r2⟩ := AG hr
 refine cV call118 (Mv aa ab h1) ?_
 refine ua (Aa (Ao ?_))
 refine BU results45 ?_
 obtain rfl := AL r2
 exact rfl
set_option maxHeartbeats 1000000 in
theorem DQ {s1 s2 : List (List Int)} {aa : FuncId} {eq_1 eq_2 : Array Value} {eq : ((List Int) × (List Int)) → Option Bool} (ab : Av 1 (BK 1 (iE .i64)) F Sk SX s1) (ae : Av 1 (BK 1 (iE .i64)) F SM SC s2) (ad : HG Tryz.prog F aa eq_1 eq_2 (Br (BK 1 (iE .i64)) (BK 1 (iE .i64))) Value.bool eq) {r : Bool} (hr : BJ s1 s2 eq = some r) :
    Bl Tryz.prog 119 #[.slice Sk s1.length SX, .slice SM s2.length SC, .func (.func aa) eq_1 eq_2] F (.bool r) := by
 refine sp func119 ntmps119 fun K _ _ => ?_
 rw [BJ] at hr
 refine AN (ua (Aa (As (AN (um ?_)))))
 refine uv (A7 underlying103 rfl) (um (uv (A7 underlying103 rfl) (uv (B7 rfl rfl) (Aa ?_))))
 refine cQ (fun c1 => ?_) fun c1 => ?_
 ·have r2 := Bf hr c1
  refine AN (ua (Aa (Ao (Ah ?_))))
  refine BU results119 ?_
  obtain rfl := AL r2
  exact rfl
 have r3 := Bg hr c1
 refine Aq ?_
 refine A0 (fun e1 F1 L1 => BG = some r ∧ F = F1 ∧ L1 = [] ∧ e1.sub []) ?_ ?_
 ·refine AN (um ?_)
  refine uv (A7 underlying103 rfl) ?_
  refine um (Aa ?_)
  refine Ap ?_
  refine Bh (fun ax e1 F1 L1 => LA s1 ax fun tl k => Bc s2 eq tl k = some r ∧ F = F1 ∧ L1 = [] ∧ e1.sub [(1, .slice SM s2.length SC), (2, .func (.func aa) eq_1 eq_2), (15, .slice Sk s1.length SX), (16, .int .i64 (s1.length : Int)), (17, .int .i64 k)]) _ (m0 kr ⟨_, _, rfl, BL.start _, r3, rfl, rfl, z5⟩) ?_
  rintro ax e1 _ _ ⟨tl, k, bg, af, r6, rfl, rfl, bh⟩
  refine AB _ bh (AN (uv (Bb rfl rfl) ?_))
  refine Aa (As ?_)
  refine cQ (fun c9 => ?_) fun c9 => ?_
  ·obtain ⟨x, bw, rfl, ah, ay, ai⟩ := BL.succ af c9
   rw [Bc] at r6
   refine Aq (As ?_)
   refine Ap ?_
   refine AN (um ?_)
   obtain ⟨bx, bz, ca, bj, aj, ak, az, ⟨cb, cd, rfl, bk⟩, bl, al⟩ := Av.at (Ar (Ac _)) ab ([]) ay.1 ah
   refine uv (AK underlying103 sizeOf123 rfl aj rfl ay) (uv (An isAgg123 rfl ak (al 0 (by decide))) ?_)
   refine ua (ua (BX (um (um ?_))))
   obtain ⟨x2, ba, ao, bm⟩ := Bx r6
   obtain ⟨cf, cg, cj, bn, aq, ar, bb, ⟨ck, cn, rfl, bo⟩, bp, au⟩ := Av.at (Ar (Ac _)) ae ([]) ba.1 ao
   refine uv (AK underlying103 sizeOf123 rfl aq rfl ba) (uv (An isAgg123 rfl ar (au 0 (by decide))) ?_)
   refine ua (BX (um (um (um ?_))))
   obtain ⟨ok, bq, bc⟩ := AG bm
   refine Em rfl ad.1 rfl rfl rfl (ad.2 _ (A3.refl _) _ _ _ ⟨_, _, rfl, ⟨_, _, rfl, bk⟩, ⟨_, _, rfl, bo⟩⟩ bq) (uv (BC rfl) (Aa ?_))
   refine A5 rfl (fun av => ?_) (fun av => ?_)
   ·have br := bt bc av
    refine AN (ua (Aa (Ao (AA (Ah (Ah (AA (Ah ?_))))))))
    refine BU results119 ?_
    obtain rfl := AL br
    exact rfl
   have bu := bf bc av
   refine Aq (AD (id := 1) (Am ?_))
   refine uv (Bd rfl rfl (BL.Eg af c9 (Av.lt ab))) ?_
   refine um (Aa ?_)
   subst bg; exact le kr ⟨_, _, rfl, ai, bu, rfl, rfl, z5⟩
  obtain rfl := BL.zero af c9
  rw [Bc] at r6
  refine AT (Af (Af ?_))
  refine Ay ?_
  exact mi kr ⟨r6, rfl, rfl, (sn _)⟩
 rintro e1 _ _ ⟨bd, rfl, rfl, aw⟩
 refine AB _ aw ?_
 rw [BG] at bd
 refine AN (ua (Aa (Ao ?_)))
 refine BU results119 ?_
 obtain rfl := AL bd
 exact rfl
set_option maxHeartbeats 1000000 in
theorem HO {s1 s2 : List Int} (aa : Av 1 (iE .i64) F Sk SX s1) (ab : Av 1 (iE .i64) F SM SC s2) {r : Bool} (hr : CE s1 s2 = some r) :
    Bl Tryz.prog 120 #[.slice Sk s1.length SX, .slice SM s2.length SC] F (.bool r) := by
 refine sp func120 ntmps120 fun K _ _ => ?_
 rw [CE] at hr
 refine AN (ua (Aa (As (AN (um ?_)))))
 refine uv (A7 underlying123 rfl) (um (uv (A7 underlying123 rfl) (uv (B7 rfl rfl) (Aa ?_))))
 refine cQ (fun c1 => ?_) fun c1 => ?_
 ·have r2 := Bf hr c1
  refine AN (ua (Aa (Ao (Ah ?_))))
  refine BU results120 ?_
  obtain rfl := AL r2
  exact rfl
 have r3 := Bg hr c1
 refine Aq ?_
 refine A0 (fun e1 F1 L1 => Db = some r ∧ F = F1 ∧ L1 = [] ∧ e1.sub []) ?_ ?_
 ·refine AN (um ?_)
  refine uv (A7 underlying123 rfl) ?_
  refine um (Aa ?_)
  refine Ap ?_
  refine Bh (fun av e1 F1 L1 => LA s1 av fun tl k => BW s2 tl k = some r ∧ F = F1 ∧ L1 = [] ∧ e1.sub [(0, .slice Sk s1.length SX), (1, .slice SM s2.length SC), (12, .int .i64 (s1.length : Int)), (13, .int .i64 k)]) _ (m0 kr ⟨_, _, rfl, BL.start _, r3, rfl, rfl, z4⟩) ?_
  rintro av e1 _ _ ⟨tl, k, bc, ad, r6, rfl, rfl, bd⟩
  refine AB _ bd (AN (uv (Bb rfl rfl) ?_))
  refine Aa (As ?_)
  refine cQ (fun c9 => ?_) fun c9 => ?_
  ·obtain ⟨x, bn, rfl, ae, aw, af⟩ := BL.succ ad c9
   rw [BW] at r6
   refine Aq (As ?_)
   refine Ap ?_
   refine AN (um (ua ?_))
   refine dN ?_
   refine wm (wm ?_)
   obtain ⟨bo, bp, bq, bg, ah, ai, ax, rfl, bh, aj⟩ := Av.at (Ac _) aa ([]) aw.1 ae
   refine wv (AK underlying123 sizeOf124 rfl ah rfl aw) (wv (An isAgg124 rfl ai (aj 0 (by decide))) ?_)
   refine wm (wm ?_)
   obtain ⟨x2, ay, ak, az⟩ := Bx r6
   obtain ⟨br, bu, bw, bj, al, ao, ba, rfl, bk, aq⟩ := Av.at (Ac _) ab ([]) ay.1 ak
   refine wv (AK underlying123 sizeOf124 rfl al rfl ay) (wv (An isAgg124 rfl ao (aq 0 (by decide))) (wv (B7 rfl rfl) (CQ ?_)))
   refine cQ (fun ar => ?_) fun ar => ?_
   ·have bl := Bf az ar
    refine AN (ua (Aa (Ao (AA (Ah (Ah (AA (Ah ?_))))))))
    refine BU results120 ?_
    obtain rfl := AL bl
    exact rfl
   have bm := Bg az ar
   refine Aq (AD (id := 1) (Am ?_))
   refine uv (Bd rfl rfl (BL.Eg ad c9 (Av.lt aa))) ?_
   refine um (Aa ?_)
   subst bc; exact le kr ⟨_, _, rfl, af, bm, rfl, rfl, z4⟩
  obtain rfl := BL.zero ad c9
  rw [BW] at r6
  refine AT (Af (Af ?_))
  refine Ay ?_
  exact mi kr ⟨r6, rfl, rfl, (sn _)⟩
 rintro e1 _ _ ⟨bb, rfl, rfl, au⟩
 refine AB _ au ?_
 rw [Db] at bb
 refine AN (ua (Aa (Ao ?_)))
 refine BU results120 ?_
 obtain rfl := AL bb
 exact rfl
theorem Lf {a b : List (List Int)} (ab : Av 1 (BK 1 (iE .i64)) F Zm Zl a) (ad : Av 1 (BK 1 (iE .i64)) F Zq MY b) {r : Bool} (hr : Gu a b = some r) :
    Bl Tryz.prog 46 #[.slice Zm a.length Zl, .slice Zq b.length MY] F (.bool r) := by
 refine sp func46 ntmps46 fun K _ _ => ?_
 rw [Gu] at hr
 refine AN (ua (BX (um (um ?_))))
 have ae : HG Tryz.prog F 120 #[] #[] (Br (BK 1 (iE .i64)) (BK 1 (iE .i64))) Value.bool (fun aa : (List Int) × (List Int) => CE aa.1 aa.2) := ⟨call120, fun F2 h2 vs aa r ha hr => by obtain ⟨_, _, rfl, ⟨a1, c2, rfl, h3⟩, ⟨a4, c5, rfl, h6⟩⟩ := ha; exact HO h3 h6 hr⟩
 obtain ⟨ok, h8, r9⟩ := AG hr
 refine cV call119 (DQ ab ad ae h8) ?_
 refine ua (Aa (Ao ?_))
 refine BU results46 ?_
 obtain rfl := AL r9
 exact rfl
set_option maxHeartbeats 1000000 in
theorem Lx {r : Bool} (hr : HB = some r) :
    Bl Tryz.prog 9 #[] F (.bool r) := by
 refine sp func9 ntmps9 fun K _ _ => ?_
 rw [HB] at hr
 refine AN (ua (BX ?_))
 refine bA (cs := #[.string (sB [115, 104, 115, 104])]) XO [.string (sB [115, 104, 115, 104])] ?_; intro b1 eg
 refine Bi 0 rfl eg ?_; intro F2 fq eh
 refine AI rfl ?_
 have h5 : Av 1 sE F2 (some ⟨b1, 0, none⟩) 1 [[115, 104, 115, 104]] := Av.BM XT (vss := [[.string (sB [115, 104, 115, 104])]]) (xs := [[115, 104, 115, 104]]) eh (.cons rfl .nil) rfl (by simp [maxLen])
 obtain ⟨n, l, h6, r7⟩ := Es hr
 refine c0 call42 (OQ h5 h6) ?_; rintro _ F8 _ ft cu ⟨fv, fw, fx, bb, rfl, rfl, aq⟩
 replace aq := aq.new fun p hp => cu p (by simp [hp])
 refine AI (lp (ln rfl)) ?_
 obtain ⟨l2, n2, ei, ej⟩ := Es r7
 refine QY (Lb := []) (Lt := bb ++ []) (Lr := []) rfl call41 rfl rfl rfl (pT pR (ln (lp (ln rfl)))) (fun F2 h2 h3 => by rw [(Be.Eu aq).1]; exact SQ (aq.row (Ac _) h2 (fun p hp => h3 p (List.mem_append_left _ hp))) ei) (fun _ _ _ _ hq => by obtain ⟨en, eo, ep, bc, rfl, rfl, aa⟩ := hq; exact ⟨_, _, _, _, rfl, rfl, aa.flat (fun _ _ h => h)⟩) ?_; rintro _ fy _ er cv cw ⟨en, eo, ep, bc, rfl, rfl, aa⟩
 have cx := XE (Lb' := []) (by rfl) cv cw
 replace aa := aa.new fun p hp => cx p (by simp [hp])
 refine AI (lp (ln (lp (ln rfl)))) ?_
 refine um (ox rfl rfl rfl (ox rfl rfl rfl (ua (ua (BX ?_)))))
 obtain ⟨l3, l4, n3, n4, l5, eu, ew⟩ := Rd ej
 refine c0 call43 (Pg eu) ?_; rintro _ ga _ cy bd ⟨gb, gg, gh, bm, gk, gl, gm, bn, gn, gp, gq, bo, rfl, rfl, ar, au, av⟩
 replace aa := aa.mono (Ac _) cy
 replace ar := ar.new fun p hp => bd p (by simp [hp])
 replace au := au.new fun p hp => bd p (by simp [hp])
 replace av := av.new fun p hp => bd p (by simp [hp])
 refine AI (lp (lp (lp (ln rfl)))) ?_
 obtain ⟨l6, n5, n6, ey, ez⟩ := E5 ew
 refine QY (Lb := []) (Lt := bm ++ (bn ++ (bo ++ []))) (Lr := bc ++ (bb ++ [])) rfl call14 rfl rfl rfl (pT pR (ln (lp (lp (lp (ln rfl)))))) (fun F2 h2 h3 => by rw [(Be.Eu ar).1]; rw [(Be.Eu au).1]; rw [(Be.Eu av).1]; exact Sw (ar.row (Ar (Ac _)) h2 (fun p hp => h3 p (List.mem_append_left _ hp))) (au.row (Ar (Ac _)) h2 (fun p hp => h3 p (List.mem_append_right _ (List.mem_append_left _ hp)))) (av.row (Au (Ar (Ac _)) (Au (Ac _) (Ac _))) h2 (fun p hp => h3 p (List.mem_append_right _ (List.mem_append_right _ (List.mem_append_left _ hp))))) ey) (fun _ _ _ _ hq => by obtain ⟨fa, fb, fe, bp, rfl, rfl, bq⟩ := hq; exact ⟨_, _, _, _, rfl, rfl, bq.flat (fun _ _ h => h)⟩) ?_; rintro _ gr _ cz ff fg ⟨fa, fb, fe, bp, rfl, rfl, bq⟩
 replace aa := aa.mono (Ac _) cz
 refine AI (lp (ln (lp (lp (lp (ln rfl)))))) ?_
 refine um (ox rfl rfl rfl (ox rfl rfl rfl (ox rfl rfl rfl (ua (ua (ua (BX ?_)))))))
 obtain ⟨n7, n8, l7, l8, l9, fh, fi⟩ := Rd ez
 refine c0 call44 (PK fh) ?_; rintro _ gu _ da bg ⟨gv, gw, gz, fj, ia, ib, ic, fk, ie, ig, ij, fl, rfl, rfl, aw, ak, ah⟩
 replace aa := aa.mono (Ac _) da
 replace aw := aw.new fun p hp => bg p (by simp [hp])
 replace ak := ak.new fun p hp => bg p (by simp [hp])
 replace ah := ah.new fun p hp => bg p (by simp [hp])
 refine AI (lp (lp (lp (ln rfl)))) ?_
 obtain rfl := (Be.Eu aw).1
 refine C1 (Nat.le_refl _) (Ar (Ar (Ac _))) fP aw ?_; intro ik bh br
 replace aa := aa.mono (Ac _) bh
 replace ak := ak.mono (Ac _) bh
 replace ah := ah.mono (Au (Ac _) (Au (Ac _) (Ac _))) bh
 obtain rfl := (Be.Eu ak).1
 refine C1 (Nat.le_refl _) (Ac _) fP ak ?_; intro il bj db
 replace br := br.mono (Ar (Ar (Ac _))) bj
 replace aa := aa.mono (Ac _) bj
 replace ah := ah.mono (Au (Ac _) (Au (Ac _) (Ac _))) bj
 obtain rfl := (Be.Eu ah).1
 refine C1 (Nat.le_refl _) (Au (Ac _) (Au (Ac _) (Ac _))) fP ah ?_; intro im bk dd
 replace br := br.mono (Ar (Ar (Ac _))) bk
 replace db := db.mono (Ac _) bk
 replace aa := aa.mono (Ac _) bk
 obtain ⟨iq, n9, de, bu⟩ := Es fi
 refine c0 call31 (MH br db dd de) ?_; rintro _ fm _ bw ec ⟨fo, fp, rfl, rfl, ae⟩
 replace aa := aa.mono (Ac _) bw
 refine AI (ln rfl) ?_
 refine um (ox rfl rfl rfl (ox rfl rfl rfl (ua (ua (BX (um ?_))))))
 refine uv (CR rfl rfl) (um ?_)
 by_cases ai : n2 = 0
 ·have bx := Bf bu ai
  refine nT ai (um (nT ai ?_))
  refine uv (CR rfl rfl) (uv (AW (Bn rfl ai) rfl) (um ?_))
  by_cases aj : n6 = 0
  ·have bz := Bf bx aj
   refine nT aj (um (nT aj ?_))
   refine uv (CR rfl rfl) (uv (AW (Bn rfl aj) rfl) (um ?_))
   by_cases ad : n9 = 0
   ·have df := Bf bz ad
    refine nT ad (um (nT ad ?_))
    refine bA (cs := #[.int .i64 0, .int .i64 5, .int .i64 9, .int .i64 14]) Cm [.int .i64 0, .int .i64 5, .int .i64 9, .int .i64 14] ?_; intro dg ca
    refine nT ad ?_
    refine Bi 0 rfl ca ?_; intro dh az cb
    refine AI rfl ?_
    replace ae := ae.mono (Ar (Ac _)) az
    replace aa := aa.mono (Ac _) az
    have di : Av 1 (iE .i64) dh (some ⟨dg, 0, none⟩) 4 [0, 5, 9, 14] := Av.BM (Ac _) (vss := [[.int .i64 0], [.int .i64 5], [.int .i64 9], [.int .i64 14]]) (xs := [0, 5, 9, 14]) cb (.cons rfl (.cons rfl (.cons rfl (.cons rfl .nil)))) rfl (by simp [maxLen])
    obtain ⟨ok, dk, cd⟩ := AG df
    refine OG (Lt := bc ++ []) (Lr := bp ++ (bm ++ (bn ++ (bo ++ (bb ++ []))))) rfl call45 rfl rfl rfl (pT ((fS (fS (fS (fS fP)))).trans (pA pR)) (lp (ln rfl))) (fun F2 h2 h3 => by rw [(Be.Eu aa).1]; exact Oi (aa.row (Ac _) h2 (fun p hp => h3 p (List.mem_append_left _ hp))) (di.mono (Ac _) h2) dk) ?_
    refine uv (AW (Bn rfl ad) rfl) (um ?_)
    rcases Co ok with af | af
    ·have cf := bt cd af
     refine nB af (um (nB af ?_))
     refine uv (CR rfl rfl) (uv (AW (Iy rfl af) rfl) (um ?_))
     by_cases ab : n5 = 11
     ·have dm := Bf cf ab
      refine nT ab (um (nT ab ?_))
      refine bA (cs := #[.int .i64 0]) Qx [.int .i64 0] ?_; intro ax cg
      refine nT ab ?_
      refine bA (cs := #[.int .i64 1]) Qx [.int .i64 1] ?_; intro ay cj
      refine nT ab ?_
      refine bA (cs := #[.slice (some ⟨ax, 0, none⟩) 1 1, .slice (some ⟨ay, 0, none⟩) 1 1]) Vj [.slice (some ⟨ax, 0, none⟩) 1 1, .slice (some ⟨ay, 0, none⟩) 1 1] ?_; intro dn ck
      refine nT ab ?_
      refine Bi 2 rfl cg ?_; intro dp cn cp
      refine AI rfl ?_
      replace ae := ae.mono (Ar (Ac _)) cn
      have al : Av 1 (iE .i64) dp (some ⟨ax, 0, none⟩) 1 [0] := Av.BM (Ac _) (vss := [[.int .i64 0]]) (xs := [0]) cp (.cons rfl .nil) rfl (by simp [maxLen])
      refine Bi 1 rfl cj ?_; intro dq ba cq
      refine AI rfl ?_
      replace ae := ae.mono (Ar (Ac _)) ba
      replace al := al.mono (Ac _) ba
      have bl : Av 1 (iE .i64) dq (some ⟨ay, 0, none⟩) 1 [1] := Av.BM (Ac _) (vss := [[.int .i64 1]]) (xs := [1]) cq (.cons rfl .nil) rfl (by simp [maxLen])
      refine Bi 0 rfl ck ?_; intro dr ao ct
      refine AI rfl ?_
      replace ae := ae.mono (Ar (Ac _)) ao
      replace al := al.mono (Ac _) ao
      replace bl := bl.mono (Ac _) ao
      have dt : Av 1 (BK 1 (iE .i64)) dr (some ⟨dn, 0, none⟩) 2 [[0], [1]] := Av.BM (Ar (Ac _)) (vss := [[.slice (some ⟨ax, 0, none⟩) [0].length 1], [.slice (some ⟨ay, 0, none⟩) [1].length 1]]) (xs := [[0], [1]]) ct (.cons ⟨_, _, rfl, al⟩ (.cons ⟨_, _, rfl, bl⟩ .nil)) rfl (by simp [maxLen])
      obtain ⟨ir, du, dv⟩ := AG dm
      refine cV call46 (Lf ae dt du) (uv (AW (Bn rfl ab) rfl) ?_)
      refine ua (Aa ?_)
      refine kW kn (Ao (BU results9 ?_))
      obtain rfl := AL dv
      exact rfl
     have dw := Bg cf ab
     refine fF ab (fF ab (fF ab (fF ab (fF ab ?_))))
     refine uv (AH (A8 rfl ab) rfl) ?_
     refine ua (Aa ?_)
     refine kW kn (Ao (BU results9 ?_))
     obtain rfl := AL dw
     exact rfl
    have dx := bf cd af
    refine fB af (fB af ?_)
    refine uv (AH (Iy rfl af) rfl) ?_
    refine um (AM (b' := false) 44 rfl rfl rfl rfl (AM (b' := false) 44 rfl rfl rfl rfl (AM (b' := false) 44 rfl rfl rfl rfl (AM (b' := false) 44 rfl rfl rfl rfl (AM (b' := false) 44 rfl rfl rfl rfl ?_)))))
    refine uv (AH rfl rfl) ?_
    refine ua (Aa ?_)
    refine kW kn (Ao (BU results9 ?_))
    obtain rfl := AL dx
    exact rfl
   have dy := Bg bz ad
   refine fF ad (fF ad (fF ad ?_))
   refine uv (AH (A8 rfl ad) rfl) ?_
   refine um (AM (b' := false) 40 rfl rfl rfl rfl (AM (b' := false) 40 rfl rfl rfl rfl ?_))
   refine uv (AH rfl rfl) ?_
   refine um (AM (b' := false) 44 rfl rfl rfl rfl (AM (b' := false) 44 rfl rfl rfl rfl (AM (b' := false) 44 rfl rfl rfl rfl (AM (b' := false) 44 rfl rfl rfl rfl (AM (b' := false) 44 rfl rfl rfl rfl ?_)))))
   refine uv (AH rfl rfl) ?_
   refine ua (Aa ?_)
   refine kW kn (Ao (BU results9 ?_))
   obtain rfl := AL dy
   exact rfl
  have dz := Bg bx aj
  refine fF aj (fF aj ?_)
  refine uv (AH (A8 rfl aj) rfl) ?_
  refine um (AM (b' := false) 35 rfl rfl rfl rfl (AM (b' := false) 35 rfl rfl rfl rfl (AM (b' := false) 35 rfl rfl rfl rfl ?_)))
  refine uv (AH rfl rfl) ?_
  refine um (AM (b' := false) 40 rfl rfl rfl rfl (AM (b' := false) 40 rfl rfl rfl rfl ?_))
  refine uv (AH rfl rfl) ?_
  refine um (AM (b' := false) 44 rfl rfl rfl rfl (AM (b' := false) 44 rfl rfl rfl rfl (AM (b' := false) 44 rfl rfl rfl rfl (AM (b' := false) 44 rfl rfl rfl rfl (AM (b' := false) 44 rfl rfl rfl rfl ?_)))))
  refine uv (AH rfl rfl) ?_
  refine ua (Aa ?_)
  refine kW kn (Ao (BU results9 ?_))
  obtain rfl := AL dz
  exact rfl
 have eb := Bg bu ai
 refine fF ai (fF ai ?_)
 refine uv (AH (A8 rfl ai) rfl) ?_
 refine um (AM (b' := false) 31 rfl rfl rfl rfl (AM (b' := false) 31 rfl rfl rfl rfl ?_))
 refine uv (AH rfl rfl) ?_
 refine um (AM (b' := false) 35 rfl rfl rfl rfl (AM (b' := false) 35 rfl rfl rfl rfl (AM (b' := false) 35 rfl rfl rfl rfl ?_)))
 refine uv (AH rfl rfl) ?_
 refine um (AM (b' := false) 40 rfl rfl rfl rfl (AM (b' := false) 40 rfl rfl rfl rfl ?_))
 refine uv (AH rfl rfl) ?_
 refine um (AM (b' := false) 44 rfl rfl rfl rfl (AM (b' := false) 44 rfl rfl rfl rfl (AM (b' := false) 44 rfl rfl rfl rfl (AM (b' := false) 44 rfl rfl rfl rfl (AM (b' := false) 44 rfl rfl rfl rfl ?_)))))
 refine uv (AH rfl rfl) ?_
 refine ua (Aa ?_)
 refine kW kn (Ao (BU results9 ?_))
 obtain rfl := AL eb
 exact rfl
set_option maxHeartbeats 1000000 in
theorem NM (ab : Av 1 (iE .u8) F B4 B3 metal) {r r2 r3 : Int} (hr : Gi metal at_ GB = some (r, r2, r3)) :
    SH.Spec Tryz.prog 115 #[.pointer (some ⟨Il, 0, none⟩)] F [(Il, ce #[.slice B4 metal.length B3, .int .i64 at_, .int .u32 GB] 137)] fun _ L' v => v = .int .i64 r ∧ L' = [(Il, ce #[.slice B4 metal.length B3, .int .i64 r2, .int .u32 r3] 137)] := by
 refine sp func115 ntmps115 fun K _ _ => ?_
 rw [Gi] at hr
 refine AN (ua (Aa ?_))
 obtain ⟨ad, aa, h1, r4⟩ := Es hr
 refine jE ([(Il, ce #[.slice B4 metal.length B3, .int .i64 ad, .int .u32 aa] 137)]) [(0, .pointer (some ⟨Il, 0, none⟩))] ?_ ?_
 ·clear r4
  refine dW (wm (wv (A2 rfl) (wv (Ae M1 rfl) (wv (An isAgg3 rfl (Has.own 0 rfl) rfl) (wm (wv (A2 rfl) (wv (Ae Rc rfl) ?_)))))))
  refine wv (An isAgg22 rfl (Has.own 0 rfl) rfl) (wv (A7 underlying22 rfl) (wv (CR rfl rfl) (CQ ?_)))
  refine cQ (fun c5 => ?_) fun c5 => ?_
  ·have r6 := Bf h1 c5
   refine Am (um (um (um ?_)))
   refine uv (A2 rfl) (uv (Ae Rb rfl) (uv (An isAgg135 rfl (Has.own 0 rfl) rfl) (uv (X2 rfl rfl rfl) (uv (A2 rfl) (uv (Ae M1 rfl) (Cv (i := 0) sizeOf3 rfl rfl rfl rfl (CK rfl) (AI rfl ?_)))))))
   refine uv (A2 rfl) (uv (Ae Rb rfl) (Cv (i := 0) sizeOf135 rfl rfl rfl rfl (CK rfl) (AI rfl (Aa ?_))))
   obtain ⟨rfl, rfl⟩ := D2 r6
   exact mi kr ⟨rfl, rfl, z1⟩
  have r7 := Bg h1 c5
  refine Aq ?_
  obtain ⟨rfl, rfl⟩ := D2 r7
  exact mi kr ⟨rfl, rfl, z1⟩
 refine AN (um ?_)
 refine uv (A2 rfl) (uv (Ae Rb rfl) (uv (An isAgg135 rfl (Has.own 0 rfl) rfl) (uv (XS rfl rfl rfl) ?_)))
 obtain ⟨n, h9, au⟩ := CH r4
 refine uv ((K3 rfl).i h9) (Aa ?_)
 obtain ⟨n2, ae, al, ao⟩ := Es au
 refine jE ([(Il, ce #[.slice B4 metal.length B3, .int .i64 ae, .int .u32 aa] 137)]) [(3, .int .u32 n2)] ?_ ?_
 ·clear ao
  refine AN (um ?_)
  refine uv (A2 rfl) (uv (Ae Rc rfl) (uv (An isAgg22 rfl (Has.own 0 rfl) rfl) (uv (A7 underlying22 rfl) (uv (KS rfl rfl) (Aa ?_)))))
  refine cQ (fun af => ?_) fun af => ?_
  ·have av := Bf al af
   refine dW ?_
   refine wm (wm ?_)
   refine wv (A2 rfl) (wv (Ae Rc rfl) (wv (An isAgg22 rfl (Has.own 0 rfl) rfl) (wm (wv (A2 rfl) (wv (Ae M1 rfl) (wv (An isAgg3 rfl (Has.own 0 rfl) rfl) ?_))))))
   obtain ⟨x, aq, ah, aw⟩ := Bx av
   obtain ⟨bj, bk, bl, ax, ai, aj, ar, rfl, ay, ak⟩ := Av.at (Ac _) ab ([(Il, ce #[.slice B4 metal.length B3, .int .i64 ad, .int .u32 aa] 137)]) aq.1 ah
   refine wv (AK underlying22 sizeOf5 rfl ai rfl aq) (wv (An isAgg5 rfl aj (ak 0 (by decide))) (wv (Ux rfl underlying5 underlying135 rfl) (wv (XS rfl rfl rfl) (wv (X2 rfl rfl rfl) ?_))))
   obtain ⟨n3, az, ba⟩ := CH aw
   refine wv ((K3 rfl).i az) ?_
   refine CQ (Am (um ?_))
   refine uv (A2 rfl) (uv (Ae M1 rfl) (uv (An isAgg3 rfl (Has.own 0 rfl) rfl) ?_))
   obtain ⟨bb, bc⟩ := A1 ba
   refine uv (Bd rfl rfl bb) (uv (A2 rfl) (uv (Ae M1 rfl) (Cv (i := 0) sizeOf3 rfl rfl rfl rfl (CK rfl) (AI rfl (Aa ?_)))))
   obtain ⟨rfl, rfl⟩ := D2 bc
   exact mi kr ⟨rfl, rfl, z1⟩
  have bd := Bg al af
  refine Aq ?_
  obtain ⟨rfl, rfl⟩ := D2 bd
  exact mi kr ⟨rfl, rfl, z1⟩
 refine AN (um (um ?_))
 refine uv (Ve rfl rfl (by decide)) (uv (YT rfl rfl rfl) (uv (Zj rfl rfl rfl) ?_))
 obtain ⟨bg, bh⟩ := A1 ao
 refine uv (Uk underlying135 underlying3 rfl bg) ?_
 refine ua (Aa (Ao ?_))
 refine BU results115 ?_
 obtain ⟨rfl, rfl, rfl⟩ := Kf bh
 exact ⟨rfl, rfl⟩
theorem Cw (aa : Av 1 (iE .u8) F B4 B3 metal) {r r2 r3 : Int} (hr : BT metal at_ GB n = some (r, r2, r3)) :
    SH.Spec Tryz.prog 40 #[.pointer (some ⟨Il, 0, none⟩), .int .i64 n] F [(Il, ce #[.slice B4 metal.length B3, .int .i64 at_, .int .u32 GB] 137)] fun _ L' v => v = .int .i64 r ∧ L' = [(Il, ce #[.slice B4 metal.length B3, .int .i64 r2, .int .u32 r3] 137)] := by
 refine sp func40 ntmps40 fun K _ _ => ?_
 rw [BT] at hr
 refine AN (ua (BX (um ?_)))
 obtain ⟨n2, ad, ab, h1, r4⟩ := E5 hr
 refine cG call115 (NM aa h1) ?_; rintro _ F5 _ ai aj ak ⟨rfl, rfl⟩
 refine AI (lb (ln rfl)) (um ?_)
 obtain ⟨g9, ae⟩ := A1 r4
 refine uv (Bd rfl rfl g9) (uv (Sy rfl rfl) ?_)
 obtain ⟨af, ah⟩ := A1 ae
 refine uv (RG rfl rfl af) ?_
 refine ua (Aa (Ao ?_))
 refine BU results40 ?_
 obtain ⟨rfl, rfl, rfl⟩ := Kf ah
 exact ⟨rfl, rfl⟩
theorem DZ (aa : Av 1 (iE .u8) F B4 B3 metal) {r r2 r3 : Int} (hr : Cy metal at_ GB lo hi = some (r, r2, r3)) :
    SH.Spec Tryz.prog 39 #[.pointer (some ⟨Il, 0, none⟩), .int .i64 lo, .int .i64 hi] F [(Il, ce #[.slice B4 metal.length B3, .int .i64 at_, .int .u32 GB] 137)] fun _ L' v => v = .int .i64 r ∧ L' = [(Il, ce #[.slice B4 metal.length B3, .int .i64 r2, .int .u32 r3] 137)] := by
 refine sp func39 ntmps39 fun K _ _ => ?_
 rw [Cy] at hr
 refine AN (ua (BX (um (um (um (um ?_))))))
 obtain ⟨g1, r4⟩ := A1 hr
 refine uv (Fa rfl rfl g1) ?_
 obtain ⟨n, ad, ab, h5, r6⟩ := E5 r4
 refine cG call40 (Cw aa h5) ?_; rintro _ F7 _ ai ae aj ⟨rfl, rfl⟩
 refine AI (lb (ln rfl)) ?_
 obtain ⟨af, ah⟩ := A1 r6
 refine uv (Bd rfl rfl af) ?_
 refine ua (Aa (Ao ?_))
 refine BU results39 ?_
 obtain ⟨rfl, rfl, rfl⟩ := Kf ah
 exact ⟨rfl, rfl⟩
theorem MT (aa : Av 1 (iE .u8) F B4 B3 metal) {r : Bool} {r2 r3 : Int} (hr : Fs metal at_ GB n = some (r, r2, r3)) :
    SH.Spec Tryz.prog 66 #[.pointer (some ⟨Il, 0, none⟩), .int .i64 n] F [(Il, ce #[.slice B4 metal.length B3, .int .i64 at_, .int .u32 GB] 137)] fun _ L' v => v = .bool r ∧ L' = [(Il, ce #[.slice B4 metal.length B3, .int .i64 r2, .int .u32 r3] 137)] := by
 refine sp func66 ntmps66 fun K _ _ => ?_
 rw [Fs] at hr
 refine AN (ua (BX (um (um ?_))))
 obtain ⟨g1, r4⟩ := A1 hr
 refine uv (Fa rfl rfl g1) ?_
 obtain ⟨n2, ad, ab, h5, r6⟩ := E5 r4
 refine cG call40 (Cw aa h5) ?_; rintro _ F7 _ af ae ah ⟨rfl, rfl⟩
 refine AI (lb (ln rfl)) (uv (CR rfl rfl) ?_)
 refine ua (Aa (Ao ?_))
 refine BU results66 ?_
 obtain ⟨rfl, rfl, rfl⟩ := Kf r6
 exact ⟨rfl, rfl⟩
set_option maxHeartbeats 1000000 in
theorem NW (aa : Av 1 (iE .u8) F B4 B3 metal) {r : List Int} {r2 r3 : Int} (hr : Gk metal at_ GB n = some (r, r2, r3)) :
    SH.Spec Tryz.prog 87 #[.pointer (some ⟨Il, 0, none⟩), .int .i64 n] F [(Il, ce #[.slice B4 metal.length B3, .int .i64 at_, .int .u32 GB] 137)] fun F' L' v => ∃ (ra : Option Addr) (rn : Nat) (rc : Nat) (rL : LH), v = .slice ra rn rc ∧ L' = (Il, ce #[.slice B4 metal.length B3, .int .i64 r2, .int .u32 r3] 137) :: (rL ++ []) ∧ Be 0 3 1 (iE .i64) F' ra rn rc r rL := by
 refine sp func87 ntmps87 fun K _ _ => ?_
 rw [Gk] at hr
 refine AN (ua (BX (ua (Aa ?_))))
 obtain ⟨out, aq, ae, h7, r8⟩ := E5 hr
 refine A0 (fun e1 F1 L1 => ∃ (a1 : Option Addr) (n5 : Nat) (c2 : Nat) (bg : LH), A3 F F1 ∧ L1 = ((Il, ce #[.slice B4 metal.length B3, .int .i64 aq, .int .u32 ae] 137) :: (bg ++ [])) ∧ e1.sub [(5, .slice a1 n5 c2)] ∧ Be K.w0.heap.size 3 1 (iE .i64) F1 a1 n5 c2 out bg) ?_ ?_
 ·clear r8
  refine AN (um ?_)
  refine uv (Sy rfl rfl) ?_
  refine um (Aa ?_)
  refine Ap ?_
  obtain ⟨ct, cu⟩ := A1 h7
  refine Bh (fun az e1 F1 L1 => ∃ (k : Int), Dc 0 (if n > 0 then n else 0) k az ∧ ∃ (af : Int) (ab : Int) (BD : List Int) (a9 : Option Addr) (ba : Nat) (bb : Nat) (ai : LH), CY metal az k af ab BD = some (out, aq, ae) ∧ A3 F F1 ∧ L1 = ((Il, ce #[.slice B4 metal.length B3, .int .i64 af, .int .u32 ab] 137) :: (ai ++ [])) ∧ e1.sub [(0, .pointer (some ⟨Il, 0, none⟩)), (5, .slice a9 ba bb), (9, .int .i64 (if n > 0 then n else 0)), (10, .int .i64 k)] ∧ Be K.w0.heap.size 3 1 (iE .i64) F1 a9 ba bb BD ai) _ (m0 (kc (ke kr)) ⟨_, Dc.start _ _, at_, GB, [], none, 0, 0, [], cu, A3.refl _, rfl, z4, Be.nil _ _ _ _ _⟩) ?_
  rintro az e1 eu _ ⟨k, ak, af, ab, BD, a9, ba, bb, ai, bc, al, rfl, bh, aj⟩
  refine AB _ bh ?_
  replace aa := aa.mono (Ac _) al
  refine AN (uv (Bb rfl rfl) ?_)
  refine Aa (As ?_)
  refine cQ (fun bd => ?_) fun bd => ?_
  ·obtain ⟨az, rfl, bj⟩ := Dc.succ ak bd
   rw [CY] at bc
   refine Aq (As ?_)
   refine Ap ?_
   refine AN (um (ua (BX (um (um ?_)))))
   obtain ⟨n2, bk, ar, cv, cw⟩ := E5 bc
   refine cG call40 (Cw aa cv) ?_; rintro _ ew _ au cx cy ⟨rfl, rfl⟩
   replace aj := aj.mono (Ac _) au
   refine AI (lb (ln rfl)) ?_
   refine ua (BX (um (um ?_)))
   refine bA (cs := #[.int .i64 k]) Cm [.int .i64 k] ?_; intro ey cz
   obtain ⟨bl, da, db, dd⟩ := GM cw
   refine Fm (xs := BD) (ys := [k]) (zs := bl) rfl Cm rfl rfl (Nat.le_refl _) (fun _ => .c (.c .h)) aj (H2.box (vss := [[.int .i64 k]]) (ys := [k]) 0 rfl (Ac _) (.cons rfl .nil) rfl rfl) da db (by decide) ?_; intro de df dg ah ad
   refine kO (kd kr) ?_
   refine ua (Aa ?_)
   refine Dp [(.still, 0), (.still, 1), (.still, 2), (.still, 3), (.still, 4), (.still, 5), (.still, 6), (.still, 7), (.still, 8), (.still, 9), (.still, 10), (.still, 11), (.still, 12), (.seq, 13), (.still, 14), (.seq, 15)] (by kernel_rfl) (by kernel_rfl) (trivial) (by rfl) (by kernel_rfl) (mS [5] rfl (Bw rfl) (mS [7] rfl (Bw rfl) (mS [5] rfl (Bw rfl) (mS [6] rfl (Bw rfl) (mS [5] rfl (Bw rfl) (mS [6] rfl (Bw rfl) ?_))))))
   obtain ⟨x, cj, bm, dh⟩ := Bx dd
   obtain ⟨ez, fa, fb, di, bn, bo, ck, rfl, dk, bp⟩ := Be.at (Ac _) ad (L := ah ++ []) fP cj.1 bm
   refine mS [24, 25] rfl (AK underlying33 sizeOf3 rfl bn rfl (Be.idx ad cj)) (mL [26] (ah ++ []) rfl (s0 (s1 (s4 sr))) (fun H F' L' bq br => An isAgg3 rfl (bo.ext bq br) (bp 0 (by decide))) (mS [5] rfl (Bw rfl) (mS [7] rfl (Bw rfl) ?_)))
   obtain ⟨x2, av, aw, dm⟩ := Bx dh
   obtain ⟨fe, ff, fg, dn, bu, bw, cn, rfl, dp, bx⟩ := Be.at (Ac _) ad (L := ah ++ []) fP av.1 aw
   refine mS [28, 29] rfl (AK underlying33 sizeOf3 rfl bu rfl (Be.idx ad av)) (mL [30] (ah ++ []) rfl (s0 (s1 (s4 sr))) (fun H F' L' bq br => An isAgg3 rfl (bw.ext bq br) (bx 0 (by decide))) ?_)
   obtain ⟨dq, dr, fh, dt, ax, du, cp, rfl, dv, dw⟩ := Be.at (Ac _) ad (L := ah ++ []) fP av.1 aw
   refine mS [20, 21] rfl (AK underlying33 sizeOf3 rfl ax rfl (Be.idx ad av)) ?_
   refine ⟨_, [(27, .int .i64 x), (32, .pointer (some ⟨dq, dr + (n2 : Int).toNat * 1, none⟩))], rfl, rfl, z2, by kernel_rfl, ?_⟩; intro H
   obtain ⟨l, dx, dy⟩ := CH dm
   refine Gp (u := x) sizeOf3 (Ac _) rfl ax rfl rfl (fun _ => .c .h) ad dx av ?_; intro bz ao
   refine Aa ⟨undef, rfl, A3.refl _, [3, 2], by kernel_rfl, .inl (.inr (fun d h => by cases h)), (fc sm (fc sm nm)), ?_⟩
   obtain ⟨x3, ca, cb, dz⟩ := Bx dy
   obtain ⟨eb, ec, fi, eg, ay, eh, cq, rfl, ei, ej⟩ := Be.at (Ac _) ao (L := bz ++ []) fP ca.1 cb
   refine mS [22, 23] rfl (AK underlying33 sizeOf3 rfl ay rfl (Be.idx ao ca)) ?_
   refine ⟨_, [(31, .int .i64 x2), (33, .pointer (some ⟨eb, ec + (k : Int).toNat * 1, none⟩))], rfl, rfl, z2, by kernel_rfl, ?_⟩; intro H
   obtain ⟨l2, en, eo⟩ := CH dz
   refine Gp (u := x2) sizeOf3 (Ac _) rfl ay rfl rfl (fun _ => .c .h) ao en ca ?_; intro cd cf
   refine Aa ⟨undef, rfl, A3.refl _, [], by kernel_rfl, .inl (.inl rfl), nm, ?_⟩
   refine Ff ?_
   refine AD (id := 1) (Am ?_)
   refine uv (Bd rfl rfl (Dc.Eg ak bd ct)) ?_
   refine um (Aa ?_)
   exact le kr ⟨_, bj, bk, ar, l2, de, df, dg, cd, eo, (al.trans au), rfl, z4, cf⟩
  obtain rfl := Dc.zero ak bd
  rw [CY] at bc
  refine AT (Af (Af ?_))
  refine Ay ?_
  obtain ⟨rfl, rfl, rfl⟩ := Kf bc
  exact mi kr ⟨a9, ba, bb, ai, al, rfl, z1, aj⟩
 rintro e1 fj _ ⟨a1, n5, c2, bg, ep, rfl, cg, er⟩
 refine AB _ cg ?_
 refine AN (um (ua (Aa (Ao ?_))))
 refine BU results87 ?_
 obtain ⟨rfl, rfl, rfl⟩ := Kf r8
 exact ⟨_, _, _, _, rfl, rfl, er.any⟩
theorem Nu {v r : Int} (hr : Hi v n = some r) :
    Bl Tryz.prog 88 #[.int .i64 v, .int .i64 n] F (.int .i64 r) := by
 refine sp func88 ntmps88 fun K _ _ => ?_
 rw [Hi] at hr
 refine AN (ua (Aa (As (AN (um ?_)))))
 refine uv (Bb rfl rfl) (Aa ?_)
 refine cQ (fun c1 => ?_) fun c1 => ?_
 ·have r2 := Bf hr c1
  refine AN (ua (Aa (Ao (Ah ?_))))
  refine BU results88 ?_
  obtain rfl := AL r2
  exact rfl
 have r3 := Bg hr c1
 refine Aq (As (AN (um (um ?_))))
 obtain ⟨g4, r5⟩ := A1 r3
 refine uv (RG rfl rfl g4) ?_
 refine ua (BX (um ?_))
 refine uv (Bb rfl rfl) (Aa ?_)
 refine cQ (fun c6 => ?_) fun c6 => ?_
 ·have r7 := Bf r5 c6
  refine Am (um (um ?_))
  obtain ⟨g8, r9⟩ := A1 r7
  refine uv (Bd rfl rfl g8) ?_
  refine ua (BX (um (ua (Aa (Ao ?_)))))
  refine BU results88 ?_
  obtain rfl := AL r9
  exact rfl
 have aa := Bg r5 c6
 refine Aq (AN (um (ua (Aa (Ao ?_)))))
 refine BU results88 ?_
 obtain rfl := AL aa
 exact rfl
end Go.Proofs.YtfmapnhfamoecaaGreat
