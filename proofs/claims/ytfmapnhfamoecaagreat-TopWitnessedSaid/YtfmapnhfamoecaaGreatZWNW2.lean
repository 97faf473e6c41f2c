/- The walks that this claim needs, printed by a program of mine; part 2. -/
import Derived.Test.YtfmapnhfamoecaaGreatZWNW1
namespace Go.Proofs.YtfmapnhfamoecaaGreat
open Go.SH Go.PL
open Tryz 
variable {KU KT Ih Ii : Array Value} {EE : Bool} {F : FS} {KS Ij : FuncId} {at_ down h hi hour An lo n I1 Ad p Cy E4 GK wide Dy : Int} {Ba : List (Int × Int × Int)} {Ao : List (List (List Int))} {metal BA Av : List Int} {X2 IT Mv GZ MS Bx Ax J0 B3 CD A8 R4 R9 Ck : Nat} {IZ N0 : Nat × Nat} {X1 X5 Bv Aw Ko B6 CC A9 RO Sa Cj : Option Addr}
set_option maxHeartbeats 1000000 in
theorem M6 (ae : F GZ = some (.cells #[.int .i64 An, .int .i64 Ad, .slice Aw Ao.length Ax, .slice A9 Av.length A8, .slice Bv Ba.length Bx] 247 IZ)) (ab : As 1 (BC 1 (BC 1 (iE .i64))) F Aw Ax Ao) (aa : As 1 (iE .i64) F A9 A8 Av) (ad : As 3 (Ce (iE .i64) (Ce (iE .i64) (iE .i64))) F Bv Bx Ba) {r : List ((List Bool) × (List Int))} (hr : IE An Ad Ao Av Ba = some r) :
    SH.Spec Tryz.prog 109 #[.pointer (some ⟨GZ, 0, none⟩)] F [] fun F' L' v => ∃ (ra : Option Addr) (rn : Nat) (rc : Nat) (rL : LH), v = .slice ra rn rc ∧ L' = rL ++ [] ∧ Bd 0 223 25 (Ce (Ll 24 cB) (BC 1 (iE .i64))) F' ra rn rc r rL := by
 refine sp func109 ntmps109 fun K _ _ => ?_
 rw [IE] at hr
 refine AJ ?_
 refine BJ rfl rfl ?_; intro b1 pe
 refine ua (BU (ua (Aa ?_)))
 obtain ⟨now, h8, r9⟩ := AF hr
 refine A5 (fun e1 F1 L1 => ∃ (a2 : Option Addr) (n6 : Nat) (c3 : Nat) (g0 : LH), A4 F F1 ∧ L1 = (g0 ++ []) ∧ e1.sub [(3, .slice a2 n6 c3)] ∧ Bd 0 315 26 (Ce (iE .i64) (Ce (Ll 24 cB) (BC 1 (iE .i64)))) F1 a2 n6 c3 now g0) ?_ ?_
 ·clear r9
  refine AJ (uv (Ah isAgg215 rfl (Has.own 0 rfl) rfl) (uv (AV rfl) (uv (Ab N3 rfl) (uv (Ab KV rfl) (uv (Ah isAgg33 rfl (Has.frozen ae) rfl) (uv (A2 underlying33 rfl) ?_))))))
  refine um (Aa ?_)
  refine Ak ?_
  refine B1 0 rfl pe ?_; intro pf dr af
  refine DT (L' := []) rfl ?_
  replace ab := ab.mono (Am (Am (Ac _))) dr
  replace aa := aa.mono (Ac _) dr
  replace ad := ad.mono (AU (Ac _) (AU (Ac _) (Ac _))) dr
  replace ae := dr _ _ ae
  refine TN (fun o9 e1 F1 L1 => LA Av o9 fun tl k => ∃ (cp : List (Int × (List Bool) × (List Int))) (ew : Option Addr) (ey : Nat) (ez : Nat) (ah : LH), ED An Ad Ao Av Ba tl k cp = some now ∧ A4 pf F1 ∧ L1 = (ah ++ []) ∧ e1.sub [(1, .pointer (some ⟨b1, 0, none⟩)), (3, .slice ew ey ez), (21, .int .i64 (Av.length : Int)), (22, .int .i64 k)] ∧ Bd 0 315 26 (Ce (iE .i64) (Ce (Ll 24 cB) (BC 1 (iE .i64)))) F1 ew ey ez cp ah) _ (m0 (ke kr) ⟨_, _, rfl, BI.start _, [], none, 0, 0, [], h8, A4.refl _, rfl, z4, Bd.nil _ _ _ _ _⟩) ?_
  rintro o9 e1 oc _ ⟨tl, k, mc, gp, cp, ew, ey, ez, ah, lk, cq, rfl, me, ax⟩
  refine AB _ me ?_
  replace ab := ab.mono (Am (Am (Ac _))) cq
  replace aa := aa.mono (Ac _) cq
  replace ad := ad.mono (AU (Ac _) (AU (Ac _) (Ac _))) cq
  replace ae := cq _ _ ae
  replace af := cq _ _ af
  refine AJ (uv (Bp rfl rfl) ?_)
  refine Aa (Aq ?_)
  refine cQ (fun lq => ?_) fun lq => ?_
  ·obtain ⟨x, qq, rfl, pg, qs, mg⟩ := BI.succ gp lq
   rw [ED] at lk
   refine Al ?_
   obtain ⟨ie, ph, od⟩ := AF lk
   refine A5 (fun e1 F1 L1 => ∃ (lr : Option Addr) (lu : Nat) (lv : Nat) (fa : LH), A4 oc F1 ∧ L1 = (fa ++ []) ∧ e1.sub [(1, .pointer (some ⟨b1, 0, none⟩)), (3, .slice lr lu lv), (21, .int .i64 (Av.length : Int)), (22, .int .i64 k)] ∧ Bd 0 315 26 (Ce (iE .i64) (Ce (Ll 24 cB) (BC 1 (iE .i64)))) F1 lr lu lv ie fa) ?_ ?_
   ·clear od
    refine Ak ?_
    refine AJ (um ?_)
    refine Bw rfl zeroValue3 ?_; intro bj ig
    refine B4 (i := 0) sizeOf3 rfl rfl rfl rfl (CB rfl) (AI rfl (BU ?_))
    refine JO rfl ?_; intro bc pj
    refine Bw rfl zeroValue311 ?_; intro bd ij
    refine B4 (i := 0) sizeOf311 rfl rfl rfl rfl (CB rfl) (AI rfl (BU ?_))
    refine Bw rfl zeroValue310 ?_; intro ai pk
    refine BU (uv (Ah isAgg215 rfl (Has.frozen af) rfl) (uv (AV rfl) (uv (Ab N3 rfl) (uv (A1 (cs := #[.int .i64 An, .int .i64 Ad, .slice Aw Ao.length Ax, .slice A9 Av.length A8, .slice Bv Ba.length Bx]) isAgg100 sizeOf100 rfl (Has.frozen ae) (CB rfl) rfl) (uv (BT rfl rfl) ?_)))))
    refine Bw rfl zeroValue162 ?_; intro bp ik
    refine B4 (i := 0) sizeOf162 rfl rfl rfl rfl (CB rfl) (AI rfl (BU (uv (BT rfl rfl) ?_)))
    refine Bw rfl zeroValue316 ?_; intro bg pn
    refine B4 (i := 0) sizeOf316 rfl rfl rfl rfl (CB rfl) (AI rfl (Aa ?_))
    obtain ⟨cr, m, oe, og⟩ := DM ph
    refine UG (fun e1 F1 L1 => ∃ (lx : Option Addr) (ly : Nat) (ma : Nat) (fb : LH) (fe : Array MapEntry) (gq : Nat), A4 oc F1 ∧ L1 = ((bg, ce (#[.func (.func 174) #[] #[.pointer (some ⟨bp, 0, none⟩), .pointer (some ⟨bj, 0, none⟩), .pointer (some ⟨b1, 0, none⟩), .pointer (some ⟨bd, 0, none⟩), .pointer (some ⟨ai, 0, none⟩)]]) 316) :: ((ai, ce #[.slice lx ly ma] 310) :: ((bc, .map fe gq) :: (ah ++ (fb ++ []))))) ∧ e1.sub [(1, .pointer (some ⟨b1, 0, none⟩)), (3, .slice ew ey ez), (6, .pointer (some ⟨ai, 0, none⟩)), (8, .pointer (some ⟨bg, 0, none⟩)), (21, .int .i64 (Av.length : Int)), (22, .int .i64 k)] ∧ Bd 0 315 26 (Ce (iE .i64) (Ce (Ll 24 cB) (BC 1 (iE .i64)))) F1 lx ly ma cr fb ∧ F1 bp = some (ce (#[.func (.func 173) #[.agg #[.int .i64 An, .int .i64 Ad, .slice Aw Ao.length Ax, .slice A9 Av.length A8, .slice Bv Ba.length Bx]] #[]]) 162) ∧ F1 bj = some (ce #[.int .i64 k] 3) ∧ JG Hz (vA (cP (cI .i64) (cA cB))) Value.bool fe m ∧ F1 bd = some (ce #[.map (some bc)] 311)) ?_ ?_
    ·clear og
     refine AJ (uv (Ah isAgg3 rfl (Has.own 5 rfl) rfl) (uv (Cx rfl rfl) (Aa ?_)))
     refine cQ (fun mh => ?_) fun mh => ?_
     ·have po := Bi oe mh
      refine AJ (um (Aa ?_))
      refine Ak ?_
      refine B1 1 rfl ik ?_; intro qt dh bq
      refine DT (L' := (bg, ce (#[.func (.func 174) #[] #[.pointer (some ⟨bp, 0, none⟩), .pointer (some ⟨bj, 0, none⟩), .pointer (some ⟨b1, 0, none⟩), .pointer (some ⟨bd, 0, none⟩), .pointer (some ⟨ai, 0, none⟩)]]) 316) :: ((ai, ce #[.slice none 0 0] 310) :: ((bd, ce #[.map (some bc)] 311) :: ((bc, .map #[] 0) :: ((bj, ce #[.int .i64 k] 3) :: (ah ++ [])))))) rfl ?_
      replace ab := ab.mono (Am (Am (Ac _))) dh
      replace aa := aa.mono (Ac _) dh
      replace ad := ad.mono (AU (Ac _) (AU (Ac _) (Ac _))) dh
      replace ae := dh _ _ ae
      replace af := dh _ _ af
      refine B1 4 rfl ig ?_; intro qu ct di
      refine DT (L' := (bg, ce (#[.func (.func 174) #[] #[.pointer (some ⟨bp, 0, none⟩), .pointer (some ⟨bj, 0, none⟩), .pointer (some ⟨b1, 0, none⟩), .pointer (some ⟨bd, 0, none⟩), .pointer (some ⟨ai, 0, none⟩)]]) 316) :: ((ai, ce #[.slice none 0 0] 310) :: ((bd, ce #[.map (some bc)] 311) :: ((bc, .map #[] 0) :: (ah ++ []))))) rfl ?_
      replace ab := ab.mono (Am (Am (Ac _))) ct
      replace aa := aa.mono (Ac _) ct
      replace ad := ad.mono (AU (Ac _) (AU (Ac _) (Ac _))) ct
      replace ae := ct _ _ ae
      replace af := ct _ _ af
      replace bq := ct _ _ bq
      refine B1 2 rfl ij ?_; intro pq br ff
      refine DT (L' := (bg, ce (#[.func (.func 174) #[] #[.pointer (some ⟨bp, 0, none⟩), .pointer (some ⟨bj, 0, none⟩), .pointer (some ⟨b1, 0, none⟩), .pointer (some ⟨bd, 0, none⟩), .pointer (some ⟨ai, 0, none⟩)]]) 316) :: ((ai, ce #[.slice none 0 0] 310) :: ((bc, .map #[] 0) :: (ah ++ [])))) rfl ?_
      replace ab := ab.mono (Am (Am (Ac _))) br
      replace aa := aa.mono (Ac _) br
      replace ad := ad.mono (AU (Ac _) (AU (Ac _) (Ac _))) br
      replace ae := br _ _ ae
      replace af := br _ _ af
      replace bq := br _ _ bq
      replace di := br _ _ di
      obtain ⟨mj, ml⟩ := A0 po
      refine TN (fun mb e1 F1 L1 => ∃ (k2 : Int), EI 0 8 k2 mb ∧ ∃ (cu : List (Int × (List Bool) × (List Int))) (m2 : List ((Int × (List Bool)) × Bool)) (il : Option Addr) (dt : Nat) (du : Nat) (bu : LH) (bw : Array MapEntry) (cz : Nat), EG An Ad Ao Av Ba k mb k2 cu m2 = some (cr, m) ∧ A4 pq F1 ∧ L1 = ((bg, ce (#[.func (.func 174) #[] #[.pointer (some ⟨bp, 0, none⟩), .pointer (some ⟨bj, 0, none⟩), .pointer (some ⟨b1, 0, none⟩), .pointer (some ⟨bd, 0, none⟩), .pointer (some ⟨ai, 0, none⟩)]]) 316) :: ((ai, ce #[.slice il dt du] 310) :: ((bc, .map bw cz) :: (ah ++ (bu ++ []))))) ∧ e1.sub [(1, .pointer (some ⟨b1, 0, none⟩)), (3, .slice ew ey ez), (6, .pointer (some ⟨ai, 0, none⟩)), (8, .pointer (some ⟨bg, 0, none⟩)), (21, .int .i64 (Av.length : Int)), (22, .int .i64 k), (34, .int .i64 k2)] ∧ Bd 0 315 26 (Ce (iE .i64) (Ce (Ll 24 cB) (BC 1 (iE .i64)))) F1 il dt du cu bu ∧ JG Hz (vA (cP (cI .i64) (cA cB))) Value.bool bw m2) _ (m0 (kc (kc (kc (ka (ke kr))))) ⟨_, EI.start _ _, [], [], none, 0, 0, [], #[], 0, ml, A4.refl _, rfl, z7, Bd.nil _ _ _ _ _, JG.nil⟩) ?_
      rintro mb e1 mn _ ⟨k2, dv, cu, m2, il, dt, du, bu, bw, cz, fg, ao, rfl, im, ga, gb⟩
      refine AB _ im ?_
      replace ab := ab.mono (Am (Am (Ac _))) ao
      replace aa := aa.mono (Ac _) ao
      replace ad := ad.mono (AU (Ac _) (AU (Ac _) (Ac _))) ao
      replace ae := ao _ _ ae
      replace af := ao _ _ af
      replace bq := ao _ _ bq
      replace di := ao _ _ di
      replace ff := ao _ _ ff
      refine AJ (uv (Bp rfl rfl) ?_)
      refine Aa (Aq ?_)
      refine cQ (fun fh => ?_) fun fh => ?_
      ·obtain ⟨mb, rfl, iq⟩ := EI.succ dv fh
       rw [EG] at fg
       refine Al (Aq ?_)
       refine Ak ?_
       refine AJ (um (ua (Aa (Af ?_))))
       refine uv (Ah isAgg316 rfl (Has.own 0 rfl) rfl) ?_
       refine uv (BM (v := .agg ((([.int .i64 0] : List Value) ++ ((List.replicate 24 false).flatMap cB ++ (([.slice none 0 0] : List Value)))).toArray)) rfl (by intro w; kernel_rfl)) ?_
       refine um ?_
       have ir : Gk Tryz.prog mn 173 #[.agg #[.int .i64 An, .int .i64 Ad, .slice Aw Ao.length Ax, .slice A9 Av.length A8, .slice Bv Ba.length Bx]] #[] (Ce (iE .i64) (iE .i64)) Value.bool (fun dw : Int × Int => GH An Ad Ao Av Ba dw.1 dw.2) := ⟨call173, fun F2 h2 vs dw r ha hr => by obtain ⟨_, _, rfl, rfl, rfl⟩ := ha; exact LU (ab.mono (Am (Am (Ac _))) h2) (aa.mono (Ac _) h2) (ad.mono (AU (Ac _) (AU (Ac _) (Ac _))) h2) hr⟩
       obtain ⟨x2, gr, mo, mq⟩ := DM fg
       refine ID (Lb := (bc, .map bw cz) :: ((ai, ce #[.slice il dt du] 310) :: (bu ++ []))) (Lr := (bg, ce (#[.func (.func 174) #[] #[.pointer (some ⟨bp, 0, none⟩), .pointer (some ⟨bj, 0, none⟩), .pointer (some ⟨b1, 0, none⟩), .pointer (some ⟨bd, 0, none⟩), .pointer (some ⟨ai, 0, none⟩)]]) 316) :: (ah ++ [])) rfl call174 rfl rfl rfl (pT ((fC (fC fO)).trans (pC ((fC fO).trans (pC ((fC (fS fP)).trans (pA pR)))))) (lb (lb (lp (ln rfl))))) (IP List.length_replicate (As.nil _ _ _) bq ir di af ae ab aa ad ff gb ga mo) ?_; rintro _ pr _ iu oh oi ⟨iv, iw, mr, mu, mv, iy, rfl, rfl, iz, j0⟩
       refine AI (lb (lb (lp (ln rfl)))) (kO (kc (kc (kf (fS fO) kr))) ?_)
       refine Aa (At (id := 3) (Af ?_))
       refine uv (Bf rfl rfl (EI.Ed dv fh mj)) ?_
       refine um (Aa ?_)
       refine lf ?_
       exact mf (kf (fC (fC fO)) (kf (fC fO) (kc (kg (fS fP) kr)))) ⟨_, iq, gr, x2, mr, mu, mv, iy, iv, iw, mq, (ao.trans iu), rfl, z7, j0, iz⟩
      obtain rfl := EI.zero dv fh
      rw [EG] at fg
      refine AW (Ae (Ae ?_))
      refine Au ?_
      obtain ⟨rfl, rfl⟩ := DO fg
      exact mf kr ⟨il, dt, du, bu, bw, cz, (((dh.trans ct).trans br).trans ao), rfl, z6, ga, bq, di, gb, ff⟩
     have mw := Bk oe mh
     refine Al ?_
     refine MA 1 rfl ik ?_; intro pt j1 bx
     refine Tr (L' := (bg, ce (#[.func (.func 174) #[] #[.pointer (some ⟨bp, 0, none⟩), .pointer (some ⟨bj, 0, none⟩), .pointer (some ⟨b1, 0, none⟩), .pointer (some ⟨bd, 0, none⟩), .pointer (some ⟨ai, 0, none⟩)]]) 316) :: ((ai, ce #[.slice none 0 0] 310) :: ((bd, ce #[.map (some bc)] 311) :: ((bc, .map #[] 0) :: ((bj, ce #[.int .i64 k] 3) :: (ah ++ [])))))) rfl ?_
     refine MA 4 rfl ig ?_; intro pv gg dx
     refine Tr (L' := (bg, ce (#[.func (.func 174) #[] #[.pointer (some ⟨bp, 0, none⟩), .pointer (some ⟨bj, 0, none⟩), .pointer (some ⟨b1, 0, none⟩), .pointer (some ⟨bd, 0, none⟩), .pointer (some ⟨ai, 0, none⟩)]]) 316) :: ((ai, ce #[.slice none 0 0] 310) :: ((bd, ce #[.map (some bc)] 311) :: ((bc, .map #[] 0) :: (ah ++ []))))) rfl ?_
     replace bx := gg _ _ bx
     refine MA 2 rfl ij ?_; intro pw dy j2
     refine Tr (L' := (bg, ce (#[.func (.func 174) #[] #[.pointer (some ⟨bp, 0, none⟩), .pointer (some ⟨bj, 0, none⟩), .pointer (some ⟨b1, 0, none⟩), .pointer (some ⟨bd, 0, none⟩), .pointer (some ⟨ai, 0, none⟩)]]) 316) :: ((ai, ce #[.slice none 0 0] 310) :: ((bc, .map #[] 0) :: (ah ++ [])))) rfl ?_
     replace bx := dy _ _ bx
     replace dx := dy _ _ dx
     obtain ⟨rfl, rfl⟩ := DO mw
     exact mf (kc (kc (kc (ka (ke kr))))) ⟨none, 0, 0, [], #[], 0, ((j1.trans gg).trans dy), rfl, z6, Bd.nil _ _ _ _ _, bx, dx, JG.nil, j2⟩
    rintro e1 j3 _ ⟨lx, ly, ma, fb, fe, gq, ay, rfl, j4, mx, cv, cw, my, cx⟩
    refine AB _ j4 ?_
    replace ab := ab.mono (Am (Am (Ac _))) ay
    replace aa := aa.mono (Ac _) ay
    replace ad := ad.mono (AU (Ac _) (AU (Ac _) (Ac _))) ay
    replace ax := ax.mono (AU (Ac _) (AU (DJ (n := 24) (sz := 1) BG) (Am (Ac _)))) ay
    replace ae := ay _ _ ae
    replace af := ay _ _ af
    obtain ⟨dz, mz, j5⟩ := AF og
    refine A5 (fun e1 F1 L1 => ∃ (fi : Option Addr) (fj : Nat) (fk : Nat) (da : LH), A4 j3 F1 ∧ L1 = ((ai, ce #[.slice fi fj fk] 310) :: (da ++ [])) ∧ e1.sub [(1, .pointer (some ⟨b1, 0, none⟩)), (6, .pointer (some ⟨ai, 0, none⟩)), (21, .int .i64 (Av.length : Int)), (22, .int .i64 k)] ∧ Bd 0 315 26 (Ce (iE .i64) (Ce (Ll 24 cB) (BC 1 (iE .i64)))) F1 fi fj fk dz da) ?_ ?_
    ·clear j5
     refine AJ (um ?_)
     refine uv ((A2 underlying310 rfl).i (Bd.KW ax)) ?_
     refine um (Aa ?_)
     refine Ak ?_
     refine Br (fun oj e1 F1 L1 => LA cp oj fun oo k3 => ∃ (bl : List (Int × (List Bool) × (List Int))) (m3 : List ((Int × (List Bool)) × Bool)) (bz : Option Addr) (ca : Nat) (cb : Nat) (au : LH) (az : Array MapEntry) (bk : Nat), Ew An Ad Ao Av Ba k oo bl m3 = some dz ∧ A4 j3 F1 ∧ L1 = ((bg, ce (#[.func (.func 174) #[] #[.pointer (some ⟨bp, 0, none⟩), .pointer (some ⟨bj, 0, none⟩), .pointer (some ⟨b1, 0, none⟩), .pointer (some ⟨bd, 0, none⟩), .pointer (some ⟨ai, 0, none⟩)]]) 316) :: ((ai, ce #[.slice bz ca cb] 310) :: ((bc, .map az bk) :: (au ++ (ah ++ []))))) ∧ e1.sub [(1, .pointer (some ⟨b1, 0, none⟩)), (6, .pointer (some ⟨ai, 0, none⟩)), (8, .pointer (some ⟨bg, 0, none⟩)), (21, .int .i64 (Av.length : Int)), (22, .int .i64 k), (42, .slice ew ey ez), (43, .int .i64 (cp.length : Int)), (44, .int .i64 k3)] ∧ Bd 0 315 26 (Ce (iE .i64) (Ce (Ll 24 cB) (BC 1 (iE .i64)))) F1 bz ca cb bl au ∧ JG Hz (vA (cP (cI .i64) (cA cB))) Value.bool az m3) _ (m0 (kc (kc (kc (kg (fS fP) kr)))) ⟨_, _, rfl, BI.start _, cr, m, lx, ly, ma, fb, fe, gq, mz, A4.refl _, rfl, z8, mx, my⟩) ?_
     rintro oj e1 na _ ⟨oo, k3, j6, e9, bl, m3, bz, ca, cb, au, az, bk, fl, aj, rfl, j7, db, j8⟩
     refine AB _ j7 ?_
     replace ab := ab.mono (Am (Am (Ac _))) aj
     replace aa := aa.mono (Ac _) aj
     replace ad := ad.mono (AU (Ac _) (AU (Ac _) (Ac _))) aj
     replace ax := ax.mono (AU (Ac _) (AU (DJ (n := 24) (sz := 1) BG) (Am (Ac _)))) aj
     replace ae := aj _ _ ae
     replace af := aj _ _ af
     replace cv := aj _ _ cv
     replace cw := aj _ _ cw
     replace cx := aj _ _ cx
     refine AJ (uv (Bp rfl rfl) ?_)
     refine Aa (Aq ?_)
     refine cQ (fun fm => ?_) fun fm => ?_
     ·obtain ⟨x3, qw, rfl, j9, ja, jb⟩ := BI.succ e9 fm
      rw [Ew] at fl
      refine Al ?_
      obtain ⟨cy, m4, nc, jc⟩ := DM fl
      refine A5 (fun e1 F1 L1 => ∃ (fp : Option Addr) (fq : Nat) (ft : Nat) (dd : LH) (de : Array MapEntry) (eb : Nat), A4 na F1 ∧ L1 = ((bg, ce (#[.func (.func 174) #[] #[.pointer (some ⟨bp, 0, none⟩), .pointer (some ⟨bj, 0, none⟩), .pointer (some ⟨b1, 0, none⟩), .pointer (some ⟨bd, 0, none⟩), .pointer (some ⟨ai, 0, none⟩)]]) 316) :: ((ai, ce #[.slice fp fq ft] 310) :: ((bc, .map de eb) :: (dd ++ (ah ++ []))))) ∧ e1.sub [(1, .pointer (some ⟨b1, 0, none⟩)), (6, .pointer (some ⟨ai, 0, none⟩)), (8, .pointer (some ⟨bg, 0, none⟩)), (21, .int .i64 (Av.length : Int)), (22, .int .i64 k), (42, .slice ew ey ez), (43, .int .i64 (cp.length : Int)), (44, .int .i64 k3)] ∧ Bd 0 315 26 (Ce (iE .i64) (Ce (Ll 24 cB) (BC 1 (iE .i64)))) F1 fp fq ft cy dd ∧ JG Hz (vA (cP (cI .i64) (cA cB))) Value.bool de m4) ?_ ?_
      ·clear jc
       refine Ak (AJ ?_)
       obtain ⟨px, py, pz, oq, jd, je, ec, ⟨_, _, rfl, rfl, ⟨_, _, rfl, ⟨rfl, bn⟩, ⟨dk, dm, rfl, ef⟩⟩⟩, jf, jg⟩ := Bd.at (AU (Ac _) (AU (DJ (n := 24) (sz := 1) BG) (Am (Ac _)))) ax (L := (bg, ce (#[.func (.func 174) #[] #[.pointer (some ⟨bp, 0, none⟩), .pointer (some ⟨bj, 0, none⟩), .pointer (some ⟨b1, 0, none⟩), .pointer (some ⟨bd, 0, none⟩), .pointer (some ⟨ai, 0, none⟩)]]) 316) :: ((ai, ce #[.slice bz ca cb] 310) :: ((bc, .map az bk) :: (au ++ (ah ++ []))))) (fC (fC (fC (fS fP)))) ja.1 j9
       refine uv (AT underlying310 sizeOf315 rfl jd rfl (Bd.idx ax ja)) (uv (A1 (cs := (([.int .i64 x3.1] : List Value) ++ (x3.2.1.flatMap cB ++ (([.slice dk x3.2.2.length dm] : List Value)))).toArray) isAgg315 sizeOf315 rfl je ec (Cz ec jf jg)) ?_)
       refine Bw rfl zeroValue315 ?_; intro dn ot
       refine AI (L' := (dn, ce ((([.int .i64 0] : List Value) ++ ((List.replicate 24 false).flatMap cB ++ (([.slice none 0 0] : List Value)))).toArray) 315) :: ((bg, ce (#[.func (.func 174) #[] #[.pointer (some ⟨bp, 0, none⟩), .pointer (some ⟨bj, 0, none⟩), .pointer (some ⟨b1, 0, none⟩), .pointer (some ⟨bd, 0, none⟩), .pointer (some ⟨ai, 0, none⟩)]]) 316) :: ((ai, ce #[.slice bz ca cb] 310) :: ((bc, .map az bk) :: (au ++ (ah ++ [])))))) rfl (HP (i := 0) sizeOf315 rfl rfl rfl (lz (la rfl (la (EJ BG List.length_replicate) rfl))) (lz (la rfl (la (EJ BG bn) rfl))) (O2 (by simp [Value.oneCell']) (O2 (Kf BG _) (by simp [Value.oneCell']))) (AI (L' := (dn, ce ((([.int .i64 x3.1] : List Value) ++ (x3.2.1.flatMap cB ++ (([.slice dk x3.2.2.length dm] : List Value)))).toArray) 315) :: ((bg, ce (#[.func (.func 174) #[] #[.pointer (some ⟨bp, 0, none⟩), .pointer (some ⟨bj, 0, none⟩), .pointer (some ⟨b1, 0, none⟩), .pointer (some ⟨bd, 0, none⟩), .pointer (some ⟨ai, 0, none⟩)]]) 316) :: ((ai, ce #[.slice bz ca cb] 310) :: ((bc, .map az bk) :: (au ++ (ah ++ [])))))) rfl (BU (uv (Ab Oj rfl) (uv (Ab VH rfl) (uv (Ah isAgg3 rfl (Has.own 0 rfl) (EV (BK rfl))) ?_))))))
       obtain ⟨y, nf, ng⟩ := AF nc
       refine c0 call175 (QY nf) ?_; rintro _ q0 _ ak ou ⟨jh, rfl, rfl, gu⟩
       replace ab := ab.mono (Am (Am (Ac _))) ak
       replace aa := aa.mono (Ac _) ak
       replace ad := ad.mono (AU (Ac _) (AU (Ac _) (Ac _))) ak
       replace ef := ef.mono (Ac _) ak
       replace db := db.mono (AU (Ac _) (AU (DJ (n := 24) (sz := 1) BG) (Am (Ac _)))) ak
       replace ae := ak _ _ ae
       replace af := ak _ _ af
       replace cv := ak _ _ cv
       replace cw := ak _ _ cw
       replace cx := ak _ _ cx
       refine AI (ln rfl) (Aa (Ak ?_))
       refine GF (encs := (fun x : Int => #[.int .i64 x])) (xs := y) rfl call220 rfl (fun _ => rfl) gu (fun pre F1 L1 => ∃ (ic : List Int) (al : List (Int × (List Bool) × (List Int))) (m5 : List ((Int × (List Bool)) × Bool)) (cc : Option Addr) (cd : Nat) (cf : Nat) (av : LH) (aw : Array MapEntry) (ba : Nat), y = pre ++ ic ∧ EF An Ad Ao Av Ba k x3 ic al m5 = some (cy, m4) ∧ L1 = ((dn, ce ((([.int .i64 x3.1] : List Value) ++ (x3.2.1.flatMap cB ++ (([.slice dk x3.2.2.length dm] : List Value)))).toArray) 315) :: ((bg, ce (#[.func (.func 174) #[] #[.pointer (some ⟨bp, 0, none⟩), .pointer (some ⟨bj, 0, none⟩), .pointer (some ⟨b1, 0, none⟩), .pointer (some ⟨bd, 0, none⟩), .pointer (some ⟨ai, 0, none⟩)]]) 316) :: ((ai, ce #[.slice cc cd cf] 310) :: ((bc, .map aw ba) :: (av ++ (ah ++ [])))))) ∧ Bd 0 315 26 (Ce (iE .i64) (Ce (Ll 24 cB) (BC 1 (iE .i64)))) F1 cc cd cf al av ∧ JG Hz (vA (cP (cI .i64) (cA cB))) Value.bool aw m5) (fun _ _ _ => False) ?_ ?_ ?_ ?_ ?_ ?_
       ·rintro pre F1 F2 L1 ⟨ic, al, m5, cc, cd, cf, av, aw, ba, cg, nh, rfl, cj, ck⟩ hx; exact ⟨ic, al, m5, cc, cd, cf, av, aw, ba, cg, nh, rfl, cj.mono (AU (Ac _) (AU (DJ (n := 24) (sz := 1) BG) (Am (Ac _)))) hx, ck⟩
       ·intro c F1 F2 L1 h hx; exact h
       ·exact ⟨_, bl, m3, bz, ca, cb, au, az, bk, rfl, ng, rfl, db, j8⟩
       ·rintro qb ow oy oz p0 p3 ni p4 pre x4 qx eg nj _ aq ⟨ic, al, m5, cc, cd, cf, av, aw, ba, cg, ji, rfl, cj, ck⟩
        obtain rfl := JP cg eg
        rw [EF] at ji
        replace ab := ab.mono (Am (Am (Ac _))) aq
        replace aa := aa.mono (Ac _) aq
        replace ad := ad.mono (AU (Ac _) (AU (Ac _) (Ac _))) aq
        replace ef := ef.mono (Ac _) aq
        replace ae := aq _ _ ae
        replace af := aq _ _ af
        replace cv := aq _ _ cv
        replace cw := aq _ _ cw
        replace cx := aq _ _ cx
        refine AB [(1, .pointer (some ⟨b1, 0, none⟩)), (6, .pointer (some ⟨ai, 0, none⟩)), (8, .pointer (some ⟨bg, 0, none⟩)), (11, .pointer (some ⟨dn, 0, none⟩)), (21, .int .i64 (Av.length : Int)), (22, .int .i64 k), (42, .slice ew ey ez), (43, .int .i64 (cp.length : Int)), (44, .int .i64 k3), (51, .func (.func 220) #[] jh), (52, .int .i64 x4)] (by exact (sc rfl (sc rfl (sc rfl z8)))) ?_
        refine Af (ua (Aa ?_))
        refine ⟨rfl, ?_⟩
        refine Ak (Af (uv (Ah isAgg316 rfl (Has.own 1 rfl) rfl) (uv (A1 (cs := (([.int .i64 x3.1] : List Value) ++ (x3.2.1.flatMap cB ++ (([.slice dk x3.2.2.length dm] : List Value)))).toArray) isAgg315 sizeOf315 rfl (Has.own 0 rfl) (Fq (KR rfl (BK rfl) (KR (EJ BG bn) (Ar (A := ([.int .i64 x3.1] : List Value)) (k := 1) (o := 0) rfl (BK (EJ BG bn))) (Ar (A := ([.int .i64 x3.1] : List Value)) (k := 1) (o := 24) rfl (Ar (A := x3.2.1.flatMap cB) (k := 24) (o := 0) (EJ BG bn) (Ds rfl)))))) (Jv (la rfl (la (EJ BG bn) rfl)) (KR rfl (BK rfl) (KR (EJ BG bn) (Ar (A := ([.int .i64 x3.1] : List Value)) (k := 1) (o := 0) rfl (BK (EJ BG bn))) (Ar (A := ([.int .i64 x3.1] : List Value)) (k := 1) (o := 24) rfl (Ar (A := x3.2.1.flatMap cB) (k := 24) (o := 0) (EJ BG bn) (Ds rfl))))))) (um ?_))))
        have jj : Gk Tryz.prog nj 173 #[.agg #[.int .i64 An, .int .i64 Ad, .slice Aw Ao.length Ax, .slice A9 Av.length A8, .slice Bv Ba.length Bx]] #[] (Ce (iE .i64) (iE .i64)) Value.bool (fun dw : Int × Int => GH An Ad Ao Av Ba dw.1 dw.2) := ⟨call173, fun F2 h2 vs dw r ha hr => by obtain ⟨_, _, rfl, rfl, rfl⟩ := ha; exact LU (ab.mono (Am (Am (Ac _))) h2) (aa.mono (Ac _) h2) (ad.mono (AU (Ac _) (AU (Ac _) (Ac _))) h2) hr⟩
        obtain ⟨x5, fv, nk, nn⟩ := DM ji
        refine ID (Lb := (bc, .map aw ba) :: ((ai, ce #[.slice cc cd cf] 310) :: (av ++ []))) (Lr := (dn, ce ((([.int .i64 x3.1] : List Value) ++ (x3.2.1.flatMap cB ++ (([.slice dk x3.2.2.length dm] : List Value)))).toArray) 315) :: ((bg, ce (#[.func (.func 174) #[] #[.pointer (some ⟨bp, 0, none⟩), .pointer (some ⟨bj, 0, none⟩), .pointer (some ⟨b1, 0, none⟩), .pointer (some ⟨bd, 0, none⟩), .pointer (some ⟨ai, 0, none⟩)]]) 316) :: (ah ++ []))) rfl call174 rfl rfl rfl (pT ((fC (fC (fC fO))).trans (pC ((fC (fC fO)).trans (pC ((fC (fC fP)).trans (pA pR)))))) (lb (lb (lp (ln rfl))))) (IP bn ef cv jj cw af ae ab aa ad cx ck cj nk) ?_; rintro _ qc _ p5 p6 p7 ⟨gh, gi, jk, jl, jm, gj, rfl, rfl, jn, jo⟩
        refine AI (lb (lb (lp (ln rfl)))) (kO (kc (kc (kf (fS fO) (kf (fS fO) kr)))) ?_)
        refine Aa (At (id := 7) ?_)
        refine ⟨(dn, ce ((([.int .i64 x3.1] : List Value) ++ (x3.2.1.flatMap cB ++ (([.slice dk x3.2.2.length dm] : List Value)))).toArray) 315) :: ((bg, ce (#[.func (.func 174) #[] #[.pointer (some ⟨bp, 0, none⟩), .pointer (some ⟨bj, 0, none⟩), .pointer (some ⟨b1, 0, none⟩), .pointer (some ⟨bd, 0, none⟩), .pointer (some ⟨ai, 0, none⟩)]]) 316) :: ((ai, ce #[.slice jk jl jm] 310) :: ((bc, .map gh gi) :: (gj ++ (ah ++ []))))), (show KL _ _ from kf (fC (fC fO)) (kf (fC (fC fO)) (kf (fC fO) kr))), ?_⟩; exact ⟨_, fv, x5, jk, jl, jm, gj, gh, gi, (by rw [eg]; simp), nn, rfl, jo, jn⟩
       ·rintro qd _ jq ⟨ic, al, m5, cc, cd, cf, av, aw, ba, cg, jr, rfl, cj, ck⟩
        obtain rfl := Lk cg; rw [EF] at jr
        refine At (id := 6) (At (id := 5) ?_)
        obtain ⟨rfl, rfl⟩ := DO jr
        exact mi (kd kr) ⟨cc, cd, cf, av, aw, ba, (ak.trans jq), rfl, z8, cj, ck⟩
       intro c F1 L1 hx h; exact h.elim
      rintro e1 qe _ ⟨fp, fq, ft, dd, de, eb, gk, rfl, js, jt, ju⟩
      refine AB _ js ?_
      replace ax := ax.mono (AU (Ac _) (AU (DJ (n := 24) (sz := 1) BG) (Am (Ac _)))) gk
      refine Af (uv (Bf rfl rfl (BI.Ed e9 fm (Bd.UW ax))) ?_)
      refine um (Aa ?_)
      subst j6; exact le kr ⟨_, _, rfl, jb, cy, m4, fp, fq, ft, dd, de, eb, jc, (aj.trans gk), rfl, z8, jt, ju⟩
     obtain rfl := BI.zero e9 fm
     rw [Ew] at fl
     refine AW (Ae (Ae ?_))
     refine Au ?_
     obtain rfl := AH fl
     exact mi (kd (kc (kd (ka kn)))) ⟨bz, ca, cb, au, aj, rfl, z4, db⟩
    rintro e1 qf _ ⟨fi, fj, fk, da, jv, rfl, jw, jx⟩
    refine AB _ jw (Af (uv (Ah isAgg310 rfl (Has.own 0 rfl) rfl) ?_))
    refine ua (Aa (At (id := 1) ?_))
    obtain rfl := AH j5
    exact mi (kd kr) ⟨fi, fj, fk, da, (ay.trans jv), rfl, z4, jx⟩
   rintro e1 qg _ ⟨lr, lu, lv, fa, gl, rfl, jz, np⟩
   refine AB _ jz ?_
   replace aa := aa.mono (Ac _) gl
   refine Af (uv (Bf rfl rfl (BI.Ed gp lq (As.lt aa))) ?_)
   refine um (Aa ?_)
   subst mc; refine lf ?_
   exact mf kr ⟨_, _, rfl, mg, ie, lr, lu, lv, fa, od, (cq.trans gl), rfl, z4, np⟩
  obtain rfl := BI.zero gp lq
  rw [ED] at lk
  refine AW (Ae (Ae ?_))
  refine Au ?_
  obtain rfl := AH lk
  exact mi kr ⟨ew, ey, ez, ah, (dr.trans cq), rfl, z1, ax⟩
 rintro e1 k7 _ ⟨a2, n6, c3, g0, p8, rfl, k8, fw⟩
 refine AB _ k8 ?_
 refine AJ (ua (Aa ?_))
 obtain ⟨out, nq, k9⟩ := AF r9
 refine A5 (fun e1 F1 L1 => ∃ (gv : Option Addr) (gw : Nat) (gz : Nat) (eh : LH), A4 k7 F1 ∧ L1 = (eh ++ []) ∧ e1.sub [(13, .slice gv gw gz)] ∧ Bd K.w0.heap.size 223 25 (Ce (Ll 24 cB) (BC 1 (iE .i64))) F1 gv gw gz out eh) ?_ ?_
 ·clear k9
  refine AJ (um ?_)
  refine uv ((A2 underlying310 rfl).i (Bd.KW fw)) ?_
  refine um (Aa ?_)
  refine Ak ?_
  refine Br (fun p9 e1 F1 L1 => LA now p9 fun pa k4 => ∃ (ei : List ((List Bool) × (List Int))) (ej : Option Addr) (eo : Nat) (ep : Nat) (ar : LH), DW pa ei = some out ∧ A4 k7 F1 ∧ L1 = (ar ++ (g0 ++ [])) ∧ e1.sub [(13, .slice ej eo ep), (60, .slice a2 n6 c3), (61, .int .i64 (now.length : Int)), (62, .int .i64 k4)] ∧ Bd K.w0.heap.size 223 25 (Ce (Ll 24 cB) (BC 1 (iE .i64))) F1 ej eo ep ei ar) _ (m0 (ke kr) ⟨_, _, rfl, BI.start _, [], none, 0, 0, [], nq, A4.refl _, rfl, z4, Bd.nil _ _ _ _ _⟩) ?_
  rintro p9 e1 qh _ ⟨pa, k4, gm, df, ei, ej, eo, ep, ar, fx, dg, rfl, kb, bb⟩
  refine AB _ kb ?_
  replace fw := fw.mono (AU (Ac _) (AU (DJ (n := 24) (sz := 1) BG) (Am (Ac _)))) dg
  refine AJ (uv (Bp rfl rfl) ?_)
  refine Aa (Aq ?_)
  refine cQ (fun er => ?_) fun er => ?_
  ·obtain ⟨x6, qy, rfl, kh, kj, gn⟩ := BI.succ df er
   rw [DW] at fx
   refine Al (Aq ?_)
   refine Ak (AJ ?_)
   obtain ⟨qi, qj, qk, pb, kl, km, et, ⟨_, _, rfl, rfl, ⟨_, _, rfl, ⟨rfl, bo⟩, ⟨dp, dq, rfl, fy⟩⟩⟩, ko, kt⟩ := Bd.at (AU (Ac _) (AU (DJ (n := 24) (sz := 1) BG) (Am (Ac _)))) fw (L := ar ++ (g0 ++ [])) (fS fP) kj.1 kh
   refine uv (AT underlying310 sizeOf315 rfl kl rfl (Bd.idx fw kj)) (uv (A1 (cs := (([.int .i64 x6.1] : List Value) ++ (x6.2.1.flatMap cB ++ (([.slice dp x6.2.2.length dq] : List Value)))).toArray) isAgg315 sizeOf315 rfl km et (Cz et ko kt)) ?_)
   refine Bw rfl zeroValue315 ?_; intro ia ku
   refine AI (L' := (ia, ce ((([.int .i64 0] : List Value) ++ ((List.replicate 24 false).flatMap cB ++ (([.slice none 0 0] : List Value)))).toArray) 315) :: (ar ++ (g0 ++ []))) rfl (HP (i := 0) sizeOf315 rfl rfl rfl (lz (la rfl (la (EJ BG List.length_replicate) rfl))) (lz (la rfl (la (EJ BG bo) rfl))) (O2 (by simp [Value.oneCell']) (O2 (Kf BG _) (by simp [Value.oneCell']))) (AI (L' := (ia, ce ((([.int .i64 x6.1] : List Value) ++ (x6.2.1.flatMap cB ++ (([.slice dp x6.2.2.length dq] : List Value)))).toArray) 315) :: (ar ++ (g0 ++ []))) rfl ?_))
   refine BU (um ?_)
   refine uv (BT rfl rfl) ?_
   refine Bz 0 rfl ku ?_; intro nr cn eu
   refine AI rfl ?_
   replace fy := fy.mono (Ac _) cn
   replace fw := fw.mono (AU (Ac _) (AU (DJ (n := 24) (sz := 1) BG) (Am (Ac _)))) cn
   replace bb := bb.mono (AU (DJ (n := 24) (sz := 1) BG) (Am (Ac _))) cn
   have kv : Gk Tryz.prog nr 177 #[] #[.pointer (some ⟨ia, 0, none⟩)] (V5 (Ce (Ll 24 cB) (BC 1 (iE .i64)))) Value.bool (fun dw : ((List Bool) × (List Int)) => FQ dw.1 dw.2 x6.1 x6.2.1 x6.2.2) := ⟨call177, fun F2 h2 vs dw r ha hr => by obtain ⟨_, rfl, ⟨_, _, rfl, ⟨rfl, ns⟩, ⟨ql, qn, rfl, nt⟩⟩⟩ := ha; exact LW ns nt (h2 _ _ eu) bo (fy.mono (Ac _) h2) hr⟩
   obtain ⟨ok, nu, kz⟩ := AF fx
   refine JK (Lt := ar ++ []) (Lr := g0 ++ []) rfl call176 rfl rfl rfl (pT pR (lp (ln rfl))) (fun F2 h2 h3 => by rw [(Bd.Dx bb).1]; exact FN (bb.row (AU (DJ (n := 24) (sz := 1) BG) (Am (Ac _))) h2 (fun p hp => h3 p (List.mem_append_left _ hp))) (kv.mono h2) nu) ?_
   refine uv (BB rfl) (Aa ?_)
   refine AX rfl (fun ib => ?_) (fun ib => ?_)
   ·have nv := bt kz ib
    refine Af (um ?_)
    refine uv (Ab Oj rfl) (uv (Ab P5 rfl) (uv (A1 (cs := arr cB x6.2.1) isAgg221 sizeOf221 rfl (Has.frozen eu) (Fq (Ar (A := ([.int .i64 x6.1] : List Value)) (k := 1) (o := 0) rfl (BK (EJ BG bo)))) (Jv (EJ BG bo) (Ar (A := ([.int .i64 x6.1] : List Value)) (k := 1) (o := 0) rfl (BK (EJ BG bo))))) (uv (Ab SR rfl) (uv (Ah isAgg33 rfl (Has.frozen eu) (EV (Ar (A := ([.int .i64 x6.1] : List Value)) (k := 1) (o := 24) rfl (Ar (A := x6.2.1.flatMap cB) (k := 24) (o := 0) (EJ BG bo) (Ds rfl))))) ?_))))
    refine uv (BM (v := .agg ((x6.2.1.flatMap cB ++ (([.slice dp x6.2.2.length dq] : List Value))).toArray)) rfl (by intro w; have nw := bo; revert nw; generalize x6.2.1 = zq_; intro nw; obtain ⟨a0, a1, a2, a3, a4, a5, a6, a7, a8, a9, qz, r0, re, ew, rf, rh, ri, rj, rk, rl, rm, rp, rq, rr, rfl⟩ := MC nw; show _ = _; kernel_rfl)) ?_
    refine Ho (cs := (x6.2.1.flatMap cB ++ (([.slice dp x6.2.2.length dq] : List Value))).toArray) rfl rfl (Mj TT (.agg (x6.2.1.flatMap cB ++ (([.slice dp x6.2.2.length dq] : List Value))).toArray) (lz (la (EJ BG bo) rfl)) (by decide)) ?_; intro qo pc
    obtain ⟨l0, ny, nz, o2⟩ := Gp nv
    refine Ey (xs := ei) (ys := [(x6.2.1, x6.2.2)]) (zs := l0) rfl TT rfl rfl (Nat.le_refl _) (fun _ => .c .h) bb (GJ.box (vss := [(x6.2.1.flatMap cB ++ (([.slice dp x6.2.2.length dq] : List Value)))]) (ys := [(x6.2.1, x6.2.2)]) 0 rfl (AU (DJ (n := 24) (sz := 1) BG) (Am (Ac _))) (.cons ⟨_, _, rfl, ⟨rfl, bo⟩, ⟨_, _, rfl, fy⟩⟩ .nil) (by simp) rfl) ny nz (by decide) ?_; intro o3 o4 o7 ld lg
    refine kO (kd kr) ?_
    refine ua (Aa (At (id := 9) (Af ?_)))
    refine uv (Bf rfl rfl (BI.Ed df er (Bd.UW fw))) ?_
    refine um (Aa ?_)
    subst gm; exact le kr ⟨_, _, rfl, gn, l0, o3, o4, o7, ld, o2, (dg.trans cn), rfl, z4, lg⟩
   have o8 := bf kz ib
   refine Al (At (id := 9) (Af ?_))
   refine uv (Bf rfl rfl (BI.Ed df er (Bd.UW fw))) ?_
   refine um (Aa ?_)
   subst gm; exact le kr ⟨_, _, rfl, gn, ei, ej, eo, ep, ar, o8, (dg.trans cn), rfl, z4, bb⟩
  obtain rfl := BI.zero df er
  rw [DW] at fx
  refine AW (Ae (Ae ?_))
  refine Au ?_
  obtain rfl := AH fx
  exact mi (ka kn) ⟨ej, eo, ep, ar, dg, rfl, z1, bb⟩
 rintro e1 qp _ ⟨gv, gw, gz, eh, pd, rfl, lh, lj⟩
 refine AB _ lh ?_
 refine AJ (um (ua (Aa (Aj ?_))))
 refine BZ results109 ?_
 obtain rfl := AH k9
 exact ⟨_, _, _, _, rfl, rfl, lj.any⟩
theorem Hw {r : Bool} (hr : Iu n lo hi = some r) :
    Bl Tryz.prog 159 #[.int .i64 n, .int .i64 lo, .int .i64 hi] F (.bool r) := by
 refine sp func159 ntmps159 fun K _ _ => ?_
 rw [Iu] at hr
 refine AJ (ua (BU (um (um ?_))))
 refine uv (FX rfl rfl) (um ?_)
 by_cases c1 : lo ≤ n
 ·have r2 := Bi hr c1
  refine nT c1 (um (nT c1 (um (nT c1 ?_))))
  refine uv (Kg rfl rfl) (uv (AS (Bq rfl c1) rfl) ?_)
  refine ua (Aa (Aj ?_))
  refine BZ results159 ?_
  obtain rfl := AH r2
  exact rfl
 have r3 := Bk hr c1
 refine fF c1 (fF c1 (fF c1 ?_))
 refine uv (AE (Bc rfl c1) rfl) ?_
 refine ua (Aa (Aj ?_))
 refine BZ results159 ?_
 obtain rfl := AH r3
 exact rfl
theorem Ot (_h_hears : As 1 (BC 1 (BC 1 (iE .i64))) F Aw Ax Ao) (_h_readings : As 1 (iE .i64) F A9 A8 Av) (_h_cries : As 3 (Ce (iE .i64) (Ce (iE .i64) (iE .i64))) F Bv Bx Ba) {r : Bool} (hr : Jt An Ad Ao Av Ba h = some r) :
    Bl Tryz.prog 171 #[.agg #[.int .i64 An, .int .i64 Ad, .slice Aw Ao.length Ax, .slice A9 Av.length A8, .slice Bv Ba.length Bx], .int .i64 h] F (.bool r) := by
 refine sp func171 ntmps171 fun K _ _ => ?_
 rw [Jt] at hr
 refine AJ ?_
 refine BJ rfl rfl ?_; intro b1 aa
 refine ua (BU (um ?_))
 refine uv (Ab P6 rfl) (uv (Ah isAgg3 rfl (Has.own 0 rfl) rfl) ?_)
 obtain ⟨g2, r3⟩ := A0 hr
 refine uv (Fs rfl rfl g2) ?_
 obtain ⟨ok, h4, r5⟩ := AF r3
 refine cV call159 (Hw h4) ?_
 refine ua (Aa ?_)
 refine kW kn (Aj (BZ results171 ?_))
 obtain rfl := AH r5
 exact rfl
set_option maxHeartbeats 1000000 in
theorem NH {l : List Int} (ab : As 1 (BC 1 (BC 1 (iE .i64))) F Aw Ax Ao) (aa : As 1 (iE .i64) F A9 A8 Av) (ad : As 3 (Ce (iE .i64) (Ce (iE .i64) (iE .i64))) F Bv Bx Ba) (af : As 1 (iE .i64) F Ko J0 l) {r : Int} (hr : I4 An Ad Ao Av Ba l = some r) :
    Bl Tryz.prog 103 #[.agg #[.int .i64 An, .int .i64 Ad, .slice Aw Ao.length Ax, .slice A9 Av.length A8, .slice Bv Ba.length Bx], .slice Ko l.length J0] F (.int .i64 r) := by
 refine sp func103 ntmps103 fun K _ _ => ?_
 rw [I4] at hr
 refine AJ ?_
 refine BJ rfl rfl ?_; intro b1 bz
 refine ua (Aa ?_)
 refine A5 (fun e1 F1 L1 => HE = some r ∧ F = F1 ∧ L1 = [] ∧ e1.sub []) ?_ ?_
 ·refine AJ (um ?_)
  refine uv (A2 underlying33 rfl) ?_
  refine um (Aa ?_)
  refine Ak ?_
  refine Br (fun ar e1 F1 L1 => LA l ar fun tl k => ET An Ad Ao Av Ba l tl k = some r ∧ F = F1 ∧ L1 = [(b1, ce #[.int .i64 An, .int .i64 Ad, .slice Aw Ao.length Ax, .slice A9 Av.length A8, .slice Bv Ba.length Bx] 100)] ∧ e1.sub [(1, .slice Ko l.length J0), (2, .pointer (some ⟨b1, 0, none⟩)), (7, .slice Ko l.length J0), (8, .int .i64 (l.length : Int)), (9, .int .i64 k)]) _ (m0 kr ⟨_, _, rfl, BI.start _, hr, rfl, rfl, z5⟩) ?_
  rintro ar e1 _ _ ⟨tl, k, az, ah, r4, rfl, rfl, ba⟩
  refine AB _ ba (AJ (uv (Bp rfl rfl) ?_))
  refine Aa (Aq ?_)
  refine cQ (fun c7 => ?_) fun c7 => ?_
  ·obtain ⟨x, ca, rfl, bb, au, bc⟩ := BI.succ ah c7
   rw [ET] at r4
   refine Al (Aq ?_)
   refine Ak ?_
   refine AJ (um ?_)
   obtain ⟨QT, cb, cc, bd, ai, aj, av, rfl, bg, ak⟩ := As.at (Ac _) af ([(b1, ce #[.int .i64 An, .int .i64 Ad, .slice Aw Ao.length Ax, .slice A9 Av.length A8, .slice Bv Ba.length Bx] 100)]) au.1 bb
   refine uv (AT underlying33 sizeOf3 rfl ai rfl au) (uv (Ah isAgg3 rfl aj (ak 0 (by decide))) ?_)
   refine ua (ua (Aa (Aq (AJ ?_))))
   refine uv (A1 isAgg100 sizeOf100 rfl (Has.own 0 rfl) (CB rfl) rfl) (um ?_)
   obtain ⟨ok, bj, aw⟩ := AF r4
   refine cV call171 (Ot ab aa ad bj) (uv (BB rfl) (Aa ?_))
   refine AX rfl (fun al => ?_) (fun al => ?_)
   ·have bk := bt aw al
    refine AJ (ua (Aa ?_))
    refine kW kn ?_
    refine Aj (Ai (AD (Ai (Ai (AD (Ai ?_))))))
    refine BZ results103 ?_
    obtain rfl := AH bk
    exact rfl
   have bl := bf aw al
   refine Al (AJ (um (um ?_)))
   obtain ⟨bn, bo⟩ := A0 bl
   obtain ⟨l2, bp, bq⟩ := C3 bo
   obtain ⟨cd, cf, br, ae⟩ := As.slice (Ac _) af bn bp
   refine uv ((PU (l := 0) (h := k) underlying33 sizeOf3 rfl (.inl ⟨rfl, rfl⟩) (.inr ⟨_, rfl, rfl⟩) ae.1).eq ae.2) (um ?_)
   obtain ⟨cg, bu, ax⟩ := AF bq
   refine cV call18 (En br bu) (Aa ?_)
   refine AX rfl (fun ao => ?_) (fun ao => ?_)
   ·have bw := bt ax ao
    refine AJ (ua (Aa ?_))
    refine kW kn ?_
    refine Aj (AD (Ai (Ai (AD (Ai ?_)))))
    refine BZ results103 ?_
    obtain rfl := AH bw
    exact rfl
   have bx := bf ax ao
   refine Al (At (id := 1) (Af ?_))
   refine uv (Bf rfl rfl (BI.Ed ah c7 (As.lt af))) ?_
   refine um (Aa ?_)
   subst az; exact le kr ⟨_, _, rfl, bc, bx, rfl, rfl, z5⟩
  obtain rfl := BI.zero ah c7
  rw [ET] at r4
  refine AW (Ae (Ae ?_))
  refine Au ?_
  exact mi kn ⟨r4, rfl, rfl, (sn _)⟩
 rintro e1 _ _ ⟨ay, rfl, rfl, aq⟩
 refine AB _ aq ?_
 rw [HE] at ay
 refine AJ (ua (Aa (Aj ?_)))
 refine BZ results103 ?_
 obtain rfl := AH ay
 exact rfl
set_option maxHeartbeats 1000000 in
theorem JM {s_ : List Int} {f : Int → Option Bool} (aa : As 1 (iE .i64) F Cj Ck s_) (aj : Gk Tryz.prog F KS KU KT (iE .i64) Value.bool f) {r : Int} (hr : Ep s_ f = some r) :
    Bl Tryz.prog 79 #[.slice Cj s_.length Ck, .func (.func KS) KU KT] F (.int .i64 r) := by
 refine sp func79 ntmps79 fun K _ _ => ?_
 rw [Ep] at hr
 refine AJ (ua (Aa ?_))
 refine A5 (fun e1 F1 L1 => EN = some r ∧ F = F1 ∧ L1 = [] ∧ e1.sub []) ?_ ?_
 ·refine AJ (um ?_)
  refine uv (A2 underlying33 rfl) ?_
  refine um (Aa ?_)
  refine Ak ?_
  refine Br (fun ak e1 F1 L1 => LA s_ ak fun tl k => B8 f tl k = some r ∧ F = F1 ∧ L1 = [] ∧ e1.sub [(0, .slice Cj s_.length Ck), (1, .func (.func KS) KU KT), (7, .int .i64 (s_.length : Int)), (8, .int .i64 k)]) _ (m0 kr ⟨_, _, rfl, BI.start _, hr, rfl, rfl, z4⟩) ?_
  rintro ak e1 _ _ ⟨tl, k, ar, ab, r3, rfl, rfl, au⟩
  refine AB _ au (AJ (uv (Bp rfl rfl) ?_))
  refine Aa (Aq ?_)
  refine cQ (fun c6 => ?_) fun c6 => ?_
  ·obtain ⟨x, bc, rfl, av, g9, aw⟩ := BI.succ ab c6
   rw [B8] at r3
   refine Al (Aq ?_)
   refine Ak ?_
   refine AJ (um (ua (BU (um (um (um ?_))))))
   obtain ⟨Jn, bd, bg, ax, ad, ae, al, rfl, ay, af⟩ := As.at (Ac _) aa ([]) g9.1 av
   refine uv (AT underlying33 sizeOf3 rfl ad rfl g9) (uv (Ah isAgg3 rfl ae (af 0 (by decide))) ?_)
   obtain ⟨ok, az, ao⟩ := AF r3
   refine D2 rfl aj.1 rfl rfl rfl (aj.2 _ (A4.refl _) _ _ _ rfl az) (Aa ?_)
   refine AX rfl (fun ah => ?_) (fun ah => ?_)
   ·have ba := bt ao ah
    refine AJ (um (ua (Aa (Aj (AD (Ai (Ai (AD (Ai ?_)))))))))
    refine BZ results79 ?_
    obtain rfl := AH ba
    exact rfl
   have bb := bf ao ah
   refine Al (At (id := 1) (Af ?_))
   refine uv (Bf rfl rfl (BI.Ed ab c6 (As.lt aa))) ?_
   refine um (Aa ?_)
   subst ar; exact le kr ⟨_, _, rfl, aw, bb, rfl, rfl, z4⟩
  obtain rfl := BI.zero ab c6
  rw [B8] at r3
  refine AW (Ae (Ae ?_))
  refine Au ?_
  exact mi kr ⟨r3, rfl, rfl, (sn _)⟩
 rintro e1 _ _ ⟨aq, rfl, rfl, ai⟩
 refine AB _ ai ?_
 rw [EN] at aq
 refine AJ (ua (Aa (Aj ?_)))
 refine BZ results79 ?_
 obtain rfl := AH aq
 exact rfl
theorem Dw {s_ : List Int} {f : Int → Option Bool} (aa : As 1 (iE .i64) F Cj Ck s_) (ab : Gk Tryz.prog F KS KU KT (iE .i64) Value.bool f) {r : Bool} (hr : BD s_ f = some r) :
    Bl Tryz.prog 26 #[.slice Cj s_.length Ck, .func (.func KS) KU KT] F (.bool r) := by
 refine sp func26 ntmps26 fun K _ _ => ?_
 rw [BD] at hr
 refine AJ (ua (BU (um (um ?_))))
 obtain ⟨n, h1, r2⟩ := AF hr
 refine cV call79 (JM aa ab h1) (uv (FX rfl rfl) ?_)
 refine ua (Aa (Aj ?_))
 refine BZ results26 ?_
 obtain rfl := AH r2
 exact rfl
theorem NC {x : Int} {so : Int → Option Bool} (aa : F MS = some (.cells #[.func (.func Ij) Ih Ii] 89 N0)) (ab : Gk Tryz.prog F Ij Ih Ii (iE .i64) Value.bool so) {r : Bool} (hr : Hs x so = some r) :
    Bl Tryz.prog 172 #[.int .i64 x, .pointer (some ⟨MS, 0, none⟩)] F (.bool r) := by
 refine sp func172 ntmps172 fun K _ _ => ?_
 rw [Hs] at hr
 refine AJ (ua (BU ?_))
 refine uv (Ah isAgg89 rfl (Has.frozen aa) rfl) (um ?_)
 obtain ⟨ok, h1, r2⟩ := AF hr
 refine D2 rfl ab.1 rfl rfl rfl (ab.2 _ (A4.refl _) _ _ _ rfl h1) (uv (BB rfl) ?_)
 refine ua (Aa (Aj ?_))
 refine BZ results172 ?_
 obtain rfl := AH r2
 exact rfl
theorem OT {l : List Int} {so : Int → Option Bool} (ab : As 1 (iE .i64) F Ko J0 l) (aa : Gk Tryz.prog F Ij Ih Ii (iE .i64) Value.bool so) {r : Bool} (hr : Kk l so = some r) :
    Bl Tryz.prog 107 #[.slice Ko l.length J0, .func (.func Ij) Ih Ii] F (.bool r) := by
 refine sp func107 ntmps107 fun K _ _ => ?_
 rw [Kk] at hr
 refine AJ ?_
 refine BJ rfl rfl ?_; intro b1 af
 refine ua (BU (um ?_))
 refine uv (BT rfl rfl) ?_
 refine Bz 0 rfl af ?_; intro F2 ad ah
 refine AI rfl ?_
 replace ab := ab.mono (Ac _) ad
 replace aa := aa.mono ad
 have ai : Gk Tryz.prog F2 172 #[] #[.pointer (some ⟨b1, 0, none⟩)] (iE .i64) Value.bool (fun ae : Int => Hs ae so) := ⟨call172, fun F2 h2 vs ae r ha hr => by obtain rfl := ha; exact NC (h2 _ _ ah) (aa.mono h2) hr⟩
 obtain ⟨ok, h6, r7⟩ := AF hr
 refine cV call26 (Dw ab ai h6) (uv (BB rfl) ?_)
 refine ua (Aa (Aj ?_))
 refine BZ results107 ?_
 obtain rfl := AH r7
 exact rfl
set_option maxHeartbeats 1000000 in
theorem Jq {s_ : List (List (List Int))} {f : (List (List Int)) → Option Bool} (aa : As 1 (BC 1 (BC 1 (iE .i64))) F Cj Ck s_) (aj : Gk Tryz.prog F KS KU KT (BC 1 (BC 1 (iE .i64))) Value.bool f) {r : Int} (hr : Fh s_ f = some r) :
    Bl Tryz.prog 273 #[.slice Cj s_.length Ck, .func (.func KS) KU KT] F (.int .i64 r) := by
 refine sp func273 ntmps273 fun K _ _ => ?_
 rw [Fh] at hr
 refine AJ (ua (Aa ?_))
 refine A5 (fun e1 F1 L1 => EC = some r ∧ F = F1 ∧ L1 = [] ∧ e1.sub []) ?_ ?_
 ·refine AJ (um ?_)
  refine uv (A2 underlying97 rfl) ?_
  refine um (Aa ?_)
  refine Ak ?_
  refine Br (fun ak e1 F1 L1 => LA s_ ak fun tl k => CT f tl k = some r ∧ F = F1 ∧ L1 = [] ∧ e1.sub [(0, .slice Cj s_.length Ck), (1, .func (.func KS) KU KT), (7, .int .i64 (s_.length : Int)), (8, .int .i64 k)]) _ (m0 kr ⟨_, _, rfl, BI.start _, hr, rfl, rfl, z4⟩) ?_
  rintro ak e1 _ _ ⟨tl, k, ar, ab, r3, rfl, rfl, au⟩
  refine AB _ au (AJ (uv (Bp rfl rfl) ?_))
  refine Aa (Aq ?_)
  refine cQ (fun c6 => ?_) fun c6 => ?_
  ·obtain ⟨x, bd, rfl, av, g9, aw⟩ := BI.succ ab c6
   rw [CT] at r3
   refine Al (Aq ?_)
   refine Ak ?_
   refine AJ (um (ua (BU (um (um (um ?_))))))
   obtain ⟨Jn, bg, bj, ax, ad, ae, al, ⟨bk, bl, rfl, ay⟩, az, af⟩ := As.at (Am (Am (Ac _))) aa ([]) g9.1 av
   refine uv (AT underlying97 sizeOf36 rfl ad rfl g9) (uv (Ah isAgg36 rfl ae (af 0 (by decide))) ?_)
   obtain ⟨ok, ba, ao⟩ := AF r3
   refine D2 rfl aj.1 rfl rfl rfl (aj.2 _ (A4.refl _) _ _ _ ⟨_, _, rfl, ay⟩ ba) (Aa ?_)
   refine AX rfl (fun ah => ?_) (fun ah => ?_)
   ·have bb := bt ao ah
    refine AJ (um (ua (Aa (Aj (AD (Ai (Ai (AD (Ai ?_)))))))))
    refine BZ results273 ?_
    obtain rfl := AH bb
    exact rfl
   have bc := bf ao ah
   refine Al (At (id := 1) (Af ?_))
   refine uv (Bf rfl rfl (BI.Ed ab c6 (As.lt aa))) ?_
   refine um (Aa ?_)
   subst ar; exact le kr ⟨_, _, rfl, aw, bc, rfl, rfl, z4⟩
  obtain rfl := BI.zero ab c6
  rw [CT] at r3
  refine AW (Ae (Ae ?_))
  refine Au ?_
  exact mi kr ⟨r3, rfl, rfl, (sn _)⟩
 rintro e1 _ _ ⟨aq, rfl, rfl, ai⟩
 refine AB _ ai ?_
 rw [EC] at aq
 refine AJ (ua (Aa (Aj ?_)))
 refine BZ results273 ?_
 obtain rfl := AH aq
 exact rfl
theorem IJ {s_ : List (List (List Int))} {f : (List (List Int)) → Option Bool} (aa : As 1 (BC 1 (BC 1 (iE .i64))) F Cj Ck s_) (ab : Gk Tryz.prog F KS KU KT (BC 1 (BC 1 (iE .i64))) Value.bool f) {r : Bool} (hr : EH s_ f = some r) :
    Bl Tryz.prog 245 #[.slice Cj s_.length Ck, .func (.func KS) KU KT] F (.bool r) := by
 refine sp func245 ntmps245 fun K _ _ => ?_
 rw [EH] at hr
 refine AJ (ua (BU (um (um ?_))))
 obtain ⟨n, h1, r2⟩ := AF hr
 refine cV call273 (Jq aa ab h1) (uv (FX rfl rfl) ?_)
 refine ua (Aa (Aj ?_))
 refine BZ results245 ?_
 obtain rfl := AH r2
 exact rfl
theorem MZ {VP : Option Addr} {VR : Nat} {x : List (List Int)} {so : (List (List Int)) → Option Bool} (ad : As 1 (BC 1 (iE .i64)) F VP VR x) (aa : F MS = some (.cells #[.func (.func Ij) Ih Ii] 343 N0)) (ab : Gk Tryz.prog F Ij Ih Ii (BC 1 (BC 1 (iE .i64))) Value.bool so) {r : Bool} (hr : GQ x so = some r) :
    Bl Tryz.prog 246 #[.slice VP x.length VR, .pointer (some ⟨MS, 0, none⟩)] F (.bool r) := by
 refine sp func246 ntmps246 fun K _ _ => ?_
 rw [GQ] at hr
 refine AJ (ua (BU ?_))
 refine uv (Ah isAgg343 rfl (Has.frozen aa) rfl) (um ?_)
 obtain ⟨ok, h1, r2⟩ := AF hr
 refine D2 rfl ab.1 rfl rfl rfl (ab.2 _ (A4.refl _) _ _ _ ⟨_, _, rfl, ad⟩ h1) (uv (BB rfl) ?_)
 refine ua (Aa (Aj ?_))
 refine BZ results246 ?_
 obtain rfl := AH r2
 exact rfl
theorem Oc {l : List (List (List Int))} {so : (List (List Int)) → Option Bool} (ab : As 1 (BC 1 (BC 1 (iE .i64))) F Ko J0 l) (aa : Gk Tryz.prog F Ij Ih Ii (BC 1 (BC 1 (iE .i64))) Value.bool so) {r : Bool} (hr : JC l so = some r) :
    Bl Tryz.prog 215 #[.slice Ko l.length J0, .func (.func Ij) Ih Ii] F (.bool r) := by
 refine sp func215 ntmps215 fun K _ _ => ?_
 rw [JC] at hr
 refine AJ ?_
 refine BJ rfl rfl ?_; intro b1 af
 refine ua (BU (um ?_))
 refine uv (BT rfl rfl) ?_
 refine Bz 0 rfl af ?_; intro F2 ad ah
 refine AI rfl ?_
 replace ab := ab.mono (Am (Am (Ac _))) ad
 replace aa := aa.mono ad
 have ai : Gk Tryz.prog F2 246 #[] #[.pointer (some ⟨b1, 0, none⟩)] (BC 1 (BC 1 (iE .i64))) Value.bool (fun ae : (List (List Int)) => GQ ae so) := ⟨call246, fun F2 h2 vs ae r ha hr => by obtain ⟨a5, c6, rfl, h7⟩ := ha; exact MZ h7 (h2 _ _ ah) (aa.mono h2) hr⟩
 obtain ⟨ok, h9, aj⟩ := AF hr
 refine cV call245 (IJ ab ai h9) (uv (BB rfl) ?_)
 refine ua (Aa (Aj ?_))
 refine BZ results215 ?_
 obtain rfl := AH aj
 exact rfl
theorem L4 {l : List (List Int)} (_h_l : As 1 (BC 1 (iE .i64)) F Ko J0 l) {r : Bool} (hr : FO l = some r) :
    Bl Tryz.prog 216 #[.slice Ko l.length J0] F (.bool r) := by
 refine sp func216 ntmps216 fun K _ _ => ?_
 rw [FO] at hr
 refine AJ (ua (BU (um ?_)))
 refine uv (A2 underlying36 rfl) (uv (Cx rfl rfl) ?_)
 refine ua (Aa (Aj ?_))
 refine BZ results216 ?_
 obtain rfl := AH hr
 exact rfl
set_option maxHeartbeats 1000000 in
theorem MY (ae : As 1 (BC 1 (BC 1 (iE .i64))) F Aw Ax Ao) (_h_readings : As 1 (iE .i64) F A9 A8 Av) (_h_cries : As 3 (Ce (iE .i64) (Ce (iE .i64) (iE .i64))) F Bv Bx Ba) {r : Bool} (hr : Iq An Ad Ao Av Ba = some r) :
    Bl Tryz.prog 167 #[.agg #[.int .i64 An, .int .i64 Ad, .slice Aw Ao.length Ax, .slice A9 Av.length A8, .slice Bv Ba.length Bx]] F (.bool r) := by
 refine sp func167 ntmps167 fun K _ _ => ?_
 rw [Iq] at hr
 refine AJ ?_
 refine BJ rfl rfl ?_; intro b1 bj
 refine ua (BU ?_)
 refine uv (Ab P6 rfl) (uv (Ah isAgg3 rfl (Has.own 0 rfl) rfl) ?_)
 obtain ⟨ok, h2, r3⟩ := AF hr
 refine cV call159 (Hw h2) (um ?_)
 rcases Cd ok with c4 | c4
 ·have r5 := bt r3 c4
  refine nB c4 (uv (Ab QE rfl) (nB c4 (uv (Ah isAgg3 rfl (Has.own 0 rfl) rfl) (nB c4 ?_))))
  obtain ⟨al, h6, r7⟩ := AF r5
  refine cV call159 (Hw h6) (uv (AS (Hx rfl c4) rfl) (um ?_))
  rcases Cd al with c8 | c8
  ·have r9 := bt r7 c8
   refine nB c8 (uv (Ab Ms rfl) (nB c8 (uv (Ah isAgg97 rfl (Has.own 0 rfl) rfl) (nB c8 (uv (A2 underlying97 rfl) (nB c8 ?_))))))
   obtain ⟨ao, aq, ah⟩ := AF r9
   refine cV call159 (Hw aq) (uv (AS (Hx rfl c8) rfl) (um ?_))
   rcases Cd ao with aa | aa
   ·have ar := bt ah aa
    refine nB aa (uv (Ab KV rfl) (nB aa (uv (Ah isAgg33 rfl (Has.own 0 rfl) rfl) (nB aa (uv (A2 underlying33 rfl) (nB aa ?_))))))
    obtain ⟨au, av, ai⟩ := AF ar
    refine cV call159 (Hw av) (uv (AS (Hx rfl aa) rfl) (um ?_))
    rcases Cd au with ab | ab
    ·have aj := bt ai ab
     refine nB ab (uv (Ab Qe rfl) (nB ab (uv (Ah isAgg98 rfl (Has.own 0 rfl) rfl) (nB ab (uv (A2 underlying98 rfl) (nB ab (uv (Kg rfl rfl) ?_)))))))
     refine uv (AS (Hx rfl ab) rfl) (um ?_)
     by_cases ad : (Ba.length : Int) ≤ 12
     ·have aw := Bi aj ad
      refine nT ad (uv (Ab Ms rfl) (nT ad (uv (Ah isAgg97 rfl (Has.own 0 rfl) rfl) (nT ad ?_))))
      have af : Gk Tryz.prog F 216 #[] #[] (BC 1 (BC 1 (iE .i64))) Value.bool (fun ak : (List (List Int)) => FO ak) := ⟨call216, fun F2 h2 vs ak r ha hr => by obtain ⟨bk, bl, rfl, ax⟩ := ha; exact L4 ax hr⟩
      obtain ⟨bn, ay, az⟩ := AF aw
      refine cV call215 (Oc ae af ay) (uv (AS (Bq rfl ad) rfl) ?_)
      refine ua (Aa ?_)
      refine kW kn (Aj (BZ results167 ?_))
      obtain rfl := AH az
      exact rfl
     have ba := Bk aj ad
     refine fF ad (fF ad (fF ad ?_))
     refine uv (AE (Bc rfl ad) rfl) ?_
     refine ua (Aa ?_)
     refine kW kn (Aj (BZ results167 ?_))
     obtain rfl := AH ba
     exact rfl
    have bb := bf ai ab
    refine fB ab (fB ab (fB ab (fB ab ?_)))
    refine uv (AE (Hx rfl ab) rfl) ?_
    refine um (Ay (b' := false) 29 rfl rfl rfl rfl (Ay (b' := false) 29 rfl rfl rfl rfl (Ay (b' := false) 29 rfl rfl rfl rfl ?_)))
    refine uv (AE rfl rfl) ?_
    refine ua (Aa ?_)
    refine kW kn (Aj (BZ results167 ?_))
    obtain rfl := AH bb
    exact rfl
   have bc := bf ah aa
   refine fB aa (fB aa (fB aa (fB aa ?_)))
   refine uv (AE (Hx rfl aa) rfl) ?_
   refine um (Ay (b' := false) 23 rfl rfl rfl rfl (Ay (b' := false) 23 rfl rfl rfl rfl (Ay (b' := false) 23 rfl rfl rfl rfl (Ay (b' := false) 23 rfl rfl rfl rfl ?_))))
   refine uv (AE rfl rfl) ?_
   refine um (Ay (b' := false) 29 rfl rfl rfl rfl (Ay (b' := false) 29 rfl rfl rfl rfl (Ay (b' := false) 29 rfl rfl rfl rfl ?_)))
   refine uv (AE rfl rfl) ?_
   refine ua (Aa ?_)
   refine kW kn (Aj (BZ results167 ?_))
   obtain rfl := AH bc
   exact rfl
  have bd := bf r7 c8
  refine fB c8 (fB c8 (fB c8 (fB c8 ?_)))
  refine uv (AE (Hx rfl c8) rfl) ?_
  refine um (Ay (b' := false) 17 rfl rfl rfl rfl (Ay (b' := false) 17 rfl rfl rfl rfl (Ay (b' := false) 17 rfl rfl rfl rfl (Ay (b' := false) 17 rfl rfl rfl rfl ?_))))
  refine uv (AE rfl rfl) ?_
  refine um (Ay (b' := false) 23 rfl rfl rfl rfl (Ay (b' := false) 23 rfl rfl rfl rfl (Ay (b' := false) 23 rfl rfl rfl rfl (Ay (b' := false) 23 rfl rfl rfl rfl ?_))))
  refine uv (AE rfl rfl) ?_
  refine um (Ay (b' := false) 29 rfl rfl rfl rfl (Ay (b' := false) 29 rfl rfl rfl rfl (Ay (b' := false) 29 rfl rfl rfl rfl ?_)))
  refine uv (AE rfl rfl) ?_
  refine ua (Aa ?_)
  refine kW kn (Aj (BZ results167 ?_))
  obtain rfl := AH bd
  exact rfl
 have bg := bf r3 c4
 refine fB c4 (fB c4 (fB c4 ?_))
 refine uv (AE (Hx rfl c4) rfl) ?_
 refine um (Ay (b' := false) 11 rfl rfl rfl rfl (Ay (b' := false) 11 rfl rfl rfl rfl (Ay (b' := false) 11 rfl rfl rfl rfl (Ay (b' := false) 11 rfl rfl rfl rfl ?_))))
 refine uv (AE rfl rfl) ?_
 refine um (Ay (b' := false) 17 rfl rfl rfl rfl (Ay (b' := false) 17 rfl rfl rfl rfl (Ay (b' := false) 17 rfl rfl rfl rfl (Ay (b' := false) 17 rfl rfl rfl rfl ?_))))
 refine uv (AE rfl rfl) ?_
 refine um (Ay (b' := false) 23 rfl rfl rfl rfl (Ay (b' := false) 23 rfl rfl rfl rfl (Ay (b' := false) 23 rfl rfl rfl rfl (Ay (b' := false) 23 rfl rfl rfl rfl ?_))))
 refine uv (AE rfl rfl) ?_
 refine um (Ay (b' := false) 29 rfl rfl rfl rfl (Ay (b' := false) 29 rfl rfl rfl rfl (Ay (b' := false) 29 rfl rfl rfl rfl ?_)))
 refine uv (AE rfl rfl) ?_
 refine ua (Aa ?_)
 refine kW kn (Aj (BZ results167 ?_))
 obtain rfl := AH bg
 exact rfl
theorem SZ {r : Bool} (hr : MI n = some r) :
    Bl Tryz.prog 168 #[.int .i64 n] F (.bool r) := by
 refine sp func168 ntmps168 fun K _ _ => ?_
 rw [MI] at hr
 refine AJ (ua (BU (um ?_)))
 refine uv (Cx rfl rfl) (um ?_)
 by_cases c1 : n = (-1)
 ·have r2 := Bi hr c1
  refine fT c1 (fT c1 ?_)
  refine uv (AS (Bq rfl c1) rfl) ?_
  refine ua (Aa (Aj ?_))
  refine BZ results168 ?_
  obtain rfl := AH r2
  exact rfl
 have r3 := Bk hr c1
 refine nF c1 (um (nF c1 ?_))
 obtain ⟨ok, h4, r5⟩ := AF r3
 refine cV call159 (Hw h4) (uv (AE (Bc rfl c1) rfl) ?_)
 refine ua (Aa (Aj ?_))
 refine BZ results168 ?_
 obtain rfl := AH r5
 exact rfl
set_option maxHeartbeats 1000000 in
theorem HF {s_ : List (Int × Int × Int)} {f : (Int × Int × Int) → Option Bool} (ab : As 3 (Ce (iE .i64) (Ce (iE .i64) (iE .i64))) F Cj Ck s_) (al : Gk Tryz.prog F KS KU KT (V5 (Ce (iE .i64) (Ce (iE .i64) (iE .i64)))) Value.bool f) {r : Int} (hr : DR s_ f = some r) :
    Bl Tryz.prog 247 #[.slice Cj s_.length Ck, .func (.func KS) KU KT] F (.int .i64 r) := by
 refine sp func247 ntmps247 fun K _ _ => ?_
 rw [DR] at hr
 refine AJ (ua (Aa ?_))
 refine A5 (fun e1 F1 L1 => Dl = some r ∧ F = F1 ∧ L1 = [] ∧ e1.sub []) ?_ ?_
 ·refine AJ (um ?_)
  refine uv (A2 underlying98 rfl) ?_
  refine um (Aa ?_)
  refine Ak ?_
  refine Br (fun ao e1 F1 L1 => LA s_ ao fun tl k => B5 f tl k = some r ∧ F = F1 ∧ L1 = [] ∧ e1.sub [(0, .slice Cj s_.length Ck), (1, .func (.func KS) KU KT), (7, .int .i64 (s_.length : Int)), (8, .int .i64 k)]) _ (m0 kr ⟨_, _, rfl, BI.start _, hr, rfl, rfl, z4⟩) ?_
  rintro ao e1 _ _ ⟨tl, k, au, ad, r3, rfl, rfl, av⟩
  refine AB _ av (AJ (uv (Bp rfl rfl) ?_))
  refine Aa (Aq ?_)
  refine cQ (fun c6 => ?_) fun c6 => ?_
  ·obtain ⟨x, bc, rfl, aw, g9, ax⟩ := BI.succ ad c6
   rw [B5] at r3
   refine Al (Aq ?_)
   refine Ak ?_
   refine AJ (um (ua (BU (um (um (um ?_))))))
   obtain ⟨Jn, bd, bg, ay, ae, af, aa, ⟨_, _, rfl, rfl, ⟨_, _, rfl, rfl, rfl⟩⟩, ah, ai⟩ := As.at (AU (Ac _) (AU (Ac _) (Ac _))) ab ([]) g9.1 aw
   refine uv (AT underlying98 sizeOf132 rfl ae rfl g9) (uv (A1 isAgg132 sizeOf132 rfl af aa (Cz aa ah ai)) ?_)
   obtain ⟨ok, az, aq⟩ := AF r3
   refine D2 rfl al.1 rfl rfl rfl (al.2 _ (A4.refl _) _ _ _ ⟨_, rfl, ⟨_, _, rfl, rfl, ⟨_, _, rfl, rfl, rfl⟩⟩⟩ az) (Aa ?_)
   refine AX rfl (fun aj => ?_) (fun aj => ?_)
   ·have ba := bt aq aj
    refine AJ (um (ua (Aa (Aj (AD (Ai (Ai (AD (Ai ?_)))))))))
    refine BZ results247 ?_
    obtain rfl := AH ba
    exact rfl
   have bb := bf aq aj
   refine Al (At (id := 1) (Af ?_))
   refine uv (Bf rfl rfl (BI.Ed ad c6 (As.lt ab))) ?_
   refine um (Aa ?_)
   subst au; exact le kr ⟨_, _, rfl, ax, bb, rfl, rfl, z4⟩
  obtain rfl := BI.zero ad c6
  rw [B5] at r3
  refine AW (Ae (Ae ?_))
  refine Au ?_
  exact mi kr ⟨r3, rfl, rfl, (sn _)⟩
 rintro e1 _ _ ⟨ar, rfl, rfl, ak⟩
 refine AB _ ak ?_
 rw [Dl] at ar
 refine AJ (ua (Aa (Aj ?_)))
 refine BZ results247 ?_
 obtain rfl := AH ar
 exact rfl
theorem GY {s_ : List (Int × Int × Int)} {f : (Int × Int × Int) → Option Bool} (aa : As 3 (Ce (iE .i64) (Ce (iE .i64) (iE .i64))) F Cj Ck s_) (ab : Gk Tryz.prog F KS KU KT (V5 (Ce (iE .i64) (Ce (iE .i64) (iE .i64)))) Value.bool f) {r : Bool} (hr : Dt s_ f = some r) :
    Bl Tryz.prog 217 #[.slice Cj s_.length Ck, .func (.func KS) KU KT] F (.bool r) := by
 refine sp func217 ntmps217 fun K _ _ => ?_
 rw [Dt] at hr
 refine AJ (ua (BU (um (um ?_))))
 obtain ⟨n, h1, r2⟩ := AF hr
 refine cV call247 (HF aa ab h1) (uv (FX rfl rfl) ?_)
 refine ua (Aa (Aj ?_))
 refine BZ results217 ?_
 obtain rfl := AH r2
 exact rfl
theorem Nj {so : (Int × Int × Int) → Option Bool} (aa : F MS = some (.cells #[.func (.func Ij) Ih Ii] 309 N0)) (ab : Gk Tryz.prog F Ij Ih Ii (V5 (Ce (iE .i64) (Ce (iE .i64) (iE .i64)))) Value.bool so) {r : Bool} (hr : Hq hour E4 I1 so = some r) :
    Bl Tryz.prog 218 #[.agg #[.int .i64 hour, .int .i64 E4, .int .i64 I1], .pointer (some ⟨MS, 0, none⟩)] F (.bool r) := by
 refine sp func218 ntmps218 fun K _ _ => ?_
 rw [Hq] at hr
 refine AJ ?_
 refine BJ rfl rfl ?_; intro b1 ad
 refine ua (BU ?_)
 refine uv (Ah isAgg309 rfl (Has.frozen aa) rfl) (uv (A1 isAgg132 sizeOf132 rfl (Has.own 0 rfl) (CB rfl) rfl) ?_)
 obtain ⟨ok, h2, r3⟩ := AF hr
 refine D2 rfl ab.1 rfl rfl rfl (ab.2 _ (A4.refl _) _ _ _ ⟨_, rfl, ⟨_, _, rfl, rfl, ⟨_, _, rfl, rfl, rfl⟩⟩⟩ h2) (uv (BB rfl) ?_)
 refine ua (Aa ?_)
 refine kW kn (Aj (BZ results218 ?_))
 obtain rfl := AH r3
 exact rfl
theorem OZ {l : List (Int × Int × Int)} {so : (Int × Int × Int) → Option Bool} (ad : As 3 (Ce (iE .i64) (Ce (iE .i64) (iE .i64))) F Ko J0 l) (aa : Gk Tryz.prog F Ij Ih Ii (V5 (Ce (iE .i64) (Ce (iE .i64) (iE .i64)))) Value.bool so) {r : Bool} (hr : JY l so = some r) :
    Bl Tryz.prog 169 #[.slice Ko l.length J0, .func (.func Ij) Ih Ii] F (.bool r) := by
 refine sp func169 ntmps169 fun K _ _ => ?_
 rw [JY] at hr
 refine AJ ?_
 refine BJ rfl rfl ?_; intro b1 af
 refine ua (BU (um ?_))
 refine uv (BT rfl rfl) ?_
 refine Bz 0 rfl af ?_; intro F2 ae ah
 refine AI rfl ?_
 replace ad := ad.mono (AU (Ac _) (AU (Ac _) (Ac _))) ae
 replace aa := aa.mono ae
 have ai : Gk Tryz.prog F2 218 #[] #[.pointer (some ⟨b1, 0, none⟩)] (V5 (Ce (iE .i64) (Ce (iE .i64) (iE .i64)))) Value.bool (fun ab : (Int × Int × Int) => Hq ab.1 ab.2.1 ab.2.2 so) := ⟨call218, fun F2 h2 vs ab r ha hr => by obtain ⟨_, rfl, ⟨_, _, rfl, rfl, ⟨_, _, rfl, rfl, rfl⟩⟩⟩ := ha; exact Nj (h2 _ _ ah) (aa.mono h2) hr⟩
 obtain ⟨ok, h6, r7⟩ := AF hr
 refine cV call217 (GY ad ai h6) (uv (BB rfl) ?_)
 refine ua (Aa (Aj ?_))
 refine BZ results169 ?_
 obtain rfl := AH r7
 exact rfl
theorem Nh (_h_hears : As 1 (BC 1 (BC 1 (iE .i64))) F Aw Ax Ao) (_h_readings : As 1 (iE .i64) F A9 A8 Av) (_h_cries : As 3 (Ce (iE .i64) (Ce (iE .i64) (iE .i64))) F Bv Bx Ba) {r : Bool} (hr : I5 An Ad Ao Av Ba n = some r) :
    Bl Tryz.prog 101 #[.agg #[.int .i64 An, .int .i64 Ad, .slice Aw Ao.length Ax, .slice A9 Av.length A8, .slice Bv Ba.length Bx], .int .i64 n] F (.bool r) := by
 refine sp func101 ntmps101 fun K _ _ => ?_
 rw [I5] at hr
 refine AJ ?_
 refine BJ rfl rfl ?_; intro b1 aa
 refine ua (BU (um ?_))
 refine uv (Ab QE rfl) (uv (Ah isAgg3 rfl (Has.own 0 rfl) rfl) ?_)
 obtain ⟨g2, r3⟩ := A0 hr
 refine uv (Fs rfl rfl g2) ?_
 obtain ⟨ok, h4, r5⟩ := AF r3
 refine cV call159 (Hw h4) ?_
 refine ua (Aa ?_)
 refine kW kn (Aj (BZ results101 ?_))
 obtain rfl := AH r5
 exact rfl
theorem O8 (_h_hears : As 1 (BC 1 (BC 1 (iE .i64))) F Aw Ax Ao) (_h_readings : As 1 (iE .i64) F A9 A8 Av) (_h_cries : As 3 (Ce (iE .i64) (Ce (iE .i64) (iE .i64))) F Bv Bx Ba) {r : Bool} (hr : Kh An Ad Ao Av Ba h = some r) :
    Bl Tryz.prog 102 #[.agg #[.int .i64 An, .int .i64 Ad, .slice Aw Ao.length Ax, .slice A9 Av.length A8, .slice Bv Ba.length Bx], .int .i64 h] F (.bool r) := by
 refine sp func102 ntmps102 fun K _ _ => ?_
 rw [Kh] at hr
 refine AJ ?_
 refine BJ rfl rfl ?_; intro b1 aa
 refine ua (BU (um ?_))
 refine uv (Ab KV rfl) (uv (Ah isAgg33 rfl (Has.own 0 rfl) rfl) (uv (A2 underlying33 rfl) ?_))
 obtain ⟨g2, r3⟩ := A0 hr
 refine uv (Fs rfl rfl g2) ?_
 obtain ⟨ok, h4, r5⟩ := AF r3
 refine cV call159 (Hw h4) ?_
 refine ua (Aa ?_)
 refine kW kn (Aj (BZ results102 ?_))
 obtain rfl := AH r5
 exact rfl
set_option maxHeartbeats 1000000 in
theorem QH {ah : Nat × Nat} (af : F IT = some (.cells #[.int .i64 An, .int .i64 Ad, .slice Aw Ao.length Ax, .slice A9 Av.length A8, .slice Bv Ba.length Bx] 100 ah)) (ab : As 1 (BC 1 (BC 1 (iE .i64))) F Aw Ax Ao) (aa : As 1 (iE .i64) F A9 A8 Av) (ad : As 3 (Ce (iE .i64) (Ce (iE .i64) (iE .i64))) F Bv Bx Ba) {r : Bool} (hr : JI hour E4 I1 An Ad Ao Av Ba = some r) :
    Bl Tryz.prog 170 #[.agg #[.int .i64 hour, .int .i64 E4, .int .i64 I1], .pointer (some ⟨IT, 0, none⟩)] F (.bool r) := by
 refine sp func170 ntmps170 fun K _ _ => ?_
 rw [JI] at hr
 refine AJ ?_
 refine BJ rfl rfl ?_; intro b1 ar
 refine ua (BU ?_)
 refine uv (A1 isAgg100 sizeOf100 rfl (Has.frozen af) (CB rfl) rfl) (uv (Ab S4 rfl) (uv (Ah isAgg3 rfl (Has.own 0 rfl) rfl) ?_))
 obtain ⟨ok, h2, r3⟩ := AF hr
 refine cV call102 (O8 ab aa ad h2) (um ?_)
 rcases Cd ok with c4 | c4
 ·have r5 := bt r3 c4
  refine nB c4 (uv (Ab SG rfl) (nB c4 (uv (Ah isAgg3 rfl (Has.own 0 rfl) rfl) (nB c4 (uv (Ab Ms rfl) (nB c4 (uv (Ah isAgg97 rfl (Has.frozen af) rfl) ?_)))))))
  refine nB c4 (uv (A2 underlying97 rfl) (nB c4 ?_))
  obtain ⟨g6, r7⟩ := A0 r5
  refine uv (Fs rfl rfl g6) (nB c4 ?_)
  obtain ⟨ai, h8, r9⟩ := AF r7
  refine cV call159 (Hw h8) (uv (AS (Hx rfl c4) rfl) (um ?_))
  rcases Cd ai with ae | ae
  ·have aj := bt r9 ae
   refine nB ae (uv (A1 isAgg100 sizeOf100 rfl (Has.frozen af) (CB rfl) rfl) (nB ae (uv (Ab S1 rfl) (nB ae (uv (Ah isAgg3 rfl (Has.own 0 rfl) rfl) (nB ae ?_))))))
   obtain ⟨au, ak, al⟩ := AF aj
   refine cV call101 (Nh ab aa ad ak) (uv (AS (Hx rfl ae) rfl) ?_)
   refine ua (Aa ?_)
   refine kW kn (Aj (BZ results170 ?_))
   obtain rfl := AH al
   exact rfl
  have ao := bf r9 ae
  refine fB ae (fB ae (fB ae (fB ae ?_)))
  refine uv (AE (Hx rfl ae) rfl) ?_
  refine ua (Aa ?_)
  refine kW kn (Aj (BZ results170 ?_))
  obtain rfl := AH ao
  exact rfl
 have aq := bf r3 c4
 refine fB c4 (fB c4 (fB c4 (fB c4 (fB c4 (fB c4 (fB c4 ?_))))))
 refine uv (AE (Hx rfl c4) rfl) ?_
 refine um (Ay (b' := false) 17 rfl rfl rfl rfl (Ay (b' := false) 17 rfl rfl rfl rfl (Ay (b' := false) 17 rfl rfl rfl rfl (Ay (b' := false) 17 rfl rfl rfl rfl ?_))))
 refine uv (AE rfl rfl) ?_
 refine ua (Aa ?_)
 refine kW kn (Aj (BZ results170 ?_))
 obtain rfl := AH aq
 exact rfl
set_option maxHeartbeats 1000000 in
theorem RW (ab : As 1 (BC 1 (BC 1 (iE .i64))) F Aw Ax Ao) (aa : As 1 (iE .i64) F A9 A8 Av) (ad : As 3 (Ce (iE .i64) (Ce (iE .i64) (iE .i64))) F Bv Bx Ba) {r : Int} (hr : NN An Ad Ao Av Ba = some r) :
    Bl Tryz.prog 100 #[.agg #[.int .i64 An, .int .i64 Ad, .slice Aw Ao.length Ax, .slice A9 Av.length A8, .slice Bv Ba.length Bx]] F (.int .i64 r) := by
 refine sp func100 ntmps100 fun K _ _ => ?_
 rw [NN] at hr
 refine AJ ?_
 refine BJ rfl rfl ?_; intro b1 cp
 refine ua (Aa (Aq (AJ ?_)))
 refine uv (A1 isAgg100 sizeOf100 rfl (Has.own 0 rfl) (CB rfl) rfl) ?_
 obtain ⟨ok, h2, r3⟩ := AF hr
 refine cV call167 (MY ab aa ad h2) (uv (BB rfl) (Aa ?_))
 refine AX rfl (fun c4 => ?_) (fun c4 => ?_)
 ·have r5 := bt r3 c4
  refine AJ (ua (Aa ?_))
  refine kW kn ?_
  refine Aj (Ai ?_)
  refine BZ results100 ?_
  obtain rfl := AH r5
  exact rfl
 have r6 := bf r3 c4
 refine Al ?_
 refine A5 (fun e1 F1 L1 => KG An Ad Ao Av Ba = some r ∧ F = F1 ∧ L1 = [(b1, ce #[.int .i64 An, .int .i64 Ad, .slice Aw Ao.length Ax, .slice A9 Av.length A8, .slice Bv Ba.length Bx] 100)] ∧ e1.sub [(1, .pointer (some ⟨b1, 0, none⟩))]) ?_ ?_
 ·refine AJ (uv (Ab Ms rfl) (uv (Ah isAgg97 rfl (Has.own 0 rfl) rfl) (uv (A2 underlying97 rfl) ?_)))
  refine um (Aa ?_)
  refine Ak ?_
  refine Br (fun br e1 F1 L1 => LA Ao br fun tl k => FJ An Ad Ao Av Ba tl = some r ∧ F = F1 ∧ L1 = [(b1, ce #[.int .i64 An, .int .i64 Ad, .slice Aw Ao.length Ax, .slice A9 Av.length A8, .slice Bv Ba.length Bx] 100)] ∧ e1.sub [(1, .pointer (some ⟨b1, 0, none⟩)), (12, .slice Aw Ao.length Ax), (13, .int .i64 (Ao.length : Int)), (14, .int .i64 k)]) _ (m0 kr ⟨_, _, rfl, BI.start _, r6, rfl, rfl, z4⟩) ?_
  rintro br e1 _ _ ⟨tl, k, cq, al, r9, rfl, rfl, ao⟩
  refine AB _ ao (AJ (uv (Bp rfl rfl) ?_))
  refine Aa (Aq ?_)
  refine cQ (fun ai => ?_) fun ai => ?_
  ·obtain ⟨x, bu, rfl, aq, bw, ar⟩ := BI.succ al ai
   rw [FJ] at r9
   refine Al ?_
   refine A5 (fun e1 F1 L1 => KK (FJ An Ad Ao Av Ba bu) = some r ∧ F = F1 ∧ L1 = [(b1, ce #[.int .i64 An, .int .i64 Ad, .slice Aw Ao.length Ax, .slice A9 Av.length A8, .slice Bv Ba.length Bx] 100)] ∧ e1.sub [(1, .pointer (some ⟨b1, 0, none⟩)), (12, .slice Aw Ao.length Ax), (13, .int .i64 (Ao.length : Int)), (14, .int .i64 k)]) ?_ ?_
   ·refine Ak (AJ ?_)
    obtain ⟨dm, dn, dp, cr, au, av, bx, ⟨ct, cu, rfl, bz⟩, cv, aw⟩ := As.at (Am (Am (Ac _))) ab ([(b1, ce #[.int .i64 An, .int .i64 Ad, .slice Aw Ao.length Ax, .slice A9 Av.length A8, .slice Bv Ba.length Bx] 100)]) bw.1 aq
    refine uv (AT underlying97 sizeOf36 rfl au rfl bw) (uv (Ah isAgg36 rfl av (aw 0 (by decide))) ?_)
    refine ua (BU (um ?_))
    refine uv (A2 underlying36 rfl) ?_
    refine um (Aa ?_)
    refine Ak ?_
    refine Br (fun ca e1 F1 L1 => LA x ca fun cb k2 => HI An Ad Ao Av Ba (FJ An Ad Ao Av Ba bu) cb = some r ∧ F = F1 ∧ L1 = [(b1, ce #[.int .i64 An, .int .i64 Ad, .slice Aw Ao.length Ax, .slice A9 Av.length A8, .slice Bv Ba.length Bx] 100)] ∧ e1.sub [(1, .pointer (some ⟨b1, 0, none⟩)), (12, .slice Aw Ao.length Ax), (13, .int .i64 (Ao.length : Int)), (14, .int .i64 k), (18, .slice ct x.length cu), (19, .int .i64 (x.length : Int)), (20, .int .i64 k2)]) _ (m0 kr ⟨_, _, rfl, BI.start _, r9, rfl, rfl, z7⟩) ?_
    rintro ca e1 _ _ ⟨cb, k2, ax, ae, aj, rfl, rfl, ay⟩
    refine AB _ ay (AJ (uv (Bp rfl rfl) ?_))
    refine Aa (Aq ?_)
    refine cQ (fun ak => ?_) fun ak => ?_
    ·obtain ⟨x2, dq, rfl, az, cc, ba⟩ := BI.succ ae ak
     rw [HI] at aj
     refine Al (Aq ?_)
     refine Ak (AJ ?_)
     obtain ⟨dr, dt, du, cw, bb, bc, cd, ⟨dv, dw, rfl, cx⟩, cy, bd⟩ := As.at (Am (Ac _)) bz ([(b1, ce #[.int .i64 An, .int .i64 Ad, .slice Aw Ao.length Ax, .slice A9 Av.length A8, .slice Bv Ba.length Bx] 100)]) cc.1 az
     refine uv (AT underlying36 sizeOf33 rfl bb rfl cc) (uv (Ah isAgg33 rfl bc (bd 0 (by decide))) ?_)
     refine ua (BU ?_)
     refine uv (A1 isAgg100 sizeOf100 rfl (Has.own 0 rfl) (CB rfl) rfl) (um ?_)
     obtain ⟨n, cz, cf⟩ := AF aj
     refine cV call103 (NH ab aa ad cx cz) ?_
     refine ua (BU (um ?_))
     refine uv (CI rfl rfl) (Aa ?_)
     refine cQ (fun bg => ?_) fun bg => ?_
     ·have da := Bi cf bg
      refine AJ (um (ua (Aa ?_)))
      refine kW kn ?_
      refine Aj (AD (Ai (Ai (AD (AD (Ai (Ai (AD (Ai ?_)))))))))
      refine BZ results100 ?_
      obtain rfl := AH da
      exact rfl
     have db := Bk cf bg
     refine Al (At (id := 3) (Af ?_))
     refine uv (Bf rfl rfl (BI.Ed ae ak (As.lt bz))) ?_
     refine um (Aa ?_)
     subst ax; exact le kr ⟨_, _, rfl, ba, db, rfl, rfl, z7⟩
    obtain rfl := BI.zero ae ak
    rw [HI] at aj
    refine AW (Ae (Ae ?_))
    refine Au (At (id := 1) ?_)
    exact mi kr ⟨aj, rfl, rfl, z4⟩
   rintro e1 _ _ ⟨cg, rfl, rfl, bj⟩
   refine AB _ bj ?_
   rw [KK] at cg
   refine Af (uv (Bf rfl rfl (BI.Ed al ai (As.lt ab))) ?_)
   refine um (Aa ?_)
   subst cq; exact le kr ⟨_, _, rfl, ar, cg, rfl, rfl, z4⟩
  obtain rfl := BI.zero al ai
  rw [FJ] at r9
  refine AW (Ae (Ae ?_))
  refine Au ?_
  exact mi kr ⟨r9, rfl, rfl, z1⟩
 rintro e1 _ _ ⟨cj, rfl, rfl, bk⟩
 refine AB _ bk ?_
 rw [KG] at cj
 refine Aq (Ak (AJ (uv (Ab KV rfl) (uv (Ah isAgg33 rfl (Has.own 0 rfl) rfl) ?_))))
 have bl : Gk Tryz.prog F 168 #[] #[] (iE .i64) Value.bool (fun af : Int => MI af) := ⟨call168, fun F2 h2 vs af r ha hr => by obtain rfl := ha; exact SZ hr⟩
 obtain ⟨dx, dd, ck⟩ := AF cj
 refine cV call107 (OT aa bl dd) (uv (BB rfl) ?_)
 refine ua (Aa ?_)
 refine AX rfl (fun bn => ?_) (fun bn => ?_)
 ·have de := bt ck bn
  refine AJ (ua (Aa ?_))
  refine kW kn ?_
  refine Aj (AD (Ai ?_))
  refine BZ results100 ?_
  obtain rfl := AH de
  exact rfl
 have df := bf ck bn
 refine AJ (uv (Ab Qe rfl) (uv (Ah isAgg98 rfl (Has.own 0 rfl) rfl) (uv (BT rfl rfl) ?_)))
 refine Bz 0 rfl cp ?_; intro dg ah bo
 refine AI rfl ?_
 replace ab := ab.mono (Am (Am (Ac _))) ah
 replace aa := aa.mono (Ac _) ah
 replace ad := ad.mono (AU (Ac _) (AU (Ac _) (Ac _))) ah
 have bp : Gk Tryz.prog dg 170 #[] #[.pointer (some ⟨b1, 0, none⟩)] (V5 (Ce (iE .i64) (Ce (iE .i64) (iE .i64)))) Value.bool (fun af : (Int × Int × Int) => JI af.1 af.2.1 af.2.2 An Ad Ao Av Ba) := ⟨call170, fun F2 h2 vs af r ha hr => by obtain ⟨_, rfl, ⟨_, _, rfl, rfl, ⟨_, _, rfl, rfl, rfl⟩⟩⟩ := ha; exact QH (h2 _ _ bo) (ab.mono (Am (Am (Ac _))) h2) (aa.mono (Ac _) h2) (ad.mono (AU (Ac _) (AU (Ac _) (Ac _))) h2) hr⟩
 obtain ⟨dy, dh, cn⟩ := AF df
 refine cV call169 (OZ ad bp dh) (uv (BB rfl) ?_)
 refine ua (Aa ?_)
 refine AX rfl (fun bq => ?_) (fun bq => ?_)
 ·have di := bt cn bq
  refine AJ (ua (Aa (Aj (AD (Ai ?_)))))
  refine BZ results100 ?_
  obtain rfl := AH di
  exact rfl
 have dk := bf cn bq
 refine Al (At (id := 4) (AJ (ua (Aa (Aj ?_)))))
 refine BZ results100 ?_
 obtain rfl := AH dk
 exact rfl
set_option maxHeartbeats 1000000 in
theorem QZ (ab : As 1 (BC 1 (BC 1 (iE .i64))) F Aw Ax Ao) (aa : As 1 (iE .i64) F A9 A8 Av) (ad : As 3 (Ce (iE .i64) (Ce (iE .i64) (iE .i64))) F Bv Bx Ba) {r : Option (Int × Int × (List (List (List Int))) × (List Int) × (List (Int × Int × Int)))} {r2 : Int} (hr : Mh An Ad Ao Av Ba = some (r, r2)) :
    SH.Spec Tryz.prog 157 #[.agg #[.int .i64 An, .int .i64 Ad, .slice Aw Ao.length Ax, .slice A9 Av.length A8, .slice Bv Ba.length Bx]] F [] fun F' L' v => ∃ (rv : Value), v = .tuple #[rv, .int .i64 r2] ∧ L' = [] ∧ Pw 247 (Ce (iE .i64) (Ce (iE .i64) (Ce (BC 1 (BC 1 (BC 1 (iE .i64)))) (Ce (BC 1 (iE .i64)) (BC 3 (Ce (iE .i64) (Ce (iE .i64) (iE .i64)))))))) F' rv r := by
 refine sp func157 ntmps157 fun K _ _ => ?_
 rw [Mh] at hr
 refine AJ ?_
 refine BJ rfl rfl ?_; intro b1 ai
 refine ua (ua (Aa (Aq (AJ ?_))))
 refine uv (A1 isAgg100 sizeOf100 rfl (Has.own 0 rfl) (CB rfl) rfl) ?_
 obtain ⟨n, h2, r3⟩ := AF hr
 refine cV call100 (RW ab aa ad h2) ?_
 refine ua (BU (um ?_))
 refine uv (CI rfl rfl) (Aa ?_)
 refine cQ (fun c4 => ?_) fun c4 => ?_
 ·have r5 := Bi r3 c4
  refine AJ (um (ua (ua (Aa ?_))))
  refine kW kn ?_
  refine Aj (Ai ?_)
  refine Dv results157 (AY rfl) (AY rfl) (sr) ?_
  obtain ⟨rfl, rfl⟩ := DO r5
  exact ⟨_, rfl, rfl, rfl⟩
 have r6 := Bk r3 c4
 refine Al (AJ ?_)
 refine uv (A1 isAgg100 sizeOf100 rfl (Has.own 0 rfl) (CB rfl) rfl) ?_
 refine uv (BM (v := .agg #[.int .i64 An, .int .i64 Ad, .slice Aw Ao.length Ax, .slice A9 Av.length A8, .slice Bv Ba.length Bx]) rfl (by intro w; kernel_rfl)) ?_
 refine BJ rfl rfl ?_; intro b7 ah
 refine ua (ua (Aa ?_))
 refine B1 0 rfl ah ?_; intro F8 ae af
 refine DT (L' := [(b1, ce #[.int .i64 An, .int .i64 Ad, .slice Aw Ao.length Ax, .slice A9 Av.length A8, .slice Bv Ba.length Bx] 100)]) rfl ?_
 replace ab := ab.mono (Am (Am (Ac _))) ae
 replace aa := aa.mono (Ac _) ae
 replace ad := ad.mono (AU (Ac _) (AU (Ac _) (Ac _))) ae
 refine kW kn (Aj (Dv results157 (AY rfl) (AY rfl) (sr) ?_))
 obtain ⟨rfl, rfl⟩ := DO r6
 exact ⟨_, rfl, rfl, ⟨_, _, _, rfl, af, ⟨_, _, rfl, rfl, ⟨_, _, rfl, rfl, ⟨_, _, rfl, ⟨_, _, rfl, ab⟩, ⟨_, _, rfl, ⟨_, _, rfl, aa⟩, ⟨_, _, rfl, ad⟩⟩⟩⟩⟩⟩⟩
set_option maxHeartbeats 1000000 in
theorem SP (af : As 1 (BC 1 (BC 1 (iE .i64))) F Aw Ax Ao) (aa : As 1 (iE .i64) F A9 A8 Av) (ah : As 3 (Ce (iE .i64) (Ce (iE .i64) (iE .i64))) F Bv Bx Ba) {r : Option (Int × Int × (List (List (List Int))) × (List Int) × (List (Int × Int × Int)))} {r2 : List ((List Bool) × (List Int))} {r3 : Int} (hr : O9 An Ad Ao Av Ba = some (r, r2, r3)) :
    SH.Spec Tryz.prog 89 #[.agg #[.int .i64 An, .int .i64 Ad, .slice Aw Ao.length Ax, .slice A9 Av.length A8, .slice Bv Ba.length Bx]] F [] fun F' L' v => ∃ (rv : Value) (ba : Option Addr) (bb : Nat) (bc : Nat) (bd : LH), v = .tuple #[rv, .slice ba bb bc, .int .i64 r3] ∧ L' = bd ++ [] ∧ Pw 247 (Ce (iE .i64) (Ce (iE .i64) (Ce (BC 1 (BC 1 (BC 1 (iE .i64)))) (Ce (BC 1 (iE .i64)) (BC 3 (Ce (iE .i64) (Ce (iE .i64) (iE .i64)))))))) F' rv r ∧ Bd 0 223 25 (Ce (Ll 24 cB) (BC 1 (iE .i64))) F' ba bb bc r2 bd := by
 refine sp func89 ntmps89 fun K _ _ => ?_
 rw [O9] at hr
 refine AJ ?_
 refine BJ rfl rfl ?_; intro b1 cg
 refine ua (ua (ua (BU ?_)))
 refine uv (A1 isAgg100 sizeOf100 rfl (Has.own 0 rfl) (CB rfl) rfl) ?_
 obtain ⟨d, n, h2, r4⟩ := DM hr
 refine c0 call157 (QZ af aa ah h2) ?_; rintro _ F5 _ cj ck ⟨v9, rfl, rfl, av⟩
 refine AI (ln rfl) ?_
 refine um (ox rfl rfl rfl (ox rfl rfl rfl (ua (ua (Aa (Aq (AJ (um ?_))))))))
 refine uv (CI rfl rfl) (Aa ?_)
 refine cQ (fun aw => ?_) fun aw => ?_
 ·have bk := Bi r4 aw
  refine AJ (um (ua (ua (ua (Aa ?_)))))
  refine kW kn ?_
  refine Aj (Ai ?_)
  refine KE results89 (AY rfl) (AY rfl) (AY rfl) (sr) ?_
  obtain ⟨rfl, rfl, rfl⟩ := H2 bk
  exact ⟨_, _, _, _, [], rfl, rfl, rfl, Bd.nil _ _ _ _ _⟩
 have bl := Bk r4 aw
 refine Al (AJ (um ?_))
 obtain ⟨ai, ae, al, ab, ao, bn, bo⟩ := Rq bl
 have bg := av; rw [bn] at bg; obtain ⟨bp, cn, bq, ax, ad, ⟨_, _, rfl, rfl, ⟨_, _, rfl, rfl, ⟨_, _, rfl, ⟨br, bu, rfl, aq⟩, ⟨_, _, rfl, ⟨bw, bx, rfl, ar⟩, ⟨bz, ca, rfl, au⟩⟩⟩⟩⟩⟩ := bg; subst ax
 have ad : F5 bp = some (.cells #[.int .i64 ai, .int .i64 ae, .slice br al.length bu, .slice bw ab.length bx, .slice bz ao.length ca] 247 bq) := ad
 obtain ⟨l, cb, bj⟩ := AF bo
 refine c0 call109 (M6 ad aq ar au cb) ?_; rintro _ cp _ aj ay ⟨cq, cr, ct, cc, rfl, rfl, ak⟩
 replace aq := aq.mono (Am (Am (Ac _))) aj
 replace ar := ar.mono (Ac _) aj
 replace au := au.mono (AU (Ac _) (AU (Ac _) (Ac _))) aj
 replace ad := aj _ _ ad
 replace ak := ak.new fun p hp => ay p (by simp [hp])
 refine AI (lp (ln rfl)) (kO (kf (fS fO) kr) ?_)
 refine ua (Aa (Aq (AJ (um ?_))))
 refine uv ((A2 underlying216 rfl).i (Bd.KW ak)) (uv (Cx rfl rfl) (Aa ?_))
 refine cQ (fun az => ?_) fun az => ?_
 ·have cd := Bi bj az
  refine AJ (ua (ua (ua (Aa ?_))))
  refine kW kn ?_
  refine Aj (Ai ?_)
  refine KE results89 (AY rfl) (AY rfl) (AY rfl) (sr) ?_
  obtain ⟨rfl, rfl, rfl⟩ := H2 cd
  exact ⟨_, _, _, _, [], rfl, rfl, rfl, Bd.nil _ _ _ _ _⟩
 have cf := Bk bj az
 refine Al (AJ (um (um (ua (ua (ua (Aa ?_)))))))
 refine kW (kd kr) (Aj (KE results89 (AY rfl) (AY rfl) (AY rfl) (sr) ?_))
 obtain ⟨rfl, rfl, rfl⟩ := H2 cf
 exact ⟨_, _, _, _, _, rfl, rfl, ⟨_, _, _, rfl, ad, ⟨_, _, rfl, rfl, ⟨_, _, rfl, rfl, ⟨_, _, rfl, ⟨_, _, rfl, aq⟩, ⟨_, _, rfl, ⟨_, _, rfl, ar⟩, ⟨_, _, rfl, au⟩⟩⟩⟩⟩⟩, ak.any⟩
set_option maxHeartbeats 1000000 in
theorem Pz (aq : As 1 (BC 1 (BC 1 (iE .i64))) F Aw Ax Ao) (ah : As 1 (iE .i64) F A9 A8 Av) (ar : As 3 (Ce (iE .i64) (Ce (iE .i64) (iE .i64))) F Bv Bx Ba) {r : List (List Int)} {r2 : Int} (hr : KF An Ad Ao Av Ba = some (r, r2)) :
    SH.Spec Tryz.prog 31 #[.agg #[.int .i64 An, .int .i64 Ad, .slice Aw Ao.length Ax, .slice A9 Av.length A8, .slice Bv Ba.length Bx]] F [] fun F' L' v => ∃ (ra : Option Addr) (rc : Nat), v = .tuple #[.slice ra r.length rc, .int .i64 r2] ∧ L' = [] ∧ As 1 (BC 1 (iE .i64)) F' ra rc r := by
 refine sp func31 ntmps31 fun K _ _ => ?_
 rw [KF] at hr
 refine AJ ?_
 refine BJ rfl rfl ?_; intro b1 jc
 refine ua (ua (BU ?_))
 refine uv (A1 (cs := #[.int .i64 An, .int .i64 Ad, .slice Aw Ao.length Ax, .slice A9 Av.length A8, .slice Bv Ba.length Bx]) isAgg100 sizeOf100 rfl (Has.own 0 rfl) (CB rfl) rfl) ?_
 obtain ⟨d, l, n, h2, r3⟩ := GR hr
 refine c0 call89 (SP aq ah ar h2) ?_; rintro _ F4 _ jd gu ⟨v8, ay, az, ba, ab, rfl, rfl, je, ae⟩
 replace ae := ae.new fun p hp => gu p (by simp [hp])
 refine AI (lp (ln rfl)) (kO (kf (fS fO) kr) ?_)
 refine um (ox rfl rfl rfl (ox rfl rfl rfl (ox rfl rfl rfl (ua (ua (ua (Aa (Aq (AJ ?_)))))))))
 refine um (uv (CI rfl rfl) (Aa ?_))
 refine cQ (fun dx => ?_) fun dx => ?_
 ·have gv := Bi r3 dx
  refine AJ (um (ua (ua (Aa ?_))))
  refine kW kn ?_
  refine Aj (Ai ?_)
  refine Dv results31 (AY rfl) (AY rfl) (sr) ?_
  obtain ⟨rfl, rfl⟩ := DO gv
  exact ⟨_, _, rfl, rfl, As.nil _ _ _⟩
 have gw := Bk r3 dx
 refine Al (AJ ?_)
 refine uv (Ab P6 rfl) (uv (Ah isAgg3 rfl (Has.own 0 rfl) rfl) ?_)
 obtain ⟨gz, ia⟩ := A0 gw
 obtain ⟨l2, ib, ic⟩ := C3 ia
 refine PX (R := RB) (z0 := (none, 0, 0)) (zs := List.replicate (An : Int).toNat (none, 0, 0)) rfl Ul (by decide) Jw (fun _ => rfl) rfl gz rfl (fun _ => .c .n) ?_; intro ai aa bw dy
 have bx : Js K.w0.heap.size 123 124 1 (iE .i64) F4 ai aa aa l2 bw := Js.made dy ib
 refine ua (Aa ?_)
 obtain ⟨out, ie, fv⟩ := AF ic
 refine A5 (fun e1 F1 L1 => ∃ (bk : LH), F4 = F1 ∧ L1 = (bk ++ []) ∧ e1.sub [(7, .slice ai aa aa)] ∧ Js K.w0.heap.size 123 124 1 (iE .i64) F1 ai aa aa out bk) ?_ ?_
 ·clear fv
  refine AJ (um ?_)
  refine uv ((A2 underlying103 rfl).i (Js.KW bx)) ?_
  refine um (Aa ?_)
  refine Ak ?_
  obtain ⟨ig, ij⟩ := A0 ie
  refine Br (fun dk e1 F1 L1 => ∃ (k : Int), EI 0 (l2.length : Int) k dk ∧ ∃ (au : List (List Int)) (ak : LH), FV Ad l dk k au = some out ∧ F4 = F1 ∧ L1 = ((b1, ce #[.int .i64 An, .int .i64 Ad, .slice Aw Ao.length Ax, .slice A9 Av.length A8, .slice Bv Ba.length Bx] 100) :: (ab ++ (ak ++ []))) ∧ e1.sub [(1, .pointer (some ⟨b1, 0, none⟩)), (5, .slice ay az ba), (7, .slice ai aa aa), (27, .int .i64 (l2.length : Int)), (28, .int .i64 k)] ∧ Js K.w0.heap.size 123 124 1 (iE .i64) F1 ai aa aa au ak) _ (m0 (kc (kg (fS fP) kr)) ⟨_, EI.start _ _, l2, bw, ij, rfl, rfl, z5, bx⟩) ?_
  rintro dk e1 _ _ ⟨k, bl, au, ak, dm, rfl, rfl, dz, bz⟩
  refine AB _ dz (AJ (uv (Bp rfl rfl) ?_))
  refine Aa (Aq ?_)
  refine cQ (fun dn => ?_) fun dn => ?_
  ·obtain ⟨dk, rfl, e9⟩ := EI.succ bl dn
   rw [FV] at dm
   refine Al ?_
   obtain ⟨bn, ik, fw⟩ := AF dm
   refine A5 (fun e1 F1 L1 => ∃ (av : LH), F4 = F1 ∧ L1 = ((b1, ce #[.int .i64 An, .int .i64 Ad, .slice Aw Ao.length Ax, .slice A9 Av.length A8, .slice Bv Ba.length Bx] 100) :: (ab ++ (av ++ []))) ∧ e1.sub [(1, .pointer (some ⟨b1, 0, none⟩)), (5, .slice ay az ba), (7, .slice ai aa aa), (27, .int .i64 (l2.length : Int)), (28, .int .i64 k)] ∧ Js K.w0.heap.size 123 124 1 (iE .i64) F1 ai aa aa bn av) ?_ ?_
   ·clear fw
    refine Ak ?_
    refine AJ (um (ua (BU ?_)))
    refine uv (Ab QE rfl) (uv (Ah isAgg3 rfl (Has.own 0 rfl) rfl) ?_)
    refine um (Aa ?_)
    refine Ak ?_
    obtain ⟨il, im⟩ := A0 ik
    refine Br (fun dp e1 F1 L1 => ∃ (k2 : Int), EI 0 Ad k2 dp ∧ ∃ (bo : List (List Int)) (ad : LH), Gi l k dp k2 bo = some bn ∧ F4 = F1 ∧ L1 = ((b1, ce #[.int .i64 An, .int .i64 Ad, .slice Aw Ao.length Ax, .slice A9 Av.length A8, .slice Bv Ba.length Bx] 100) :: (ab ++ (ad ++ []))) ∧ e1.sub [(1, .pointer (some ⟨b1, 0, none⟩)), (5, .slice ay az ba), (7, .slice ai aa aa), (8, .int .i64 k), (27, .int .i64 (l2.length : Int)), (28, .int .i64 k), (32, .int .i64 Ad), (33, .int .i64 k2)] ∧ Js K.w0.heap.size 123 124 1 (iE .i64) F1 ai aa aa bo ad) _ (m0 kr ⟨_, EI.start _ _, au, ak, im, rfl, rfl, z8, bz⟩) ?_
    rintro dp e1 _ _ ⟨k2, bp, bo, ad, dq, rfl, rfl, eb, bq⟩
    refine AB _ eb (AJ (uv (Bp rfl rfl) ?_))
    refine Aa (Aq ?_)
    refine cQ (fun dr => ?_) fun dr => ?_
    ·obtain ⟨dp, rfl, ec⟩ := EI.succ bp dr
     rw [Gi] at dq
     refine Al ?_
     obtain ⟨ca, iq, fx⟩ := AF dq
     refine A5 (fun e1 F1 L1 => ∃ (aw : LH), F4 = F1 ∧ L1 = ((b1, ce #[.int .i64 An, .int .i64 Ad, .slice Aw Ao.length Ax, .slice A9 Av.length A8, .slice Bv Ba.length Bx] 100) :: (ab ++ (aw ++ []))) ∧ e1.sub [(1, .pointer (some ⟨b1, 0, none⟩)), (5, .slice ay az ba), (7, .slice ai aa aa), (8, .int .i64 k), (27, .int .i64 (l2.length : Int)), (28, .int .i64 k), (32, .int .i64 Ad), (33, .int .i64 k2)] ∧ Js K.w0.heap.size 123 124 1 (iE .i64) F1 ai aa aa ca aw) ?_ ?_
     ·clear fx
      refine Ak ?_
      refine AJ (um (ua (BU (ua (Aa ?_)))))
      obtain ⟨many, ir, Ed⟩ := AF iq
      refine jE (((b1, ce #[.int .i64 An, .int .i64 Ad, .slice Aw Ao.length Ax, .slice A9 Av.length A8, .slice Bv Ba.length Bx] 100) :: (ab ++ (ad ++ [])))) [(1, .pointer (some ⟨b1, 0, none⟩)), (5, .slice ay az ba), (7, .slice ai aa aa), (8, .int .i64 k), (10, .int .i64 many), (27, .int .i64 (l2.length : Int)), (28, .int .i64 k), (32, .int .i64 Ad), (33, .int .i64 k2)] ?_ ?_
      ·clear Ed
       refine AJ (um ?_)
       refine uv ((A2 underlying216 rfl).i (Bd.KW ae)) ?_
       refine um (Aa ?_)
       refine Ak ?_
       refine Br (fun fy e1 F1 L1 => LA l fy fun tl k3 => ∃ (af : Int), E6 k k2 tl af = some many ∧ F4 = F1 ∧ L1 = ((b1, ce #[.int .i64 An, .int .i64 Ad, .slice Aw Ao.length Ax, .slice A9 Av.length A8, .slice Bv Ba.length Bx] 100) :: (ab ++ (ad ++ []))) ∧ e1.sub [(1, .pointer (some ⟨b1, 0, none⟩)), (5, .slice ay az ba), (7, .slice ai aa aa), (8, .int .i64 k), (9, .int .i64 k2), (10, .int .i64 af), (27, .int .i64 (l2.length : Int)), (28, .int .i64 k), (32, .int .i64 Ad), (33, .int .i64 k2), (36, .slice ay az ba), (37, .int .i64 (l.length : Int)), (38, .int .i64 k3)]) _ (m0 kr ⟨_, _, rfl, BI.start _, 0, ir, rfl, rfl, (sc rfl (sc rfl (sc rfl (sc rfl (sc rfl z8)))))⟩) ?_
       rintro fy e1 _ _ ⟨tl, k3, cb, ax, af, dt, rfl, rfl, ef⟩
       refine AB _ ef (AJ (uv (Bp rfl rfl) ?_))
       refine Aa (Aq ?_)
       refine cQ (fun cc => ?_) fun cc => ?_
       ·obtain ⟨x, jf, rfl, eg, g0, cd⟩ := BI.succ ax cc
        rw [E6] at dt
        refine Al (Aq ?_)
        refine Ak (AJ ?_)
        obtain ⟨jg, jh, ji, iu, eh, ei, bb, ⟨_, _, rfl, ⟨rfl, du⟩, ⟨dv, dw, rfl, jj⟩⟩, ej, eo⟩ := Bd.at (AU (DJ (n := 24) (sz := 1) BG) (Am (Ac _))) ae (L := (b1, ce #[.int .i64 An, .int .i64 Ad, .slice Aw Ao.length Ax, .slice A9 Av.length A8, .slice Bv Ba.length Bx] 100) :: (ab ++ (ad ++ []))) (fC fP) g0.1 eg
        refine uv (AT underlying216 sizeOf223 rfl eh rfl (Bd.idx ae g0)) (uv (A1 (cs := (x.1.flatMap cB ++ (([.slice dv x.2.length dw] : List Value))).toArray) isAgg223 sizeOf223 rfl ei bb (Cz bb ej eo)) ?_)
        refine Bw rfl zeroValue223 ?_; intro ga iv
        refine AI (L' := (ga, ce (((List.replicate 24 false).flatMap cB ++ (([.slice none 0 0] : List Value))).toArray) 223) :: ((b1, ce #[.int .i64 An, .int .i64 Ad, .slice Aw Ao.length Ax, .slice A9 Av.length A8, .slice Bv Ba.length Bx] 100) :: (ab ++ (ad ++ [])))) rfl (HP (i := 0) sizeOf223 rfl rfl rfl (lz (la (EJ BG List.length_replicate) rfl)) (lz (la (EJ BG du) rfl)) (O2 (Kf BG _) (by simp [Value.oneCell'])) (AI (L' := (ga, ce ((x.1.flatMap cB ++ (([.slice dv x.2.length dw] : List Value))).toArray) 223) :: ((b1, ce #[.int .i64 An, .int .i64 Ad, .slice Aw Ao.length Ax, .slice A9 Av.length A8, .slice Bv Ba.length Bx] 100) :: (ab ++ (ad ++ [])))) rfl ?_))
        refine BU (um (um ?_))
        refine uv (Ab Sy rfl) ?_
        obtain ⟨gb, iw⟩ := A0 dt
        refine uv (By underlying221 sizeOf219 rfl rfl gb) ?_
        obtain ⟨gg, iy⟩ := A0 iw
        obtain ⟨x2, jk, ep, gh⟩ := BY iy
        have er : (k * 4 + k2 : Int).toNat = (k : Int).toNat * 4 + (k2 : Int).toNat := by have := gb; have := gg; omega
        have et := Hc BG du er ep (GM (BK (B := ([.slice dv x.2.length dw] : List Value)) (EJ BG du))) (Fq (BK (B := ([.slice dv x.2.length dw] : List Value)) (EJ BG du)))
        refine uv (By underlying219 sizeOf4 rfl rfl gg) (uv (Ah isAgg4 rfl (Has.own 0 rfl) ((et).2.2 0 (by decide))) (Aa ?_))
        refine AX rfl (fun eu => ?_) (fun eu => ?_)
        ·have iz := bt gh eu
         refine Af (um ?_)
         obtain ⟨j0, ew⟩ := A0 iz
         refine uv (Bf rfl rfl j0) ?_
         refine ua (Aa (At (id := 5) (Af ?_)))
         refine uv (Bf rfl rfl (BI.Ed ax cc (Bd.UW ae))) ?_
         refine um (Aa ?_)
         subst cb; exact le (kd kr) ⟨_, _, rfl, cd, af + 1, ew, rfl, rfl, (sc rfl (sc rfl (sc rfl (sc rfl (sc rfl z8)))))⟩
        have ey := bf gh eu
        refine Al (At (id := 5) (Af ?_))
        refine uv (Bf rfl rfl (BI.Ed ax cc (Bd.UW ae))) ?_
        refine um (Aa ?_)
        subst cb; exact le (kd kr) ⟨_, _, rfl, cd, af, ey, rfl, rfl, (sc rfl (sc rfl (sc rfl (sc rfl (sc rfl z8)))))⟩
       obtain rfl := BI.zero ax cc
       rw [E6] at dt
       refine AW (Ae (Ae ?_))
       refine Au ?_
       obtain rfl := AH dt
       exact mi kr ⟨rfl, rfl, (sc rfl z8)⟩
      refine AJ (ua (Aa ?_))
      obtain ⟨v, cf, cg⟩ := AF Ed
      refine jE (((b1, ce #[.int .i64 An, .int .i64 Ad, .slice Aw Ao.length Ax, .slice A9 Av.length A8, .slice Bv Ba.length Bx] 100) :: (ab ++ (ad ++ [])))) [(1, .pointer (some ⟨b1, 0, none⟩)), (5, .slice ay az ba), (7, .slice ai aa aa), (8, .int .i64 k), (13, .int .i64 v), (27, .int .i64 (l2.length : Int)), (28, .int .i64 k), (32, .int .i64 Ad), (33, .int .i64 k2)] ?_ ?_
      ·clear cg
       refine AJ (um (Aa ?_))
       refine Ak ?_
       refine AJ (um ?_)
       refine uv ((A2 underlying216 rfl).i (Bd.KW ae)) (uv (Cx rfl rfl) ?_)
       refine ua (Aa ?_)
       refine cQ (fun br => ?_) fun br => ?_
       ·have ez := Bi cf br
        refine Af (ua (Aa (At (id := 6) ?_)))
        obtain rfl := AH ez
        exact mi kr ⟨rfl, rfl, (sc rfl z8)⟩
       have cj := Bk cf br
       refine AJ (uv (Cx rfl rfl) ?_)
       refine ua (Aa ?_)
       refine cQ (fun bu => ?_) fun bu => ?_
       ·have fa := Bi cj bu
        refine Af (ua (Aa (At (id := 6) ?_)))
        obtain rfl := AH fa
        exact mi kr ⟨rfl, rfl, (sc rfl z8)⟩
       have fb := Bk cj bu
       refine Al (At (id := 6) ?_)
       obtain rfl := AH fb
       exact mi kr ⟨rfl, rfl, (sc rfl z8)⟩
      refine Af (um (um (um (um ?_))))
      obtain ⟨x3, al, ck, fe⟩ := BY cg
      have ao := (Js.Dx bq).1
      refine Sk (fC (fS fP)) bq ck ?_; intro cn bc bd j1 j2 j3 cp bg aj cq cr
      refine kO (kf (fS (fS (fS fO))) kr) ?_
      obtain ⟨j4, j5, j6, gi, ct, cu, ff, rfl, gj, cv⟩ := Bd.at Jw aj (L := (b1, ce #[.int .i64 An, .int .i64 Ad, .slice Aw Ao.length Ax, .slice A9 Av.length A8, .slice Bv Ba.length Bx] 100) :: (bc ++ (cp ++ (bd ++ (ab ++ []))))) (fC fP) al.1 bg
      refine uv (AT underlying103 sizeOf123 rfl ct rfl (Vn ao al)) (uv (Ah isAgg123 rfl cu (cv 0 (by decide))) (um ?_))
      refine bA (cs := #[.int .i64 v]) PY [.int .i64 v] ?_; intro j7 gk
      obtain ⟨l3, fg, fh, fi⟩ := Gp fe
      refine Ey (xs := x3) (ys := [v]) (zs := l3) rfl PY rfl rfl (Nat.le_refl _) (fun _ => .c (.c (.s .h))) cq (GJ.box (vss := [[.int .i64 v]]) (ys := [v]) 0 rfl (Ac _) (.cons rfl .nil) rfl rfl) fg fh (by decide) ?_; intro cw cx cy cz da
      refine kO (kd kr) ?_
      obtain ⟨j8, j9, ja, gl, bj, gm, fj, rfl, gn, gp⟩ := Bd.at Jw aj (L := (b1, ce #[.int .i64 An, .int .i64 Ad, .slice Aw Ao.length Ax, .slice A9 Av.length A8, .slice Bv Ba.length Bx] 100) :: (bc ++ (cz ++ (bd ++ (ab ++ []))))) (fC fP) al.1 bg
      refine uv (AT underlying103 sizeOf123 rfl bj rfl (Vn ao al)) ?_
      refine G5 (zs := cn.set (k : Int).toNat (cw, cx, cy)) (u := (cw, cx, cy)) sizeOf123 Jw rfl bj rfl rfl (fun _ => .c .h) aj rfl (XW ao aj al) ?_; intro gq db
      obtain ⟨fk, fl, fm⟩ := C3 fi
      refine N4 (p := fun X => Js K.w0.heap.size 123 124 1 (iE .i64) F4 ai aa aa fk X) (Qk.back cr db da fl) (pT ((fC fP).trans (pA ((fC fP).trans (pA ((fC fP).trans (pA pR)))))) (lp (lp (lp (ln rfl))))) ?_; intro dd de
      refine kO (kf (fS fO) kr) ?_
      refine Aa (At (id := 3) ?_)
      obtain rfl := AH fm
      exact mi (kc (kg (fS fP) kr)) ⟨dd, rfl, rfl, z8, de⟩
     rintro e1 _ _ ⟨aw, rfl, rfl, df, fp⟩
     refine AB _ df (Af (uv (Bf rfl rfl (EI.Ed bp dr il)) ?_))
     refine um (Aa ?_)
     exact le kr ⟨_, ec, ca, aw, fx, rfl, rfl, z8, fp⟩
    obtain rfl := EI.zero bp dr
    rw [Gi] at dq
    refine AW (Ae (Ae ?_))
    refine Au (At (id := 1) ?_)
    obtain rfl := AH dq
    exact mi kr ⟨ad, rfl, rfl, z5, bq⟩
   rintro e1 _ _ ⟨av, rfl, rfl, dg, fq⟩
   refine AB _ dg (Af (uv (Bf rfl rfl (EI.Ed bl dn ig)) ?_))
   refine um (Aa ?_)
   exact le kr ⟨_, e9, bn, av, fw, rfl, rfl, z5, fq⟩
  obtain rfl := EI.zero bl dn
  rw [FV] at dm
  refine AW (Ae (Ae ?_))
  refine Au ?_
  obtain rfl := AH dm
  exact mi (kd (kx kr)) ⟨ak, rfl, rfl, z1, bz⟩
 rintro e1 _ _ ⟨bk, rfl, rfl, dh, di⟩
 refine AB _ dh ?_
 refine AJ (um (ua (ua (Aa ?_))))
 obtain rfl := (Js.Dx di).1
 refine Pm (Nat.le_refl _) (Ac _) fP di ?_; intro jb gr ft
 refine Aj (Dv results31 (AY rfl) (AY rfl) (sr) ?_)
 obtain ⟨rfl, rfl⟩ := DO fv
 exact ⟨_, _, rfl, rfl, ft⟩
theorem Lf {r : Bool} (hr : Ln n lo hi = some r) :
    Bl Tryz.prog 121 #[.int .i64 n, .int .i64 lo, .int .i64 hi] F (.bool r) := by
 refine sp func121 ntmps121 fun K _ _ => ?_
 rw [Ln] at hr
 refine AJ (ua (BU (um (um ?_))))
 refine uv (FX rfl rfl) (um ?_)
 by_cases c1 : lo ≤ n
 ·have r2 := Bi hr c1
  refine nT c1 (um (nT c1 (um (nT c1 ?_))))
  refine uv (Kg rfl rfl) (uv (AS (Bq rfl c1) rfl) ?_)
  refine ua (Aa (Aj ?_))
  refine BZ results121 ?_
  obtain rfl := AH r2
  exact rfl
 have r3 := Bk hr c1
 refine fF c1 (fF c1 (fF c1 ?_))
 refine uv (AE (Bc rfl c1) rfl) ?_
 refine ua (Aa (Aj ?_))
 refine BZ results121 ?_
 obtain rfl := AH r3
 exact rfl
theorem K3 (_h_plots : As 1 (iE .i64) F CC CD BA) {r : Bool} (hr : Iw wide BA p = some r) :
    Bl Tryz.prog 47 #[.agg #[.int .i64 wide, .slice CC BA.length CD], .int .i64 p] F (.bool r) := by
 refine sp func47 ntmps47 fun K _ _ => ?_
 rw [Iw] at hr
 refine AJ ?_
 refine BJ rfl rfl ?_; intro b1 aa
 refine ua (BU (um ?_))
 refine uv (Ab Iz rfl) (uv (Ah isAgg25 rfl (Has.own 0 rfl) rfl) (uv (A2 underlying25 rfl) ?_))
 obtain ⟨g2, r3⟩ := A0 hr
 refine uv (Fs rfl rfl g2) ?_
 obtain ⟨ok, h4, r5⟩ := AF r3
 refine cV call121 (Lf h4) ?_
 refine ua (Aa ?_)
 refine kW kn (Aj (BZ results47 ?_))
 obtain rfl := AH r5
 exact rfl
theorem P0 {kind : Int} (aa : As 1 (iE .i64) F CC CD BA) {r : Int} (hr : LG wide BA p kind = some r) :
    Bl Tryz.prog 65 #[.agg #[.int .i64 wide, .slice CC BA.length CD], .int .i64 p, .int .i64 kind] F (.int .i64 r) := by
 refine sp func65 ntmps65 fun K _ _ => ?_
 rw [LG] at hr
 refine AJ ?_
 refine BJ rfl rfl ?_; intro b1 aq
 refine ua (Aa (Aq ?_))
 refine Ak (AJ (uv (A1 isAgg27 sizeOf27 rfl (Has.own 0 rfl) (CB rfl) rfl) (um ?_)))
 obtain ⟨ok, h2, r3⟩ := AF hr
 refine cV call47 (K3 aa h2) (uv (BB rfl) ?_)
 refine ua (Aa ?_)
 refine AX rfl (fun c4 => ?_) (fun c4 => ?_)
 ·have r5 := bt r3 c4
  refine AJ (ua (Aa ?_))
  refine kW kn ?_
  refine Aj (AD (Ai ?_))
  refine BZ results65 ?_
  obtain rfl := AH r5
  exact rfl
 have r6 := bf r3 c4
 refine AJ (uv (Ab Iz rfl) (uv (Ah isAgg25 rfl (Has.own 0 rfl) rfl) (um ?_)))
 obtain ⟨x, g7, ai, r9⟩ := BY r6
 obtain ⟨Jn, ar, au, aj, ab, ad, ah, rfl, ak, ae⟩ := As.at (Ac _) aa ([(b1, ce #[.int .i64 wide, .slice CC BA.length CD] 27)]) g7.1 ai
 refine uv (AT underlying25 sizeOf34 rfl ab rfl g7) (uv (Ah isAgg34 rfl ad (ae 0 (by decide))) (um (uv (CI rfl rfl) ?_)))
 refine ua (Aa ?_)
 refine cQ (fun af => ?_) fun af => ?_
 ·have al := Bi r9 af
  refine AJ (ua (Aa ?_))
  refine kW kn ?_
  refine Aj (AD (Ai ?_))
  refine BZ results65 ?_
  obtain rfl := AH al
  exact rfl
 have ao := Bk r9 af
 refine Al (At (id := 0) (AJ (ua (Aa ?_))))
 refine kW kn (Aj (BZ results65 ?_))
 obtain rfl := AH ao
 exact rfl
set_option maxHeartbeats 1000000 in
theorem G8 {s_ : List Int} {f : Int → Option Bool} (aa : As 1 (iE .i64) F Cj Ck s_) (aj : Gk Tryz.prog F KS KU KT (iE .i64) Value.bool f) {r : Int} (hr : DB s_ f = some r) :
    Bl Tryz.prog 230 #[.slice Cj s_.length Ck, .func (.func KS) KU KT] F (.int .i64 r) := by
 refine sp func230 ntmps230 fun K _ _ => ?_
 rw [DB] at hr
 refine AJ (ua (Aa ?_))
 refine A5 (fun e1 F1 L1 => Dd = some r ∧ F = F1 ∧ L1 = [] ∧ e1.sub []) ?_ ?_
 ·refine AJ (um ?_)
  refine uv (A2 underlying25 rfl) ?_
  refine um (Aa ?_)
  refine Ak ?_
  refine Br (fun ak e1 F1 L1 => LA s_ ak fun tl k => BX f tl k = some r ∧ F = F1 ∧ L1 = [] ∧ e1.sub [(0, .slice Cj s_.length Ck), (1, .func (.func KS) KU KT), (7, .int .i64 (s_.length : Int)), (8, .int .i64 k)]) _ (m0 kr ⟨_, _, rfl, BI.start _, hr, rfl, rfl, z4⟩) ?_
  rintro ak e1 _ _ ⟨tl, k, ar, ab, r3, rfl, rfl, au⟩
  refine AB _ au (AJ (uv (Bp rfl rfl) ?_))
  refine Aa (Aq ?_)
  refine cQ (fun c6 => ?_) fun c6 => ?_
  ·obtain ⟨x, bc, rfl, av, g9, aw⟩ := BI.succ ab c6
   rw [BX] at r3
   refine Al (Aq ?_)
   refine Ak ?_
   refine AJ (um (ua (BU (um (um (um ?_))))))
   obtain ⟨Jn, bd, bg, ax, ad, ae, al, rfl, ay, af⟩ := As.at (Ac _) aa ([]) g9.1 av
   refine uv (AT underlying25 sizeOf34 rfl ad rfl g9) (uv (Ah isAgg34 rfl ae (af 0 (by decide))) ?_)
   obtain ⟨ok, az, ao⟩ := AF r3
   refine D2 rfl aj.1 rfl rfl rfl (aj.2 _ (A4.refl _) _ _ _ rfl az) (Aa ?_)
   refine AX rfl (fun ah => ?_) (fun ah => ?_)
   ·have ba := bt ao ah
    refine AJ (um (ua (Aa (Aj (AD (Ai (Ai (AD (Ai ?_)))))))))
    refine BZ results230 ?_
    obtain rfl := AH ba
    exact rfl
   have bb := bf ao ah
   refine Al (At (id := 1) (Af ?_))
   refine uv (Bf rfl rfl (BI.Ed ab c6 (As.lt aa))) ?_
   refine um (Aa ?_)
   subst ar; exact le kr ⟨_, _, rfl, aw, bb, rfl, rfl, z4⟩
  obtain rfl := BI.zero ab c6
  rw [BX] at r3
  refine AW (Ae (Ae ?_))
  refine Au ?_
  exact mi kr ⟨r3, rfl, rfl, (sn _)⟩
 rintro e1 _ _ ⟨aq, rfl, rfl, ai⟩
 refine AB _ ai ?_
 rw [Dd] at aq
 refine AJ (ua (Aa (Aj ?_)))
 refine BZ results230 ?_
 obtain rfl := AH aq
 exact rfl
theorem GA {s_ : List Int} {f : Int → Option Bool} (aa : As 1 (iE .i64) F Cj Ck s_) (ab : Gk Tryz.prog F KS KU KT (iE .i64) Value.bool f) {r : Bool} (hr : Dc s_ f = some r) :
    Bl Tryz.prog 192 #[.slice Cj s_.length Ck, .func (.func KS) KU KT] F (.bool r) := by
 refine sp func192 ntmps192 fun K _ _ => ?_
 rw [Dc] at hr
 refine AJ (ua (BU (um (um ?_))))
 obtain ⟨n, h1, r2⟩ := AF hr
 refine cV call230 (G8 aa ab h1) (uv (FX rfl rfl) ?_)
 refine ua (Aa (Aj ?_))
 refine BZ results192 ?_
 obtain rfl := AH r2
 exact rfl
theorem M7 {x : Int} {so : Int → Option Bool} (aa : F MS = some (.cells #[.func (.func Ij) Ih Ii] 287 N0)) (ab : Gk Tryz.prog F Ij Ih Ii (iE .i64) Value.bool so) {r : Bool} (hr : GW x so = some r) :
    Bl Tryz.prog 193 #[.int .i64 x, .pointer (some ⟨MS, 0, none⟩)] F (.bool r) := by
 refine sp func193 ntmps193 fun K _ _ => ?_
 rw [GW] at hr
 refine AJ (ua (BU ?_))
 refine uv (Ah isAgg287 rfl (Has.frozen aa) rfl) (um ?_)
 obtain ⟨ok, h1, r2⟩ := AF hr
 refine D2 rfl ab.1 rfl rfl rfl (ab.2 _ (A4.refl _) _ _ _ rfl h1) (uv (BB rfl) ?_)
 refine ua (Aa (Aj ?_))
 refine BZ results193 ?_
 obtain rfl := AH r2
 exact rfl
theorem NZ {l : List Int} {so : Int → Option Bool} (ab : As 1 (iE .i64) F Ko J0 l) (aa : Gk Tryz.prog F Ij Ih Ii (iE .i64) Value.bool so) {r : Bool} (hr : Jo l so = some r) :
    Bl Tryz.prog 141 #[.slice Ko l.length J0, .func (.func Ij) Ih Ii] F (.bool r) := by
 refine sp func141 ntmps141 fun K _ _ => ?_
 rw [Jo] at hr
 refine AJ ?_
 refine BJ rfl rfl ?_; intro b1 af
 refine ua (BU (um ?_))
 refine uv (BT rfl rfl) ?_
 refine Bz 0 rfl af ?_; intro F2 ad ah
 refine AI rfl ?_
 replace ab := ab.mono (Ac _) ad
 replace aa := aa.mono ad
 have ai : Gk Tryz.prog F2 193 #[] #[.pointer (some ⟨b1, 0, none⟩)] (iE .i64) Value.bool (fun ae : Int => GW ae so) := ⟨call193, fun F2 h2 vs ae r ha hr => by obtain rfl := ha; exact M7 (h2 _ _ ah) (aa.mono h2) hr⟩
 obtain ⟨ok, h6, r7⟩ := AF hr
 refine cV call192 (GA ab ai h6) (uv (BB rfl) ?_)
 refine ua (Aa (Aj ?_))
 refine BZ results141 ?_
 obtain rfl := AH r7
 exact rfl
theorem Qr {r : Bool} (hr : JJ p = some r) :
    Bl Tryz.prog 142 #[.int .i64 p] F (.bool r) := by
 refine sp func142 ntmps142 fun K _ _ => ?_
 rw [JJ] at hr
 refine AJ (ua (BU (um ?_)))
 obtain ⟨ok, h1, r2⟩ := AF hr
 refine cV call121 (Lf h1) ?_
 refine ua (Aa (Aj ?_))
 refine BZ results142 ?_
 obtain rfl := AH r2
 exact rfl
set_option maxHeartbeats 1000000 in
theorem Ns (aa : As 1 (iE .i64) F CC CD BA) {r : Int} (hr : IU wide BA = some r) :
    Bl Tryz.prog 143 #[.agg #[.int .i64 wide, .slice CC BA.length CD]] F (.int .i64 r) := by
 refine sp func143 ntmps143 fun K _ _ => ?_
 rw [IU] at hr
 refine AJ ?_
 refine BJ rfl rfl ?_; intro b1 ba
 refine ua (BU (ua (Aa ?_)))
 obtain ⟨n, h2, r3⟩ := AF hr
 refine jE ([]) [(3, .int .i64 n)] ?_ ?_
 ·clear r3
  refine AJ (uv (Ab Iz rfl) (uv (Ah isAgg25 rfl (Has.own 0 rfl) rfl) (uv (A2 underlying25 rfl) ?_)))
  refine um (Aa ?_)
  refine Ak (kW kn ?_)
  refine Br (fun ak e1 F1 L1 => LA BA ak fun tl k => ∃ (n2 : Int), Ec tl n2 = some n ∧ F = F1 ∧ L1 = [] ∧ e1.sub [(3, .int .i64 n2), (7, .slice CC BA.length CD), (8, .int .i64 (BA.length : Int)), (9, .int .i64 k)]) _ (m0 kr ⟨_, _, rfl, BI.start _, 0, h2, rfl, rfl, z4⟩) ?_
  rintro ak e1 _ _ ⟨tl, k, al, ad, n2, r6, rfl, rfl, ar⟩
  refine AB _ ar (AJ (uv (Bp rfl rfl) ?_))
  refine Aa (Aq ?_)
  refine cQ (fun c9 => ?_) fun c9 => ?_
  ·obtain ⟨x, bb, rfl, ae, ao, ab⟩ := BI.succ ad c9
   rw [Ec] at r6
   refine Al (Aq ?_)
   refine Ak (AJ ?_)
   obtain ⟨bc, bd, bg, au, af, ah, aq, rfl, av, ai⟩ := As.at (Ac _) aa ([]) ao.1 ae
   refine uv (AT underlying25 sizeOf34 rfl af rfl ao) (uv (Ah isAgg34 rfl ah (ai 0 (by decide))) ?_)
   refine ua (BU (um ?_))
   refine uv (Cx rfl rfl) (Aa ?_)
   refine cQ (fun aj => ?_) fun aj => ?_
   ·have aw := Bi r6 aj
    refine Af (um ?_)
    obtain ⟨ax, ay⟩ := A0 aw
    refine uv (Bf rfl rfl ax) ?_
    refine ua (Aa (At (id := 1) (Af ?_)))
    refine uv (Bf rfl rfl (BI.Ed ad c9 (As.lt aa))) ?_
    refine um (Aa ?_)
    subst al; exact le kr ⟨_, _, rfl, ab, n2 + 1, ay, rfl, rfl, z4⟩
   have az := Bk r6 aj
   refine Al (At (id := 1) (Af ?_))
   refine uv (Bf rfl rfl (BI.Ed ad c9 (As.lt aa))) ?_
   refine um (Aa ?_)
   subst al; exact le kr ⟨_, _, rfl, ab, n2, az, rfl, rfl, z4⟩
  obtain rfl := BI.zero ad c9
  rw [Ec] at r6
  refine AW (Ae (Ae ?_))
  refine Au ?_
  obtain rfl := AH r6
  exact mi kr ⟨rfl, rfl, z1⟩
 refine AJ (um (ua (Aa (Aj ?_))))
 refine BZ results143 ?_
 obtain rfl := AH r3
 exact rfl
set_option maxHeartbeats 1000000 in
theorem RE (ab : As 1 (iE .i64) F CC CD BA) {r : Int} (hr : NG wide BA = some r) :
    Bl Tryz.prog 64 #[.agg #[.int .i64 wide, .slice CC BA.length CD]] F (.int .i64 r) := by
 refine sp func64 ntmps64 fun K _ _ => ?_
 rw [NG] at hr
 refine AJ ?_
 refine BJ rfl rfl ?_; intro b1 bg
 refine ua (Aa (Aq ?_))
 refine Ak ?_
 obtain ⟨k, h2, r3⟩ := AF hr
 refine jE ([(b1, ce #[.int .i64 wide, .slice CC BA.length CD] 27)]) [(1, .pointer (some ⟨b1, 0, none⟩)), (3, .bool k)] ?_ ?_
 ·clear r3
  refine Af (uv (Ab MQ rfl) (uv (Ah isAgg3 rfl (Has.own 0 rfl) rfl) ?_))
  obtain ⟨ok, h4, r5⟩ := AF h2
  refine cV call121 (Lf h4) (uv (BB rfl) (um ?_))
  rcases Cd (!ok) with c6 | c6
  ·have r7 := bt r5 c6
   refine fB c6 (fB c6 (fB c6 (fB c6 (fB c6 ?_))))
   refine uv (AS (Hx rfl c6) rfl) ?_
   refine um (Ay (b' := true) 15 rfl rfl rfl rfl (Ay (b' := true) 15 rfl rfl rfl rfl (Ay (b' := true) 15 rfl rfl rfl rfl (Ay (b' := true) 15 rfl rfl rfl rfl (Ay (b' := true) 15 rfl rfl rfl rfl (Ay (b' := true) 15 rfl rfl rfl rfl (Ay (b' := true) 15 rfl rfl rfl rfl ?_)))))))
   refine uv (AS rfl rfl) ?_
   refine ua (Aa ?_)
   obtain rfl := AH r7
   exact mi kr ⟨rfl, rfl, z2⟩
  have r8 := bf r5 c6
  refine nB c6 (uv (Ab Iz rfl) (nB c6 (uv (Ah isAgg25 rfl (Has.own 0 rfl) rfl) (nB c6 (uv (A2 underlying25 rfl) (nB c6 ?_))))))
  obtain ⟨ao, h9, ai⟩ := AF r8
  refine cV call121 (Lf h9) (nB c6 (uv (BB rfl) (uv (AE (Hx rfl c6) rfl) (um ?_))))
  rcases Cd (!ao) with aa | aa
  ·have aq := bt ai aa
   refine fB aa (fB aa (fB aa (fB aa (fB aa (fB aa (fB aa ?_))))))
   refine uv (AS (Hx rfl aa) rfl) ?_
   refine ua (Aa ?_)
   obtain rfl := AH aq
   exact mi kr ⟨rfl, rfl, z2⟩
  have ar := bf ai aa
  refine nB aa (uv (Ab Iz rfl) (nB aa (uv (Ah isAgg25 rfl (Has.own 0 rfl) rfl) (nB aa (uv (A2 underlying25 rfl) (nB aa (uv (Ab MQ rfl) ?_)))))))
  refine nB aa (uv (Ah isAgg3 rfl (Has.own 0 rfl) rfl) (nB aa ?_))
  obtain ⟨au, av⟩ := A0 ar
  refine uv (RZ rfl rfl au) (nB aa (uv (CI rfl rfl) (uv (AE (Hx rfl aa) rfl) ?_)))
  refine ua (Aa ?_)
  obtain rfl := AH av
  exact mi kr ⟨rfl, rfl, z2⟩
 refine AX rfl (fun ad => ?_) (fun ad => ?_)
 ·have aw := bt r3 ad
  refine AJ (ua (Aa ?_))
  refine kW kn ?_
  refine Aj (AD (Ai ?_))
  refine BZ results64 ?_
  obtain rfl := AH aw
  exact rfl
 have ax := bf r3 ad
 refine AJ (uv (Ab Iz rfl) (uv (Ah isAgg25 rfl (Has.own 0 rfl) rfl) ?_))
 have ae : Gk Tryz.prog F 142 #[] #[] (iE .i64) Value.bool (fun aj : Int => JJ aj) := ⟨call142, fun F2 h2 vs aj r ha hr => by obtain rfl := ha; exact Qr hr⟩
 obtain ⟨bj, ay, ak⟩ := AF ax
 refine cV call141 (NZ ab ae ay) (uv (BB rfl) ?_)
 refine ua (Aa ?_)
 refine AX rfl (fun af => ?_) (fun af => ?_)
 ·have az := bt ak af
  refine AJ (ua (Aa ?_))
  refine kW kn ?_
  refine Aj (AD (Ai ?_))
  refine BZ results64 ?_
  obtain rfl := AH az
  exact rfl
 have ba := bf ak af
 refine AJ (uv (A1 isAgg27 sizeOf27 rfl (Has.own 0 rfl) (CB rfl) rfl) ?_)
 obtain ⟨n, bb, al⟩ := AF ba
 refine cV call143 (Ns ab bb) (uv (Jy rfl rfl) ?_)
 refine ua (Aa ?_)
 refine cQ (fun ah => ?_) fun ah => ?_
 ·have bc := Bi al ah
  refine AJ (ua (Aa ?_))
  refine kW kn ?_
  refine Aj (AD (Ai ?_))
  refine BZ results64 ?_
  obtain rfl := AH bc
  exact rfl
 have bd := Bk al ah
 refine Al (At (id := 0) (AJ (ua (Aa ?_))))
 refine kW kn (Aj (BZ results64 ?_))
 obtain rfl := AH bd
 exact rfl
theorem OX {w : Int} {r : Bool} (hr : Km w = some r) :
    Bl Tryz.prog 189 #[.int .i64 w] F (.bool r) := by
 refine sp func189 ntmps189 fun K _ _ => ?_
 rw [Km] at hr
 refine AJ (ua (BU (um ?_)))
 obtain ⟨ok, h1, r2⟩ := AF hr
 refine cV call121 (Lf h1) ?_
 refine ua (Aa (Aj ?_))
 refine BZ results189 ?_
 obtain rfl := AH r2
 exact rfl
theorem R0 {r : List (Int × (Int × Int))} (hr : Nu = some r) :
    SH.Spec Tryz.prog 190 #[] F [] fun _ L' v => ∃ (rb : Nat) (res : Array MapEntry) (aj : Nat), v = .map (some rb) ∧ L' = [(rb, .map res aj)] ∧ Dr (Value.int .i64) (vA (cP (cI .i64) (cI .i64))) res r := by
 refine sp func190 ntmps190 fun K _ _ => ?_
 rw [Nu] at hr
 refine AJ (ua (BU ?_))
 refine JO rfl ?_; intro b1 bb
 refine uv (BM (v := .agg #[.int .i64 (-1), .int .i64 0]) rfl (by intro w; kernel_rfl)) ?_
 refine Jg (i := 0) (k := 1) (v := (-1, 0)) underlying331 (Gj underlying29) rfl rfl rfl rfl (show Dr (Value.int .i64) (vA (cP (cI .i64) (cI .i64))) #[] ([] : List (Int × (Int × Int))) from Dr.nil) ?_; intro ak bc ah
 obtain ⟨met, h5, r6⟩ := C3 hr
 rw [← h5] at ah
 refine AI rfl ?_
 refine uv (BM (v := .agg #[.int .i64 0, .int .i64 1]) rfl (by intro w; kernel_rfl)) ?_
 refine Jg (i := 0) (k := 2) (v := (0, 1)) underlying331 (Gj underlying29) rfl rfl rfl rfl (show Dr (Value.int .i64) (vA (cP (cI .i64) (cI .i64))) ak (met : List (Int × (Int × Int))) from ah) ?_; intro al bd ai
 obtain ⟨ad, ao, aq⟩ := C3 r6
 rw [← ao] at ai
 refine AI rfl ?_
 refine uv (BM (v := .agg #[.int .i64 1, .int .i64 0]) rfl (by intro w; kernel_rfl)) ?_
 refine Jg (i := 0) (k := 3) (v := (1, 0)) underlying331 (Gj underlying29) rfl rfl rfl rfl (show Dr (Value.int .i64) (vA (cP (cI .i64) (cI .i64))) al (ad : List (Int × (Int × Int))) from ai) ?_; intro ae ar aa
 obtain ⟨af, au, av⟩ := C3 aq
 rw [← au] at aa
 refine AI rfl ?_
 refine uv (BM (v := .agg #[.int .i64 0, .int .i64 (-1)]) rfl (by intro w; kernel_rfl)) ?_
 refine Jg (i := 0) (k := 4) (v := (0, -1)) underlying331 (Gj underlying29) rfl rfl rfl rfl (show Dr (Value.int .i64) (vA (cP (cI .i64) (cI .i64))) ae (af : List (Int × (Int × Int))) from aa) ?_; intro aw ax ab
 obtain ⟨ay, az, ba⟩ := C3 av
 rw [← az] at ab
 refine AI rfl ?_
 refine um (ua (Aa (Aj ?_)))
 refine BZ results190 ?_
 obtain rfl := AH ba
 exact ⟨_, _, _, rfl, rfl, ab⟩
set_option maxHeartbeats 1000000 in
theorem Q0 (aa : As 1 (iE .i64) F CC CD BA) {r : Option (Int × (List Int) × Int × Int × Bool)} {r2 : Int} (hr : Mb wide BA Dy = some (r, r2)) :
    SH.Spec Tryz.prog 131 #[.agg #[.int .i64 wide, .slice CC BA.length CD], .int .i64 Dy] F [] fun F' L' v => ∃ (rv : Value), v = .tuple #[rv, .int .i64 r2] ∧ L' = [] ∧ Pw 323 (Ce (iE .i64) (Ce (BC 1 (iE .i64)) (Ce (iE .i64) (Ce (iE .i64) bE)))) F' rv r := by
 refine sp func131 ntmps131 fun K _ _ => ?_
 rw [Mb] at hr
 refine AJ ?_
 refine BJ rfl rfl ?_; intro b1 ax
 refine ua (ua (Aa (Aq (AJ ?_))))
 refine uv (A1 isAgg27 sizeOf27 rfl (Has.own 0 rfl) (CB rfl) rfl) ?_
 obtain ⟨n, h2, r3⟩ := AF hr
 refine cV call64 (RE aa h2) ?_
 refine ua (BU (um ?_))
 refine uv (CI rfl rfl) (Aa ?_)
 refine cQ (fun c4 => ?_) fun c4 => ?_
 ·have r5 := Bi r3 c4
  refine AJ (um (ua (ua (Aa ?_))))
  refine kW kn ?_
  refine Aj (Ai ?_)
  refine Dv results131 (AY rfl) (AY rfl) (sr) ?_
  obtain ⟨rfl, rfl⟩ := DO r5
  exact ⟨_, rfl, rfl, rfl⟩
 have r6 := Bk r3 c4
 refine Al (Aq (AJ (um ?_)))
 obtain ⟨ok, h7, r8⟩ := AF r6
 refine cV call189 (OX h7) (uv (BB rfl) (Aa ?_))
 refine AX rfl (fun c9 => ?_) (fun c9 => ?_)
 ·have ak := bt r8 c9
  refine AJ (ua (ua (Aa ?_)))
  refine kW kn ?_
  refine Aj (Ai ?_)
  refine Dv results131 (AY rfl) (AY rfl) (sr) ?_
  obtain ⟨rfl, rfl⟩ := DO ak
  exact ⟨_, rfl, rfl, rfl⟩
 have al := bf r8 c9
 refine Al (AJ ?_)
 obtain ⟨m, ao, aq⟩ := AF al
 refine c0 call190 (R0 ao) ?_; rintro _ ay _ ad ar ⟨au, ab, ae, rfl, rfl, af⟩
 replace aa := aa.mono (Ac _) ad
 refine AI (lb (ln rfl)) (um (uv (Ft.eq (v' := .tuple #[.agg #[.int .i64 (((Bm m Dy).getD (0, 0)).1), .int .i64 (((Bm m Dy).getD (0, 0)).2)], .bool ((Bm m Dy).isSome)]) (JZ (k := Dy) (z0 := (0, 0)) rfl underlying331 (Gj underlying29) zeroValue321 rfl rfl (KO.own 0 rfl) (show Dr (Value.int .i64) (vA (cP (cI .i64) (cI .i64))) ab (m : List (Int × (Int × Int))) from af)) rfl) ?_))
 refine um (ox rfl rfl rfl (ox rfl rfl rfl ?_))
 refine Bw rfl zeroValue321 ?_; intro av aw
 refine BP (i := 0) sizeOf321 rfl rfl rfl (by simp [Value.oneCell']) rfl (CB rfl) (AI rfl ?_)
 refine ua (BU ?_)
 refine uv (A1 isAgg27 sizeOf27 rfl (Has.own 2 rfl) (CB rfl) rfl) (uv (A1 isAgg321 sizeOf321 rfl (Has.own 0 rfl) (CB rfl) rfl) (um ?_))
 refine uv (BM (v := .agg #[.int .i64 wide, .slice CC BA.length CD, .int .i64 (((Bm m Dy).getD (0, 0)).1), .int .i64 (((Bm m Dy).getD (0, 0)).2), .bool ((Bm m Dy).isSome)]) rfl (by intro w; kernel_rfl)) ?_
 refine BJ rfl rfl ?_; intro az ah
 refine ua (ua (Aa ?_))
 refine B1 0 rfl ah ?_; intro ba ai aj
 refine DT (L' := [(av, ce #[.int .i64 (((Bm m Dy).getD (0, 0)).1), .int .i64 (((Bm m Dy).getD (0, 0)).2)] 321), (au, .map ab ae), (b1, ce #[.int .i64 wide, .slice CC BA.length CD] 27)]) rfl ?_
 replace aa := aa.mono (Ac _) ai
 refine kW kn (Aj (Dv results131 (AY rfl) (AY rfl) (sr) ?_))
 obtain ⟨rfl, rfl⟩ := DO aq
 exact ⟨_, rfl, rfl, ⟨_, _, _, rfl, aj, ⟨_, _, rfl, rfl, ⟨_, _, rfl, ⟨_, _, rfl, aa⟩, ⟨_, _, rfl, rfl, ⟨_, _, rfl, rfl, rfl⟩⟩⟩⟩⟩⟩
theorem PC (aa : As 1 (iE .i64) F CC CD BA) {r : Option (Int × (List Int) × Int × Int × Bool)} {r2 : Int} (hr : KM wide BA Dy E4 = some (r, r2)) :
    SH.Spec Tryz.prog 116 #[.agg #[.int .i64 wide, .slice CC BA.length CD], .int .i64 Dy, .int .i64 E4] F [] fun F' L' v => ∃ (rv : Value), v = .tuple #[rv, .int .i64 r2] ∧ L' = [] ∧ Pw 323 (Ce (iE .i64) (Ce (BC 1 (iE .i64)) (Ce (iE .i64) (Ce (iE .i64) bE)))) F' rv r := by
 refine sp func116 ntmps116 fun K _ _ => ?_
 rw [KM] at hr
 refine AJ ?_
 refine BJ rfl rfl ?_; intro b1 aq
 refine ua (ua (BU ?_))
 refine uv (A1 isAgg27 sizeOf27 rfl (Has.own 0 rfl) (CB rfl) rfl) (um ?_)
 obtain ⟨d, n, h2, r3⟩ := DM hr
 refine c0 call131 (Q0 aa h2) ?_; rintro _ F4 _ af ar ⟨v8, rfl, rfl, ah⟩
 replace aa := aa.mono (Ac _) af
 refine AI (ln rfl) ?_
 refine um (ox rfl rfl rfl (ox rfl rfl rfl (ua (ua (Aa (Aq (AJ (um ?_))))))))
 refine uv (CI rfl rfl) (Aa ?_)
 refine cQ (fun ab => ?_) fun ab => ?_
 ·have ai := Bi r3 ab
  refine AJ (um (ua (ua (Aa ?_))))
  refine kW kn ?_
  refine Aj (Ai ?_)
  refine Dv results116 (AY rfl) (AY rfl) (sr) ?_
  obtain ⟨rfl, rfl⟩ := DO ai
  exact ⟨_, rfl, rfl, rfl⟩
 have aj := Bk r3 ab
 refine Al (Aq (AJ ?_))
 refine uv (A1 isAgg27 sizeOf27 rfl (Has.own 0 rfl) (CB rfl) rfl) (um ?_)
 obtain ⟨n2, ak, ae⟩ := AF aj
 refine cV call65 (P0 aa ak) ?_
 refine ua (BU (um ?_))
 refine uv (CI rfl rfl) (Aa ?_)
 refine cQ (fun ad => ?_) fun ad => ?_
 ·have al := Bi ae ad
  refine AJ (um (ua (ua (Aa ?_))))
  refine kW kn ?_
  refine Aj (Ai ?_)
  refine Dv results116 (AY rfl) (AY rfl) (sr) ?_
  obtain ⟨rfl, rfl⟩ := DO al
  exact ⟨_, rfl, rfl, rfl⟩
 have ao := Bk ae ad
 refine Al (AJ (um (ua (ua (Aa ?_)))))
 refine kW kn (Aj (Dv results116 (AY rfl) (AY rfl) (sr) ?_))
 obtain ⟨rfl, rfl⟩ := DO ao
 exact ⟨_, rfl, rfl, ah⟩
theorem O0 (aa : As 1 (iE .i64) F CC CD BA) {r : Bool} (hr : Iy wide BA p = some r) :
    Bl Tryz.prog 222 #[.agg #[.int .i64 wide, .slice CC BA.length CD], .int .i64 p] F (.bool r) := by
 refine sp func222 ntmps222 fun K _ _ => ?_
 rw [Iy] at hr
 refine AJ ?_
 refine BJ rfl rfl ?_; intro b1 aj
 refine ua (BU ?_)
 refine uv (Ab Iz rfl) (uv (Ah isAgg25 rfl (Has.own 0 rfl) rfl) (um ?_))
 obtain ⟨x, g2, af, r4⟩ := BY hr
 obtain ⟨b5, o6, c7, ak, ah, ab, ae, rfl, ai, ad⟩ := As.at (Ac _) aa ([(b1, ce #[.int .i64 wide, .slice CC BA.length CD] 27)]) g2.1 af
 refine uv (AT underlying25 sizeOf34 rfl ah rfl g2) (uv (Ah isAgg34 rfl ab (ad 0 (by decide))) (uv (Cx rfl rfl) ?_))
 refine ua (Aa ?_)
 refine kW kn (Aj (BZ results222 ?_))
 obtain rfl := AH r4
 exact rfl
theorem Pa {r r2 : Int} (hr : JT down Cy = some (r, r2)) :
    Bl Tryz.prog 249 #[.agg #[.int .i64 down, .int .i64 Cy]] F (.agg #[.int .i64 r, .int .i64 r2]) := by
 refine sp func249 ntmps249 fun K _ _ => ?_
 rw [JT] at hr
 refine AJ ?_
 refine BJ rfl rfl ?_; intro b1 aa
 refine Bw rfl zeroValue321 ?_; intro b2 ab
 refine BU (uv (Ab QC rfl) (uv (Ah isAgg3 rfl (Has.own 1 rfl) rfl) ?_))
 obtain ⟨g3, r4⟩ := A0 hr
 refine uv (Vq rfl g3) (uv (Ab SD rfl) (uv (Ah isAgg3 rfl (Has.own 1 rfl) rfl) ?_))
 obtain ⟨g5, r6⟩ := A0 r4
 refine uv (Vq rfl g5) ?_
 refine uv (BM (v := .agg #[.int .i64 (-down), .int .i64 (-Cy)]) rfl (by intro w; kernel_rfl)) ?_
 refine BP (i := 0) sizeOf321 rfl rfl rfl (by simp [Value.oneCell']) rfl (CB rfl) (AI rfl (Aa (kW (kc kn) (Aj (IH results249 (DI (cs := #[.int .i64 (-down), .int .i64 (-Cy)]) isAgg321 sizeOf321 rfl (Has.own 0 rfl) (CB rfl) rfl) (s1 sr) ?_)))))
 obtain ⟨rfl, rfl⟩ := DO r6
 exact rfl
set_option maxHeartbeats 1000000 in
theorem KD {ae aa to : Int} (ab : F GZ = some (.cells #[.int .i64 wide, .slice CC BA.length CD, .int .i64 down, .int .i64 Cy, .bool EE] 323 IZ)) (ad : As 1 (iE .i64) F CC CD BA) {r : Int} (hr : HV wide BA down Cy EE ae aa to = some r) :
    Bl Tryz.prog 224 #[.pointer (some ⟨GZ, 0, none⟩), .agg #[.int .i64 ae, .int .i64 aa], .int .i64 to] F (.int .i64 r) := by
 refine sp func224 ntmps224 fun K _ _ => ?_
 rw [HV] at hr
 refine AJ ?_
 refine BJ rfl rfl ?_; intro b1 bg
 refine ua (BU (ua (Aa ?_)))
 obtain ⟨n, h2, r3⟩ := AF hr
 refine jE ([]) [(0, .pointer (some ⟨GZ, 0, none⟩)), (2, .int .i64 to), (7, .int .i64 n)] ?_ ?_
 ·clear r3
  refine Ak ?_
  refine AJ (um ?_)
  refine uv (AV rfl) (uv (Ab U6 rfl) (uv (Ah isAgg4 rfl (Has.frozen ab) rfl) (uv (BB rfl) ?_)))
  refine ua (Aa ?_)
  refine AX rfl (fun c4 => ?_) (fun c4 => ?_)
  ·have r5 := bt h2 c4
   refine Al (At (id := 0) ?_)
   obtain rfl := AH r5
   exact mi kn ⟨rfl, rfl, z3⟩
  have r6 := bf h2 c4
  refine dW (wv (A1 isAgg321 sizeOf321 rfl (Has.own 0 rfl) (CB rfl) rfl) (wm (wv (AV rfl) (wv (Ab SA rfl) (wv (A1 isAgg321 sizeOf321 rfl (Has.frozen ab) (CB rfl) rfl) (wv (Sx (T4 _ _ _ _) (Va _ _ _ _) rfl rfl) ?_))))))
  refine wa (CX ?_)
  refine cQ (fun c7 => ?_) fun c7 => ?_
  ·have r8 := Bi r6 c7
   refine Af (ua (Aa (At (id := 0) ?_)))
   obtain rfl := AH r8
   exact mi kn ⟨rfl, rfl, z3⟩
  have r9 := Bk r6 c7
  refine dW (wv (A1 isAgg321 sizeOf321 rfl (Has.own 0 rfl) (CB rfl) rfl) (wm (wv (AV rfl) (wv (Ab SA rfl) (wv (A1 isAgg321 sizeOf321 rfl (Has.frozen ab) (CB rfl) rfl) ?_)))))
  obtain ⟨n2, n3, av, ao⟩ := DM r9
  refine I9 rfl call249 rfl rfl rfl (Pa av) (wv (Sx (T4 _ _ _ _) (Va _ _ _ _) rfl rfl) ?_)
  refine wa (CX ?_)
  refine cQ (fun af => ?_) fun af => ?_
  ·have aw := Bi ao af
   refine Af (ua (Aa (At (id := 0) ?_)))
   obtain rfl := AH aw
   exact mi kn ⟨rfl, rfl, z3⟩
  have ax := Bk ao af
  refine Al (At (id := 0) ?_)
  obtain rfl := AH ax
  exact mi kn ⟨rfl, rfl, z3⟩
 refine Aq (AJ (um ?_))
 refine uv (AV rfl) (uv (Ab J5 rfl) (uv (Ab Iz rfl) (uv (Ah isAgg25 rfl (Has.frozen ab) rfl) (um ?_))))
 obtain ⟨x, aq, ah, ar⟩ := BY r3
 obtain ⟨bj, bk, bl, ay, ai, aj, au, rfl, az, ak⟩ := As.at (Ac _) ad ([]) aq.1 ah
 refine uv (AT underlying25 sizeOf34 rfl ai rfl aq) (uv (Ah isAgg34 rfl aj (ak 0 (by decide))) (uv (Cx rfl rfl) (Aa ?_)))
 refine cQ (fun al => ?_) fun al => ?_
 ·have ba := Bi ar al
  refine Af (um ?_)
  obtain ⟨bb, bc⟩ := A0 ba
  refine uv (Bf rfl rfl bb) ?_
  refine ua (BU (um (ua (Aa (Aj ?_)))))
  refine BZ results224 ?_
  obtain rfl := AH bc
  exact rfl
 have bd := Bk ar al
 refine Al (AJ (um (ua (Aa (Aj ?_)))))
 refine BZ results224 ?_
 obtain rfl := AH bd
 exact rfl
set_option maxHeartbeats 1000000 in
theorem Nx {cf : Nat} {ck : Nat × Nat} {Pu : Nat} {Qt : Nat × Nat} {ai : Nat} {al : FuncId} {ao aq : Array Value} {closed : Int → Option Bool} {ax : Nat × Nat} (ar : F cf = some (.cells #[.int .i64 p] 3 ck)) (ak : F GZ = some (.cells #[.pointer (some ⟨Pu, 0, none⟩)] 253 IZ)) (af : F Pu = some (.cells #[.int .i64 wide, .slice CC BA.length CD, .int .i64 down, .int .i64 Cy, .bool EE] 323 Qt)) (ad : As 1 (iE .i64) F CC CD BA) (ab : F ai = some (.cells #[.func (.func al) ao aq] 89 ax)) (aa : Gk Tryz.prog F al ao aq (iE .i64) Value.bool closed) {xs : List (Int × Int)} (hr : IV p wide BA down Cy EE closed = some xs) :
    ES Tryz.prog 223 #[] #[.pointer (some ⟨cf, 0, none⟩), .pointer (some ⟨GZ, 0, none⟩), .pointer (some ⟨ai, 0, none⟩)] F (fun x : Int × Int => #[.int .i64 x.1, .int .i64 x.2]) xs := by
 intro G0 bp yv J Jx dv dw hy Fc L0 hG cn
 replace ar := (bp.trans hG) _ _ ar
 replace ak := (bp.trans hG) _ _ ak
 replace af := (bp.trans hG) _ _ af
 replace ad := ad.mono (Ac _) (bp.trans hG)
 replace ab := (bp.trans hG) _ _ ab
 replace aa := aa.mono (bp.trans hG)
 have bk : xs = [] ++ xs := rfl
 show SH.Spec Tryz.prog 223 #[yv, .pointer (some ⟨cf, 0, none⟩), .pointer (some ⟨GZ, 0, none⟩), .pointer (some ⟨ai, 0, none⟩)] Fc L0 _
 refine sp func223 ntmps223 fun K _ _ => ?_
 rw [IV] at hr; refine DT (L' := L0 ++ []) (by simp) ?_
 refine AJ ?_
 refine uv (BM (v := .agg #[.int .i64 (-1), .int .i64 0]) rfl (by intro w; kernel_rfl)) ?_
 refine uv (BM (v := .agg #[.int .i64 0, .int .i64 (-1)]) rfl (by intro w; kernel_rfl)) ?_
 refine uv (BM (v := .agg #[.int .i64 0, .int .i64 1]) rfl (by intro w; kernel_rfl)) ?_
 refine uv (BM (v := .agg #[.int .i64 1, .int .i64 0]) rfl (by intro w; kernel_rfl)) ?_
 refine bA (cs := #[.int .i64 (-1), .int .i64 0, .int .i64 0, .int .i64 (-1), .int .i64 0, .int .i64 1, .int .i64 1, .int .i64 0]) Wf [.agg #[.int .i64 (-1), .int .i64 0], .agg #[.int .i64 0, .int .i64 (-1)], .agg #[.int .i64 0, .int .i64 1], .agg #[.int .i64 1, .int .i64 0]] ?_; intro b1 dx
 refine uv (A2 underlying345 rfl) ?_
 refine um (Aa ?_)
 refine Ak ?_
 refine B1 0 rfl dx ?_; intro F2 bg dy
 refine DT (L' := L0 ++ []) rfl ?_
 replace ad := ad.mono (Ac _) bg
 replace aa := aa.mono bg
 replace ar := bg _ _ ar
 replace af := bg _ _ af
 replace ak := bg _ _ ak
 replace ab := bg _ _ ab
 replace hG := hG.trans bg
 replace cn := dv _ _ _ _ cn bg
 have h5 : As 2 (Ce (iE .i64) (iE .i64)) F2 (some ⟨b1, 0, none⟩) 4 [(-1, 0), (0, -1), (0, 1), (1, 0)] := As.BW (AU (Ac _) (Ac _)) (vss := [[.int .i64 (-1), .int .i64 0], [.int .i64 0, .int .i64 (-1)], [.int .i64 0, .int .i64 1], [.int .i64 1, .int .i64 0]]) (xs := [(-1, 0), (0, -1), (0, 1), (1, 0)]) dy (.cons ⟨_, _, rfl, rfl, rfl⟩ (.cons ⟨_, _, rfl, rfl, rfl⟩ (.cons ⟨_, _, rfl, rfl, rfl⟩ (.cons ⟨_, _, rfl, rfl, rfl⟩ .nil)))) rfl (by simp [maxLen])
 obtain ⟨bq, dz⟩ := A0 hr
 refine Br (fun cg e1 F1 L1 => ∃ (k : Int), EI 0 4 k cg ∧ ∃ (pre6 : List (Int × Int)) (aw : List (Int × Int)) (ba : LH), Co p wide BA down Cy EE closed cg k = some aw ∧ A4 F2 F1 ∧ L1 = (ba ++ []) ∧ e1.sub [(0, yv), (1, .pointer (some ⟨cf, 0, none⟩)), (2, .pointer (some ⟨GZ, 0, none⟩)), (3, .pointer (some ⟨ai, 0, none⟩)), (12, .slice (some ⟨b1, 0, none⟩) [(-1, 0), (0, -1), (0, 1), (1, 0)].length 4), (13, .int .i64 4), (14, .int .i64 k)] ∧ xs = pre6 ++ aw ∧ J pre6 F1 ba ∧ A4 G0 F1) _ (m0 kr ⟨_, EI.start _ _, [], xs, L0, dz, A4.refl _, rfl, z7, bk, cn, hG⟩) ?_
 rintro cg e1 fx _ ⟨k, au, pre6, aw, ba, cj, aj, rfl, cp, ae, bl, hG⟩
 refine AB _ cp ?_
 replace ad := ad.mono (Ac _) aj
 replace h5 := h5.mono (AU (Ac _) (Ac _)) aj
 replace aa := aa.mono aj
 replace ar := aj _ _ ar
 replace af := aj _ _ af
 replace ak := aj _ _ ak
 replace ab := aj _ _ ab
 refine AJ (uv (Bp rfl rfl) ?_)
 refine Aa (Aq ?_)
 refine cQ (fun bc => ?_) fun bc => ?_
 ·obtain ⟨cg, rfl, ay⟩ := EI.succ au bc
  rw [Co] at cj
  refine Al (Aq ?_)
  refine Ak (AJ ?_)
  obtain ⟨x, di, cq, e9⟩ := BY cj
  obtain ⟨fy, g0, ga, eb, cr, ct, bj, ⟨_, _, rfl, rfl, rfl⟩, cu, cv⟩ := As.at (AU (Ac _) (Ac _)) h5 (ba ++ []) di.1 cq
  refine uv (AT underlying345 sizeOf321 rfl cr rfl di) (uv (A1 isAgg321 sizeOf321 rfl ct bj (Cz bj cu cv)) ?_)
  refine Bw rfl zeroValue321 ?_; intro dk ec
  refine BP (i := 0) sizeOf321 rfl rfl rfl (by simp [Value.oneCell']) rfl (CB rfl) (AI rfl (dN (wv (Ah isAgg3 rfl (Has.frozen ar) rfl) (wv (Ab QC rfl) (wv (Ah isAgg3 rfl (Has.own 0 rfl) rfl) (wv (Ah isAgg253 rfl (Has.frozen ak) rfl) (wv (AV rfl) ?_)))))))
  refine wv (Ab J5 rfl) (wv (Ab MQ rfl) (wv (Ah isAgg3 rfl (Has.frozen af) rfl) ?_))
  obtain ⟨ef, eg⟩ := A0 e9
  refine wv (XF rfl rfl ef) ?_
  obtain ⟨eh, ei⟩ := A0 eg
  refine wv (Bf rfl rfl eh) (wv (Ab SD rfl) (wv (Ah isAgg3 rfl (Has.own 0 rfl) rfl) ?_))
  obtain ⟨ej, eo⟩ := A0 ei
  refine wv (Bf rfl rfl ej) ?_
  refine wa (CX (Aq ?_))
  refine dW (wv (Ah isAgg253 rfl (Has.frozen ak) rfl) (wv (AV rfl) (wv (Ab J5 rfl) (wv (A1 isAgg27 sizeOf27 rfl (Has.frozen af) (CB rfl) rfl) (wm ?_)))))
  obtain ⟨ok, ep, dm⟩ := AF eo
  refine I9 rfl call47 rfl rfl rfl (K3 ad ep) (wv (BB rfl) (wm ?_))
  rcases Cd (!ok) with av | av
  ·have er := bt dm av
   refine A3 (b' := true) 38 rfl (I7 rfl av) rfl rfl (A3 (b' := true) 38 rfl (I7 rfl av) rfl rfl (A3 (b' := true) 38 rfl (I7 rfl av) rfl rfl (A3 (b' := true) 38 rfl (I7 rfl av) rfl rfl (Fb 42 rfl rfl rfl (Fb 42 rfl rfl rfl (Fb 42 rfl rfl rfl (Fb 42 rfl rfl rfl (Fb 42 rfl rfl rfl (Fb 42 rfl rfl rfl ?_)))))))))
   refine Fb 42 rfl rfl rfl (Fb 42 rfl rfl rfl (Fb 42 rfl rfl rfl (Fb 42 rfl rfl rfl (Fb 42 rfl rfl rfl (Fb 42 rfl rfl rfl (Fb 42 rfl rfl rfl (Fb 42 rfl rfl rfl (Fb 42 rfl rfl rfl (A3 (b' := true) 38 rfl (I7 rfl av) rfl rfl ?_)))))))))
   refine wv (AS (Hx rfl av) rfl) ?_
   refine wm (A3 (b' := true) 60 rfl rfl rfl rfl (A3 (b' := true) 60 rfl rfl rfl rfl (A3 (b' := true) 60 rfl rfl rfl rfl ?_)))
   refine wv (AS rfl rfl) (CX ?_)
   refine AX rfl (fun dn => ?_) (fun dn => nomatch dn)
   refine AW (Ae ?_)
   refine Au (Af (uv (Bf rfl rfl (EI.Ed au bc bq)) ?_))
   refine um (Aa ?_)
   exact le (kd kr) ⟨_, ay, pre6, aw, ba, er, aj, rfl, z7, ae, bl, hG⟩
  have dp := bf dm av
  refine Bj (b := false) 38 rfl (I7 rfl av) (wv (Ab QC rfl) (Bj (b := false) 38 rfl (I7 rfl av) (wv (Ah isAgg3 rfl (Has.own 0 rfl) rfl) (Bj (b := false) 38 rfl (I7 rfl av) (wv (Cx rfl rfl) ?_)))))
  refine Bj (b := false) 38 rfl (I7 rfl av) (wm ?_)
  by_cases ah : x.1 = 0
  ·have et := Bi dp ah
   refine Bj (b := true) 42 rfl (Env.FL rfl ah) (wm (Bj (b := true) 42 rfl (Env.FL rfl ah) ?_))
   refine wv (Ah isAgg253 rfl (Has.frozen ak) rfl) (Bj (b := true) 42 rfl (Env.FL rfl ah) (wv (AV rfl) (Bj (b := true) 42 rfl (Env.FL rfl ah) (wv (Ab J5 rfl) (Bj (b := true) 42 rfl (Env.FL rfl ah) (wv (Ab MQ rfl) (Bj (b := true) 42 rfl (Env.FL rfl ah) ?_)))))))
   refine wv (Ah isAgg3 rfl (Has.frozen af) rfl) (Bj (b := true) 42 rfl (Env.FL rfl ah) ?_)
   obtain ⟨eu, ew⟩ := A0 et
   refine wv (VD rfl rfl eu) (Bj (b := true) 42 rfl (Env.FL rfl ah) (wv (Ah isAgg3 rfl (Has.frozen ar) rfl) (Bj (b := true) 42 rfl (Env.FL rfl ah) (wv (Ah isAgg253 rfl (Has.frozen ak) rfl) (Bj (b := true) 42 rfl (Env.FL rfl ah) (wv (AV rfl) (Bj (b := true) 42 rfl (Env.FL rfl ah) ?_)))))))
   refine wv (Ab J5 rfl) (Bj (b := true) 42 rfl (Env.FL rfl ah) (wv (Ab MQ rfl) (Bj (b := true) 42 rfl (Env.FL rfl ah) (wv (Ah isAgg3 rfl (Has.frozen af) rfl) (Bj (b := true) 42 rfl (Env.FL rfl ah) ?_)))))
   obtain ⟨ey, dq⟩ := A0 ew
   refine wv (VD rfl rfl ey) (Bj (b := true) 42 rfl (Env.FL rfl ah) (wv (CI rfl rfl) (Bj (b := false) 38 rfl (I7 rfl av) (wv (AS (Bq rfl ah) rfl) (wv (AE (Hx rfl av) rfl) (wm ?_))))))
   by_cases bb : (Int.tdiv ((p + (x.1 * wide)) + x.2) wide) ≠ (Int.tdiv p wide)
   ·have ez := Bi dq bb
    refine A3 (b' := true) 60 rfl (Env.FL rfl bb) rfl rfl (A3 (b' := true) 60 rfl (Env.FL rfl bb) rfl rfl (A3 (b' := true) 60 rfl (Env.FL rfl bb) rfl rfl ?_))
    refine wv (AS (Bq rfl bb) rfl) (CX ?_)
    refine AX rfl (fun dr => ?_) (fun dr => nomatch dr)
    refine AW (Ae ?_)
    refine Au (Af (uv (Bf rfl rfl (EI.Ed au bc bq)) ?_))
    refine um (Aa ?_)
    exact le (kd kr) ⟨_, ay, pre6, aw, ba, ez, aj, rfl, z7, ae, bl, hG⟩
   have fa := Bk dq bb
   refine Bj (b := false) 60 rfl (Env.FM rfl bb) (wv (Ah isAgg89 rfl (Has.frozen ab) rfl) ?_)
   refine Bj (b := false) 60 rfl (Env.FM rfl bb) (wm (Bj (b := false) 60 rfl (Env.FM rfl bb) ?_))
   obtain ⟨gb, fb, dt⟩ := AF fa
   refine I9 rfl aa.1 rfl rfl rfl (aa.2 _ (A4.refl _) _ _ _ rfl fb) (wv (AE (Bc rfl bb) rfl) (CX ?_))
   refine AX rfl (fun cw => ?_) (fun cw => ?_)
   ·have fe := bt dt cw
    refine AW (Ae ?_)
    refine Au (Af (uv (Bf rfl rfl (EI.Ed au bc bq)) ?_))
    refine um (Aa ?_)
    exact le (kd kr) ⟨_, ay, pre6, aw, ba, fe, aj, rfl, z7, ae, bl, hG⟩
   have ff := bf dt cw
   refine Al (AJ (um (um ?_)))
   refine uv (Ah isAgg253 rfl (Has.frozen ak) rfl) (uv (A1 isAgg321 sizeOf321 rfl (Has.own 0 rfl) (CB rfl) rfl) (um ?_))
   obtain ⟨n, fg, fh⟩ := AF ff
   refine cV call224 (KD af ad fg) ?_
   obtain ⟨bn, fi, br⟩ := Qg fh
   refine LJ (Lb := ba) (Lr := [(dk, ce #[.int .i64 x.1, .int .i64 x.2] 321)]) (vs := [.int .i64 ((p + (x.1 * wide)) + x.2), .int .i64 n]) rfl rfl rfl (fC fP) (hy pre6 ((p + (x.1 * wide)) + x.2, n) bn (by rw [ae, br]) _ _ hG bl) ?_
   rintro gg gh cx bu cy; obtain ⟨fj, rfl, bw, bx⟩ := HZ cy
   replace hG := hG.trans bu
   refine kO (kf (fS fO) kr) (uv (BB rfl) (Aa ?_))
   refine AX rfl (fun cz => ?_) (fun cz => ?_)
   ·have da := bx (by simpa using cz)
    refine Aj (AD (Ai (Ai (AD ?_))))
    refine Gs (.inl rfl) results223 (s1 (s4 sr)) ?_
    exact .inr (by rw [List.append_nil]; exact da)
   have db := bw (by simpa using cz)
   have bd : xs = (pre6 ++ [((p + (x.1 * wide)) + x.2, n)]) ++ bn := by rw [ae, br]; simp
   refine Al (At (id := 1) (Af ?_))
   refine uv (Bf rfl rfl (EI.Ed au bc bq)) ?_
   refine um (Aa ?_)
   exact le (kd kr) ⟨_, ay, pre6 ++ [((p + (x.1 * wide)) + x.2, n)], bn, cx, fi, (aj.trans bu), rfl, z7, bd, db, hG⟩
  have fk := Bk dp ah
  refine A3 (b' := false) 42 rfl (Env.FM rfl ah) rfl rfl (A3 (b' := false) 42 rfl (Env.FM rfl ah) rfl rfl (A3 (b' := false) 42 rfl (Env.FM rfl ah) rfl rfl (A3 (b' := false) 42 rfl (Env.FM rfl ah) rfl rfl (A3 (b' := false) 42 rfl (Env.FM rfl ah) rfl rfl (A3 (b' := false) 42 rfl (Env.FM rfl ah) rfl rfl (A3 (b' := false) 42 rfl (Env.FM rfl ah) rfl rfl (A3 (b' := false) 42 rfl (Env.FM rfl ah) rfl rfl (A3 (b' := false) 42 rfl (Env.FM rfl ah) rfl rfl (A3 (b' := false) 42 rfl (Env.FM rfl ah) rfl rfl ?_)))))))))
  refine A3 (b' := false) 42 rfl (Env.FM rfl ah) rfl rfl (A3 (b' := false) 42 rfl (Env.FM rfl ah) rfl rfl (A3 (b' := false) 42 rfl (Env.FM rfl ah) rfl rfl (A3 (b' := false) 42 rfl (Env.FM rfl ah) rfl rfl (A3 (b' := false) 42 rfl (Env.FM rfl ah) rfl rfl (Bj (b := false) 38 rfl (I7 rfl av) ?_)))))
  refine wv (AE (Bc rfl ah) rfl) (wv (AE (Hx rfl av) rfl) ?_)
  refine wm (Bj (b := false) 60 rfl rfl ?_)
  refine wv (Ah isAgg89 rfl (Has.frozen ab) rfl) ?_
  refine Bj (b := false) 60 rfl rfl (wm (Bj (b := false) 60 rfl rfl ?_))
  obtain ⟨gi, fl, du⟩ := AF fk
  refine I9 rfl aa.1 rfl rfl rfl (aa.2 _ (A4.refl _) _ _ _ rfl fl) (wv (AE rfl rfl) (CX ?_))
  refine AX rfl (fun dd => ?_) (fun dd => ?_)
  ·have fm := bt du dd
   refine AW (Ae ?_)
   refine Au (Af (uv (Bf rfl rfl (EI.Ed au bc bq)) ?_))
   refine um (Aa ?_)
   exact le (kd kr) ⟨_, ay, pre6, aw, ba, fm, aj, rfl, z7, ae, bl, hG⟩
  have fp := bf du dd
  refine Al (AJ (um (um ?_)))
  refine uv (Ah isAgg253 rfl (Has.frozen ak) rfl) (uv (A1 isAgg321 sizeOf321 rfl (Has.own 0 rfl) (CB rfl) rfl) (um ?_))
  obtain ⟨n2, fq, ft⟩ := AF fp
  refine cV call224 (KD af ad fq) ?_
  obtain ⟨bo, fv, bz⟩ := Qg ft
  refine LJ (Lb := ba) (Lr := [(dk, ce #[.int .i64 x.1, .int .i64 x.2] 321)]) (vs := [.int .i64 ((p + (x.1 * wide)) + x.2), .int .i64 n2]) rfl rfl rfl (fC fP) (hy pre6 ((p + (x.1 * wide)) + x.2, n2) bo (by rw [ae, bz]) _ _ hG bl) ?_
  rintro gj gk de ca df; obtain ⟨fw, rfl, cb, cc⟩ := HZ df
  replace hG := hG.trans ca
  refine kO (kf (fS fO) kr) (uv (BB rfl) (Aa ?_))
  refine AX rfl (fun dg => ?_) (fun dg => ?_)
  ·have dh := cc (by simpa using dg)
   refine Aj (AD (Ai (Ai (AD ?_))))
   refine Gs (.inl rfl) results223 (s1 (s4 sr)) ?_
   exact .inr (by rw [List.append_nil]; exact dh)
  have cd := cb (by simpa using dg)
  have az : xs = (pre6 ++ [((p + (x.1 * wide)) + x.2, n2)]) ++ bo := by rw [ae, bz]; simp
  refine Al (At (id := 1) (Af ?_))
  refine uv (Bf rfl rfl (EI.Ed au bc bq)) ?_
  refine um (Aa ?_)
  exact le (kd kr) ⟨_, ay, pre6 ++ [((p + (x.1 * wide)) + x.2, n2)], bo, de, fv, (aj.trans ca), rfl, z7, az, cd, hG⟩
 obtain rfl := EI.zero au bc
 rw [Co] at cj
 refine AW (Ae (Ae ?_))
 refine Au (Gs (.inr rfl) results223 (sr) ?_)
 obtain rfl := AH cj
 exact .inl (by have e1 := ae; rw [List.append_nil] at e1; rw [List.append_nil, e1]; exact bl)
set_option maxHeartbeats 1000000 in
theorem OL (ab : F GZ = some (.cells #[.int .i64 wide, .slice CC BA.length CD, .int .i64 down, .int .i64 Cy, .bool EE] 323 IZ)) (aa : As 1 (iE .i64) F CC CD BA) {r : List (Int × Int)} (hr : J9 wide BA down Cy EE p = some r) :
    SH.Spec Tryz.prog 178 #[.pointer (some ⟨GZ, 0, none⟩), .int .i64 p] F [] fun F' L' v => ∃ (al : Array Value), v = .func (.func 223) #[] al ∧ L' = [] ∧ ES Tryz.prog 223 #[] al F' (fun x : Int × Int => #[.int .i64 x.1, .int .i64 x.2]) r := by
 refine sp func178 ntmps178 fun K _ _ => ?_
 rw [J9] at hr
 refine AJ ?_
 refine BJ rfl rfl ?_; intro b1 au
 refine BJ rfl rfl ?_; intro b2 av
 refine ua (BU ?_)
 refine uv (Ah isAgg253 rfl (Has.own 1 rfl) rfl) (uv (AV rfl) (uv (Ab J5 rfl) (uv (A1 isAgg27 sizeOf27 rfl (Has.frozen ab) (CB rfl) rfl) (uv (BT rfl rfl) ?_))))
 refine Bw rfl zeroValue89 ?_; intro b3 aw
 refine B4 (i := 0) sizeOf89 rfl rfl rfl rfl (CB rfl) (AI rfl (BU (uv (BT rfl rfl) ?_)))
 refine ua (Aa ?_)
 refine B1 1 rfl av ?_; intro F4 ao ae
 refine DT (L' := [(b3, ce (#[.func (.func 222) #[.agg #[.int .i64 wide, .slice CC BA.length CD]] #[]]) 89), (b1, ce #[.pointer (some ⟨GZ, 0, none⟩)] 253)]) rfl ?_
 replace aa := aa.mono (Ac _) ao
 replace ab := ao _ _ ab
 refine B1 1 rfl au ?_; intro F7 ah ai
 refine DT (L' := [(b3, ce (#[.func (.func 222) #[.agg #[.int .i64 wide, .slice CC BA.length CD]] #[]]) 89)]) rfl ?_
 replace aa := aa.mono (Ac _) ah
 replace ab := ah _ _ ab
 replace ae := ah _ _ ae
 refine B1 0 rfl aw ?_; intro aq ad aj
 refine DT (L' := []) rfl ?_
 replace aa := aa.mono (Ac _) ad
 replace ab := ad _ _ ab
 replace ae := ad _ _ ae
 replace ai := ad _ _ ai
 have ak : Gk Tryz.prog aq 222 #[.agg #[.int .i64 wide, .slice CC BA.length CD]] #[] (iE .i64) Value.bool (fun ar : Int => Iy wide BA ar) := ⟨call222, fun F2 h2 vs ar r ha hr => by obtain rfl := ha; exact O0 (aa.mono (Ac _) h2) hr⟩
 obtain ⟨l, ax, ay⟩ := AF hr
 have af : ES Tryz.prog 223 #[] #[.pointer (some ⟨b2, 0, none⟩), .pointer (some ⟨b1, 0, none⟩), .pointer (some ⟨b3, 0, none⟩)] aq (fun x : Int × Int => #[.int .i64 x.1, .int .i64 x.2]) l := Nx ae ai ab aa aj ak ax
 refine Aj (BZ results178 ?_)
 obtain rfl := AH ay
 exact ⟨_, rfl, rfl, af⟩
set_option maxHeartbeats 1000000 in
theorem OS (az : F GZ = some (.cells #[.int .i64 wide, .slice CC BA.length CD, .int .i64 down, .int .i64 Cy, .bool EE] 323 IZ)) (al : As 1 (iE .i64) F CC CD BA) {r : List Int} (hr : J2 wide BA down Cy EE E4 = some r) :
    SH.Spec Tryz.prog 117 #[.pointer (some ⟨GZ, 0, none⟩), .int .i64 E4] F [] fun F' L' v => ∃ (ra : Option Addr) (rn : Nat) (rc : Nat) (rL : LH), v = .slice ra rn rc ∧ L' = rL ++ [] ∧ Bd 0 3 1 (iE .i64) F' ra rn rc r rL := by
 refine sp func117 ntmps117 fun K _ _ => ?_
 rw [J2] at hr
 refine AJ (ua (BU (um ?_)))
 refine uv (AV rfl) (uv (Ab J5 rfl) (uv (Ab Iz rfl) (uv (Ah isAgg25 rfl (Has.frozen az) rfl) (uv (A2 underlying25 rfl) ?_))))
 obtain ⟨g1, r2⟩ := A0 hr
 obtain ⟨l, h3, r4⟩ := C3 r2
 refine PX (R := (iE .i64)) (z0 := 0) (zs := l) rfl Ct (by decide) (Ac _) (fun _ => rfl) rfl g1 h3 (fun _ => .n) ?_; intro a5 n8 jr iv
 refine Bw rfl zeroValue33 ?_; intro Jn js
 refine B4 (i := 0) sizeOf33 rfl rfl rfl rfl (CB rfl) (AI rfl (Aa ?_))
 obtain ⟨out, jt, iw⟩ := AF r4
 refine A5 (fun e1 F1 L1 => ∃ (ba : LH), F = F1 ∧ L1 = ((Jn, ce #[.slice a5 n8 n8] 33) :: (ba ++ [])) ∧ e1.sub [(0, .pointer (some ⟨GZ, 0, none⟩)), (1, .int .i64 E4), (5, .pointer (some ⟨Jn, 0, none⟩))] ∧ Bd K.w0.heap.size 3 1 (iE .i64) F1 a5 n8 n8 out ba) ?_ ?_
 ·clear iw
  refine AJ (uv (Ah isAgg33 rfl (Has.own 0 rfl) rfl) (uv ((A2 underlying33 rfl).i (Bd.KW iv)) ?_))
  refine um (Aa ?_)
  refine Ak ?_
  obtain ⟨ju, jv⟩ := A0 jt
  refine Br (fun eh e1 F1 L1 => ∃ (k : Int), EI 0 (l.length : Int) k eh ∧ ∃ (bw : List Int) (aw : LH), Fy eh k bw = some out ∧ F = F1 ∧ L1 = ((Jn, ce #[.slice a5 n8 n8] 33) :: (aw ++ [])) ∧ e1.sub [(0, .pointer (some ⟨GZ, 0, none⟩)), (1, .int .i64 E4), (5, .pointer (some ⟨Jn, 0, none⟩)), (19, .int .i64 (l.length : Int)), (20, .int .i64 k)] ∧ Bd K.w0.heap.size 3 1 (iE .i64) F1 a5 n8 n8 bw aw) _ (m0 kr ⟨_, EI.start _ _, l, jr, jv, rfl, rfl, z5, iv⟩) ?_
  rintro eh e1 _ _ ⟨k, bx, bw, aw, ei, rfl, rfl, eu, bb⟩
  refine AB _ eu (AJ (uv (Bp rfl rfl) ?_))
  refine Aa (Aq ?_)
  refine cQ (fun ej => ?_) fun ej => ?_
  ·obtain ⟨eh, rfl, ew⟩ := EI.succ bx ej
   rw [Fy] at ei
   refine Al (Aq ?_)
   refine Ak ?_
   refine AJ (um (ua (Aa (Af ?_))))
   refine uv (Ah isAgg33 rfl (Has.own 0 rfl) rfl) (um ?_)
   obtain ⟨x, ey, ez, jw⟩ := BY ei
   obtain ⟨mx, my, mz, jx, ct, jz, iy, rfl, k7, k8⟩ := Bd.at (Ac _) bb (L := (Jn, ce #[.slice a5 n8 n8] 33) :: (aw ++ [])) (fC fP) ey.1 ez
   refine uv (AT underlying33 sizeOf3 rfl ct rfl (Bd.idx bb ey)) ?_
   obtain ⟨fa, k9, kb⟩ := C3 jw
   refine G5 (u := -1) sizeOf3 (Ac _) rfl ct rfl rfl (fun _ => .c .h) bb k9 ey ?_; intro fb fe
   refine Aa (At (id := 1) (Af ?_))
   refine uv (Bf rfl rfl (EI.Ed bx ej ju)) ?_
   refine um (Aa ?_)
   exact le kr ⟨_, ew, fa, fb, kb, rfl, rfl, z5, fe⟩
  obtain rfl := EI.zero bx ej
  rw [Fy] at ei
  refine AW (Ae (Ae ?_))
  refine Au ?_
  obtain rfl := AH ei
  exact mi kr ⟨aw, rfl, rfl, z3, bb⟩
 rintro e1 _ _ ⟨ba, rfl, rfl, ff, bz⟩
 refine AB _ ff (AJ (uv (Ah isAgg33 rfl (Has.own 0 rfl) rfl) (um ?_)))
 obtain ⟨x2, fg, fh, kh⟩ := BY iw
 obtain ⟨na, nc, nf, kj, cu, kl, iz, rfl, km, ko⟩ := Bd.at (Ac _) bz (L := (Jn, ce #[.slice a5 n8 n8] 33) :: (ba ++ [])) (fC fP) fg.1 fh
 refine uv (AT underlying33 sizeOf3 rfl cu rfl (Bd.idx bz fg)) ?_
 obtain ⟨fi, kt, ku⟩ := C3 kh
 refine G5 (u := 0) sizeOf3 (Ac _) rfl cu rfl rfl (fun _ => .c .h) bz kt fg ?_; intro ca fj
 refine BU (um ?_)
 refine bA (cs := #[.int .i64 E4]) Ct [.int .i64 E4] ?_; intro eo fk
 refine Bw rfl zeroValue33 ?_; intro au kv
 have cv : Bd K.w0.heap.size 3 1 (iE .i64) F (some ⟨eo, 0, none⟩) 1 1 [E4] [(eo, ce #[.int .i64 E4] 3)] := Bd.BW (vss := [[.int .i64 E4]]) (Ac _) fk (.cons rfl .nil) rfl rfl (by simp [maxLen])
 generalize cb : ([(eo, ce #[.int .i64 E4] 3)] : LH) = Lb61 at cv
 refine B2 (L' := Lb61 ++ ((au, ce #[.slice none 0 0] 33) :: ((Jn, ce #[.slice a5 n8 n8] 33) :: (ca ++ [])))) (by rw [← cb]; exact (fC fO)) ?_
 refine B2 (L' := (au, ce #[.slice none 0 0] 33) :: ((Jn, ce #[.slice a5 n8 n8] 33) :: (Lb61 ++ (ca ++ [])))) (List.Perm.symm (fC (fC fP))) (B4 (i := 0) sizeOf33 rfl rfl rfl rfl (CB rfl) (AI rfl (Aa ?_)))
 obtain ⟨cc, kz, j0⟩ := AF ku
 refine A5 (fun e1 F1 L1 => ∃ (cd : LH), A4 F F1 ∧ L1 = ((Jn, ce #[.slice a5 n8 n8] 33) :: (cd ++ [])) ∧ e1.sub [(5, .pointer (some ⟨Jn, 0, none⟩))] ∧ Bd K.w0.heap.size 3 1 (iE .i64) F1 a5 n8 n8 cc cd) ?_ ?_
 ·clear j0
  refine Ak ?_
  refine Br (fun cw e1 F1 L1 => ∃ (bc : List Int) (line : List Int) (av : LH) (ep : Option Addr) (er : Nat) (et : Nat) (bd : LH), EK wide BA down Cy EE cw bc line = some cc ∧ A4 F F1 ∧ L1 = ((au, ce #[.slice ep er et] 33) :: ((Jn, ce #[.slice a5 n8 n8] 33) :: (av ++ (bd ++ [])))) ∧ e1.sub [(0, .pointer (some ⟨GZ, 0, none⟩)), (5, .pointer (some ⟨Jn, 0, none⟩)), (7, .pointer (some ⟨au, 0, none⟩))] ∧ Bd K.w0.heap.size 3 1 (iE .i64) F1 a5 n8 n8 bc av ∧ Bd K.w0.heap.size 3 1 (iE .i64) F1 ep er et line bd) FU (m0 (kc (kc (kg (fS fP) kr))) ⟨fi, [E4], ca, (some ⟨eo, 0, none⟩), 1, 1, Lb61, kz, A4.refl _, rfl, z3, fj, cv⟩) ?_
  rintro cw e1 ng _ ⟨bc, line, av, ep, er, et, bd, cx, bg, rfl, fl, bj, bk⟩
  refine AB _ fl ?_
  replace al := al.mono (Ac _) bg
  replace az := bg _ _ az
  rcases cw with _ | cw
  ·rw [EK] at cx; cases cx
  rw [EK] at cx
  refine Aq (AJ ?_)
  refine uv (Ah isAgg33 rfl (Has.own 0 rfl) rfl) (uv ((A2 underlying33 rfl).i (Bd.KW bk)) (uv (Jy rfl rfl) (Aa ?_)))
  refine cQ (fun fm => ?_) fun fm => ?_
  ·have l0 := Bi cx fm
   refine Al (Ak (AJ (uv (Ah isAgg33 rfl (Has.own 0 rfl) rfl) ?_)))
   obtain ⟨x3, j1, fp, ld⟩ := BY l0
   obtain ⟨nh, ni, nj, lg, fq, ft, j2, rfl, lh, fv⟩ := Bd.at (Ac _) bk (L := (au, ce #[.slice ep er et] 33) :: ((Jn, ce #[.slice a5 n8 n8] 33) :: (av ++ (bd ++ [])))) (fC (fC (fS fP))) j1.1 fp
   refine uv (AT underlying33 sizeOf3 rfl fq rfl (Bd.idx bk j1)) (uv (Ah isAgg3 rfl ft (fv 0 (by decide))) ?_)
   refine Bw rfl zeroValue3 ?_; intro ay lj
   refine B4 (i := 0) sizeOf3 rfl rfl rfl rfl (CB rfl) (AI rfl (BU (uv (Ah isAgg33 rfl (Has.own 1 rfl) rfl) ?_)))
   obtain ⟨lk, lq⟩ := A0 ld
   obtain ⟨bn, lr, fw⟩ := C3 lq
   refine VL (l := 1) (h := (line.length : Int)) (zs := bn) rfl Ct (Ac _) rfl (.inr ⟨_, rfl, rfl⟩) (.inl ⟨rfl, rfl⟩) (fun _ => .c (.c (.c (.s .h)))) bk lk lr ?_; intro fx fy g0 cy cf
   refine B4 (i := 1) sizeOf33 rfl rfl rfl rfl (CB rfl) (AI rfl ?_)
   refine BU (um ?_)
   refine uv (Ah isAgg3 rfl (Has.own 0 rfl) rfl) ?_
   obtain ⟨y, ga, gb⟩ := AF fw
   refine c0 call178 (OL az al ga) ?_; rintro _ lu _ ax j3 ⟨j4, rfl, rfl, cg⟩
   replace bj := bj.mono (Ac _) ax
   replace cf := cf.mono (Ac _) ax
   refine AI (ln rfl) (Aa (Ak ?_))
   refine GF (encs := (fun x : Int × Int => #[.int .i64 x.1, .int .i64 x.2])) (xs := y) rfl call223 rfl (fun _ => rfl) cg (fun pre F1 L1 => ∃ (tl : List (Int × Int)) (ao : List Int) (af : List Int) (ab : LH) (ah : Option Addr) (ai : Nat) (aj : Nat) (ae : LH), y = pre ++ tl ∧ EL x3 (EK wide BA down Cy EE cw) tl ao af = some cc ∧ L1 = ((ay, ce #[.int .i64 x3] 3) :: ((au, ce #[.slice ah ai aj] 33) :: ((Jn, ce #[.slice a5 n8 n8] 33) :: (ab ++ (ae ++ []))))) ∧ Bd K.w0.heap.size 3 1 (iE .i64) F1 a5 n8 n8 ao ab ∧ Bd K.w0.heap.size 3 1 (iE .i64) F1 ah ai aj af ae) (fun _ _ _ => False) ?_ ?_ ?_ ?_ ?_ ?_
   ·rintro pre F1 F2 L1 ⟨tl, ao, af, ab, ah, ai, aj, ae, aq, gg, rfl, ad, ak⟩ hx; exact ⟨tl, ao, af, ab, ah, ai, aj, ae, aq, gg, rfl, ad.mono (Ac _) hx, ak.mono (Ac _) hx⟩
   ·intro c F1 F2 L1 h hx; exact h
   ·exact ⟨_, bc, bn, av, fx, fy, g0, cy, rfl, gb, rfl, bj, cf⟩
   ·rintro lv j5 j6 j7 j8 j9 cj ja pre x4 nk ar lx _ jb ⟨tl, ao, af, ab, ah, ai, aj, ae, aq, cz, rfl, ad, ak⟩
    obtain rfl := JP aq ar
    rw [EL] at cz
    refine AB [(0, .pointer (some ⟨GZ, 0, none⟩)), (5, .pointer (some ⟨Jn, 0, none⟩)), (7, .pointer (some ⟨au, 0, none⟩)), (8, .pointer (some ⟨ay, 0, none⟩)), (43, .int .i64 x4.1), (44, .int .i64 x4.2)] (by exact z6) ?_
    refine AJ (ua (Aa (Af (ua (Aa ?_)))))
    refine ⟨rfl, ?_⟩
    refine Ak ?_
    obtain ⟨k2, gh, ck⟩ := AF cz
    refine jE (((ay, ce #[.int .i64 x3] 3) :: ((au, ce #[.slice ah ai aj] 33) :: ((Jn, ce #[.slice a5 n8 n8] 33) :: (ab ++ (ae ++ [])))))) [(0, .pointer (some ⟨GZ, 0, none⟩)), (5, .pointer (some ⟨Jn, 0, none⟩)), (7, .pointer (some ⟨au, 0, none⟩)), (8, .pointer (some ⟨ay, 0, none⟩)), (9, .int .i64 x4.1), (10, .int .i64 x4.2), (43, .int .i64 x4.1), (44, .int .i64 x4.2), (62, .bool k2)] ?_ ?_
    ·clear ck
     refine Mr (by kernel_rfl) (by kernel_rfl) (by kernel_rfl) (wv (Ah isAgg33 rfl (Has.own 2 rfl) rfl) (wm ?_))
     obtain ⟨x5, bl, bo, da⟩ := BY gh
     obtain ⟨ly, ma, mb, jc, db, dd, gi, rfl, jd, de⟩ := Bd.at (Ac _) ad (L := (ay, ce #[.int .i64 x3] 3) :: ((au, ce #[.slice ah ai aj] 33) :: ((Jn, ce #[.slice a5 n8 n8] 33) :: (ab ++ (ae ++ []))))) (fC (fC (fC fP))) bl.1 bo
     refine wv (AT underlying33 sizeOf3 rfl db rfl (Bd.idx ad bl)) (wv (Ah isAgg3 rfl dd (de 0 (by decide))) (wv (Cx rfl rfl) (wm ?_)))
     by_cases aa : x5 = (-1)
     ·have gj := Bi da aa
      refine A3 (b' := true) 50 rfl (Env.FL rfl aa) rfl rfl (A3 (b' := true) 50 rfl (Env.FL rfl aa) rfl rfl (A3 (b' := true) 50 rfl (Env.FL rfl aa) rfl rfl (A3 (b' := true) 50 rfl (Env.FL rfl aa) rfl rfl (A3 (b' := true) 50 rfl (Env.FL rfl aa) rfl rfl (A3 (b' := true) 50 rfl (Env.FL rfl aa) rfl rfl (A3 (b' := true) 50 rfl (Env.FL rfl aa) rfl rfl (A3 (b' := true) 50 rfl (Env.FL rfl aa) rfl rfl (A3 (b' := true) 50 rfl (Env.FL rfl aa) rfl rfl (A3 (b' := true) 50 rfl (Env.FL rfl aa) rfl rfl ?_)))))))))
      refine A3 (b' := true) 50 rfl (Env.FL rfl aa) rfl rfl (wv (AS (Bq rfl aa) rfl) (CX ?_))
      obtain rfl := AH gj
      exact mi kr ⟨rfl, rfl, (sc rfl z8)⟩
     have gk := Bk da aa
     refine Bj (b := false) 50 rfl (Env.FM rfl aa) (wv (Ah isAgg33 rfl (Has.own 2 rfl) rfl) (Bj (b := false) 50 rfl (Env.FM rfl aa) (wv (Ah isAgg3 rfl (Has.own 0 rfl) rfl) (Bj (b := false) 50 rfl (Env.FM rfl aa) ?_))))
     obtain ⟨x6, df, dg, gl⟩ := BY gk
     obtain ⟨mc, me, mg, je, dh, di, gm, rfl, jf, dk⟩ := Bd.at (Ac _) ad (L := (ay, ce #[.int .i64 x3] 3) :: ((au, ce #[.slice ah ai aj] 33) :: ((Jn, ce #[.slice a5 n8 n8] 33) :: (ab ++ (ae ++ []))))) (fC (fC (fC fP))) df.1 dg
     refine wv (AT underlying33 sizeOf3 rfl dh rfl (Bd.idx ad df)) (Bj (b := false) 50 rfl (Env.FM rfl aa) (wv (Ah isAgg3 rfl di (dk 0 (by decide))) ?_))
     refine Bj (b := false) 50 rfl (Env.FM rfl aa) (wm (Bj (b := false) 50 rfl (Env.FM rfl aa) ?_))
     obtain ⟨gn, gp⟩ := A0 gl
     refine wv (Bf rfl rfl gn) (Bj (b := false) 50 rfl (Env.FM rfl aa) (wv (Ah isAgg33 rfl (Has.own 2 rfl) rfl) ?_))
     refine Bj (b := false) 50 rfl (Env.FM rfl aa) (wm (Bj (b := false) 50 rfl (Env.FM rfl aa) ?_))
     obtain ⟨mh, mj, ml, jg, dm, dn, gq, rfl, jh, dp⟩ := Bd.at (Ac _) ad (L := (ay, ce #[.int .i64 x3] 3) :: ((au, ce #[.slice ah ai aj] 33) :: ((Jn, ce #[.slice a5 n8 n8] 33) :: (ab ++ (ae ++ []))))) (fC (fC (fC fP))) bl.1 bo
     refine wv (AT underlying33 sizeOf3 rfl dm rfl (Bd.idx ad bl)) (Bj (b := false) 50 rfl (Env.FM rfl aa) (wv (Ah isAgg3 rfl dn (dp 0 (by decide))) (Bj (b := false) 50 rfl (Env.FM rfl aa) (wv (Bp rfl rfl) (wv (AE (Bc rfl aa) rfl) (CX ?_))))))
     obtain rfl := AH gp
     exact mi kr ⟨rfl, rfl, (sc rfl z8)⟩
    refine AX rfl (fun cn => ?_) (fun cn => ?_)
    ·have gr := bt ck cn
     refine Aq (CM [(.still, 0), (.still, 1), (.still, 2), (.still, 3), (.still, 4), (.still, 5), (.still, 6), (.still, 7), (.still, 8), (.seq, 9)] (by kernel_rfl) (by kernel_rfl) (trivial) (by rfl) (by kernel_rfl) (mL [5] ([(Jn, ce #[.slice a5 n8 n8] 33)]) rfl (s0 (s1 (s1 (s2 (s3 (s3 sr)))))) (fun H F' L' cp cq => Ah isAgg33 rfl ((Has.own 0 rfl).ext cp cq) rfl) (mS [9] rfl (BF rfl) (mL [5] ([(Jn, ce #[.slice a5 n8 n8] 33)]) rfl (s0 (s1 (s1 (s2 (s3 (s3 sr)))))) (fun H F' L' cp cq => Ah isAgg33 rfl ((Has.own 0 rfl).ext cp cq) rfl) (mL [8] ([(ay, ce #[.int .i64 x3] 3)]) rfl (s0 (s2 (s1 (s1 (s3 (s3 sr)))))) (fun H F' L' cp cq => Ah isAgg3 rfl ((Has.own 0 rfl).ext cp cq) rfl) ?_)))))
     obtain ⟨x7, dq, dr, gu⟩ := BY gr
     obtain ⟨mn, mo, mq, ji, dt, du, gv, rfl, jj, dv⟩ := Bd.at (Ac _) ad (L := ab ++ []) fP dq.1 dr
     refine mS [65, 66] rfl (AT underlying33 sizeOf3 rfl dt rfl (Bd.idx ad dq)) (mL [67] (ab ++ []) rfl (s0 (s1 (s1 (s1 (s4 (s3 sr)))))) (fun H F' L' cp cq => Ah isAgg3 rfl (du.ext cp cq) (dv 0 (by decide))) (mS [10] rfl (BF rfl) ?_))
     obtain ⟨gw, gz⟩ := A0 gu
     refine mS (v := .int .i64 (x7 + x4.2)) [68, 69] rfl (Bf rfl rfl gw) ?_
     obtain ⟨x8, cr, dw, ia⟩ := BY gz
     obtain ⟨ib, ic, mr, jk, bp, jl, ie, rfl, jm, jn⟩ := Bd.at (Ac _) ad (L := ab ++ []) fP cr.1 dw
     refine mS [63, 64] rfl (AT underlying33 sizeOf3 rfl bp rfl (Bd.idx ad cr)) ?_
     refine ⟨_, [(70, .int .i64 (x7 + x4.2)), (71, .pointer (some ⟨ib, ic + (x4.1 : Int).toNat * 1, none⟩))], rfl, rfl, z2, by kernel_rfl, ?_⟩; intro H
     obtain ⟨l2, ig, ij⟩ := C3 ia
     refine G5 (u := x7 + x4.2) sizeOf3 (Ac _) rfl bp rfl rfl (fun _ => .c (.c (.c .h))) ad ig cr ?_; intro bq dx
     refine Aa ⟨undef, rfl, A4.refl _, [], by kernel_rfl, .inl (.inl rfl), nm, ?_⟩
     refine D1 (Af (uv (Ah isAgg33 rfl (Has.own 1 rfl) rfl) (um ?_)))
     refine bA (cs := #[.int .i64 x4.1]) Ct [.int .i64 x4.1] ?_; intro mu jo
     obtain ⟨br, ik, il, im⟩ := Gp ij
     refine Ey (xs := af) (ys := [x4.1]) (zs := br) rfl Ct rfl rfl cj (fun _ => .c (.c (.c (.c (.s .h))))) ak (GJ.box (vss := [[.int .i64 x4.1]]) (ys := [x4.1]) 0 rfl (Ac _) (.cons rfl .nil) rfl rfl) ik il (by decide) ?_; intro dy dz e9 bu eb
     refine kO (kd kr) (B4 (i := 1) sizeOf33 rfl rfl rfl rfl (CB rfl) (AI rfl ?_))
     refine Aa (At (id := 5) ?_)
     refine ⟨(ay, ce #[.int .i64 x3] 3) :: ((au, ce #[.slice dy dz e9] 33) :: ((Jn, ce #[.slice a5 n8 n8] 33) :: (bq ++ (bu ++ [])))), ⟨_, .refl _, sr⟩, ?_⟩; exact ⟨_, l2, br, bq, dy, dz, e9, bu, (by rw [ar]; simp), im, rfl, dx, eb⟩
    have iq := bf ck cn
    refine Al (At (id := 5) ?_)
    refine ⟨(ay, ce #[.int .i64 x3] 3) :: ((au, ce #[.slice ah ai aj] 33) :: ((Jn, ce #[.slice a5 n8 n8] 33) :: (ab ++ (ae ++ [])))), ⟨_, .refl _, sr⟩, ?_⟩; exact ⟨_, ao, af, ab, ah, ai, aj, ae, (by rw [ar]; simp), iq, rfl, ad, ak⟩
   ·rintro mv _ ec ⟨tl, ao, af, ab, ah, ai, aj, ae, aq, ef, rfl, ad, ak⟩
    obtain rfl := Lk aq; rw [EL] at ef
    refine At (id := 4) (At (id := 3) ?_)
    exact le (kd kr) ⟨ao, af, ab, ah, ai, aj, ae, ef, ((bg.trans ax).trans ec), rfl, z3, ad, ak⟩
   intro c F1 L1 hx h; exact h.elim
  have ir := Bk cx fm
  refine AW (Ae (Ae ?_))
  refine Au ?_
  obtain rfl := AH ir
  exact mi (kd (kc (ka kn))) ⟨av, bg, rfl, z1, bj⟩
 rintro e1 mw _ ⟨cd, jq, rfl, eg, iu⟩
 refine AB _ eg (AJ (uv (Ah isAgg33 rfl (Has.own 0 rfl) rfl) ?_))
 refine ua (Aa ?_)
 refine kW (kd kr) (Aj (BZ results117 ?_))
 obtain rfl := AH j0
 exact ⟨_, _, _, _, rfl, rfl, iu.any⟩
theorem R6 (aa : As 1 (iE .i64) F CC CD BA) {r : List Int} {r2 : Int} (hr : Nw wide BA Dy E4 = some (r, r2)) :
    SH.Spec Tryz.prog 41 #[.agg #[.int .i64 wide, .slice CC BA.length CD], .int .i64 Dy, .int .i64 E4] F [] fun F' L' v => ∃ (ra : Option Addr) (rn : Nat) (rc : Nat) (rL : LH), v = .tuple #[.slice ra rn rc, .int .i64 r2] ∧ L' = rL ++ [] ∧ Bd 0 3 1 (iE .i64) F' ra rn rc r rL := by
 refine sp func41 ntmps41 fun K _ _ => ?_
 rw [Nw] at hr
 refine AJ ?_
 refine BJ rfl rfl ?_; intro b1 bg
 refine ua (ua (BU ?_))
 refine uv (A1 isAgg27 sizeOf27 rfl (Has.own 0 rfl) (CB rfl) rfl) ?_
 refine um (um ?_)
 obtain ⟨d, n, h2, r3⟩ := DM hr
 refine c0 call116 (PC aa h2) ?_; rintro _ F4 _ bj bk ⟨v8, rfl, rfl, al⟩
 refine AI (ln rfl) ?_
 refine um (ox rfl rfl rfl (ox rfl rfl rfl (ua (ua (Aa (Aq (AJ (um ?_))))))))
 refine uv (CI rfl rfl) (Aa ?_)
 refine cQ (fun ah => ?_) fun ah => ?_
 ·have ao := Bi r3 ah
  refine AJ (um (ua (ua (Aa ?_))))
  refine kW kn ?_
  refine Aj (Ai ?_)
  refine Dv results41 (AY rfl) (AY rfl) (sr) ?_
  obtain ⟨rfl, rfl⟩ := DO ao
  exact ⟨_, _, _, [], rfl, rfl, Bd.nil _ _ _ _ _⟩
 have aq := Bk r3 ah
 refine Al (AJ (um (um ?_)))
 obtain ⟨af, ab, down, Cy, EE, ar, au⟩ := Rq aq
 have ak := al; rw [ar] at ak; obtain ⟨av, bl, aw, ai, ad, ⟨_, _, rfl, rfl, ⟨_, _, rfl, ⟨ax, ay, rfl, az⟩, ⟨_, _, rfl, rfl, ⟨_, _, rfl, rfl, rfl⟩⟩⟩⟩⟩ := ak; subst ai
 have ad : F4 av = some (.cells #[.int .i64 af, .slice ax ab.length ay, .int .i64 down, .int .i64 Cy, .bool EE] 323 aw) := ad
 obtain ⟨l, ba, bb⟩ := AF au
 refine c0 call117 (OS ad az ba) ?_; rintro _ bn _ bc aj ⟨bo, bp, bq, bd, rfl, rfl, ae⟩
 replace ae := ae.new fun p hp => aj p (by simp [hp])
 refine AI (lp (ln rfl)) (kO (kf (fS fO) kr) ?_)
 refine ua (ua (Aa ?_))
 refine kW (kd kr) (Aj (Dv results41 (AY rfl) (AY rfl) (sr) ?_))
 obtain ⟨rfl, rfl⟩ := DO bb
 exact ⟨_, _, _, _, rfl, rfl, ae.any⟩
set_option maxHeartbeats 1000000 in
theorem Ox {Io : Option Addr} {Im : Nat} {rows : List (List Int)} (ak : As 1 sE F Io Im rows) {r : Int} {r2 : List Int} (hr : Jr rows = some (r, r2)) :
    SH.Spec Tryz.prog 42 #[.slice Io rows.length Im] F [] fun F' L' v => ∃ (cp : Option Addr) (cq : Nat) (cr : Nat) (ct : LH), v = .agg #[.int .i64 r, .slice cp cq cr] ∧ L' = ct ++ [] ∧ Bd 0 34 1 (iE .i64) F' cp cq cr r2 ct := by
 refine sp func42 ntmps42 fun K _ _ => ?_
 rw [Jr] at hr
 refine AJ ?_
 refine Bw rfl zeroValue27 ?_; intro b1 eh
 refine BU ?_
 refine Bw rfl zeroValue27 ?_; intro b2 ei
 refine Aa ?_
 obtain ⟨af, ah, h9, cu⟩ := DM hr
 refine A5 (fun e1 F1 L1 => ∃ (a3 : Option Addr) (n7 : Nat) (c4 : Nat) (bn : LH), F = F1 ∧ L1 = ((b2, ce #[.int .i64 af, .slice a3 n7 c4] 27) :: ((b1, ce #[.int .i64 0, .slice none 0 0] 27) :: (bn ++ []))) ∧ e1.sub [(2, .pointer (some ⟨b1, 0, none⟩)), (3, .pointer (some ⟨b2, 0, none⟩))] ∧ Bd K.w0.heap.size 34 1 (iE .i64) F1 a3 n7 c4 ah bn) ?_ ?_
 ·clear cu
  refine AJ (um ?_)
  refine uv (A2 underlying256 rfl) ?_
  refine um (Aa ?_)
  refine Ak ?_
  refine Br (fun cv e1 F1 L1 => LA rows cv fun tl k => ∃ (ad : Int) (aa : List Int) (aq : Option Addr) (ar : Nat) (au : Nat) (ai : LH), Fm tl ad aa = some (af, ah) ∧ F = F1 ∧ L1 = ((b2, ce #[.int .i64 ad, .slice aq ar au] 27) :: ((b1, ce #[.int .i64 0, .slice none 0 0] 27) :: (ai ++ []))) ∧ e1.sub [(2, .pointer (some ⟨b1, 0, none⟩)), (3, .pointer (some ⟨b2, 0, none⟩)), (9, .slice Io rows.length Im), (10, .int .i64 (rows.length : Int)), (11, .int .i64 k)] ∧ Bd K.w0.heap.size 34 1 (iE .i64) F1 aq ar au aa ai) _ (m0 (kc (kc (ke kr))) ⟨_, _, rfl, BI.start _, 0, [], none, 0, 0, [], h9, rfl, rfl, z5, Bd.nil _ _ _ _ _⟩) ?_
  rintro cv e1 _ _ ⟨tl, k, bo, ao, ad, aa, aq, ar, au, ai, bc, rfl, rfl, bp, az⟩
  refine AB _ bp (AJ (uv (Bp rfl rfl) ?_))
  refine Aa (Aq ?_)
  refine cQ (fun bd => ?_) fun bd => ?_
  ·obtain ⟨x, ej, rfl, bq, cw, br⟩ := BI.succ ao bd
   rw [Fm] at bc
   refine Al ?_
   obtain ⟨ae, dg, cx⟩ := AF bc
   refine A5 (fun e1 F1 L1 => ∃ (bg : Option Addr) (bj : Nat) (bk : Nat) (al : LH), F = F1 ∧ L1 = ((b2, ce #[.int .i64 (x.length : Int), .slice bg bj bk] 27) :: ((b1, ce #[.int .i64 0, .slice none 0 0] 27) :: (al ++ []))) ∧ e1.sub [(2, .pointer (some ⟨b1, 0, none⟩)), (3, .pointer (some ⟨b2, 0, none⟩)), (9, .slice Io rows.length Im), (10, .int .i64 (rows.length : Int)), (11, .int .i64 k)] ∧ Bd K.w0.heap.size 34 1 (iE .i64) F1 bg bj bk ae al) ?_ ?_
   ·clear cx
    refine Ak (AJ ?_)
    obtain ⟨eo, ep, er, dh, bu, bw, cy, rfl, di, bx⟩ := As.at WG ak ((b2, ce #[.int .i64 ad, .slice aq ar au] 27) :: ((b1, ce #[.int .i64 0, .slice none 0 0] 27) :: (ai ++ []))) cw.1 bq
    refine uv (AT underlying256 sizeOf9 rfl bu rfl cw) (uv (Ah isAgg9 rfl bw (bx 0 (by decide))) ?_)
    refine ua (BU (um ?_))
    refine uv (Vu underlying9 rfl) (uv (Ab MQ rfl) (B4 (i := 0) sizeOf3 rfl rfl rfl rfl (CB rfl) (AI rfl ?_)))
    refine BU (um ?_)
    refine Tq (s := x) rfl underlying9 rfl ?_; intro av dk
    refine Aa (Ak ?_)
    refine Br (fun bl e1 F1 L1 => ∃ (ab : List Int) (pos : Nat) (aw : Option Addr) (ax : Nat) (ay : Nat) (aj : LH), Fg x bl ab pos = some ae ∧ F = F1 ∧ L1 = ((av, .stringIter (sB x) pos) :: ((b2, ce #[.int .i64 (x.length : Int), .slice aw ax ay] 27) :: ((b1, ce #[.int .i64 0, .slice none 0 0] 27) :: (aj ++ [])))) ∧ e1.sub [(2, .pointer (some ⟨b1, 0, none⟩)), (3, .pointer (some ⟨b2, 0, none⟩)), (9, .slice Io rows.length Im), (10, .int .i64 (rows.length : Int)), (11, .int .i64 k), (19, .pointer (some ⟨av, 0, none⟩))] ∧ Bd K.w0.heap.size 34 1 (iE .i64) F1 aw ax ay ab aj) FU (m0 kr ⟨aa, 0, aq, ar, au, ai, dg, rfl, rfl, z6, az⟩) ?_
    rintro bl e1 _ _ ⟨ab, pos, aw, ax, ay, aj, ba, rfl, rfl, bz, bb⟩
    refine AB _ bz ?_
    rcases bl with _ | bl
    ·rw [Fg] at ba; cases ba
    rw [Fg] at ba
    refine AJ ?_
    by_cases ca : pos < x.length
    ·have dm := Bi ba ca
     obtain ⟨c, et, cb, dn⟩ := BY dm
     obtain ⟨dp, dq⟩ := A0 dn
     refine Ux (i := 0) (c := c) rfl rfl rfl (by simpa using cb) dp (AI rfl ?_)
     refine ox rfl rfl rfl (Aa (Aq ?_))
     refine AX rfl (fun cz => ?_) (fun cz => nomatch cz)
     refine Al (Ak ?_)
     refine AJ (ox rfl rfl rfl (ua (BU (ua (Aa ?_)))))
     obtain ⟨p, da, db⟩ := AF dq
     refine jE (((av, .stringIter (sB x) (pos + 1)) :: ((b2, ce #[.int .i64 (x.length : Int), .slice aw ax ay] 27) :: ((b1, ce #[.int .i64 0, .slice none 0 0] 27) :: (aj ++ []))))) [(2, .pointer (some ⟨b1, 0, none⟩)), (3, .pointer (some ⟨b2, 0, none⟩)), (7, .int .i32 c), (8, .int .i64 p), (9, .slice Io rows.length Im), (10, .int .i64 (rows.length : Int)), (11, .int .i64 k), (19, .pointer (some ⟨av, 0, none⟩))] ?_ ?_
     ·clear db
      refine AJ (um ?_)
      refine uv (Cx rfl rfl) (Aa ?_)
      refine cQ (fun cc => ?_) fun cc => ?_
      ·have dr := Bi da cc
       refine Af (ua (Aa ?_))
       obtain rfl := AH dr
       exact mi kr ⟨rfl, rfl, z8⟩
      have dt := Bk da cc
      refine Al ?_
      obtain rfl := AH dt
      exact mi kr ⟨rfl, rfl, z8⟩
     obtain ⟨p2, dd, de⟩ := AF db
     refine jE (((av, .stringIter (sB x) (pos + 1)) :: ((b2, ce #[.int .i64 (x.length : Int), .slice aw ax ay] 27) :: ((b1, ce #[.int .i64 0, .slice none 0 0] 27) :: (aj ++ []))))) [(2, .pointer (some ⟨b1, 0, none⟩)), (3, .pointer (some ⟨b2, 0, none⟩)), (8, .int .i64 p2), (9, .slice Io rows.length Im), (10, .int .i64 (rows.length : Int)), (11, .int .i64 k), (19, .pointer (some ⟨av, 0, none⟩))] ?_ ?_
     ·clear de
      refine AJ (um ?_)
      refine uv (Cx rfl rfl) (Aa ?_)
      refine cQ (fun cd => ?_) fun cd => ?_
      ·have du := Bi dd cd
       refine Af (ua (Aa ?_))
       obtain rfl := AH du
       exact mi kr ⟨rfl, rfl, z7⟩
      have dv := Bk dd cd
      refine Al ?_
      obtain rfl := AH dv
      exact mi kr ⟨rfl, rfl, z7⟩
     refine Af (uv (Ab Iz rfl) (uv (Ah isAgg25 rfl (Has.own 1 rfl) rfl) (um ?_)))
     refine bA (cs := #[.int .i64 p2]) Vb [.int .i64 p2] ?_; intro eu dw
     obtain ⟨t, dx, dy, dz⟩ := Gp de
     refine Ey (xs := ab) (ys := [p2]) (zs := t) rfl Vb rfl rfl (Nat.le_refl _) (fun _ => .c (.c (.c (.c .h)))) bb (GJ.box (vss := [[.int .i64 p2]]) (ys := [p2]) 0 rfl (Ac _) (.cons rfl .nil) rfl rfl) dx dy (by decide) ?_; intro e9 eb ec cf cg
     refine kO (kd kr) (uv (Ab Iz rfl) (B4 (i := 1) sizeOf25 rfl rfl rfl rfl (CB rfl) (AI rfl ?_)))
     refine Aa (At (id := 3) ?_)
     exact le kr ⟨t, pos + 1, e9, eb, ec, cf, dz, rfl, rfl, z6, cg⟩
    have ef := Bk ba ca
    refine Te (i := 0) (s := x) rfl rfl rfl ca ?_
    refine ox rfl rfl rfl (Aa (Aq ?_))
    refine AX rfl (fun df => nomatch df) (fun df => ?_)
    refine AW (Ae (Ae ?_))
    refine Au (At (id := 1) ?_)
    obtain rfl := AH ef
    exact mi (kd kr) ⟨aw, ax, ay, aj, rfl, rfl, z5, bb⟩
   rintro e1 _ _ ⟨bg, bj, bk, al, rfl, rfl, cj, ck⟩
   refine AB _ cj (Af (uv (Bf rfl rfl (BI.Ed ao bd (As.lt ak))) ?_))
   refine um (Aa ?_)
   subst bo; exact le kr ⟨_, _, rfl, br, (x.length : Int), ae, bg, bj, bk, al, cx, rfl, rfl, z5, ck⟩
  obtain rfl := BI.zero ao bd
  rw [Fm] at bc
  refine AW (Ae (Ae ?_))
  refine Au ?_
  obtain ⟨rfl, rfl⟩ := DO bc
  exact mi kr ⟨aq, ar, au, ai, rfl, rfl, z2, az⟩
 rintro e1 _ _ ⟨a3, n7, c4, bn, rfl, rfl, cn, eg⟩
 refine AB _ cn (AJ (uv (A1 isAgg27 sizeOf27 rfl (Has.own 0 rfl) (CB rfl) rfl) (BP (i := 1) sizeOf27 rfl rfl rfl (by simp [Value.oneCell']) rfl (CB rfl) (AI rfl (Aa (kW (kd kr) (Aj ?_)))))))
 refine IH results42 (DI (cs := #[.int .i64 af, .slice a3 n7 c4]) isAgg27 sizeOf27 rfl (Has.own 0 rfl) (CB rfl) rfl) (s1 (s4 sr)) ?_
 obtain ⟨rfl, rfl⟩ := DO cu
 exact ⟨_, _, _, _, rfl, rfl, eg.any⟩
set_option maxHeartbeats 1000000 in
theorem Oi {r r2 : List (List Int)} {r3 r4 : Int} {r5 : List ((List Int) × Int × Int)} (hr : JD = some (r, r2, r3, r4, r5)) :
    SH.Spec Tryz.prog 43 #[] F [] fun F' L' v => ∃ (ra : Option Addr) (rn : Nat) (rc : Nat) (rL : LH) (bu : Option Addr) (bw : Nat) (bx : Nat) (bz : LH) (ca : Option Addr) (cb : Nat) (cc : Nat) (cd : LH), v = .agg #[.slice ra rn rc, .slice bu bw bx, .int .i64 r3, .int .i64 r4, .slice ca cb cc] ∧ L' = rL ++ (bz ++ (cd ++ [])) ∧ Bd 0 33 1 (BC 1 (iE .i64)) F' ra rn rc r rL ∧ Bd 0 33 1 (BC 1 (iE .i64)) F' bu bw bx r2 bz ∧ Bd 0 41 3 (Ce (BC 1 (iE .i64)) (Ce (iE .i64) (iE .i64))) F' ca cb cc r5 cd := by
 refine sp func43 ntmps43 fun K _ _ => ?_
 rw [JD] at hr
 refine AJ ?_
 refine Bw rfl zeroValue39 ?_; intro b1 dg
 refine BU ?_
 refine bA (cs := #[.int .i64 0, .int .i64 2, .int .i64 (-1)]) Ct [.int .i64 0, .int .i64 2, .int .i64 (-1)] ?_; intro b2 ck
 refine bA (cs := #[.int .i64 2, .int .i64 0, .int .i64 2]) Ct [.int .i64 2, .int .i64 0, .int .i64 2] ?_; intro b3 cn
 refine bA (cs := #[.int .i64 (-1), .int .i64 2, .int .i64 0]) Ct [.int .i64 (-1), .int .i64 2, .int .i64 0] ?_; intro b4 cp
 refine bA (cs := #[.slice (some ⟨b2, 0, none⟩) 3 3, .slice (some ⟨b3, 0, none⟩) 3 3, .slice (some ⟨b4, 0, none⟩) 3 3]) LF [.slice (some ⟨b2, 0, none⟩) 3 3, .slice (some ⟨b3, 0, none⟩) 3 3, .slice (some ⟨b4, 0, none⟩) 3 3] ?_; intro b5 cq
 refine bA (cs := #[.int .i64 0]) Ct [.int .i64 0] ?_; intro b6 cr
 refine bA (cs := #[.int .i64 1]) Ct [.int .i64 1] ?_; intro b7 ct
 refine bA (cs := #[.int .i64 1, .int .i64 2]) Ct [.int .i64 1, .int .i64 2] ?_; intro b8 cu
 refine bA (cs := #[.slice (some ⟨b6, 0, none⟩) 1 1, .slice (some ⟨b7, 0, none⟩) 1 1, .slice (some ⟨b8, 0, none⟩) 2 2]) LF [.slice (some ⟨b6, 0, none⟩) 1 1, .slice (some ⟨b7, 0, none⟩) 1 1, .slice (some ⟨b8, 0, none⟩) 2 2] ?_; intro b9 cv
 refine bA (cs := #[.int .i64 0, .int .i64 2]) Ct [.int .i64 0, .int .i64 2] ?_; intro Jn ax
 refine uv (BM (v := .agg #[.slice (some ⟨Jn, 0, none⟩) 2 2, .int .i64 3, .int .i64 12]) rfl (by intro w; kernel_rfl)) ?_
 refine bA (cs := #[.int .i64 1]) Ct [.int .i64 1] ?_; intro QT ay
 refine uv (BM (v := .agg #[.slice (some ⟨QT, 0, none⟩) 1 1, .int .i64 1, .int .i64 20]) rfl (by intro w; kernel_rfl)) ?_
 refine bA (cs := #[.slice (some ⟨Jn, 0, none⟩) 2 2, .int .i64 3, .int .i64 12, .slice (some ⟨QT, 0, none⟩) 1 1, .int .i64 1, .int .i64 20]) W4 [.agg #[.slice (some ⟨Jn, 0, none⟩) 2 2, .int .i64 3, .int .i64 12], .agg #[.slice (some ⟨QT, 0, none⟩) 1 1, .int .i64 1, .int .i64 20]] ?_; intro Ue az
 refine uv (BM (v := .agg #[.slice (some ⟨b5, 0, none⟩) 3 3, .slice (some ⟨b9, 0, none⟩) 3 3, .int .i64 3, .int .i64 0, .slice (some ⟨Ue, 0, none⟩) 2 2]) rfl (by intro w; kernel_rfl)) ?_
 refine Bz 10 rfl ck ?_; intro cw cx ba
 refine AI rfl ?_
 have al : As 1 (iE .i64) cw (some ⟨b2, 0, none⟩) 3 [0, 2, -1] := As.BW (Ac _) (vss := [[.int .i64 0], [.int .i64 2], [.int .i64 (-1)]]) (xs := [0, 2, -1]) ba (.cons rfl (.cons rfl (.cons rfl .nil))) rfl (by simp [maxLen])
 refine Bz 9 rfl cn ?_; intro cy bb bc
 refine AI rfl ?_
 replace al := al.mono (Ac _) bb
 have bd : As 1 (iE .i64) cy (some ⟨b3, 0, none⟩) 3 [2, 0, 2] := As.BW (Ac _) (vss := [[.int .i64 2], [.int .i64 0], [.int .i64 2]]) (xs := [2, 0, 2]) bc (.cons rfl (.cons rfl (.cons rfl .nil))) rfl (by simp [maxLen])
 refine Bz 8 rfl cp ?_; intro cf ao bg
 refine AI rfl ?_
 replace al := al.mono (Ac _) ao
 replace bd := bd.mono (Ac _) ao
 have cz : As 1 (iE .i64) cf (some ⟨b4, 0, none⟩) 3 [-1, 2, 0] := As.BW (Ac _) (vss := [[.int .i64 (-1)], [.int .i64 2], [.int .i64 0]]) (xs := [-1, 2, 0]) bg (.cons rfl (.cons rfl (.cons rfl .nil))) rfl (by simp [maxLen])
 have aa : Bd K.w0.heap.size 33 1 (BC 1 (iE .i64)) cf (some ⟨b5, 0, none⟩) 3 3 [[0, 2, -1], [2, 0, 2], [-1, 2, 0]] [(b5, ce (#[.slice (some ⟨b2, 0, none⟩) [0, 2, -1].length 3, .slice (some ⟨b3, 0, none⟩) [2, 0, 2].length 3, .slice (some ⟨b4, 0, none⟩) [-1, 2, 0].length 3]) 33)] := Bd.BW (vss := [[.slice (some ⟨b2, 0, none⟩) [0, 2, -1].length 3], [.slice (some ⟨b3, 0, none⟩) [2, 0, 2].length 3], [.slice (some ⟨b4, 0, none⟩) [-1, 2, 0].length 3]]) (Am (Ac _)) cq (.cons ⟨_, _, rfl, al⟩ (.cons ⟨_, _, rfl, bd⟩ (.cons ⟨_, _, rfl, cz⟩ .nil))) rfl rfl (by simp [maxLen])
 generalize af : ([(b5, ce (#[.slice (some ⟨b2, 0, none⟩) [0, 2, -1].length 3, .slice (some ⟨b3, 0, none⟩) [2, 0, 2].length 3, .slice (some ⟨b4, 0, none⟩) [-1, 2, 0].length 3]) 33)] : LH) = ab at aa
 refine B2 (L' := ab ++ [(Ue, ce #[.slice (some ⟨Jn, 0, none⟩) 2 2, .int .i64 3, .int .i64 12, .slice (some ⟨QT, 0, none⟩) 1 1, .int .i64 1, .int .i64 20] 41), (QT, ce #[.int .i64 1] 3), (Jn, ce #[.int .i64 0, .int .i64 2] 3), (b9, ce #[.slice (some ⟨b6, 0, none⟩) 1 1, .slice (some ⟨b7, 0, none⟩) 1 1, .slice (some ⟨b8, 0, none⟩) 2 2] 33), (b8, ce #[.int .i64 1, .int .i64 2] 3), (b7, ce #[.int .i64 1] 3), (b6, ce #[.int .i64 0] 3), (b1, ce #[.slice none 0 0, .slice none 0 0, .int .i64 0, .int .i64 0, .slice none 0 0] 39)]) (by rw [← af]; exact (fC (fC (fC (fC (fC (fC (fC fO)))))))) ?_
 refine B2 (L' := (Ue, ce #[.slice (some ⟨Jn, 0, none⟩) 2 2, .int .i64 3, .int .i64 12, .slice (some ⟨QT, 0, none⟩) 1 1, .int .i64 1, .int .i64 20] 41) :: ((QT, ce #[.int .i64 1] 3) :: ((Jn, ce #[.int .i64 0, .int .i64 2] 3) :: ((b9, ce #[.slice (some ⟨b6, 0, none⟩) 1 1, .slice (some ⟨b7, 0, none⟩) 1 1, .slice (some ⟨b8, 0, none⟩) 2 2] 33) :: ((b8, ce #[.int .i64 1, .int .i64 2] 3) :: ((b7, ce #[.int .i64 1] 3) :: ((b6, ce #[.int .i64 0] 3) :: ((b1, ce #[.slice none 0 0, .slice none 0 0, .int .i64 0, .int .i64 0, .slice none 0 0] 39) :: (ab ++ []))))))))) (List.Perm.symm (fC (fC (fC (fC (fC (fC (fC (fC fP))))))))) ?_
 refine Bz 6 rfl cr ?_; intro da bj bk
 refine AI rfl ?_
 replace aa := aa.mono (Am (Ac _)) bj
 have aq : As 1 (iE .i64) da (some ⟨b6, 0, none⟩) 1 [0] := As.BW (Ac _) (vss := [[.int .i64 0]]) (xs := [0]) bk (.cons rfl .nil) rfl (by simp [maxLen])
 refine Bz 5 rfl ct ?_; intro db ar bl
 refine AI rfl ?_
 replace aq := aq.mono (Ac _) ar
 replace aa := aa.mono (Am (Ac _)) ar
 have bn : As 1 (iE .i64) db (some ⟨b7, 0, none⟩) 1 [1] := As.BW (Ac _) (vss := [[.int .i64 1]]) (xs := [1]) bl (.cons rfl .nil) rfl (by simp [maxLen])
 refine Bz 4 rfl cu ?_; intro cg ah bo
 refine AI rfl ?_
 replace aq := aq.mono (Ac _) ah
 replace bn := bn.mono (Ac _) ah
 replace aa := aa.mono (Am (Ac _)) ah
 have dd : As 1 (iE .i64) cg (some ⟨b8, 0, none⟩) 2 [1, 2] := As.BW (Ac _) (vss := [[.int .i64 1], [.int .i64 2]]) (xs := [1, 2]) bo (.cons rfl (.cons rfl .nil)) rfl (by simp [maxLen])
 have ad : Bd K.w0.heap.size 33 1 (BC 1 (iE .i64)) cg (some ⟨b9, 0, none⟩) 3 3 [[0], [1], [1, 2]] [(b9, ce (#[.slice (some ⟨b6, 0, none⟩) [0].length 1, .slice (some ⟨b7, 0, none⟩) [1].length 1, .slice (some ⟨b8, 0, none⟩) [1, 2].length 2]) 33)] := Bd.BW (vss := [[.slice (some ⟨b6, 0, none⟩) [0].length 1], [.slice (some ⟨b7, 0, none⟩) [1].length 1], [.slice (some ⟨b8, 0, none⟩) [1, 2].length 2]]) (Am (Ac _)) cv (.cons ⟨_, _, rfl, aq⟩ (.cons ⟨_, _, rfl, bn⟩ (.cons ⟨_, _, rfl, dd⟩ .nil))) rfl rfl (by simp [maxLen])
 generalize ai : ([(b9, ce (#[.slice (some ⟨b6, 0, none⟩) [0].length 1, .slice (some ⟨b7, 0, none⟩) [1].length 1, .slice (some ⟨b8, 0, none⟩) [1, 2].length 2]) 33)] : LH) = ae at ad
 refine B2 (L' := ae ++ ((Ue, ce #[.slice (some ⟨Jn, 0, none⟩) 2 2, .int .i64 3, .int .i64 12, .slice (some ⟨QT, 0, none⟩) 1 1, .int .i64 1, .int .i64 20] 41) :: ((QT, ce #[.int .i64 1] 3) :: ((Jn, ce #[.int .i64 0, .int .i64 2] 3) :: ((b1, ce #[.slice none 0 0, .slice none 0 0, .int .i64 0, .int .i64 0, .slice none 0 0] 39) :: (ab ++ [])))))) (by rw [← ai]; exact (fC (fC (fC fO)))) ?_
 refine B2 (L' := (Ue, ce #[.slice (some ⟨Jn, 0, none⟩) 2 2, .int .i64 3, .int .i64 12, .slice (some ⟨QT, 0, none⟩) 1 1, .int .i64 1, .int .i64 20] 41) :: ((QT, ce #[.int .i64 1] 3) :: ((Jn, ce #[.int .i64 0, .int .i64 2] 3) :: ((b1, ce #[.slice none 0 0, .slice none 0 0, .int .i64 0, .int .i64 0, .slice none 0 0] 39) :: (ae ++ (ab ++ [])))))) (List.Perm.symm (fC (fC (fC (fC fP))))) ?_
 refine Bz 2 rfl ax ?_; intro de au bp
 refine AI rfl ?_
 replace aa := aa.mono (Am (Ac _)) au
 replace ad := ad.mono (Am (Ac _)) au
 have bq : As 1 (iE .i64) de (some ⟨Jn, 0, none⟩) 2 [0, 2] := As.BW (Ac _) (vss := [[.int .i64 0], [.int .i64 2]]) (xs := [0, 2]) bp (.cons rfl (.cons rfl .nil)) rfl (by simp [maxLen])
 refine Bz 1 rfl ay ?_; intro cj aj br
 refine AI rfl ?_
 replace bq := bq.mono (Ac _) aj
 replace aa := aa.mono (Am (Ac _)) aj
 replace ad := ad.mono (Am (Ac _)) aj
 have df : As 1 (iE .i64) cj (some ⟨QT, 0, none⟩) 1 [1] := As.BW (Ac _) (vss := [[.int .i64 1]]) (xs := [1]) br (.cons rfl .nil) rfl (by simp [maxLen])
 have av : Bd K.w0.heap.size 41 3 (Ce (BC 1 (iE .i64)) (Ce (iE .i64) (iE .i64))) cj (some ⟨Ue, 0, none⟩) 2 2 [([0, 2], 3, 12), ([1], 1, 20)] [(Ue, ce (#[.slice (some ⟨Jn, 0, none⟩) [0, 2].length 2, .int .i64 3, .int .i64 12, .slice (some ⟨QT, 0, none⟩) [1].length 1, .int .i64 1, .int .i64 20]) 41)] := Bd.BW (vss := [[.slice (some ⟨Jn, 0, none⟩) [0, 2].length 2, .int .i64 3, .int .i64 12], [.slice (some ⟨QT, 0, none⟩) [1].length 1, .int .i64 1, .int .i64 20]]) (AU (Am (Ac _)) (AU (Ac _) (Ac _))) az (.cons ⟨_, _, rfl, ⟨_, _, rfl, bq⟩, ⟨_, _, rfl, rfl, rfl⟩⟩ (.cons ⟨_, _, rfl, ⟨_, _, rfl, df⟩, ⟨_, _, rfl, rfl, rfl⟩⟩ .nil)) rfl rfl (by simp [maxLen])
 generalize ak : ([(Ue, ce (#[.slice (some ⟨Jn, 0, none⟩) [0, 2].length 2, .int .i64 3, .int .i64 12, .slice (some ⟨QT, 0, none⟩) [1].length 1, .int .i64 1, .int .i64 20]) 41)] : LH) = aw at av
 refine B2 (L' := aw ++ ((b1, ce #[.slice none 0 0, .slice none 0 0, .int .i64 0, .int .i64 0, .slice none 0 0] 39) :: (ae ++ (ab ++ [])))) (by rw [← ak]; exact fO) ?_
 refine B2 (L' := (b1, ce #[.slice none 0 0, .slice none 0 0, .int .i64 0, .int .i64 0, .slice none 0 0] 39) :: (aw ++ (ae ++ (ab ++ [])))) (List.Perm.symm (fC fP)) (BP (i := 0) sizeOf39 rfl rfl rfl (by simp [Value.oneCell']) rfl (CB rfl) (AI rfl (Aa (kW (kc (kg (fS (fS fP)) (kg (fS fP) kr))) (Aj (IH results43 (DI (cs := #[.slice (some ⟨b5, 0, none⟩) 3 3, .slice (some ⟨b9, 0, none⟩) 3 3, .int .i64 3, .int .i64 0, .slice (some ⟨Ue, 0, none⟩) 2 2]) isAgg39 sizeOf39 rfl (Has.own 0 rfl) (CB rfl) rfl) (s1 (s4 (s4 (s4 sr)))) ?_))))))
 obtain ⟨rfl, rfl, rfl, rfl, rfl⟩ := V6 hr
 exact ⟨_, _, _, _, _, _, _, _, _, _, _, _, rfl, rfl, aa.any, ad.any, av.any⟩
set_option maxHeartbeats 1000000 in
theorem OO {r r2 : Int} {r3 : List (List (List Int))} {r4 : List Int} {r5 : List (Int × Int × Int)} (hr : Ke = some (r, r2, r3, r4, r5)) :
    SH.Spec Tryz.prog 44 #[] F [] fun F' L' v => ∃ (bd : Option Addr) (bg : Nat) (bj : Nat) (bk : LH) (bl : Option Addr) (bn : Nat) (bo : Nat) (bp : LH) (bq : Option Addr) (br : Nat) (bu : Nat) (bw : LH), v = .agg #[.int .i64 r, .int .i64 r2, .slice bd bg bj, .slice bl bn bo, .slice bq br bu] ∧ L' = bk ++ (bp ++ (bw ++ [])) ∧ Bd 0 36 1 (BC 1 (BC 1 (iE .i64))) F' bd bg bj r3 bk ∧ Bd 0 3 1 (iE .i64) F' bl bn bo r4 bp ∧ Bd 0 132 3 (Ce (iE .i64) (Ce (iE .i64) (iE .i64))) F' bq br bu r5 bw := by
 refine sp func44 ntmps44 fun K _ _ => ?_
 rw [Ke] at hr
 refine AJ ?_
 refine Bw rfl zeroValue100 ?_; intro b1 ct
 refine BU ?_
 refine bA (cs := #[.int .i64 0]) Ct [.int .i64 0] ?_; intro b2 bx
 refine bA (cs := #[.int .i64 0, .int .i64 1]) Ct [.int .i64 0, .int .i64 1] ?_; intro b3 bz
 refine bA (cs := #[.int .i64 1]) Ct [.int .i64 1] ?_; intro b4 ca
 refine bA (cs := #[.int .i64 1]) Ct [.int .i64 1] ?_; intro b5 cb
 refine bA (cs := #[.slice (some ⟨b2, 0, none⟩) 1 1, .slice (some ⟨b3, 0, none⟩) 2 2, .slice (some ⟨b4, 0, none⟩) 1 1, .slice (some ⟨b5, 0, none⟩) 1 1, .slice none 0 0, .slice none 0 0, .slice none 0 0, .slice none 0 0]) LF [.slice (some ⟨b2, 0, none⟩) 1 1, .slice (some ⟨b3, 0, none⟩) 2 2, .slice (some ⟨b4, 0, none⟩) 1 1, .slice (some ⟨b5, 0, none⟩) 1 1, .slice none 0 0, .slice none 0 0, .slice none 0 0, .slice none 0 0] ?_; intro b6 cc
 refine bA (cs := #[.slice (some ⟨b6, 0, none⟩) 8 8]) Xs [.slice (some ⟨b6, 0, none⟩) 8 8] ?_; intro b7 cd
 refine bA (cs := #[.int .i64 1, .int .i64 (-1), .int .i64 4]) Ct [.int .i64 1, .int .i64 (-1), .int .i64 4] ?_; intro b8 cf
 refine uv (BM (v := .agg #[.int .i64 0, .int .i64 0, .int .i64 0]) rfl (by intro w; kernel_rfl)) ?_
 refine uv (BM (v := .agg #[.int .i64 2, .int .i64 0, .int .i64 0]) rfl (by intro w; kernel_rfl)) ?_
 refine bA (cs := #[.int .i64 0, .int .i64 0, .int .i64 0, .int .i64 2, .int .i64 0, .int .i64 0]) WS [.agg #[.int .i64 0, .int .i64 0, .int .i64 0], .agg #[.int .i64 2, .int .i64 0, .int .i64 0]] ?_; intro b9 cg
 refine uv (BM (v := .agg #[.int .i64 2, .int .i64 1, .slice (some ⟨b7, 0, none⟩) 1 1, .slice (some ⟨b8, 0, none⟩) 3 3, .slice (some ⟨b9, 0, none⟩) 2 2]) rfl (by intro w; kernel_rfl)) ?_
 refine Bz 7 rfl bx ?_; intro cj ck aw
 refine AI rfl ?_
 have aa : As 1 (iE .i64) cj (some ⟨b2, 0, none⟩) 1 [0] := As.BW (Ac _) (vss := [[.int .i64 0]]) (xs := [0]) aw (.cons rfl .nil) rfl (by simp [maxLen])
 refine Bz 6 rfl bz ?_; intro cn ax ay
 refine AI rfl ?_
 replace aa := aa.mono (Ac _) ax
 have ae : As 1 (iE .i64) cn (some ⟨b3, 0, none⟩) 2 [0, 1] := As.BW (Ac _) (vss := [[.int .i64 0], [.int .i64 1]]) (xs := [0, 1]) ay (.cons rfl (.cons rfl .nil)) rfl (by simp [maxLen])
 refine Bz 5 rfl ca ?_; intro cp ak az
 refine AI rfl ?_
 replace aa := aa.mono (Ac _) ak
 replace ae := ae.mono (Ac _) ak
 have al : As 1 (iE .i64) cp (some ⟨b4, 0, none⟩) 1 [1] := As.BW (Ac _) (vss := [[.int .i64 1]]) (xs := [1]) az (.cons rfl .nil) rfl (by simp [maxLen])
 refine Bz 4 rfl cb ?_; intro cq af ba
 refine AI rfl ?_
 replace aa := aa.mono (Ac _) af
 replace ae := ae.mono (Ac _) af
 replace al := al.mono (Ac _) af
 have bb : As 1 (iE .i64) cq (some ⟨b5, 0, none⟩) 1 [1] := As.BW (Ac _) (vss := [[.int .i64 1]]) (xs := [1]) ba (.cons rfl .nil) rfl (by simp [maxLen])
 refine Bz 3 rfl cc ?_; intro av ab bc
 refine AI rfl ?_
 replace aa := aa.mono (Ac _) ab
 replace ae := ae.mono (Ac _) ab
 replace al := al.mono (Ac _) ab
 replace bb := bb.mono (Ac _) ab
 have cr : As 1 (BC 1 (iE .i64)) av (some ⟨b6, 0, none⟩) 8 [[0], [0, 1], [1], [1], [], [], [], []] := As.BW (Am (Ac _)) (vss := [[.slice (some ⟨b2, 0, none⟩) [0].length 1], [.slice (some ⟨b3, 0, none⟩) [0, 1].length 2], [.slice (some ⟨b4, 0, none⟩) [1].length 1], [.slice (some ⟨b5, 0, none⟩) [1].length 1], [.slice none 0 0], [.slice none 0 0], [.slice none 0 0], [.slice none 0 0]]) (xs := [[0], [0, 1], [1], [1], [], [], [], []]) bc (.cons ⟨_, _, rfl, aa⟩ (.cons ⟨_, _, rfl, ae⟩ (.cons ⟨_, _, rfl, al⟩ (.cons ⟨_, _, rfl, bb⟩ (.cons ⟨_, _, rfl, As.nil _ _ _⟩ (.cons ⟨_, _, rfl, As.nil _ _ _⟩ (.cons ⟨_, _, rfl, As.nil _ _ _⟩ (.cons ⟨_, _, rfl, As.nil _ _ _⟩ .nil)))))))) rfl (by simp [maxLen])
 have ao : Bd K.w0.heap.size 36 1 (BC 1 (BC 1 (iE .i64))) av (some ⟨b7, 0, none⟩) 1 1 [[[0], [0, 1], [1], [1], [], [], [], []]] [(b7, ce (#[.slice (some ⟨b6, 0, none⟩) [[0], [0, 1], [1], [1], [], [], [], []].length 8]) 36)] := Bd.BW (vss := [[.slice (some ⟨b6, 0, none⟩) [[0], [0, 1], [1], [1], [], [], [], []].length 8]]) (Am (Am (Ac _))) cd (.cons ⟨_, _, rfl, cr⟩ .nil) rfl rfl (by simp [maxLen])
 generalize ah : ([(b7, ce (#[.slice (some ⟨b6, 0, none⟩) [[0], [0, 1], [1], [1], [], [], [], []].length 8]) 36)] : LH) = Lb30 at ao
 refine B2 (L' := Lb30 ++ [(b9, ce #[.int .i64 0, .int .i64 0, .int .i64 0, .int .i64 2, .int .i64 0, .int .i64 0] 132), (b8, ce #[.int .i64 1, .int .i64 (-1), .int .i64 4] 3), (b1, ce #[.int .i64 0, .int .i64 0, .slice none 0 0, .slice none 0 0, .slice none 0 0] 100)]) (by rw [← ah]; exact (fC (fC fO))) ?_
 refine B2 (L' := (b9, ce #[.int .i64 0, .int .i64 0, .int .i64 0, .int .i64 2, .int .i64 0, .int .i64 0] 132) :: ((b8, ce #[.int .i64 1, .int .i64 (-1), .int .i64 4] 3) :: ((b1, ce #[.int .i64 0, .int .i64 0, .slice none 0 0, .slice none 0 0, .slice none 0 0] 100) :: (Lb30 ++ [])))) (List.Perm.symm (fC (fC (fC fP)))) ?_
 have aq : Bd K.w0.heap.size 3 1 (iE .i64) av (some ⟨b8, 0, none⟩) 3 3 [1, -1, 4] [(b8, ce #[.int .i64 1, .int .i64 (-1), .int .i64 4] 3)] := Bd.BW (vss := [[.int .i64 1], [.int .i64 (-1)], [.int .i64 4]]) (Ac _) cf (.cons rfl (.cons rfl (.cons rfl .nil))) rfl rfl (by simp [maxLen])
 generalize ai : ([(b8, ce #[.int .i64 1, .int .i64 (-1), .int .i64 4] 3)] : LH) = ad at aq
 refine B2 (L' := ad ++ ((b9, ce #[.int .i64 0, .int .i64 0, .int .i64 0, .int .i64 2, .int .i64 0, .int .i64 0] 132) :: ((b1, ce #[.int .i64 0, .int .i64 0, .slice none 0 0, .slice none 0 0, .slice none 0 0] 100) :: (Lb30 ++ [])))) (by rw [← ai]; exact (fC fO)) ?_
 refine B2 (L' := (b9, ce #[.int .i64 0, .int .i64 0, .int .i64 0, .int .i64 2, .int .i64 0, .int .i64 0] 132) :: ((b1, ce #[.int .i64 0, .int .i64 0, .slice none 0 0, .slice none 0 0, .slice none 0 0] 100) :: (ad ++ (Lb30 ++ [])))) (List.Perm.symm (fC (fC fP))) ?_
 have ar : Bd K.w0.heap.size 132 3 (Ce (iE .i64) (Ce (iE .i64) (iE .i64))) av (some ⟨b9, 0, none⟩) 2 2 [(0, 0, 0), (2, 0, 0)] [(b9, ce #[.int .i64 0, .int .i64 0, .int .i64 0, .int .i64 2, .int .i64 0, .int .i64 0] 132)] := Bd.BW (vss := [[.int .i64 0, .int .i64 0, .int .i64 0], [.int .i64 2, .int .i64 0, .int .i64 0]]) (AU (Ac _) (AU (Ac _) (Ac _))) cg (.cons ⟨_, _, rfl, rfl, ⟨_, _, rfl, rfl, rfl⟩⟩ (.cons ⟨_, _, rfl, rfl, ⟨_, _, rfl, rfl, rfl⟩⟩ .nil)) rfl rfl (by simp [maxLen])
 generalize aj : ([(b9, ce #[.int .i64 0, .int .i64 0, .int .i64 0, .int .i64 2, .int .i64 0, .int .i64 0] 132)] : LH) = au at ar
 refine B2 (L' := au ++ ((b1, ce #[.int .i64 0, .int .i64 0, .slice none 0 0, .slice none 0 0, .slice none 0 0] 100) :: (ad ++ (Lb30 ++ [])))) (by rw [← aj]; exact fO) ?_
 refine B2 (L' := (b1, ce #[.int .i64 0, .int .i64 0, .slice none 0 0, .slice none 0 0, .slice none 0 0] 100) :: (au ++ (ad ++ (Lb30 ++ [])))) (List.Perm.symm (fC fP)) (BP (i := 0) sizeOf100 rfl rfl rfl (by simp [Value.oneCell']) rfl (CB rfl) (AI rfl (Aa (kW (kc (kg (fS (fS fP)) (kg (fS fP) kr))) (Aj (IH results44 (DI (cs := #[.int .i64 2, .int .i64 1, .slice (some ⟨b7, 0, none⟩) 1 1, .slice (some ⟨b8, 0, none⟩) 3 3, .slice (some ⟨b9, 0, none⟩) 2 2]) isAgg100 sizeOf100 rfl (Has.own 0 rfl) (CB rfl) rfl) (s1 (s4 (s4 (s4 sr)))) ?_))))))
 obtain ⟨rfl, rfl, rfl, rfl, rfl⟩ := V6 hr
 exact ⟨_, _, _, _, _, _, _, _, _, _, _, _, rfl, rfl, ao.any, aq.any, ar.any⟩
set_option maxHeartbeats 1000000 in
theorem Ly {s1 s2 : List Int} (aa : As 1 (iE .i64) F RO R4 s1) (ab : As 1 (iE .i64) F Sa R9 s2) {r : Bool} (hr : Hl s1 s2 = some r) :
    Bl Tryz.prog 118 #[.slice RO s1.length R4, .slice Sa s2.length R9] F (.bool r) := by
 refine sp func118 ntmps118 fun K _ _ => ?_
 rw [Hl] at hr
 refine AJ (ua (Aa (Aq (AJ (um ?_)))))
 refine uv (A2 underlying33 rfl) (um (uv (A2 underlying33 rfl) (uv (CI rfl rfl) (Aa ?_))))
 refine cQ (fun c1 => ?_) fun c1 => ?_
 ·have r2 := Bi hr c1
  refine AJ (ua (Aa (Aj (Ai ?_))))
  refine BZ results118 ?_
  obtain rfl := AH r2
  exact rfl
 have r3 := Bk hr c1
 refine Al ?_
 refine A5 (fun e1 F1 L1 => Ga = some r ∧ F = F1 ∧ L1 = [] ∧ e1.sub []) ?_ ?_
 ·refine AJ (um ?_)
  refine uv (A2 underlying33 rfl) ?_
  refine um (Aa ?_)
  refine Ak ?_
  refine Br (fun av e1 F1 L1 => LA s1 av fun tl k => DV s2 tl k = some r ∧ F = F1 ∧ L1 = [] ∧ e1.sub [(0, .slice RO s1.length R4), (1, .slice Sa s2.length R9), (12, .int .i64 (s1.length : Int)), (13, .int .i64 k)]) _ (m0 kr ⟨_, _, rfl, BI.start _, r3, rfl, rfl, z4⟩) ?_
  rintro av e1 _ _ ⟨tl, k, bc, ad, r6, rfl, rfl, bd⟩
  refine AB _ bd (AJ (uv (Bp rfl rfl) ?_))
  refine Aa (Aq ?_)
  refine cQ (fun c9 => ?_) fun c9 => ?_
  ·obtain ⟨x, bp, rfl, ae, aw, af⟩ := BI.succ ad c9
   rw [DV] at r6
   refine Al (Aq ?_)
   refine Ak ?_
   refine AJ (um (ua ?_))
   refine dN ?_
   refine wm (wm ?_)
   obtain ⟨bq, br, bu, bg, ah, ai, ax, rfl, bj, aj⟩ := As.at (Ac _) aa ([]) aw.1 ae
   refine wv (AT underlying33 sizeOf3 rfl ah rfl aw) (wv (Ah isAgg3 rfl ai (aj 0 (by decide))) ?_)
   refine wm (wm ?_)
   obtain ⟨x2, ay, ak, az⟩ := BY r6
   obtain ⟨bw, bx, bz, bk, al, ao, ba, rfl, bl, aq⟩ := As.at (Ac _) ab ([]) ay.1 ak
   refine wv (AT underlying33 sizeOf3 rfl al rfl ay) (wv (Ah isAgg3 rfl ao (aq 0 (by decide))) (wv (CI rfl rfl) (CX ?_)))
   refine cQ (fun ar => ?_) fun ar => ?_
   ·have bn := Bi az ar
    refine AJ (ua (Aa (Aj (AD (Ai (Ai (AD (Ai ?_))))))))
    refine BZ results118 ?_
    obtain rfl := AH bn
    exact rfl
   have bo := Bk az ar
   refine Al (At (id := 1) (Af ?_))
   refine uv (Bf rfl rfl (BI.Ed ad c9 (As.lt aa))) ?_
   refine um (Aa ?_)
   subst bc; exact le kr ⟨_, _, rfl, af, bo, rfl, rfl, z4⟩
  obtain rfl := BI.zero ad c9
  rw [DV] at r6
  refine AW (Ae (Ae ?_))
  refine Au ?_
  exact mi kr ⟨r6, rfl, rfl, (sn _)⟩
 rintro e1 _ _ ⟨bb, rfl, rfl, au⟩
 refine AB _ au ?_
 rw [Ga] at bb
 refine AJ (ua (Aa (Aj ?_)))
 refine BZ results118 ?_
 obtain rfl := AH bb
 exact rfl
theorem NO {a b : List Int} (aa : As 1 (iE .i64) F X1 X2 a) (ab : As 1 (iE .i64) F X5 Mv b) {r : Bool} (hr : IY a b = some r) :
    Bl Tryz.prog 45 #[.slice X1 a.length X2, .slice X5 b.length Mv] F (.bool r) := by
 refine sp func45 ntmps45 fun K _ _ => ?_
 rw [IY] at hr
 refine AJ (ua (BU (um (um ?_))))
 obtain ⟨ok, h1, r2⟩ := AF hr
 refine cV call118 (Ly aa ab h1) ?_
 refine ua (Aa (Aj ?_))
 refine BZ results45 ?_
 obtain rfl := AH r2
 exact rfl
set_option maxHeartbeats 1000000 in
theorem DA {s1 s2 : List (List Int)} {aa : FuncId} {eq_1 eq_2 : Array Value} {eq : ((List Int) × (List Int)) → Option Bool} (ab : As 1 (BC 1 (iE .i64)) F RO R4 s1) (ae : As 1 (BC 1 (iE .i64)) F Sa R9 s2) (ad : Gk Tryz.prog F aa eq_1 eq_2 (Ce (BC 1 (iE .i64)) (BC 1 (iE .i64))) Value.bool eq) {r : Bool} (hr : BO s1 s2 eq = some r) :
    Bl Tryz.prog 119 #[.slice RO s1.length R4, .slice Sa s2.length R9, .func (.func aa) eq_1 eq_2] F (.bool r) := by
 refine sp func119 ntmps119 fun K _ _ => ?_
 rw [BO] at hr
 refine AJ (ua (Aa (Aq (AJ (um ?_)))))
 refine uv (A2 underlying103 rfl) (um (uv (A2 underlying103 rfl) (uv (CI rfl rfl) (Aa ?_))))
 refine cQ (fun c1 => ?_) fun c1 => ?_
 ·have r2 := Bi hr c1
  refine AJ (ua (Aa (Aj (Ai ?_))))
  refine BZ results119 ?_
  obtain rfl := AH r2
  exact rfl
 have r3 := Bk hr c1
 refine Al ?_
 refine A5 (fun e1 F1 L1 => BH = some r ∧ F = F1 ∧ L1 = [] ∧ e1.sub []) ?_ ?_
 ·refine AJ (um ?_)
  refine uv (A2 underlying103 rfl) ?_
  refine um (Aa ?_)
  refine Ak ?_
  refine Br (fun ax e1 F1 L1 => LA s1 ax fun tl k => Bb s2 eq tl k = some r ∧ F = F1 ∧ L1 = [] ∧ e1.sub [(1, .slice Sa s2.length R9), (2, .func (.func aa) eq_1 eq_2), (15, .slice RO s1.length R4), (16, .int .i64 (s1.length : Int)), (17, .int .i64 k)]) _ (m0 kr ⟨_, _, rfl, BI.start _, r3, rfl, rfl, z5⟩) ?_
  rintro ax e1 _ _ ⟨tl, k, bg, af, r6, rfl, rfl, bj⟩
  refine AB _ bj (AJ (uv (Bp rfl rfl) ?_))
  refine Aa (Aq ?_)
  refine cQ (fun c9 => ?_) fun c9 => ?_
  ·obtain ⟨x, bz, rfl, ah, ay, ai⟩ := BI.succ af c9
   rw [Bb] at r6
   refine Al (Aq ?_)
   refine Ak ?_
   refine AJ (um ?_)
   obtain ⟨ca, cb, cc, bk, aj, ak, az, ⟨cd, cf, rfl, bl⟩, bn, al⟩ := As.at (Am (Ac _)) ab ([]) ay.1 ah
   refine uv (AT underlying103 sizeOf123 rfl aj rfl ay) (uv (Ah isAgg123 rfl ak (al 0 (by decide))) ?_)
   refine ua (ua (BU (um (um ?_))))
   obtain ⟨x2, ba, ao, bo⟩ := BY r6
   obtain ⟨cg, cj, ck, bp, aq, ar, bb, ⟨cn, cp, rfl, bq⟩, br, au⟩ := As.at (Am (Ac _)) ae ([]) ba.1 ao
   refine uv (AT underlying103 sizeOf123 rfl aq rfl ba) (uv (Ah isAgg123 rfl ar (au 0 (by decide))) ?_)
   refine ua (BU (um (um (um ?_))))
   obtain ⟨ok, bu, bc⟩ := AF bo
   refine D2 rfl ad.1 rfl rfl rfl (ad.2 _ (A4.refl _) _ _ _ ⟨_, _, rfl, ⟨_, _, rfl, bl⟩, ⟨_, _, rfl, bq⟩⟩ bu) (uv (BB rfl) (Aa ?_))
   refine AX rfl (fun av => ?_) (fun av => ?_)
   ·have bw := bt bc av
    refine AJ (ua (Aa (Aj (AD (Ai (Ai (AD (Ai ?_))))))))
    refine BZ results119 ?_
    obtain rfl := AH bw
    exact rfl
   have bx := bf bc av
   refine Al (At (id := 1) (Af ?_))
   refine uv (Bf rfl rfl (BI.Ed af c9 (As.lt ab))) ?_
   refine um (Aa ?_)
   subst bg; exact le kr ⟨_, _, rfl, ai, bx, rfl, rfl, z5⟩
  obtain rfl := BI.zero af c9
  rw [Bb] at r6
  refine AW (Ae (Ae ?_))
  refine Au ?_
  exact mi kr ⟨r6, rfl, rfl, (sn _)⟩
 rintro e1 _ _ ⟨bd, rfl, rfl, aw⟩
 refine AB _ aw ?_
 rw [BH] at bd
 refine AJ (ua (Aa (Aj ?_)))
 refine BZ results119 ?_
 obtain rfl := AH bd
 exact rfl
set_option maxHeartbeats 1000000 in
theorem GL {s1 s2 : List Int} (aa : As 1 (iE .i64) F RO R4 s1) (ab : As 1 (iE .i64) F Sa R9 s2) {r : Bool} (hr : Cu s1 s2 = some r) :
    Bl Tryz.prog 120 #[.slice RO s1.length R4, .slice Sa s2.length R9] F (.bool r) := by
 refine sp func120 ntmps120 fun K _ _ => ?_
 rw [Cu] at hr
 refine AJ (ua (Aa (Aq (AJ (um ?_)))))
 refine uv (A2 underlying123 rfl) (um (uv (A2 underlying123 rfl) (uv (CI rfl rfl) (Aa ?_))))
 refine cQ (fun c1 => ?_) fun c1 => ?_
 ·have r2 := Bi hr c1
  refine AJ (ua (Aa (Aj (Ai ?_))))
  refine BZ results120 ?_
  obtain rfl := AH r2
  exact rfl
 have r3 := Bk hr c1
 refine Al ?_
 refine A5 (fun e1 F1 L1 => CZ = some r ∧ F = F1 ∧ L1 = [] ∧ e1.sub []) ?_ ?_
 ·refine AJ (um ?_)
  refine uv (A2 underlying123 rfl) ?_
  refine um (Aa ?_)
  refine Ak ?_
  refine Br (fun av e1 F1 L1 => LA s1 av fun tl k => BS s2 tl k = some r ∧ F = F1 ∧ L1 = [] ∧ e1.sub [(0, .slice RO s1.length R4), (1, .slice Sa s2.length R9), (12, .int .i64 (s1.length : Int)), (13, .int .i64 k)]) _ (m0 kr ⟨_, _, rfl, BI.start _, r3, rfl, rfl, z4⟩) ?_
  rintro av e1 _ _ ⟨tl, k, bc, ad, r6, rfl, rfl, bd⟩
  refine AB _ bd (AJ (uv (Bp rfl rfl) ?_))
  refine Aa (Aq ?_)
  refine cQ (fun c9 => ?_) fun c9 => ?_
  ·obtain ⟨x, bp, rfl, ae, aw, af⟩ := BI.succ ad c9
   rw [BS] at r6
   refine Al (Aq ?_)
   refine Ak ?_
   refine AJ (um (ua ?_))
   refine dN ?_
   refine wm (wm ?_)
   obtain ⟨bq, br, bu, bg, ah, ai, ax, rfl, bj, aj⟩ := As.at (Ac _) aa ([]) aw.1 ae
   refine wv (AT underlying123 sizeOf124 rfl ah rfl aw) (wv (Ah isAgg124 rfl ai (aj 0 (by decide))) ?_)
   refine wm (wm ?_)
   obtain ⟨x2, ay, ak, az⟩ := BY r6
   obtain ⟨bw, bx, bz, bk, al, ao, ba, rfl, bl, aq⟩ := As.at (Ac _) ab ([]) ay.1 ak
   refine wv (AT underlying123 sizeOf124 rfl al rfl ay) (wv (Ah isAgg124 rfl ao (aq 0 (by decide))) (wv (CI rfl rfl) (CX ?_)))
   refine cQ (fun ar => ?_) fun ar => ?_
   ·have bn := Bi az ar
    refine AJ (ua (Aa (Aj (AD (Ai (Ai (AD (Ai ?_))))))))
    refine BZ results120 ?_
    obtain rfl := AH bn
    exact rfl
   have bo := Bk az ar
   refine Al (At (id := 1) (Af ?_))
   refine uv (Bf rfl rfl (BI.Ed ad c9 (As.lt aa))) ?_
   refine um (Aa ?_)
   subst bc; exact le kr ⟨_, _, rfl, af, bo, rfl, rfl, z4⟩
  obtain rfl := BI.zero ad c9
  rw [BS] at r6
  refine AW (Ae (Ae ?_))
  refine Au ?_
  exact mi kr ⟨r6, rfl, rfl, (sn _)⟩
 rintro e1 _ _ ⟨bb, rfl, rfl, au⟩
 refine AB _ au ?_
 rw [CZ] at bb
 refine AJ (ua (Aa (Aj ?_)))
 refine BZ results120 ?_
 obtain rfl := AH bb
 exact rfl
theorem JU {a b : List (List Int)} (ab : As 1 (BC 1 (iE .i64)) F X1 X2 a) (ad : As 1 (BC 1 (iE .i64)) F X5 Mv b) {r : Bool} (hr : FK a b = some r) :
    Bl Tryz.prog 46 #[.slice X1 a.length X2, .slice X5 b.length Mv] F (.bool r) := by
 refine sp func46 ntmps46 fun K _ _ => ?_
 rw [FK] at hr
 refine AJ (ua (BU (um (um ?_))))
 have ae : Gk Tryz.prog F 120 #[] #[] (Ce (BC 1 (iE .i64)) (BC 1 (iE .i64))) Value.bool (fun aa : (List Int) × (List Int) => Cu aa.1 aa.2) := ⟨call120, fun F2 h2 vs aa r ha hr => by obtain ⟨_, _, rfl, ⟨a1, c2, rfl, h3⟩, ⟨a4, c5, rfl, h6⟩⟩ := ha; exact GL h3 h6 hr⟩
 obtain ⟨ok, h8, r9⟩ := AF hr
 refine cV call119 (DA ab ad ae h8) ?_
 refine ua (Aa (Aj ?_))
 refine BZ results46 ?_
 obtain rfl := AH r9
 exact rfl
set_option maxHeartbeats 1000000 in
theorem OD {r : Bool} (hr : HU = some r) :
    Bl Tryz.prog 9 #[] F (.bool r) := by
 refine sp func9 ntmps9 fun K _ _ => ?_
 rw [HU] at hr
 refine AJ (ua (BU ?_))
 refine bA (cs := #[.string (sB [115, 104, 115, 104])]) Wd [.string (sB [115, 104, 115, 104])] ?_; intro b1 ec
 refine Bz 0 rfl ec ?_; intro F2 fp ef
 refine AI rfl ?_
 have h5 : As 1 sE F2 (some ⟨b1, 0, none⟩) 1 [[115, 104, 115, 104]] := As.BW WG (vss := [[.string (sB [115, 104, 115, 104])]]) (xs := [[115, 104, 115, 104]]) ef (.cons rfl .nil) rfl (by simp [maxLen])
 obtain ⟨n, l, h6, r7⟩ := DM hr
 refine c0 call42 (Ox h5 h6) ?_; rintro _ F8 _ fq cu ⟨ft, fv, fw, bb, rfl, rfl, aq⟩
 replace aq := aq.new fun p hp => cu p (by simp [hp])
 refine AI (lp (ln rfl)) ?_
 obtain ⟨l2, n2, eg, eh⟩ := DM r7
 refine J7 (Lb := []) (Lt := bb ++ []) (Lr := []) rfl call41 rfl rfl rfl (pT pR (ln (lp (ln rfl)))) (fun F2 h2 h3 => by rw [(Bd.Dx aq).1]; exact R6 (aq.row (Ac _) h2 (fun p hp => h3 p (List.mem_append_left _ hp))) eg) (fun _ _ _ _ hq => by obtain ⟨ei, ej, eo, bc, rfl, rfl, aa⟩ := hq; exact ⟨_, _, _, _, rfl, rfl, aa.flat (fun _ _ h => h)⟩) ?_; rintro _ fx _ ep cv cw ⟨ei, ej, eo, bc, rfl, rfl, aa⟩
 have cx := We (Lb' := []) (by rfl) cv cw
 replace aa := aa.new fun p hp => cx p (by simp [hp])
 refine AI (lp (ln (lp (ln rfl)))) ?_
 refine um (ox rfl rfl rfl (ox rfl rfl rfl (ua (ua (BU ?_)))))
 obtain ⟨l3, l4, n3, n4, l5, er, et⟩ := Rq eh
 refine c0 call43 (Oi er) ?_; rintro _ fy _ cy bd ⟨g0, ga, gb, bo, gg, gh, gi, bp, gj, gk, gl, bq, rfl, rfl, ar, au, av⟩
 replace aa := aa.mono (Ac _) cy
 replace ar := ar.new fun p hp => bd p (by simp [hp])
 replace au := au.new fun p hp => bd p (by simp [hp])
 replace av := av.new fun p hp => bd p (by simp [hp])
 refine AI (lp (lp (lp (ln rfl)))) ?_
 obtain ⟨l6, n5, n6, eu, ew⟩ := GR et
 refine J7 (Lb := []) (Lt := bo ++ (bp ++ (bq ++ []))) (Lr := bc ++ (bb ++ [])) rfl call14 rfl rfl rfl (pT pR (ln (lp (lp (lp (ln rfl)))))) (fun F2 h2 h3 => by rw [(Bd.Dx ar).1]; rw [(Bd.Dx au).1]; rw [(Bd.Dx av).1]; exact RT (ar.row (Am (Ac _)) h2 (fun p hp => h3 p (List.mem_append_left _ hp))) (au.row (Am (Ac _)) h2 (fun p hp => h3 p (List.mem_append_right _ (List.mem_append_left _ hp)))) (av.row (AU (Am (Ac _)) (AU (Ac _) (Ac _))) h2 (fun p hp => h3 p (List.mem_append_right _ (List.mem_append_right _ (List.mem_append_left _ hp))))) eu) (fun _ _ _ _ hq => by obtain ⟨ey, ez, fa, br, rfl, rfl, bu⟩ := hq; exact ⟨_, _, _, _, rfl, rfl, bu.flat (fun _ _ h => h)⟩) ?_; rintro _ gm _ cz fb fe ⟨ey, ez, fa, br, rfl, rfl, bu⟩
 replace aa := aa.mono (Ac _) cz
 refine AI (lp (ln (lp (lp (lp (ln rfl)))))) ?_
 refine um (ox rfl rfl rfl (ox rfl rfl rfl (ox rfl rfl rfl (ua (ua (ua (BU ?_)))))))
 obtain ⟨n7, n8, l7, l8, l9, ff, fg⟩ := Rq ew
 refine c0 call44 (OO ff) ?_; rintro _ gn _ da bg ⟨gp, gq, gr, fh, gu, gv, gw, fi, gz, ia, ib, fj, rfl, rfl, aw, ak, ah⟩
 replace aa := aa.mono (Ac _) da
 replace aw := aw.new fun p hp => bg p (by simp [hp])
 replace ak := ak.new fun p hp => bg p (by simp [hp])
 replace ah := ah.new fun p hp => bg p (by simp [hp])
 refine AI (lp (lp (lp (ln rfl)))) ?_
 obtain rfl := (Bd.Dx aw).1
 refine DF (Nat.le_refl _) (Am (Am (Ac _))) fP aw ?_; intro ic bj bw
 replace aa := aa.mono (Ac _) bj
 replace ak := ak.mono (Ac _) bj
 replace ah := ah.mono (AU (Ac _) (AU (Ac _) (Ac _))) bj
 obtain rfl := (Bd.Dx ak).1
 refine DF (Nat.le_refl _) (Ac _) fP ak ?_; intro ie bk db
 replace bw := bw.mono (Am (Am (Ac _))) bk
 replace aa := aa.mono (Ac _) bk
 replace ah := ah.mono (AU (Ac _) (AU (Ac _) (Ac _))) bk
 obtain rfl := (Bd.Dx ah).1
 refine DF (Nat.le_refl _) (AU (Ac _) (AU (Ac _) (Ac _))) fP ah ?_; intro ig bl dd
 replace bw := bw.mono (Am (Am (Ac _))) bl
 replace db := db.mono (Ac _) bl
 replace aa := aa.mono (Ac _) bl
 obtain ⟨ij, n9, de, bx⟩ := DM fg
 refine c0 call31 (Pz bw db dd de) ?_; rintro _ fk _ bz eb ⟨fl, fm, rfl, rfl, ae⟩
 replace aa := aa.mono (Ac _) bz
 refine AI (ln rfl) ?_
 refine um (ox rfl rfl rfl (ox rfl rfl rfl (ua (ua (BU (um ?_))))))
 refine uv (Cx rfl rfl) (um ?_)
 by_cases ai : n2 = 0
 ·have ca := Bi bx ai
  refine nT ai (um (nT ai ?_))
  refine uv (Cx rfl rfl) (uv (AS (Bq rfl ai) rfl) (um ?_))
  by_cases aj : n6 = 0
  ·have cb := Bi ca aj
   refine nT aj (um (nT aj ?_))
   refine uv (Cx rfl rfl) (uv (AS (Bq rfl aj) rfl) (um ?_))
   by_cases ad : n9 = 0
   ·have df := Bi cb ad
    refine nT ad (um (nT ad ?_))
    refine bA (cs := #[.int .i64 0, .int .i64 5, .int .i64 9, .int .i64 14]) Ct [.int .i64 0, .int .i64 5, .int .i64 9, .int .i64 14] ?_; intro dg cc
    refine nT ad ?_
    refine Bz 0 rfl cc ?_; intro dh az cd
    refine AI rfl ?_
    replace ae := ae.mono (Am (Ac _)) az
    replace aa := aa.mono (Ac _) az
    have di : As 1 (iE .i64) dh (some ⟨dg, 0, none⟩) 4 [0, 5, 9, 14] := As.BW (Ac _) (vss := [[.int .i64 0], [.int .i64 5], [.int .i64 9], [.int .i64 14]]) (xs := [0, 5, 9, 14]) cd (.cons rfl (.cons rfl (.cons rfl (.cons rfl .nil)))) rfl (by simp [maxLen])
    obtain ⟨ok, dk, cf⟩ := AF df
    refine JK (Lt := bc ++ []) (Lr := br ++ (bo ++ (bp ++ (bq ++ (bb ++ []))))) rfl call45 rfl rfl rfl (pT ((fS (fS (fS (fS fP)))).trans (pA pR)) (lp (ln rfl))) (fun F2 h2 h3 => by rw [(Bd.Dx aa).1]; exact NO (aa.row (Ac _) h2 (fun p hp => h3 p (List.mem_append_left _ hp))) (di.mono (Ac _) h2) dk) ?_
    refine uv (AS (Bq rfl ad) rfl) (um ?_)
    rcases Cd ok with af | af
    ·have cg := bt cf af
     refine nB af (um (nB af ?_))
     refine uv (Cx rfl rfl) (uv (AS (Hx rfl af) rfl) (um ?_))
     by_cases ab : n5 = 11
     ·have dm := Bi cg ab
      refine nT ab (um (nT ab ?_))
      refine bA (cs := #[.int .i64 0]) PY [.int .i64 0] ?_; intro ax cj
      refine nT ab ?_
      refine bA (cs := #[.int .i64 1]) PY [.int .i64 1] ?_; intro ay ck
      refine nT ab ?_
      refine bA (cs := #[.slice (some ⟨ax, 0, none⟩) 1 1, .slice (some ⟨ay, 0, none⟩) 1 1]) Ul [.slice (some ⟨ax, 0, none⟩) 1 1, .slice (some ⟨ay, 0, none⟩) 1 1] ?_; intro dn cn
      refine nT ab ?_
      refine Bz 2 rfl cj ?_; intro dp cp cq
      refine AI rfl ?_
      replace ae := ae.mono (Am (Ac _)) cp
      have al : As 1 (iE .i64) dp (some ⟨ax, 0, none⟩) 1 [0] := As.BW (Ac _) (vss := [[.int .i64 0]]) (xs := [0]) cq (.cons rfl .nil) rfl (by simp [maxLen])
      refine Bz 1 rfl ck ?_; intro dq ba cr
      refine AI rfl ?_
      replace ae := ae.mono (Am (Ac _)) ba
      replace al := al.mono (Ac _) ba
      have bn : As 1 (iE .i64) dq (some ⟨ay, 0, none⟩) 1 [1] := As.BW (Ac _) (vss := [[.int .i64 1]]) (xs := [1]) cr (.cons rfl .nil) rfl (by simp [maxLen])
      refine Bz 0 rfl cn ?_; intro dr ao ct
      refine AI rfl ?_
      replace ae := ae.mono (Am (Ac _)) ao
      replace al := al.mono (Ac _) ao
      replace bn := bn.mono (Ac _) ao
      have dt : As 1 (BC 1 (iE .i64)) dr (some ⟨dn, 0, none⟩) 2 [[0], [1]] := As.BW (Am (Ac _)) (vss := [[.slice (some ⟨ax, 0, none⟩) [0].length 1], [.slice (some ⟨ay, 0, none⟩) [1].length 1]]) (xs := [[0], [1]]) ct (.cons ⟨_, _, rfl, al⟩ (.cons ⟨_, _, rfl, bn⟩ .nil)) rfl (by simp [maxLen])
      obtain ⟨ik, du, dv⟩ := AF dm
      refine cV call46 (JU ae dt du) (uv (AS (Bq rfl ab) rfl) ?_)
      refine ua (Aa ?_)
      refine kW kn (Aj (BZ results9 ?_))
      obtain rfl := AH dv
      exact rfl
     have dw := Bk cg ab
     refine fF ab (fF ab (fF ab (fF ab (fF ab ?_))))
     refine uv (AE (Bc rfl ab) rfl) ?_
     refine ua (Aa ?_)
     refine kW kn (Aj (BZ results9 ?_))
     obtain rfl := AH dw
     exact rfl
    have dx := bf cf af
    refine fB af (fB af ?_)
    refine uv (AE (Hx rfl af) rfl) ?_
    refine um (Ay (b' := false) 44 rfl rfl rfl rfl (Ay (b' := false) 44 rfl rfl rfl rfl (Ay (b' := false) 44 rfl rfl rfl rfl (Ay (b' := false) 44 rfl rfl rfl rfl (Ay (b' := false) 44 rfl rfl rfl rfl ?_)))))
    refine uv (AE rfl rfl) ?_
    refine ua (Aa ?_)
    refine kW kn (Aj (BZ results9 ?_))
    obtain rfl := AH dx
    exact rfl
   have dy := Bk cb ad
   refine fF ad (fF ad (fF ad ?_))
   refine uv (AE (Bc rfl ad) rfl) ?_
   refine um (Ay (b' := false) 40 rfl rfl rfl rfl (Ay (b' := false) 40 rfl rfl rfl rfl ?_))
   refine uv (AE rfl rfl) ?_
   refine um (Ay (b' := false) 44 rfl rfl rfl rfl (Ay (b' := false) 44 rfl rfl rfl rfl (Ay (b' := false) 44 rfl rfl rfl rfl (Ay (b' := false) 44 rfl rfl rfl rfl (Ay (b' := false) 44 rfl rfl rfl rfl ?_)))))
   refine uv (AE rfl rfl) ?_
   refine ua (Aa ?_)
   refine kW kn (Aj (BZ results9 ?_))
   obtain rfl := AH dy
   exact rfl
  have dz := Bk ca aj
  refine fF aj (fF aj ?_)
  refine uv (AE (Bc rfl aj) rfl) ?_
  refine um (Ay (b' := false) 35 rfl rfl rfl rfl (Ay (b' := false) 35 rfl rfl rfl rfl (Ay (b' := false) 35 rfl rfl rfl rfl ?_)))
  refine uv (AE rfl rfl) ?_
  refine um (Ay (b' := false) 40 rfl rfl rfl rfl (Ay (b' := false) 40 rfl rfl rfl rfl ?_))
  refine uv (AE rfl rfl) ?_
  refine um (Ay (b' := false) 44 rfl rfl rfl rfl (Ay (b' := false) 44 rfl rfl rfl rfl (Ay (b' := false) 44 rfl rfl rfl rfl (Ay (b' := false) 44 rfl rfl rfl rfl (Ay (b' := false) 44 rfl rfl rfl rfl ?_)))))
  refine uv (AE rfl rfl) ?_
  refine ua (Aa ?_)
  refine kW kn (Aj (BZ results9 ?_))
  obtain rfl := AH dz
  exact rfl
 have e9 := Bk bx ai
 refine fF ai (fF ai ?_)
 refine uv (AE (Bc rfl ai) rfl) ?_
 refine um (Ay (b' := false) 31 rfl rfl rfl rfl (Ay (b' := false) 31 rfl rfl rfl rfl ?_))
 refine uv (AE rfl rfl) ?_
 refine um (Ay (b' := false) 35 rfl rfl rfl rfl (Ay (b' := false) 35 rfl rfl rfl rfl (Ay (b' := false) 35 rfl rfl rfl rfl ?_)))
 refine uv (AE rfl rfl) ?_
 refine um (Ay (b' := false) 40 rfl rfl rfl rfl (Ay (b' := false) 40 rfl rfl rfl rfl ?_))
 refine uv (AE rfl rfl) ?_
 refine um (Ay (b' := false) 44 rfl rfl rfl rfl (Ay (b' := false) 44 rfl rfl rfl rfl (Ay (b' := false) 44 rfl rfl rfl rfl (Ay (b' := false) 44 rfl rfl rfl rfl (Ay (b' := false) 44 rfl rfl rfl rfl ?_)))))
 refine uv (AE rfl rfl) ?_
 refine ua (Aa ?_)
 refine kW kn (Aj (BZ results9 ?_))
 obtain rfl := AH e9
 exact rfl
set_option maxHeartbeats 1000000 in
theorem M4 (ab : As 1 (iE .u8) F B6 B3 metal) {r r2 r3 : Int} (hr : Fx metal at_ GK = some (r, r2, r3)) :
    SH.Spec Tryz.prog 115 #[.pointer (some ⟨IT, 0, none⟩)] F [(IT, ce #[.slice B6 metal.length B3, .int .i64 at_, .int .u32 GK] 137)] fun _ L' v => v = .int .i64 r ∧ L' = [(IT, ce #[.slice B6 metal.length B3, .int .i64 r2, .int .u32 r3] 137)] := by
 refine sp func115 ntmps115 fun K _ _ => ?_
 rw [Fx] at hr
 refine AJ (ua (Aa ?_))
 obtain ⟨ad, aa, h1, r4⟩ := DM hr
 refine jE ([(IT, ce #[.slice B6 metal.length B3, .int .i64 ad, .int .u32 aa] 137)]) [(0, .pointer (some ⟨IT, 0, none⟩))] ?_ ?_
 ·clear r4
  refine dW (wm (wv (AV rfl) (wv (Ab Mt rfl) (wv (Ah isAgg3 rfl (Has.own 0 rfl) rfl) (wm (wv (AV rfl) (wv (Ab Qd rfl) ?_)))))))
  refine wv (Ah isAgg22 rfl (Has.own 0 rfl) rfl) (wv (A2 underlying22 rfl) (wv (Cx rfl rfl) (CX ?_)))
  refine cQ (fun c5 => ?_) fun c5 => ?_
  ·have r6 := Bi h1 c5
   refine Af (um (um (um ?_)))
   refine uv (AV rfl) (uv (Ab QG rfl) (uv (Ah isAgg135 rfl (Has.own 0 rfl) rfl) (uv (WC rfl rfl rfl) (uv (AV rfl) (uv (Ab Mt rfl) (B4 (i := 0) sizeOf3 rfl rfl rfl rfl (CB rfl) (AI rfl ?_)))))))
   refine uv (AV rfl) (uv (Ab QG rfl) (B4 (i := 0) sizeOf135 rfl rfl rfl rfl (CB rfl) (AI rfl (Aa ?_))))
   obtain ⟨rfl, rfl⟩ := DO r6
   exact mi kr ⟨rfl, rfl, z1⟩
  have r7 := Bk h1 c5
  refine Al ?_
  obtain ⟨rfl, rfl⟩ := DO r7
  exact mi kr ⟨rfl, rfl, z1⟩
 refine AJ (um ?_)
 refine uv (AV rfl) (uv (Ab QG rfl) (uv (Ah isAgg135 rfl (Has.own 0 rfl) rfl) (uv (Ww rfl rfl rfl) ?_)))
 obtain ⟨n, h9, au⟩ := C3 r4
 refine uv ((Ji rfl).i h9) (Aa ?_)
 obtain ⟨n2, ae, al, ao⟩ := DM au
 refine jE ([(IT, ce #[.slice B6 metal.length B3, .int .i64 ae, .int .u32 aa] 137)]) [(3, .int .u32 n2)] ?_ ?_
 ·clear ao
  refine AJ (um ?_)
  refine uv (AV rfl) (uv (Ab Qd rfl) (uv (Ah isAgg22 rfl (Has.own 0 rfl) rfl) (uv (A2 underlying22 rfl) (uv (Jy rfl rfl) (Aa ?_)))))
  refine cQ (fun af => ?_) fun af => ?_
  ·have av := Bi al af
   refine dW ?_
   refine wm (wm ?_)
   refine wv (AV rfl) (wv (Ab Qd rfl) (wv (Ah isAgg22 rfl (Has.own 0 rfl) rfl) (wm (wv (AV rfl) (wv (Ab Mt rfl) (wv (Ah isAgg3 rfl (Has.own 0 rfl) rfl) ?_))))))
   obtain ⟨x, aq, ah, aw⟩ := BY av
   obtain ⟨bk, bl, bn, ax, ai, aj, ar, rfl, ay, ak⟩ := As.at (Ac _) ab ([(IT, ce #[.slice B6 metal.length B3, .int .i64 ad, .int .u32 aa] 137)]) aq.1 ah
   refine wv (AT underlying22 sizeOf5 rfl ai rfl aq) (wv (Ah isAgg5 rfl aj (ak 0 (by decide))) (wv (Tc rfl underlying5 underlying135 rfl) (wv (Ww rfl rfl rfl) (wv (WC rfl rfl rfl) ?_))))
   obtain ⟨n3, az, ba⟩ := C3 aw
   refine wv ((Ji rfl).i az) ?_
   refine CX (Af (um ?_))
   refine uv (AV rfl) (uv (Ab Mt rfl) (uv (Ah isAgg3 rfl (Has.own 0 rfl) rfl) ?_))
   obtain ⟨bb, bc⟩ := A0 ba
   refine uv (Bf rfl rfl bb) (uv (AV rfl) (uv (Ab Mt rfl) (B4 (i := 0) sizeOf3 rfl rfl rfl rfl (CB rfl) (AI rfl (Aa ?_)))))
   obtain ⟨rfl, rfl⟩ := DO bc
   exact mi kr ⟨rfl, rfl, z1⟩
  have bd := Bk al af
  refine Al ?_
  obtain ⟨rfl, rfl⟩ := DO bd
  exact mi kr ⟨rfl, rfl, z1⟩
 refine AJ (um (um ?_))
 refine uv (Jh rfl rfl (by decide)) (uv (XR rfl rfl rfl) (uv (XU rfl rfl rfl) ?_))
 obtain ⟨bg, bj⟩ := A0 ao
 refine uv (Tv underlying135 underlying3 rfl bg) ?_
 refine ua (Aa (Aj ?_))
 refine BZ results115 ?_
 obtain ⟨rfl, rfl, rfl⟩ := H2 bj
 exact ⟨rfl, rfl⟩
theorem IQ (aa : As 1 (iE .u8) F B6 B3 metal) {r r2 r3 : Int} (hr : Ee metal at_ GK n = some (r, r2, r3)) :
    SH.Spec Tryz.prog 40 #[.pointer (some ⟨IT, 0, none⟩), .int .i64 n] F [(IT, ce #[.slice B6 metal.length B3, .int .i64 at_, .int .u32 GK] 137)] fun _ L' v => v = .int .i64 r ∧ L' = [(IT, ce #[.slice B6 metal.length B3, .int .i64 r2, .int .u32 r3] 137)] := by
 refine sp func40 ntmps40 fun K _ _ => ?_
 rw [Ee] at hr
 refine AJ (ua (BU (um ?_)))
 obtain ⟨n2, ad, ab, h1, r4⟩ := GR hr
 refine cG call115 (M4 aa h1) ?_; rintro _ F5 _ ai aj ak ⟨rfl, rfl⟩
 refine AI (lb (ln rfl)) (um ?_)
 obtain ⟨g9, ae⟩ := A0 r4
 refine uv (Bf rfl rfl g9) (uv (Xc rfl rfl) ?_)
 obtain ⟨af, ah⟩ := A0 ae
 refine uv (RZ rfl rfl af) ?_
 refine ua (Aa (Aj ?_))
 refine BZ results40 ?_
 obtain ⟨rfl, rfl, rfl⟩ := H2 ah
 exact ⟨rfl, rfl⟩
theorem IM (aa : As 1 (iE .u8) F B6 B3 metal) {r r2 r3 : Int} (hr : Eb metal at_ GK lo hi = some (r, r2, r3)) :
    SH.Spec Tryz.prog 39 #[.pointer (some ⟨IT, 0, none⟩), .int .i64 lo, .int .i64 hi] F [(IT, ce #[.slice B6 metal.length B3, .int .i64 at_, .int .u32 GK] 137)] fun _ L' v => v = .int .i64 r ∧ L' = [(IT, ce #[.slice B6 metal.length B3, .int .i64 r2, .int .u32 r3] 137)] := by
 refine sp func39 ntmps39 fun K _ _ => ?_
 rw [Eb] at hr
 refine AJ (ua (BU (um (um (um (um ?_))))))
 obtain ⟨g1, r4⟩ := A0 hr
 refine uv (Fs rfl rfl g1) ?_
 obtain ⟨n, ad, ab, h5, r6⟩ := GR r4
 refine cG call40 (IQ aa h5) ?_; rintro _ F7 _ ai ae aj ⟨rfl, rfl⟩
 refine AI (lb (ln rfl)) ?_
 obtain ⟨af, ah⟩ := A0 r6
 refine uv (Bf rfl rfl af) ?_
 refine ua (Aa (Aj ?_))
 refine BZ results39 ?_
 obtain ⟨rfl, rfl, rfl⟩ := H2 ah
 exact ⟨rfl, rfl⟩
theorem Fp (aa : As 1 (iE .u8) F B6 B3 metal) {r : Bool} {r2 r3 : Int} (hr : CG metal at_ GK n = some (r, r2, r3)) :
    SH.Spec Tryz.prog 66 #[.pointer (some ⟨IT, 0, none⟩), .int .i64 n] F [(IT, ce #[.slice B6 metal.length B3, .int .i64 at_, .int .u32 GK] 137)] fun _ L' v => v = .bool r ∧ L' = [(IT, ce #[.slice B6 metal.length B3, .int .i64 r2, .int .u32 r3] 137)] := by
 refine sp func66 ntmps66 fun K _ _ => ?_
 rw [CG] at hr
 refine AJ (ua (BU (um (um ?_))))
 obtain ⟨g1, r4⟩ := A0 hr
 refine uv (Fs rfl rfl g1) ?_
 obtain ⟨n2, ad, ab, h5, r6⟩ := GR r4
 refine cG call40 (IQ aa h5) ?_; rintro _ F7 _ af ae ah ⟨rfl, rfl⟩
 refine AI (lb (ln rfl)) (uv (Cx rfl rfl) ?_)
 refine ua (Aa (Aj ?_))
 refine BZ results66 ?_
 obtain ⟨rfl, rfl, rfl⟩ := H2 r6
 exact ⟨rfl, rfl⟩
set_option maxHeartbeats 1000000 in
theorem Px {AL : Option Addr} {AO : Nat} {Ap : List (List Int)} {B0 : Int} (aa : As 1 (BC 1 (iE .i64)) F AL AO Ap) {r : Int} (hr : HN Ap B0 = some r) :
    Bl Tryz.prog 67 #[.slice AL Ap.length AO, .int .i64 B0] F (.int .i64 r) := by
 refine sp func67 ntmps67 fun K _ _ => ?_
 rw [HN] at hr
 refine AJ (ua (BU (ua (Aa ?_))))
 obtain ⟨out, h1, r2⟩ := AF hr
 refine jE ([]) [(5, .int .i64 out)] ?_ ?_
 ·clear r2
  refine AJ (um ?_)
  refine uv (A2 underlying36 rfl) ?_
  refine um (Aa ?_)
  refine Ak ?_
  refine Br (fun bk e1 F1 L1 => LA Ap bk fun tl k => ∃ (ab : Int), DZ B0 tl k ab = some out ∧ F = F1 ∧ L1 = [] ∧ e1.sub [(1, .int .i64 B0), (5, .int .i64 ab), (11, .slice AL Ap.length AO), (12, .int .i64 (Ap.length : Int)), (13, .int .i64 k)]) _ (m0 kr ⟨_, _, rfl, BI.start _, 0, h1, rfl, rfl, z5⟩) ?_
  rintro bk e1 _ _ ⟨tl, k, bz, aq, ab, r5, rfl, rfl, ca⟩
  refine AB _ ca (AJ (uv (Bp rfl rfl) ?_))
  refine Aa (Aq ?_)
  refine cQ (fun c8 => ?_) fun c8 => ?_
  ·obtain ⟨x, dd, rfl, ar, bl, cb⟩ := BI.succ aq c8
   rw [DZ] at r5
   refine Al ?_
   obtain ⟨ai, cc, bn⟩ := AF r5
   refine jE ([]) [(1, .int .i64 B0), (5, .int .i64 ai), (11, .slice AL Ap.length AO), (12, .int .i64 (Ap.length : Int)), (13, .int .i64 k)] ?_ ?_
   ·clear bn
    refine Ak ?_
    refine AJ (um ?_)
    obtain ⟨de, df, dg, cd, au, av, bo, ⟨cf, cg, rfl, aw⟩, cj, ax⟩ := As.at (Am (Ac _)) aa ([]) bl.1 ar
    refine uv (AT underlying36 sizeOf33 rfl au rfl bl) (uv (Ah isAgg33 rfl av (ax 0 (by decide))) ?_)
    refine ua (ua (BU (um ?_)))
    refine uv (A2 underlying33 rfl) (uv (Cx rfl rfl) ?_)
    refine ua (Aa ?_)
    obtain ⟨ay, ck, bp⟩ := AF cc
    refine jE ([]) [(1, .int .i64 B0), (5, .int .i64 ab), (6, .int .i64 k), (8, .bool ay), (11, .slice AL Ap.length AO), (12, .int .i64 (Ap.length : Int)), (13, .int .i64 k)] ?_ ?_
    ·clear bp
     refine AJ (um ?_)
     refine uv (A2 underlying33 rfl) ?_
     refine um (Aa ?_)
     refine Ak ?_
     refine Br (fun bq e1 F1 L1 => LA x bq fun br k2 => ∃ (af : Bool), Dp ab br af = some ay ∧ F = F1 ∧ L1 = [] ∧ e1.sub [(1, .int .i64 B0), (5, .int .i64 ab), (6, .int .i64 k), (8, .bool af), (11, .slice AL Ap.length AO), (12, .int .i64 (Ap.length : Int)), (13, .int .i64 k), (21, .slice cf x.length cg), (22, .int .i64 (x.length : Int)), (23, .int .i64 k2)]) _ (m0 kr ⟨_, _, rfl, BI.start _, decide ((x.length : Int) = 0), ck, rfl, rfl, (sc rfl (sc rfl z8))⟩) ?_
     rintro bq e1 _ _ ⟨br, k2, aj, ah, af, ak, rfl, rfl, az⟩
     refine AB _ az (AJ (uv (Bp rfl rfl) ?_))
     refine Aa (Aq ?_)
     refine cQ (fun al => ?_) fun al => ?_
     ·obtain ⟨x2, dh, rfl, ba, bu, ao⟩ := BI.succ ah al
      rw [Dp] at ak
      refine Al (Aq ?_)
      refine Ak (AJ ?_)
      obtain ⟨di, dk, dm, cn, bb, bc, bw, rfl, cp, bd⟩ := As.at (Ac _) aw ([]) bu.1 ba
      refine uv (AT underlying33 sizeOf3 rfl bb rfl bu) (uv (Ah isAgg3 rfl bc (bd 0 (by decide))) ?_)
      refine ua (Aa (Af (um (um ?_))))
      rcases Cd af with ad | ad
      ·have cq := bt ak ad
       refine fB ad (fB ad (fB ad (fB ad (fB ad ?_))))
       refine uv (AS (Hx rfl ad) rfl) ?_
       refine ua (Aa (At (id := 3) (Af ?_)))
       refine uv (Bf rfl rfl (BI.Ed ah al (As.lt aw))) ?_
       refine um (Aa ?_)
       subst aj; exact le kr ⟨_, _, rfl, ao, true, cq, rfl, rfl, (sc rfl (sc rfl z8))⟩
      have cr := bf ak ad
      refine nB ad (um (nB ad (um (nB ad ?_))))
      obtain ⟨ct, cu⟩ := A0 cr
      refine uv (Jh rfl rfl ct) (nB ad (uv (KB rfl rfl) (nB ad (uv (Cx rfl rfl) (uv (AE (Hx rfl ad) rfl) ?_)))))
      refine ua (Aa (At (id := 3) (Af ?_)))
      refine uv (Bf rfl rfl (BI.Ed ah al (As.lt aw))) ?_
      refine um (Aa ?_)
      subst aj; exact le kr ⟨_, _, rfl, ao, decide ((Fa (shr ab x2) 1) = 1), cu, rfl, rfl, (sc rfl (sc rfl z8))⟩
     obtain rfl := BI.zero ah al
     rw [Dp] at ak
     refine AW (Ae (Ae ?_))
     refine Au ?_
     obtain rfl := AH ak
     exact mi kr ⟨rfl, rfl, z7⟩
    obtain ⟨k3, bx, bg⟩ := AF bp
    refine jE ([]) [(1, .int .i64 B0), (5, .int .i64 ab), (6, .int .i64 k), (11, .slice AL Ap.length AO), (12, .int .i64 (Ap.length : Int)), (13, .int .i64 k), (43, .bool k3)] ?_ ?_
    ·clear bg
     refine Af (um (um ?_))
     rcases Cd ay with ae | ae
     ·have cv := bt bx ae
      refine nB ae (um (nB ae (um (nB ae ?_))))
      obtain ⟨cw, cx⟩ := A0 cv
      refine uv (Jh rfl rfl cw) (nB ae (uv (KB rfl rfl) (nB ae (uv (Cx rfl rfl) (uv (AS (Hx rfl ae) rfl) (Aa ?_))))))
      obtain rfl := AH cx
      exact mi kr ⟨rfl, rfl, z7⟩
     have cy := bf bx ae
     refine fB ae (fB ae (fB ae (fB ae (fB ae ?_))))
     refine uv (AE (Hx rfl ae) rfl) (Aa ?_)
     obtain rfl := AH cy
     exact mi kr ⟨rfl, rfl, z7⟩
    refine AX rfl (fun bj => ?_) (fun bj => ?_)
    ·have cz := bt bg bj
     refine Af (um (um ?_))
     obtain ⟨da, db⟩ := A0 cz
     refine uv (Oy rfl rfl da) (uv (Tx rfl rfl) ?_)
     refine ua (Aa (At (id := 1) ?_))
     obtain rfl := AH db
     exact mi kr ⟨rfl, rfl, z5⟩
    have Ed := bf bg bj
    refine Al (At (id := 1) ?_)
    obtain rfl := AH Ed
    exact mi kr ⟨rfl, rfl, z5⟩
   refine Af (uv (Bf rfl rfl (BI.Ed aq c8 (As.lt aa))) ?_)
   refine um (Aa ?_)
   subst bz; exact le kr ⟨_, _, rfl, cb, ai, bn, rfl, rfl, z5⟩
  obtain rfl := BI.zero aq c8
  rw [DZ] at r5
  refine AW (Ae (Ae ?_))
  refine Au ?_
  obtain rfl := AH r5
  exact mi kr ⟨rfl, rfl, z1⟩
 refine AJ (um (ua (Aa (Aj ?_))))
 refine BZ results67 ?_
 obtain rfl := AH r2
 exact rfl
end Go.Proofs.YtfmapnhfamoecaaGreat
