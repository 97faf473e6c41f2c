/- The walks that this claim needs, printed by a program of mine; part 3. -/
import Derived.Test.YtfmapnhfamoecaaGreatZRNR2
namespace Go.Proofs.YtfmapnhfamoecaaGreat
open Go.SH Go.PL
open Tryz 
variable {FY Gc : Array Value} {F : FS} {FZ : FuncId} {hour Dr BW r3 Cm start BI wide BC : Int} {count : Int → Option Int} {Ac : List ((List Int) × Int × Int)} {Eg : List (List Bool)} {Ak walks : List (List Int)} {v : List Bool} {plots : List Int} {Hx At Fy Ar AT B0 AF : Nat} {Hp As FJ Aq AS B5 AG : Option Addr}
set_option maxHeartbeats 1000000 in
theorem NT {MN : Nat} {down BT : Int} {Ds : Bool} {Re : Nat × Nat} (ad : F MN = some (.cells #[.int .i64 wide, .slice AS plots.length AT, .int .i64 down, .int .i64 BT, .bool Ds] 323 Re)) (aa : Ax 1 (iE .i64) F AS AT plots) {r : List (List Bool)} (hr : GL wide plots down BT Ds BI = some r) :
    SH.Spec Tryz.prog 132 #[.pointer (some ⟨MN, 0, none⟩), .int .i64 BI] F [] fun F' L' v => ∃ (ra : Option Addr) (rn : Nat) (rc : Nat) (rL : LH), v = .slice ra rn rc ∧ L' = rL ++ [] ∧ A6 0 170 30 (JA 30 cB) F' ra rn rc r rL := by
 refine sp func132 ntmps132 fun K _ _ => ?_
 rw [GL] at hr
 refine AO (ua (Cj (um ?_)))
 refine uv (A4 rfl) (uv (Ab HT rfl) (uv (Ab Dd rfl) (uv (Aj isAgg25 rfl (Has.frozen ad) rfl) (uv (A3 underlying25 rfl) ?_))))
 obtain ⟨g1, r2⟩ := A2 hr
 obtain ⟨l, h3, r4⟩ := DK r2
 refine NM (R := (JA 30 cB)) (z0 := List.replicate 30 false) (zs := l) rfl Lu (by decide) (Ca (n := 30) (sz := 1) Bi) (fun _ => ⟨rfl, rfl⟩) rfl g1 h3 (fun _ => .n) ?_; intro a5 n8 fb fe
 refine ua (Aa ?_)
 obtain ⟨out, ff, dn⟩ := AI r4
 refine AV (fun e1 F1 L1 => ∃ (ay : LH), AZ F F1 ∧ L1 = (ay ++ []) ∧ e1.sub [(5, .slice a5 n8 n8)] ∧ A6 K.w0.heap.size 170 30 (JA 30 cB) F1 a5 n8 n8 out ay) ?_ ?_
 ·clear dn
  refine AO (um ?_)
  refine uv (A4 rfl) (uv (Ab HT rfl) (uv (Ab Dd rfl) (uv (Aj isAgg25 rfl (Has.frozen ad) rfl) (uv (A3 underlying25 rfl) ?_))))
  refine um (Aa ?_)
  refine Am ?_
  refine Bk (fun dp e1 F1 L1 => LA plots dp fun tl k => ∃ (al : List (List Bool)) (ae : LH), Dv wide plots down BT Ds BI tl k al = some out ∧ AZ F F1 ∧ L1 = (ae ++ []) ∧ e1.sub [(0, .pointer (some ⟨MN, 0, none⟩)), (1, .int .i64 BI), (5, .slice a5 n8 n8), (21, .slice AS plots.length AT), (22, .int .i64 (plots.length : Int)), (23, .int .i64 k)] ∧ A6 K.w0.heap.size 170 30 (JA 30 cB) F1 a5 n8 n8 al ae) _ (m0 kr ⟨_, _, rfl, BP.start _, l, fb, ff, AZ.refl _, rfl, z6, fe⟩) ?_
  rintro dp e1 fg _ ⟨tl, k, bz, az, al, ae, br, ao, rfl, ca, ah⟩
  refine AA _ ca ?_
  replace aa := aa.mono (Ad _) ao
  replace ad := ao _ _ ad
  refine AO (uv (Bg rfl rfl) ?_)
  refine Aa (Ao ?_)
  refine cQ (fun bu => ?_) fun bu => ?_
  ·obtain ⟨x, gp, rfl, cb, dq, cc⟩ := BP.succ az bu
   rw [Dv] at br
   refine An ?_
   obtain ⟨ba, dr, dt⟩ := AI br
   refine AV (fun e1 F1 L1 => ∃ (aq : LH), AZ fg F1 ∧ L1 = (aq ++ []) ∧ e1.sub [(0, .pointer (some ⟨MN, 0, none⟩)), (1, .int .i64 BI), (5, .slice a5 n8 n8), (21, .slice AS plots.length AT), (22, .int .i64 (plots.length : Int)), (23, .int .i64 k)] ∧ A6 K.w0.heap.size 170 30 (JA 30 cB) F1 a5 n8 n8 ba aq) ?_ ?_
   ·clear dt
    refine Am ?_
    refine AO (um ?_)
    obtain ⟨gq, gr, gu, fh, cf, cg, du, rfl, fi, cj⟩ := Ax.at (Ad _) aa (ae ++ []) dq.1 cb
    refine uv (AN underlying25 sizeOf34 rfl cf rfl dq) (uv (Aj isAgg34 rfl cg (cj 0 (by decide))) ?_)
    refine ua (ua (Aa (Ao (AO (um ?_)))))
    refine uv (B8 rfl rfl) (Aa ?_)
    refine cQ (fun cn => ?_) fun cn => ?_
    ·have fj := A8 dr cn
     refine AQ (Af ?_)
     refine Av ?_
     obtain rfl := AM fj
     exact mi kr ⟨ae, AZ.refl _, rfl, z6, ah⟩
    have fk := A9 dr cn
    refine An (AO (um (um ?_)))
    obtain ⟨l2, fl, fm⟩ := AI fk
    refine c0 call117 (KY ad aa fl) ?_; rintro _ fo _ ar cp ⟨dv, dw, dx, ai, rfl, rfl, af⟩
    replace aa := aa.mono (Ad _) ar
    replace ah := ah.mono (Ca (n := 30) (sz := 1) Bi) ar
    replace ad := ar _ _ ad
    replace af := af.new fun p hp => cp p (by simp [hp])
    refine AK (lp (ln rfl)) (uv ((A3 underlying33 rfl).i (A6.Je af)) ?_)
    refine um (Aa ?_)
    refine Am ?_
    refine Bk (fun dy e1 F1 L1 => LA l2 dy fun dz k2 => ∃ (au : List (List Bool)) (ab : LH), CL plots BI k dz k2 au = some ba ∧ fo = F1 ∧ L1 = (ab ++ (ai ++ [])) ∧ e1.sub [(0, .pointer (some ⟨MN, 0, none⟩)), (1, .int .i64 BI), (5, .slice a5 n8 n8), (6, .int .i64 k), (21, .slice AS plots.length AT), (22, .int .i64 (plots.length : Int)), (23, .int .i64 k), (32, .slice dv dw dx), (33, .int .i64 (l2.length : Int)), (34, .int .i64 k2)] ∧ A6 K.w0.heap.size 170 30 (JA 30 cB) F1 a5 n8 n8 au ab) _ (m0 (kg (fS fP) kr) ⟨_, _, rfl, BP.start _, al, ae, fm, rfl, rfl, (sc rfl (sc rfl z8)), ah⟩) ?_
    rintro dy e1 _ _ ⟨dz, k2, bg, av, au, ab, bx, rfl, rfl, cq, aj⟩
    refine AA _ cq (AO (uv (Bg rfl rfl) ?_))
    refine Aa (Ao ?_)
    refine cQ (fun bj => ?_) fun bj => ?_
    ·obtain ⟨x2, gv, rfl, cr, e9, bk⟩ := BP.succ av bj
     rw [CL] at bx
     refine An (Ao ?_)
     refine Am ?_
     refine AO (um ?_)
     obtain ⟨gw, gz, ia, fp, ct, cu, eg, rfl, fq, cv⟩ := A6.at (Ad _) af (L := ab ++ (ai ++ [])) (fS fP) e9.1 cr
     refine uv (AN underlying33 sizeOf3 rfl ct rfl (A6.idx af e9)) (uv (Aj isAgg3 rfl cu (cv 0 (by decide))) ?_)
     refine ua (ua (Aa ?_))
     obtain ⟨k3, ft, cw⟩ := AI bx
     refine jE ((ab ++ (ai ++ []))) [(0, .pointer (some ⟨MN, 0, none⟩)), (1, .int .i64 BI), (5, .slice a5 n8 n8), (6, .int .i64 k), (8, .int .i64 k2), (21, .slice AS plots.length AT), (22, .int .i64 (plots.length : Int)), (23, .int .i64 k), (32, .slice dv dw dx), (33, .int .i64 (l2.length : Int)), (34, .int .i64 k2), (52, .bool k3)] ?_ ?_
     ·clear cw
      refine Ai (um ?_)
      refine uv (A4 rfl) (uv (Ab HT rfl) (uv (Ab Dd rfl) (uv (Aj isAgg25 rfl (Has.frozen ad) rfl) (um ?_))))
      obtain ⟨x3, eh, cx, ej⟩ := Cb ft
      obtain ⟨ib, ic, ie, fv, cy, cz, eo, rfl, fw, da⟩ := Ax.at (Ad _) aa (ab ++ (ai ++ [])) eh.1 cx
      refine uv (AN underlying25 sizeOf34 rfl cy rfl eh) (uv (Aj isAgg34 rfl cz (da 0 (by decide))) (uv (Dn rfl rfl) (um ?_)))
      by_cases ak : x3 = 1
      ·have fx := A8 ej ak
       refine nT ak (um (nT ak (um (nT ak ?_))))
       obtain ⟨ok, fy, ga⟩ := AI fx
       refine cV call121 (I3 fy) (uv (AP (Bf rfl ak) rfl) (Aa ?_))
       obtain rfl := AM ga
       exact mi kr ⟨rfl, rfl, (sc rfl (sc rfl (sc rfl (sc rfl z8))))⟩
      have gb := A9 ej ak
      refine fF ak (fF ak (fF ak ?_))
      refine uv (AB (AU rfl ak) rfl) (Aa ?_)
      obtain rfl := AM gb
      exact mi kr ⟨rfl, rfl, (sc rfl (sc rfl (sc rfl (sc rfl z8))))⟩
     refine AY rfl (fun db => ?_) (fun db => ?_)
     ·have gg := bt cw db
      refine Ai (um (um (um ?_)))
      obtain ⟨x4, dd, bl, gh⟩ := Cb gg
      obtain ⟨gi, gj, gk, er, aw, et, de, ⟨rfl, bb⟩, eu, ew⟩ := A6.at (Ca (n := 30) (sz := 1) Bi) aj (L := ab ++ (ai ++ [])) fP dd.1 bl
      refine uv (AN underlying166 sizeOf170 rfl aw rfl (A6.idx aj dd)) ?_
      obtain ⟨x5, bc, ey, df⟩ := Cb gh
      refine uv (Ci underlying170 sizeOf4 rfl rfl (Sj bb bc)) ?_
      obtain ⟨bm, dg, dh⟩ := DK df
      refine Wc (zs := bm) (off := (k : Int).toNat * 1) (x0 := x4) (u := x4.set (k : Int).toNat true) sizeOf4 (Ca (n := 30) (sz := 1) Bi) rfl aw rfl rfl (Yr (Sj bb bc)) bl (fun vs h => RX Bi h (YL (Sj bb bc)) rfl) (fun _ => .h) aj dg dd ?_; intro bn bo
      refine Aa (Au (id := 3) (Ai ?_))
      refine uv (Bd rfl rfl (BP.EP av bj (A6.Xq af))) ?_
      refine um (Aa ?_)
      subst bg; exact le kr ⟨_, _, rfl, bk, bm, bn, dh, rfl, rfl, (sc rfl (sc rfl z8)), bo⟩
     have di := bf cw db
     refine An (Au (id := 3) (Ai ?_))
     refine uv (Bd rfl rfl (BP.EP av bj (A6.Xq af))) ?_
     refine um (Aa ?_)
     subst bg; exact le kr ⟨_, _, rfl, bk, au, ab, di, rfl, rfl, (sc rfl (sc rfl z8)), aj⟩
    obtain rfl := BP.zero av bj
    rw [CL] at bx
    refine AQ (Af (Af ?_))
    refine Av (Au (id := 1) ?_)
    obtain rfl := AM bx
    exact mi (ka kn) ⟨ab, ar, rfl, z6, aj⟩
   rintro e1 gl _ ⟨aq, ax, rfl, bp, dk⟩
   refine AA _ bp ?_
   replace aa := aa.mono (Ad _) ax
   refine Ai (uv (Bd rfl rfl (BP.EP az bu (Ax.lt aa))) ?_)
   refine um (Aa ?_)
   subst bz; exact le kr ⟨_, _, rfl, cc, ba, aq, dt, (ao.trans ax), rfl, z6, dk⟩
  obtain rfl := BP.zero az bu
  rw [Dv] at br
  refine AQ (Af (Af ?_))
  refine Av ?_
  obtain rfl := AM br
  exact mi kr ⟨ae, ao, rfl, z1, ah⟩
 rintro e1 gm _ ⟨ay, fa, rfl, bq, dm⟩
 refine AA _ bq ?_
 refine AO (um (ua (Aa (Al ?_))))
 refine Cq results132 ?_
 obtain rfl := AM dn
 exact ⟨_, _, _, _, rfl, rfl, dm.any⟩
set_option maxHeartbeats 1000000 in
theorem Ou (aa : Ax 1 (iE .i64) F AS AT plots) {r : List (List Bool)} {r2 : Int} (hr : I2 wide plots BC BI = some (r, r2)) :
    SH.Spec Tryz.prog 55 #[.agg #[.int .i64 wide, .slice AS plots.length AT], .agg #[.int .i64 BC, .int .i64 BI]] F [] fun F' L' v => ∃ (ra : Option Addr) (rn : Nat) (rc : Nat) (rL : LH), v = .tuple #[.slice ra rn rc, .int .i64 r2] ∧ L' = rL ++ [] ∧ A6 0 170 30 (JA 30 cB) F' ra rn rc r rL := by
 refine sp func55 ntmps55 fun K _ _ => ?_
 rw [I2] at hr
 refine AO ?_
 refine BH rfl rfl ?_; intro b1 bo
 refine BH rfl rfl ?_; intro b2 bp
 refine ua (ua (Aa (Ao (AO ?_))))
 refine uv (AL isAgg27 sizeOf27 rfl (Has.own 1 rfl) (Ce rfl) rfl) ?_
 obtain ⟨n, h3, r4⟩ := AI hr
 refine cV call64 (Lm aa h3) ?_
 refine ua (Cj (um ?_))
 refine uv (B8 rfl rfl) (Aa ?_)
 refine cQ (fun c5 => ?_) fun c5 => ?_
 ·have r6 := A8 r4 c5
  refine AO (um (ua (ua (Aa ?_))))
  refine kW kn ?_
  refine Al (Ah ?_)
  refine CP results55 (AR rfl) (AR rfl) (sr) ?_
  obtain ⟨rfl, rfl⟩ := DH r6
  exact ⟨_, _, _, [], rfl, rfl, A6.nil _ _ _ _ _⟩
 have r7 := A9 r4 c5
 refine An (Ao (AO ?_))
 refine uv (AL isAgg31 sizeOf31 rfl (Has.own 0 rfl) (Ce rfl) rfl) ?_
 obtain ⟨n2, h8, r9⟩ := AI r7
 refine cV call130 (PF h8) ?_
 refine ua (Cj (um ?_))
 refine uv (B8 rfl rfl) (Aa ?_)
 refine cQ (fun ah => ?_) fun ah => ?_
 ·have ao := A8 r9 ah
  refine AO (um (ua (ua (Aa ?_))))
  refine kW kn ?_
  refine Al (Ah ?_)
  refine CP results55 (AR rfl) (AR rfl) (sr) ?_
  obtain ⟨rfl, rfl⟩ := DH ao
  exact ⟨_, _, _, [], rfl, rfl, A6.nil _ _ _ _ _⟩
 have aq := A9 r9 ah
 refine An (AO ?_)
 refine uv (AL isAgg27 sizeOf27 rfl (Has.own 1 rfl) (Ce rfl) rfl) (uv (Ab PH rfl) (uv (Aj isAgg29 rfl (Has.own 0 rfl) rfl) ?_))
 obtain ⟨d, n3, ar, au⟩ := DA aq
 refine c0 call131 (Na aa ar) ?_; rintro _ av _ aw ax ⟨bq, rfl, rfl, ai⟩
 refine AK (ln rfl) ?_
 refine um (ox rfl rfl rfl (ox rfl rfl rfl (ua (ua (Cj (um ?_))))))
 refine uv (Ab PK rfl) (uv (Aj isAgg3 rfl (Has.own 0 rfl) rfl) ?_)
 obtain ⟨af, ab, down, BT, Ds, ay, az⟩ := TO au
 have al := ai; rw [ay] at al; obtain ⟨ba, br, bb, aj, ad, ⟨_, _, rfl, rfl, ⟨_, _, rfl, ⟨bc, bg, rfl, bj⟩, ⟨_, _, rfl, rfl, ⟨_, _, rfl, rfl, rfl⟩⟩⟩⟩⟩ := al; subst aj
 have ad : av ba = some (.cells #[.int .i64 af, .slice bc ab.length bg, .int .i64 down, .int .i64 BT, .bool Ds] 323 bb) := ad
 obtain ⟨l, bk, bl⟩ := AI az
 refine c0 call132 (NT ad bj bk) ?_; rintro _ bu _ bm ak ⟨bx, bz, ca, bn, rfl, rfl, ae⟩
 replace ae := ae.new fun p hp => ak p (by simp [hp])
 refine AK (lp (ln rfl)) (kO (kf (fS fO) (kf (fS fO) kr)) ?_)
 refine ua (ua (Aa ?_))
 refine kW (kd (kd kr)) (Al (CP results55 (AR rfl) (AR rfl) (sr) ?_))
 obtain ⟨rfl, rfl⟩ := DH bl
 exact ⟨_, _, _, _, rfl, rfl, ae.any⟩
set_option maxHeartbeats 1000000 in
theorem TH (aa : Ax 1 (iE .i64) F AS AT plots) {r : List Int} {r2 : Int} (hr : I5 wide plots BC BI = some (r, r2)) :
    SH.Spec Tryz.prog 15 #[.agg #[.int .i64 wide, .slice AS plots.length AT], .agg #[.int .i64 BC, .int .i64 BI]] F [] fun F' L' v => ∃ (ra : Option Addr) (rn : Nat) (rc : Nat) (rL : LH), v = .tuple #[.slice ra rn rc, .int .i64 r2] ∧ L' = rL ++ [] ∧ A6 0 3 1 (iE .i64) F' ra rn rc r rL := by
 refine sp func15 ntmps15 fun K _ _ => ?_
 rw [I5] at hr
 refine AO ?_
 refine BH rfl rfl ?_; intro b1 dt
 refine BH rfl rfl ?_; intro b2 du
 refine ua (ua (Cj ?_))
 refine uv (AL isAgg27 sizeOf27 rfl (Has.own 1 rfl) (Ce rfl) rfl) (uv (AL isAgg31 sizeOf31 rfl (Has.own 0 rfl) (Ce rfl) rfl) ?_)
 obtain ⟨l, n, h3, r4⟩ := DA hr
 refine c0 call55 (Ou aa h3) ?_; rintro _ F5 _ ct cu ⟨a9, cc, cf, af, rfl, rfl, ah⟩
 replace aa := aa.mono (Ad _) ct
 replace ah := ah.new fun p hp => cu p (by simp [hp])
 refine AK (lp (ln rfl)) (kO (kf (fS fO) (kf (fS fO) kr)) ?_)
 refine um (ox rfl rfl rfl (ox rfl rfl rfl (ua (ua (Aa (Ao (AO (um ?_))))))))
 refine uv (B8 rfl rfl) (Aa ?_)
 refine cQ (fun ay => ?_) fun ay => ?_
 ·have cv := A8 r4 ay
  refine AO (um (ua (ua (Aa ?_))))
  refine kW kn ?_
  refine Al (Ah ?_)
  refine CP results15 (AR rfl) (AR rfl) (sr) ?_
  obtain ⟨rfl, rfl⟩ := DH cv
  exact ⟨_, _, _, [], rfl, rfl, A6.nil _ _ _ _ _⟩
 have cw := A9 r4 ay
 refine An (AO (ua (Aa ?_)))
 obtain ⟨out, cx, cg⟩ := AI cw
 refine AV (fun e1 F1 L1 => ∃ (az : Option Addr) (ba : Nat) (bb : Nat) (ak : LH), F5 = F1 ∧ L1 = (ak ++ []) ∧ e1.sub [(8, .slice az ba bb)] ∧ A6 K.w0.heap.size 3 1 (iE .i64) F1 az ba bb out ak) ?_ ?_
 ·clear cg
  refine AO (uv (Ab Dd rfl) (uv (Aj isAgg25 rfl (Has.own 1 rfl) rfl) (uv (A3 underlying25 rfl) ?_)))
  refine um (Aa ?_)
  refine Am (kW (kd (kd kr)) ?_)
  refine Bk (fun cj e1 F1 L1 => LA plots cj fun tl k => ∃ (ae : List Int) (ao : Option Addr) (Qw : Nat) (aq : Nat) (ab : LH), EV l tl k ae = some out ∧ F5 = F1 ∧ L1 = (af ++ (ab ++ [])) ∧ e1.sub [(6, .slice a9 cc cf), (8, .slice ao Qw aq), (21, .slice AS plots.length AT), (22, .int .i64 (plots.length : Int)), (23, .int .i64 k)] ∧ A6 K.w0.heap.size 3 1 (iE .i64) F1 ao Qw aq ae ab) _ (m0 (ka (ke kr)) ⟨_, _, rfl, BP.start _, [], none, 0, 0, [], cx, rfl, rfl, z5, A6.nil _ _ _ _ _⟩) ?_
  rintro cj e1 _ _ ⟨tl, k, ar, ai, ae, ao, Qw, aq, ab, ax, rfl, rfl, bc, al⟩
  refine AA _ bc (AO (uv (Bg rfl rfl) ?_))
  refine Aa (Ao ?_)
  refine cQ (fun au => ?_) fun au => ?_
  ·obtain ⟨x, dv, rfl, bg, cn, av⟩ := BP.succ ai au
   rw [EV] at ax
   refine An (Ao ?_)
   refine Am ?_
   refine AO (um ?_)
   obtain ⟨dw, dx, dy, cy, bj, bk, cp, rfl, cz, bl⟩ := Ax.at (Ad _) aa (af ++ (ab ++ [])) cn.1 bg
   refine uv (AN underlying25 sizeOf34 rfl bj rfl cn) (uv (Aj isAgg34 rfl bk (bl 0 (by decide))) ?_)
   refine ua (ua (Aa ?_))
   obtain ⟨k2, cq, bm⟩ := AI ax
   refine jE ((af ++ (ab ++ []))) [(6, .slice a9 cc cf), (8, .slice ao Qw aq), (9, .int .i64 k), (21, .slice AS plots.length AT), (22, .int .i64 (plots.length : Int)), (23, .int .i64 k), (37, .bool k2)] ?_ ?_
   ·clear bm
    refine Ai (um ?_)
    refine uv (Dn rfl rfl) (um ?_)
    by_cases ad : x = 1
    ·have da := A8 cq ad
     refine nT ad (um (nT ad (um (nT ad ?_))))
     obtain ⟨x2, cr, bn, db⟩ := Cb da
     obtain ⟨dz, e9, eg, dd, bo, bp, aj, ⟨rfl, de⟩, bq, br⟩ := A6.at (Ca (n := 30) (sz := 1) Bi) ah (L := af ++ (ab ++ [])) fP cr.1 bn
     refine uv (AN underlying166 sizeOf170 rfl bo rfl (A6.idx ah cr)) (nT ad (uv (AL isAgg170 sizeOf170 rfl bp aj (By aj bq br)) (nT ad ?_)))
     refine uv (Bx (v := .agg (arr cB (List.replicate 30 false))) rfl (by intro w; kernel_rfl)) ?_
     refine nT ad (uv (Pe (P4 _ _ _ _) (So de List.length_replicate) rfl rfl) (uv (AP (Bf rfl ad) rfl) (Aa ?_)))
     obtain rfl := AM db
     exact mi kr ⟨rfl, rfl, z7⟩
    have df := A9 cq ad
    refine fF ad (fF ad (fF ad (fF ad (fF ad (fF ad ?_)))))
    refine uv (AB (AU rfl ad) rfl) (Aa ?_)
    obtain rfl := AM df
    exact mi kr ⟨rfl, rfl, z7⟩
   refine AY rfl (fun bu => ?_) (fun bu => ?_)
   ·have dg := bt bm bu
    refine Ai (um (um ?_))
    refine bA (cs := #[.int .i64 k]) CD [.int .i64 k] ?_; intro eh dh
    obtain ⟨aw, di, dk, dm⟩ := Hv dg
    refine Fg (xs := ae) (ys := [k]) (zs := aw) rfl CD rfl rfl (Nat.le_refl _) (fun _ => .c (.s .h)) al (HE.box (vss := [[.int .i64 k]]) (ys := [k]) 0 rfl (Ad _) (.cons rfl .nil) rfl rfl) di dk (by decide) ?_; intro dn dp dq bx bz
    refine kO (kd kr) ?_
    refine ua (Aa (Au (id := 1) (Ai ?_)))
    refine uv (Bd rfl rfl (BP.EP ai au (Ax.lt aa))) ?_
    refine um (Aa ?_)
    subst ar; exact le kr ⟨_, _, rfl, av, aw, dn, dp, dq, bx, dm, rfl, rfl, z5, bz⟩
   have dr := bf bm bu
   refine An (Au (id := 1) (Ai ?_))
   refine uv (Bd rfl rfl (BP.EP ai au (Ax.lt aa))) ?_
   refine um (Aa ?_)
   subst ar; exact le kr ⟨_, _, rfl, av, ae, ao, Qw, aq, ab, dr, rfl, rfl, z5, al⟩
  obtain rfl := BP.zero ai au
  rw [EV] at ax
  refine AQ (Af (Af ?_))
  refine Av ?_
  obtain rfl := AM ax
  exact mi (kx kr) ⟨ao, Qw, aq, ab, rfl, rfl, z1, al⟩
 rintro e1 _ _ ⟨az, ba, bb, ak, rfl, rfl, ca, cb⟩
 refine AA _ ca ?_
 refine AO (um (ua (ua (Aa (Al ?_)))))
 refine CP results15 (AR rfl) (AR rfl) (sr) ?_
 obtain ⟨rfl, rfl⟩ := DH cg
 exact ⟨_, _, _, _, rfl, rfl, cb.any⟩
set_option maxHeartbeats 1000000 in
theorem GY {s_ : List (Int × Int)} {Mk : FuncId} {Mz Md : Array Value} {f : (Int × Int) → Option Bool} (ab : Ax 2 (Cd (iE .i64) (iE .i64)) F B5 B0 s_) (al : IQ Tryz.prog F Mk Mz Md (XE (Cd (iE .i64) (iE .i64))) Value.bool f) {r : Int} (hr : CE s_ f = some r) :
    Bw Tryz.prog 133 #[.slice B5 s_.length B0, .func (.func Mk) Mz Md] F (.int .i64 r) := by
 refine sp func133 ntmps133 fun K _ _ => ?_
 rw [CE] at hr
 refine AO (ua (Aa ?_))
 refine AV (fun e1 F1 L1 => C9 = some r ∧ F = F1 ∧ L1 = [] ∧ e1.sub []) ?_ ?_
 ·refine AO (um ?_)
  refine uv (A3 underlying48 rfl) ?_
  refine um (Aa ?_)
  refine Am ?_
  refine Bk (fun ao e1 F1 L1 => LA s_ ao fun tl k => Bb f tl k = some r ∧ F = F1 ∧ L1 = [] ∧ e1.sub [(0, .slice B5 s_.length B0), (1, .func (.func Mk) Mz Md), (7, .int .i64 (s_.length : Int)), (8, .int .i64 k)]) _ (m0 kr ⟨_, _, rfl, BP.start _, hr, rfl, rfl, z4⟩) ?_
  rintro ao e1 _ _ ⟨tl, k, au, ad, r3, rfl, rfl, av⟩
  refine AA _ av (AO (uv (Bg rfl rfl) ?_))
  refine Aa (Ao ?_)
  refine cQ (fun c6 => ?_) fun c6 => ?_
  ·obtain ⟨x, bc, rfl, aw, g9, ax⟩ := BP.succ ad c6
   rw [Bb] at r3
   refine An (Ao ?_)
   refine Am ?_
   refine AO (um (ua (Cj (um (um (um ?_))))))
   obtain ⟨H5, bg, bj, ay, ae, af, aa, ⟨_, _, rfl, rfl, rfl⟩, ah, ai⟩ := Ax.at (AD (Ad _) (Ad _)) ab ([]) g9.1 aw
   refine uv (AN underlying48 sizeOf58 rfl ae rfl g9) (uv (AL isAgg58 sizeOf58 rfl af aa (By aa ah ai)) ?_)
   obtain ⟨ok, az, aq⟩ := AI r3
   refine FI rfl al.1 rfl rfl rfl (al.2 _ (AZ.refl _) _ _ _ ⟨_, rfl, ⟨_, _, rfl, rfl, rfl⟩⟩ az) (Aa ?_)
   refine AY rfl (fun aj => ?_) (fun aj => ?_)
   ·have ba := bt aq aj
    refine AO (um (ua (Aa (Al (Ay (Ah (Ah (Ay (Ah ?_)))))))))
    refine Cq results133 ?_
    obtain rfl := AM ba
    exact rfl
   have bb := bf aq aj
   refine An (Au (id := 1) (Ai ?_))
   refine uv (Bd rfl rfl (BP.EP ad c6 (Ax.lt ab))) ?_
   refine um (Aa ?_)
   subst au; exact le kr ⟨_, _, rfl, ax, bb, rfl, rfl, z4⟩
  obtain rfl := BP.zero ad c6
  rw [Bb] at r3
  refine AQ (Af (Af ?_))
  refine Av ?_
  exact mi kr ⟨r3, rfl, rfl, (sn _)⟩
 rintro e1 _ _ ⟨ar, rfl, rfl, ak⟩
 refine AA _ ak ?_
 rw [C9] at ar
 refine AO (ua (Aa (Al ?_)))
 refine Cq results133 ?_
 obtain rfl := AM ar
 exact rfl
theorem LQ {af : Nat} {aa ab : Int} {ad : Nat × Nat} (ae : F af = some (.cells #[.int .i64 aa, .int .i64 ab] 58 ad)) {r : Bool} (hr : Df BW Dr aa ab = some r) :
    Bw Tryz.prog 134 #[.agg #[.int .i64 BW, .int .i64 Dr], .pointer (some ⟨af, 0, none⟩)] F (.bool r) := by
 refine sp func134 ntmps134 fun K _ _ => ?_
 rw [Df] at hr
 refine AO ?_
 refine BH rfl rfl ?_; intro b1 ah
 refine ua (Cj ?_)
 refine uv (AL isAgg58 sizeOf58 rfl (Has.own 0 rfl) (Ce rfl) rfl) (uv (AL isAgg58 sizeOf58 rfl (Has.frozen ae) (Ce rfl) rfl) (uv (Pe (X2 _ _ _ _) (YU _ _ _ _) rfl rfl) ?_))
 refine ua (Aa ?_)
 refine kW kn (Al (Cq results134 ?_))
 obtain rfl := AM hr
 exact rfl
theorem MY {KG : Nat} {Ae : Int} {A5 : List Int} {CV : Option Addr} {CR : Nat} {Bs : List (Int × Int)} {hit : List Int} {QR : Nat × Nat} (ah : F KG = some (.cells ((([.slice AG walks.length AF] : List Value) ++ (([.slice As Ak.length At] : List Value) ++ (([.int .i64 Ae] : List Value) ++ (([.int .i64 start] : List Value) ++ (([.slice Aq Ac.length Ar] : List Value) ++ (A5.flatMap (cI .i64) ++ (([.slice CV Bs.length CR] : List Value) ++ (hit.flatMap (cI .i64))))))))).toArray) 156 QR)) (_ae : Ax 1 (Cn 1 (iE .i64)) F AG AF walks) (_af : Ax 1 (Cn 1 (iE .i64)) F As At Ak) (_ad : Ax 3 (Cd (Cn 1 (iE .i64)) (Cd (iE .i64) (iE .i64))) F Aq Ar Ac) (ab : A5.length = 25) (aa : Ax 2 (Cd (iE .i64) (iE .i64)) F CV CR Bs) (_h_hit : hit.length = 15) {r : Int} (hr : FL walks Ak Ae start Ac A5 Bs hit BW Dr = some r) :
    Bw Tryz.prog 56 #[.pointer (some ⟨KG, 0, none⟩), .agg #[.int .i64 BW, .int .i64 Dr]] F (.int .i64 r) := by
 refine sp func56 ntmps56 fun K _ _ => ?_
 rw [FL] at hr
 refine AO ?_
 refine BH rfl rfl ?_; intro b1 aj
 refine ua (Cj (um ?_))
 refine uv (A4 rfl) (uv (Ab K1 rfl) (uv (Aj isAgg48 rfl (Has.frozen ah) (Fs (AE (k := 1) (o := 29) rfl (AE (k := 1) (o := 28) rfl (AE (k := 1) (o := 27) rfl (AE (k := 1) (o := 26) rfl (AE (k := 1) (o := 25) rfl (AE (k := 25) (o := 0) (FV (BU .i64) ab) (BV rfl))))))))) (uv (C8 rfl rfl) ?_)))
 refine Bo 0 rfl aj ?_; intro F2 ak al
 refine AK rfl ?_
 replace aa := aa.mono (AD (Ad _) (Ad _)) ak
 have ao : IQ Tryz.prog F2 134 #[] #[.pointer (some ⟨b1, 0, none⟩)] (XE (Cd (iE .i64) (iE .i64))) Value.bool (fun ai : (Int × Int) => Df ai.1 ai.2 BW Dr) := ⟨call134, fun F2 h2 vs ai r ha hr => by obtain ⟨_, rfl, ⟨_, _, rfl, rfl, rfl⟩⟩ := ha; exact LQ (h2 _ _ al) hr⟩
 obtain ⟨n, h6, r7⟩ := AI hr
 refine cV call133 (GY aa ao h6) ?_
 refine ua (Aa (Al ?_))
 refine Cq results56 ?_
 obtain rfl := AM r7
 exact rfl
set_option maxHeartbeats 1000000 in
theorem PA {Ae : Int} (ad : Ax 1 (Cn 1 (iE .i64)) F AG AF walks) (ae : Ax 1 (Cn 1 (iE .i64)) F As At Ak) (aa : Ax 3 (Cd (Cn 1 (iE .i64)) (Cd (iE .i64) (iE .i64))) F Aq Ar Ac) {r r2 : Int} (hr : FN walks Ak Ae start Ac BW Dr = some (r, r2)) :
    Bw Tryz.prog 16 #[.agg #[.slice AG walks.length AF, .slice As Ak.length At, .int .i64 Ae, .int .i64 start, .slice Aq Ac.length Ar], .agg #[.int .i64 BW, .int .i64 Dr]] F (.tuple #[.int .i64 r, .int .i64 r2]) := by
 refine sp func16 ntmps16 fun K _ _ => ?_
 rw [FN] at hr
 refine AO ?_
 refine BH rfl rfl ?_; intro b1 cq
 refine BH rfl rfl ?_; intro b2 cr
 refine ua (ua (Cj ?_))
 refine uv (AL isAgg39 sizeOf39 rfl (Has.own 1 rfl) (Ce rfl) rfl) ?_
 obtain ⟨d, n, h3, r4⟩ := DA hr
 refine c0 call49 (Kk ad ae aa h3) ?_; rintro _ F5 _ ct cu ⟨v9, rfl, rfl, al⟩
 refine AK (ln rfl) ?_
 refine um (ox rfl rfl rfl (ox rfl rfl rfl (ua (ua (Aa (Ao ?_))))))
 refine Am ?_
 refine AO (um ?_)
 refine uv (B8 rfl rfl) ?_
 refine ua (Aa ?_)
 refine cQ (fun ao => ?_) fun ao => ?_
 ·have bj := A8 r4 ao
  refine AO (um (ua (ua (Aa ?_))))
  refine kW kn ?_
  refine Al (Ay (Ah ?_))
  refine CP results16 (AR rfl) (AR rfl) (sr) ?_
  obtain ⟨rfl, rfl⟩ := DH bj
  exact rfl
 have bk := A9 r4 ao
 refine AO (um ?_)
 refine uv (AL isAgg58 sizeOf58 rfl (Has.own 0 rfl) (Ce rfl) rfl) ?_
 obtain ⟨A5, ai, af, aj, ab, ak, Bs, hit, bl, bm⟩ := WH bk
 have av := al; rw [bl] at av; obtain ⟨bn, cv, bo, aq, ah, ⟨_, _, rfl, ⟨bp, bq, rfl, aw⟩, ⟨_, _, rfl, ⟨br, bu, rfl, ax⟩, ⟨_, _, rfl, rfl, ⟨_, _, rfl, rfl, ⟨_, _, rfl, ⟨bx, bz, rfl, ay⟩, ⟨_, _, rfl, ⟨rfl, az⟩, ⟨_, _, rfl, ⟨ca, cb, rfl, ba⟩, ⟨rfl, bb⟩⟩⟩⟩⟩⟩⟩⟩⟩ := av; subst aq
 have ah : F5 bn = some (.cells ((([.slice bp A5.length bq] : List Value) ++ (([.slice br ai.length bu] : List Value) ++ (([.int .i64 af] : List Value) ++ (([.int .i64 aj] : List Value) ++ (([.slice bx ab.length bz] : List Value) ++ (ak.flatMap (cI .i64) ++ (([.slice ca Bs.length cb] : List Value) ++ (hit.flatMap (cI .i64))))))))).toArray) 156 bo) := ah
 obtain ⟨n2, cc, bc⟩ := AI bm
 refine cV call56 (MY ah aw ax ay az ba bb cc) (uv (Bg rfl rfl) ?_)
 refine ua (Aa ?_)
 refine cQ (fun ar => ?_) fun ar => ?_
 ·have cf := A8 bc ar
  refine AO (ua (ua (Aa ?_)))
  refine kW kn ?_
  refine Al (Ay (Ah ?_))
  refine CP results16 (AR rfl) (AR rfl) (sr) ?_
  obtain ⟨rfl, rfl⟩ := DH cf
  exact rfl
 have cg := A9 bc ar
 refine An (Au (id := 0) (AO (um ?_)))
 refine uv (AL isAgg58 sizeOf58 rfl (Has.own 0 rfl) (Ce rfl) rfl) ?_
 obtain ⟨n3, cj, bg⟩ := AI cg
 refine cV call51 (Jy ah aw ax ay az ba bb cj) ?_
 refine ua (Aa (Ao (AO (um ?_))))
 refine uv (Dn rfl rfl) (Aa ?_)
 refine cQ (fun au => ?_) fun au => ?_
 ·have cn := A8 bg au
  refine AO (ua (ua (Aa ?_)))
  refine kW kn ?_
  refine Al (Ah ?_)
  refine CP results16 (AR rfl) (AR rfl) (sr) ?_
  obtain ⟨rfl, rfl⟩ := DH cn
  exact rfl
 have cp := A9 bg au
 refine An (AO (um (ua (ua (Aa ?_)))))
 refine kW kn (Al (CP results16 (AR rfl) (AR rfl) (sr) ?_))
 obtain ⟨rfl, rfl⟩ := DH cp
 exact rfl
set_option maxHeartbeats 1000000 in
theorem HO {s_ : List (Int × Int)} (ab : Ax 2 (Cd (iE .i64) (iE .i64)) F B5 B0 s_) {r : Int} (hr : C6 s_ BW Dr = some r) :
    Bw Tryz.prog 57 #[.slice B5 s_.length B0, .agg #[.int .i64 BW, .int .i64 Dr]] F (.int .i64 r) := by
 refine sp func57 ntmps57 fun K _ _ => ?_
 rw [C6] at hr
 refine AO ?_
 refine BH rfl rfl ?_; intro b1 ba
 refine ua (Aa ?_)
 refine AV (fun e1 F1 L1 => DF = some r ∧ F = F1 ∧ L1 = [] ∧ e1.sub []) ?_ ?_
 ·refine AO (um ?_)
  refine uv (A3 underlying48 rfl) ?_
  refine um (Aa ?_)
  refine Am ?_
  refine Bk (fun al e1 F1 L1 => LA s_ al fun tl k => BB BW Dr tl k = some r ∧ F = F1 ∧ L1 = [(b1, ce #[.int .i64 BW, .int .i64 Dr] 58)] ∧ e1.sub [(0, .slice B5 s_.length B0), (3, .pointer (some ⟨b1, 0, none⟩)), (7, .int .i64 (s_.length : Int)), (8, .int .i64 k)]) _ (m0 kr ⟨_, _, rfl, BP.start _, hr, rfl, rfl, z4⟩) ?_
  rintro al e1 _ _ ⟨tl, k, ar, ad, r4, rfl, rfl, au⟩
  refine AA _ au (AO (uv (Bg rfl rfl) ?_))
  refine Aa (Ao ?_)
  refine cQ (fun c7 => ?_) fun c7 => ?_
  ·obtain ⟨x, bb, rfl, av, ao, aw⟩ := BP.succ ad c7
   rw [BB] at r4
   refine An (Ao ?_)
   refine Am ?_
   refine AO (um (ua ?_))
   refine dN (wv (AL isAgg58 sizeOf58 rfl (Has.own 0 rfl) (Ce rfl) rfl) ?_)
   refine wm (wm ?_)
   obtain ⟨QM, bc, bg, ax, ae, af, aa, ⟨_, _, rfl, rfl, rfl⟩, ah, ai⟩ := Ax.at (AD (Ad _) (Ad _)) ab ([(b1, ce #[.int .i64 BW, .int .i64 Dr] 58)]) ao.1 av
   refine wv (AN underlying48 sizeOf58 rfl ae rfl ao) (wv (AL isAgg58 sizeOf58 rfl af aa (By aa ah ai)) (wv (Pe (X2 _ _ _ _) (YU _ _ _ _) rfl rfl) (DN ?_)))
   refine cQ (fun aj => ?_) fun aj => ?_
   ·have ay := A8 r4 aj
    refine AO (um (ua (Aa ?_)))
    refine kW kn ?_
    refine Al (Ay (Ah (Ah (Ay (Ah ?_)))))
    refine Cq results57 ?_
    obtain rfl := AM ay
    exact rfl
   have az := A9 r4 aj
   refine An (Au (id := 1) (Ai ?_))
   refine uv (Bd rfl rfl (BP.EP ad c7 (Ax.lt ab))) ?_
   refine um (Aa ?_)
   subst ar; exact le kr ⟨_, _, rfl, aw, az, rfl, rfl, z4⟩
  obtain rfl := BP.zero ad c7
  rw [BB] at r4
  refine AQ (Af (Af ?_))
  refine Av ?_
  exact mi kn ⟨r4, rfl, rfl, (sn _)⟩
 rintro e1 _ _ ⟨aq, rfl, rfl, ak⟩
 refine AA _ ak ?_
 rw [DF] at aq
 refine AO (ua (Aa (Al ?_)))
 refine Cq results57 ?_
 obtain rfl := AM aq
 exact rfl
theorem G8 {s_ : List (Int × Int)} (aa : Ax 2 (Cd (iE .i64) (iE .i64)) F B5 B0 s_) {r : Bool} (hr : B4 s_ BW Dr = some r) :
    Bw Tryz.prog 17 #[.slice B5 s_.length B0, .agg #[.int .i64 BW, .int .i64 Dr]] F (.bool r) := by
 refine sp func17 ntmps17 fun K _ _ => ?_
 rw [B4] at hr
 refine AO ?_
 refine BH rfl rfl ?_; intro b1 ab
 refine ua (Cj (um ?_))
 refine uv (AL isAgg58 sizeOf58 rfl (Has.own 0 rfl) (Ce rfl) rfl) ?_
 obtain ⟨n, h2, r3⟩ := AI hr
 refine cV call57 (HO aa h2) (uv (Hn rfl rfl) ?_)
 refine ua (Aa ?_)
 refine kW kn (Al (Cq results17 ?_))
 obtain rfl := AM r3
 exact rfl
set_option maxHeartbeats 1000000 in
theorem NY {Ae : List Int} (ab : Ax 1 (iE .i64) F AS AT plots) (aa : Ax 1 (iE .i64) F FJ Fy Ae) {r : Int} (hr : H2 wide plots Ae = some r) :
    Bw Tryz.prog 135 #[.agg #[.int .i64 wide, .slice AS plots.length AT], .slice FJ Ae.length Fy] F (.int .i64 r) := by
 refine sp func135 ntmps135 fun K _ _ => ?_
 rw [H2] at hr
 refine AO ?_
 refine BH rfl rfl ?_; intro b1 bz
 refine ua (Aa ?_)
 refine AV (fun e1 F1 L1 => H7 = some r ∧ F = F1 ∧ L1 = [] ∧ e1.sub []) ?_ ?_
 ·refine AO (um ?_)
  refine uv (A3 underlying33 rfl) ?_
  refine um (Aa ?_)
  refine Am ?_
  refine Bk (fun aq e1 F1 L1 => LA Ae aq fun tl k => D3 wide plots Ae tl k = some r ∧ F = F1 ∧ L1 = [(b1, ce #[.int .i64 wide, .slice AS plots.length AT] 27)] ∧ e1.sub [(1, .slice FJ Ae.length Fy), (2, .pointer (some ⟨b1, 0, none⟩)), (8, .slice FJ Ae.length Fy), (9, .int .i64 (Ae.length : Int)), (10, .int .i64 k)]) _ (m0 kr ⟨_, _, rfl, BP.start _, hr, rfl, rfl, z5⟩) ?_
  rintro aq e1 _ _ ⟨tl, k, ay, af, r4, rfl, rfl, az⟩
  refine AA _ az (AO (uv (Bg rfl rfl) ?_))
  refine Aa (Ao ?_)
  refine cQ (fun c7 => ?_) fun c7 => ?_
  ·obtain ⟨x, ca, rfl, ba, ar, bb⟩ := BP.succ af c7
   rw [D3] at r4
   refine An (Ao ?_)
   refine Am ?_
   refine AO (um ?_)
   obtain ⟨QM, cb, cc, bc, ah, ai, au, rfl, bg, aj⟩ := Ax.at (Ad _) aa ([(b1, ce #[.int .i64 wide, .slice AS plots.length AT] 27)]) ar.1 ba
   refine uv (AN underlying33 sizeOf3 rfl ah rfl ar) (uv (Aj isAgg3 rfl ai (aj 0 (by decide))) ?_)
   refine ua (ua (Aa (Ao (AO ?_))))
   refine uv (AL isAgg27 sizeOf27 rfl (Has.own 0 rfl) (Ce rfl) rfl) (um ?_)
   obtain ⟨n, bj, av⟩ := AI r4
   refine cV call65 (J8 ab bj) ?_
   refine ua (Cj (um ?_))
   refine uv (B8 rfl rfl) (Aa ?_)
   refine cQ (fun ak => ?_) fun ak => ?_
   ·have bk := A8 av ak
    refine AO (um (ua (Aa ?_)))
    refine kW kn ?_
    refine Al (Ah (Ay (Ah (Ah (Ay (Ah ?_))))))
    refine Cq results135 ?_
    obtain rfl := AM bk
    exact rfl
   have bl := A9 av ak
   refine An (AO (um (um ?_)))
   obtain ⟨bm, bn⟩ := A2 bl
   obtain ⟨ae, bo, bp⟩ := DK bn
   obtain ⟨cf, cg, bq, ad⟩ := Ax.slice (Ad _) aa bm bo
   refine uv ((MM (l := 0) (h := k) underlying33 sizeOf3 rfl (.inl ⟨rfl, rfl⟩) (.inr ⟨_, rfl, rfl⟩) ad.1).eq ad.2) (um ?_)
   obtain ⟨ok, br, aw⟩ := AI bp
   refine cV call18 (Cv bq br) (Aa ?_)
   refine AY rfl (fun al => ?_) (fun al => ?_)
   ·have bu := bt aw al
    refine AO (ua (Aa ?_))
    refine kW kn ?_
    refine Al (Ay (Ah (Ah (Ay (Ah ?_)))))
    refine Cq results135 ?_
    obtain rfl := AM bu
    exact rfl
   have bx := bf aw al
   refine An (Au (id := 1) (Ai ?_))
   refine uv (Bd rfl rfl (BP.EP af c7 (Ax.lt aa))) ?_
   refine um (Aa ?_)
   subst ay; exact le kr ⟨_, _, rfl, bb, bx, rfl, rfl, z5⟩
  obtain rfl := BP.zero af c7
  rw [D3] at r4
  refine AQ (Af (Af ?_))
  refine Av ?_
  exact mi kn ⟨r4, rfl, rfl, (sn _)⟩
 rintro e1 _ _ ⟨ax, rfl, rfl, ao⟩
 refine AA _ ao ?_
 rw [H7] at ax
 refine AO (ua (Aa (Al ?_)))
 refine Cq results135 ?_
 obtain rfl := AM ax
 exact rfl
theorem TF {r : Int} (hr : Ig Cm = some r) :
    Bw Tryz.prog 136 #[.int .i64 Cm] F (.int .i64 r) := by
 refine sp func136 ntmps136 fun K _ _ => ?_
 rw [Ig] at hr
 refine AO (ua (Cj (ua (Aa ?_))))
 obtain ⟨n, h1, r2⟩ := AI hr
 refine jE ([]) [(3, .int .i64 n)] ?_ ?_
 ·clear r2
  refine Am ?_
  refine Bk (fun ab e1 F1 L1 => ∃ (aa : Int) (n2 : Int), FA ab aa n2 = some n ∧ F = F1 ∧ L1 = [] ∧ e1.sub [(0, .int .i64 aa), (3, .int .i64 n2)]) FU (m0 kr ⟨Cm, 0, h1, rfl, rfl, z2⟩) ?_
  rintro ab e1 _ _ ⟨aa, n2, r5, rfl, rfl, ad⟩
  refine AA _ ad ?_
  rcases ab with _ | ab
  ·rw [FA] at r5; cases r5
  rw [FA] at r5
  refine Ao (AO (um ?_))
  refine uv (JU rfl rfl) (Aa ?_)
  refine cQ (fun c7 => ?_) fun c7 => ?_
  ·have r8 := A8 r5 c7
   refine An (Ao ?_)
   refine Am ?_
   refine Ai (um (um ?_))
   refine uv (NG rfl rfl (by decide)) ?_
   obtain ⟨g9, ae⟩ := A2 r8
   refine uv (Bd rfl rfl g9) ?_
   refine ua (Aa (Au (id := 1) (Ai (um ?_))))
   obtain ⟨af, ah⟩ := A2 ae
   refine uv (P1 rfl rfl af) ?_
   refine ua (Aa ?_)
   exact le kr ⟨Int.tdiv aa 2, n2 + (Int.tmod aa 2), ah, rfl, rfl, z2⟩
  have ai := A9 r5 c7
  refine AQ (Af (Af ?_))
  refine Av ?_
  obtain rfl := AM ai
  exact mi kr ⟨rfl, rfl, z1⟩
 refine AO (um (ua (Aa (Al ?_))))
 refine Cq results136 ?_
 obtain rfl := AM r2
 exact rfl
set_option maxHeartbeats 1000000 in
theorem R7 {Ae : List Int} (ab : Ax 1 (iE .i64) F AS AT plots) (aa : Ax 1 (iE .i64) F FJ Fy Ae) {r : List (List Bool)} {r2 : Bool} (hr : Kl wide plots BC BI Ae = some (r, r2, r3)) :
    SH.Spec Tryz.prog 59 #[.agg #[.int .i64 wide, .slice AS plots.length AT], .agg #[.int .i64 BC, .int .i64 BI], .slice FJ Ae.length Fy] F [] fun F' L' v => ∃ (ra : Option Addr) (rn : Nat) (rc : Nat) (rL : LH) (cj : Value), v = .tuple #[.agg #[.slice ra rn rc, cj], .int .i64 r3] ∧ L' = rL ++ [] ∧ A6 0 170 30 (JA 30 cB) F' ra rn rc r rL ∧ SR cj r2 136 := by
 refine sp func59 ntmps59 fun K _ _ => ?_
 rw [Kl] at hr
 refine AO ?_
 refine BH rfl rfl ?_; intro b1 dz
 refine BH rfl rfl ?_; intro b2 e9
 refine Bj rfl zeroValue174 ?_; intro b3 eg
 refine ua (Cj ?_)
 refine uv (AL isAgg27 sizeOf27 rfl (Has.own 2 rfl) (Ce rfl) rfl) (uv (AL isAgg31 sizeOf31 rfl (Has.own 1 rfl) (Ce rfl) rfl) ?_)
 obtain ⟨l, n, h4, r5⟩ := DA hr
 refine c0 call55 (Ou ab h4) ?_; rintro _ F6 _ cn da ⟨db, dd, de, ah, rfl, rfl, ai⟩
 replace ab := ab.mono (Ad _) cn
 replace aa := aa.mono (Ad _) cn
 replace ai := ai.new fun p hp => da p (by simp [hp])
 refine AK (lp (ln rfl)) (kO (kf (fS fO) (kf (fS fO) (kf (fS fO) kr))) ?_)
 refine um (ox rfl rfl rfl (ox rfl rfl rfl (ua (ua (Aa (Ao (AO (um ?_))))))))
 refine uv (B8 rfl rfl) (Aa ?_)
 refine cQ (fun bb => ?_) fun bb => ?_
 ·have df := A8 r5 bb
  refine AO ?_
  refine uv (Bx (v := .agg #[.slice none 0 0, .nilFunc]) rfl (by intro w; kernel_rfl)) ?_
  refine um (Br (i := 0) sizeOf174 rfl rfl rfl (by simp [Value.oneCell']) rfl (Ce rfl) (AK rfl ?_))
  refine ua (Aa ?_)
  refine kW (kc kn) ?_
  refine Al (Ah ?_)
  refine CP results59 (Dp (cs := #[.slice none 0 0, .nilFunc]) isAgg174 sizeOf174 rfl (Has.own 0 rfl) (Ce rfl) rfl) (AR rfl) (s1 sr) ?_
  obtain ⟨rfl, rfl, rfl⟩ := KI df
  exact ⟨_, _, _, [], _, rfl, rfl, A6.nil _ _ _ _ _, SR.nil _⟩
 have dg := A9 r5 bb
 refine An (Ao (AO ?_))
 refine uv (AL isAgg27 sizeOf27 rfl (Has.own 2 rfl) (Ce rfl) rfl) (um ?_)
 obtain ⟨n2, dh, cp⟩ := AI dg
 refine cV call135 (NY ab aa dh) ?_
 refine ua (Cj (um ?_))
 refine uv (B8 rfl rfl) (Aa ?_)
 refine cQ (fun bc => ?_) fun bc => ?_
 ·have di := A8 cp bc
  refine AO ?_
  refine uv (Bx (v := .agg #[.slice none 0 0, .nilFunc]) rfl (by intro w; kernel_rfl)) ?_
  refine um (Br (i := 0) sizeOf174 rfl rfl rfl (by simp [Value.oneCell']) rfl (Ce rfl) (AK rfl ?_))
  refine ua (Aa ?_)
  refine kW (kc kn) ?_
  refine Al (Ah ?_)
  refine CP results59 (Dp (cs := #[.slice none 0 0, .nilFunc]) isAgg174 sizeOf174 rfl (Has.own 0 rfl) (Ce rfl) rfl) (AR rfl) (s1 sr) ?_
  obtain ⟨rfl, rfl, rfl⟩ := KI di
  exact ⟨_, _, _, [], _, rfl, rfl, A6.nil _ _ _ _ _, SR.nil _⟩
 have dk := A9 cp bc
 refine An (AO ?_)
 refine uv (Bx (v := .agg (#[.slice none 0 0, .func (.func 136) #[] #[]])) rfl (by intro w; kernel_rfl)) ?_
 refine Bj rfl zeroValue174 ?_; intro ak dm
 refine Br (i := 0) sizeOf174 rfl rfl rfl (by simp [Value.oneCell']) rfl (Ce rfl) (AK rfl (Aa ?_))
 obtain ⟨ae, dn, cq⟩ := AI dk
 refine AV (fun e1 F1 L1 => ∃ (aw : Option Addr) (ax : Nat) (ay : Nat) (al : LH), F6 = F1 ∧ L1 = ((ak, ce (#[.slice aw ax ay, .func (.func 136) #[] #[]]) 174) :: ((b3, ce #[.slice none 0 0, .nilFunc] 174) :: (al ++ []))) ∧ e1.sub [(6, .pointer (some ⟨b3, 0, none⟩)), (11, .pointer (some ⟨ak, 0, none⟩))] ∧ A6 K.w0.heap.size 170 30 (JA 30 cB) F1 aw ax ay ae al) ?_ ?_
 ·clear cq
  refine AO (um ?_)
  refine uv (A3 underlying33 rfl) ?_
  refine um (Aa ?_)
  refine Am (kW (kc (kc (kd (kd kr)))) ?_)
  refine Bk (fun cr e1 F1 L1 => LA Ae cr fun tl k => ∃ (ad : List (List Bool)) (ao : Option Addr) (aq : Nat) (ar : Nat) (af : LH), EZ l tl ad = some ae ∧ F6 = F1 ∧ L1 = ((ak, ce (#[.slice ao aq ar, .func (.func 136) #[] #[]]) 174) :: ((b3, ce #[.slice none 0 0, .nilFunc] 174) :: (ah ++ (af ++ [])))) ∧ e1.sub [(6, .pointer (some ⟨b3, 0, none⟩)), (8, .slice db dd de), (11, .pointer (some ⟨ak, 0, none⟩)), (32, .slice FJ Ae.length Fy), (33, .int .i64 (Ae.length : Int)), (34, .int .i64 k)] ∧ A6 K.w0.heap.size 170 30 (JA 30 cB) F1 ao aq ar ad af) _ (m0 (kc (kc (ka (ke kr)))) ⟨_, _, rfl, BP.start _, [], none, 0, 0, [], dn, rfl, rfl, z6, A6.nil _ _ _ _ _⟩) ?_
  rintro cr e1 _ _ ⟨tl, k, bg, au, ad, ao, aq, ar, af, az, rfl, rfl, bj, av⟩
  refine AA _ bj (AO (uv (Bg rfl rfl) ?_))
  refine Aa (Ao ?_)
  refine cQ (fun ba => ?_) fun ba => ?_
  ·obtain ⟨x, eh, rfl, bk, ct, bl⟩ := BP.succ au ba
   rw [EZ] at az
   refine An (Ao ?_)
   refine Am (AO ?_)
   obtain ⟨ej, eo, er, dp, bm, bn, cu, rfl, dq, bo⟩ := Ax.at (Ad _) aa ((ak, ce (#[.slice ao aq ar, .func (.func 136) #[] #[]]) 174) :: ((b3, ce #[.slice none 0 0, .nilFunc] 174) :: (ah ++ (af ++ [])))) ct.1 bk
   refine uv (AN underlying33 sizeOf3 rfl bm rfl ct) (uv (Aj isAgg3 rfl bn (bo 0 (by decide))) ?_)
   refine ua (Aa ?_)
   refine DB [(.still, 0), (.still, 1), (.still, 2), (.still, 3), (.still, 4), (.still, 5), (.seq, 6), (.seq, 7), (.still, 8), (.seq, 9)] (by kernel_rfl) (by kernel_rfl) (trivial) (by rfl) (by kernel_rfl) (mS [11] rfl (Ab Ji rfl) (mL [38] ([(ak, ce (#[.slice ao aq ar, .func (.func 136) #[] #[]]) 174)]) rfl (s0 (s2 (s1 (s3 (s3 sr))))) (fun H F' L' bp bq => Aj isAgg166 rfl ((Has.own 0 rfl).ext bp bq) rfl) (mS [8] rfl (B3 rfl) (mS [13] rfl (B3 rfl) ?_))))
   obtain ⟨x2, cv, br, dr⟩ := Cb az
   obtain ⟨et, eu, ew, dt, bu, bx, aj, ⟨rfl, cw⟩, bz, ca⟩ := A6.at (Ca (n := 30) (sz := 1) Bi) ai (L := ah ++ []) fP cv.1 br
   refine mS [40, 41] rfl (AN underlying166 sizeOf170 rfl bu rfl (A6.idx ai cv)) (mL [42] (ah ++ []) rfl (s0 (s1 (s1 (s4 (s3 sr))))) (fun H F' L' bp bq => AL isAgg170 sizeOf170 rfl (bx.ext bp bq) aj (By aj bz ca)) ?_)
   refine ⟨_, [(43, .agg (arr cB x2))], rfl, rfl, z1, by kernel_rfl, ?_⟩; intro H
   refine HC (cs := arr cB x2) rfl rfl (QT Lu Bi cw rfl (by decide)) ?_; intro du dv
   refine Aa ⟨_, rfl, AZ.refl _, [1, 0], by kernel_rfl, .inl (.inr (fun d h => by cases h; rfl)), (fc (s0 (s1 (s2 (s1 (s3 (s3 sr)))))) (fc sm nm)), ?_⟩
   refine ⟨_, [(39, .slice ao aq ar), (44, .slice (some ⟨du, 0, none⟩) 1 1)], rfl, rfl, z2, by kernel_rfl, ?_⟩; intro H
   obtain ⟨l2, dw, dx, dy⟩ := Hv dr
   refine Fg (xs := ad) (ys := [x2]) (zs := l2) rfl Lu rfl rfl (Nat.le_refl _) (fun _ => .c (.c (.c (.s .h)))) av (HE.box (vss := [(arr cB x2).toList]) (ys := [x2]) 0 rfl (Ca (n := 30) (sz := 1) Bi) (.cons ⟨rfl, cw⟩ .nil) (by simp) rfl) dw dx (by decide) ?_; intro cx cy cz cb cc
   refine kO (kd kr) ?_
   refine Aa ⟨_, rfl, AZ.refl _, [], by kernel_rfl, .inl (.inl rfl), nm, ?_⟩
   refine mS [11] rfl (Ab Ji rfl) ?_
   refine ⟨_, [(45, .slice cx cy cz), (46, .pointer (some ⟨ak, 0, none⟩))], rfl, rfl, z2, by kernel_rfl, ?_⟩; intro H
   refine CN (i := 0) sizeOf166 rfl rfl rfl rfl (Ce rfl) (AK rfl ?_)
   refine Aa ⟨undef, rfl, AZ.refl _, [], by kernel_rfl, .inl (.inl rfl), nm, ?_⟩
   refine EW ?_
   refine Au (id := 1) (Ai ?_)
   refine uv (Bd rfl rfl (BP.EP au ba (Ax.lt aa))) ?_
   refine um (Aa ?_)
   subst bg; exact le kr ⟨_, _, rfl, bl, l2, cx, cy, cz, cb, dy, rfl, rfl, z6, cc⟩
  obtain rfl := BP.zero au ba
  rw [EZ] at az
  refine AQ (Af (Af ?_))
  refine Av ?_
  obtain rfl := AM az
  exact mi (kc (kc (kx kr))) ⟨ao, aq, ar, af, rfl, rfl, z2, av⟩
 rintro e1 _ _ ⟨aw, ax, ay, al, rfl, rfl, cf, cg⟩
 refine AA _ cf (AO (uv (AL isAgg174 sizeOf174 rfl (Has.own 0 rfl) (Ce rfl) rfl) (Br (i := 1) sizeOf174 rfl rfl rfl (by simp [Value.oneCell']) rfl (Ce rfl) (AK rfl ?_))))
 refine ua (Aa ?_)
 refine kW (kd kr) (Al (CP results59 (Dp (cs := #[.slice aw ax ay, .func (.func 136) #[] #[]]) isAgg174 sizeOf174 rfl (Has.own 0 rfl) (Ce rfl) rfl) (AR rfl) (s1 (s4 sr)) ?_))
 obtain ⟨rfl, rfl, rfl⟩ := KI cq
 exact ⟨_, _, _, _, _, rfl, rfl, cg.any, SR.fn _⟩
set_option maxHeartbeats 1000000 in
theorem H9 {s_ : List (List Bool)} (ab : Ax 30 (JA 30 cB) F B5 B0 s_) (al : v.length = 30) {r : Int} (hr : Di s_ v = some r) :
    Bw Tryz.prog 191 #[.slice B5 s_.length B0, .agg (arr cB v)] F (.int .i64 r) := by
 refine sp func191 ntmps191 fun K _ _ => ?_
 rw [Di] at hr
 refine AO ?_
 refine BH rfl rfl ?_; intro b1 bc
 refine ua (Aa ?_)
 refine AV (fun e1 F1 L1 => DS = some r ∧ F = F1 ∧ L1 = [] ∧ e1.sub []) ?_ ?_
 ·refine AO (um ?_)
  refine uv (A3 underlying166 rfl) ?_
  refine um (Aa ?_)
  refine Am ?_
  refine Bk (fun ao e1 F1 L1 => LA s_ ao fun tl k => BG v tl k = some r ∧ F = F1 ∧ L1 = [(b1, ce (arr cB v) 170)] ∧ e1.sub [(0, .slice B5 s_.length B0), (3, .pointer (some ⟨b1, 0, none⟩)), (7, .int .i64 (s_.length : Int)), (8, .int .i64 k)]) _ (m0 kr ⟨_, _, rfl, BP.start _, hr, rfl, rfl, z4⟩) ?_
  rintro ao e1 _ _ ⟨tl, k, au, ad, r4, rfl, rfl, av⟩
  refine AA _ av (AO (uv (Bg rfl rfl) ?_))
  refine Aa (Ao ?_)
  refine cQ (fun c7 => ?_) fun c7 => ?_
  ·obtain ⟨x, bg, rfl, aw, aq, ax⟩ := BP.succ ad c7
   rw [BG] at r4
   refine An (Ao ?_)
   refine Am ?_
   refine AO (um (ua ?_))
   refine dN (wv (JM isAgg170 sizeOf170 rfl (Has.own 0 rfl) (EC Bi al)) ?_)
   refine wm (wm ?_)
   obtain ⟨QM, bj, bk, ay, ae, af, aa, ⟨rfl, az⟩, ah, ai⟩ := Ax.at (Ca (n := 30) (sz := 1) Bi) ab ([(b1, ce (arr cB v) 170)]) aq.1 aw
   refine wv (AN underlying166 sizeOf170 rfl ae rfl aq) (wv (AL isAgg170 sizeOf170 rfl af aa (By aa ah ai)) (wv (Pe (P4 _ _ _ _) (So al az) rfl rfl) (DN ?_)))
   refine cQ (fun aj => ?_) fun aj => ?_
   ·have ba := A8 r4 aj
    refine AO (um (ua (Aa ?_)))
    refine kW kn ?_
    refine Al (Ay (Ah (Ah (Ay (Ah ?_)))))
    refine Cq results191 ?_
    obtain rfl := AM ba
    exact rfl
   have bb := A9 r4 aj
   refine An (Au (id := 1) (Ai ?_))
   refine uv (Bd rfl rfl (BP.EP ad c7 (Ax.lt ab))) ?_
   refine um (Aa ?_)
   subst au; exact le kr ⟨_, _, rfl, ax, bb, rfl, rfl, z4⟩
  obtain rfl := BP.zero ad c7
  rw [BG] at r4
  refine AQ (Af (Af ?_))
  refine Av ?_
  exact mi kn ⟨r4, rfl, rfl, (sn _)⟩
 rintro e1 _ _ ⟨ar, rfl, rfl, ak⟩
 refine AA _ ak ?_
 rw [DS] at ar
 refine AO (ua (Aa (Al ?_)))
 refine Cq results191 ?_
 obtain rfl := AM ar
 exact rfl
theorem HA {s_ : List (List Bool)} (aa : Ax 30 (JA 30 cB) F B5 B0 s_) (ab : v.length = 30) {r : Bool} (hr : CY s_ v = some r) :
    Bw Tryz.prog 137 #[.slice B5 s_.length B0, .agg (arr cB v)] F (.bool r) := by
 refine sp func137 ntmps137 fun K _ _ => ?_
 rw [CY] at hr
 refine AO ?_
 refine BH rfl rfl ?_; intro b1 ad
 refine ua (Cj (um ?_))
 refine uv (JM isAgg170 sizeOf170 rfl (Has.own 0 rfl) (EC Bi ab)) ?_
 obtain ⟨n, h2, r3⟩ := AI hr
 refine cV call191 (H9 aa ab h2) (uv (Hn rfl rfl) ?_)
 refine ua (Aa ?_)
 refine kW kn (Al (Cq results137 ?_))
 obtain rfl := AM r3
 exact rfl
theorem MU (aa : Ax 30 (JA 30 cB) F Hp Hx Eg) (_h_count : IQ Tryz.prog F FZ FY Gc (iE .i64) (Value.int .i64) count) {r : Bool} (hr : FD Eg count = some r) :
    Bw Tryz.prog 60 #[.agg #[.slice Hp Eg.length Hx, .func (.func FZ) FY Gc]] F (.bool r) := by
 refine sp func60 ntmps60 fun K _ _ => ?_
 rw [FD] at hr
 refine AO ?_
 refine BH rfl rfl ?_; intro b1 ab
 refine ua (Cj ?_)
 refine uv (Ab Ji rfl) (uv (Aj isAgg166 rfl (Has.own 0 rfl) rfl) ?_)
 refine uv (Bx (v := .agg (arr cB (List.replicate 30 false))) rfl (by intro w; kernel_rfl)) ?_
 obtain ⟨ok, h2, r3⟩ := AI hr
 refine cV call137 (HA aa List.length_replicate h2) ?_
 refine ua (Aa ?_)
 refine kW kn (Al (Cq results60 ?_))
 obtain rfl := AM r3
 exact rfl
set_option maxHeartbeats 1000000 in
theorem HG {E8 : Nat} {G1 : LH} {s_ : List (List Bool)} {Hc : Nat} (ab : A6 Hc 170 30 (JA 30 cB) F B5 E8 B0 s_ G1) {r : List (List Bool)} (hr : Cp s_ = some r) :
    SH.Spec Tryz.prog 61 #[.slice B5 E8 B0] F (G1 ++ []) fun F' L' v => ∃ (ra : Option Addr) (rn : Nat) (rc : Nat) (rL : LH), v = .slice ra rn rc ∧ L' = rL ++ [] ∧ A6 Hc 170 30 (JA 30 cB) F' ra rn rc r rL := by
 refine sp func61 ntmps61 fun K _ _ => ?_
 rw [Cp] at hr
 refine Fi (L' := G1 ++ []) (by simp) ?_
 refine AO (ua (Aa (Ao (AO (um ?_)))))
 refine uv ((A3 underlying166 rfl).i (A6.Je ab)) (uv (Bg rfl rfl) (Aa ?_))
 refine cQ (fun c1 => ?_) fun c1 => ?_
 ·have r2 := A8 hr c1
  refine AO (um (ua (Aa (Al (Ah ?_)))))
  refine Cq results61 ?_
  obtain rfl := AM r2
  exact ⟨_, _, _, _, rfl, rfl, ab⟩
 have r3 := A9 hr c1
 refine An ?_
 refine AV (fun e1 F1 L1 => CM s_ = some r ∧ F = F1 ∧ L1 = (G1 ++ []) ∧ e1.sub [(0, .slice B5 E8 B0)]) ?_ ?_
 ·refine AO (ua (Aa ?_))
  refine Am ?_
  obtain ⟨g4, r5⟩ := A2 r3
  refine Bk (fun av e1 F1 L1 => ∃ (k : Int), Fp 1 (s_.length : Int) k av ∧ Bh s_ av k = some r ∧ F = F1 ∧ L1 = (G1 ++ []) ∧ e1.sub [(0, .slice B5 E8 B0), (3, .int .i64 k)]) _ (m0 kr ⟨_, Fp.start _ _, r5, rfl, rfl, z2⟩) ?_
  rintro av e1 _ _ ⟨k, bp, r8, rfl, rfl, fp⟩
  refine AA _ fp ?_
  refine Ao (AO (um (um ?_)))
  refine uv ((A3 underlying166 rfl).i (A6.Je ab)) (uv (Bg rfl rfl) (Aa ?_))
  refine cQ (fun bl => ?_) fun bl => ?_
  ·obtain ⟨av, rfl, bq⟩ := Fp.succ bp bl
   rw [Bh] at r8
   refine An ?_
   refine AV (fun e1 F1 L1 => CO k (Bh s_ av) = some r ∧ F = F1 ∧ L1 = (G1 ++ []) ∧ e1.sub [(0, .slice B5 E8 B0), (3, .int .i64 k)]) ?_ ?_
   ·refine Am (dW ?_)
    refine wm (wm ?_)
    obtain ⟨x, ey, br, fq⟩ := Cb r8
    obtain ⟨ir, iu, iv, ft, bu, bx, ah, ⟨rfl, fv⟩, bz, ca⟩ := A6.at (Ca (n := 30) (sz := 1) Bi) ab (L := G1 ++ []) fP ey.1 br
    refine wv (AN underlying166 sizeOf170 rfl bu rfl (A6.idx ab ey)) (wv (AL isAgg170 sizeOf170 rfl bx ah (By ah bz ca)) ?_)
    refine wm (wm ?_)
    obtain ⟨fw, fx⟩ := A2 fq
    refine wv (Gl rfl rfl fw) ?_
    obtain ⟨x2, fa, cb, fb⟩ := Cb fx
    obtain ⟨iw, iy, iz, fy, cc, cf, ai, ⟨rfl, ga⟩, cg, cj⟩ := A6.at (Ca (n := 30) (sz := 1) Bi) ab (L := G1 ++ []) fP fa.1 cb
    refine wv (AN underlying166 sizeOf170 rfl cc rfl (A6.idx ab fa)) (wv (AL isAgg170 sizeOf170 rfl cf ai (By ai cg cj)) (wv (Pe (P4 _ _ _ _) (So fv ga) rfl rfl) (DN ?_)))
    refine cQ (fun cn => ?_) fun cn => ?_
    ·have gb := A8 fb cn
     refine AO (um (um ?_))
     obtain ⟨gg, gh⟩ := A2 gb
     have af := A6.gV ab gg
     refine uv (Fw.eq (v' := .slice (Zg B5 B0 (Int.toNat k) 30) (E8 - Int.toNat k) (B0 - Int.toNat k)) (MM (l := k) (h := (E8 : Nat)) underlying166 sizeOf170 rfl (.inr ⟨_, rfl, rfl⟩) (.inl ⟨rfl, rfl⟩) (A6.bF ab af)) rfl) ?_
     refine ua (Aa ?_)
     obtain ⟨fe, k2, gi, ff⟩ := DA gh
     refine AV (fun e1 F1 L1 => ∃ (ar : LH), F = F1 ∧ L1 = (ar ++ []) ∧ e1.sub [(0, .slice B5 E8 B0), (3, .int .i64 k2)] ∧ A6 Hc 170 30 (JA 30 cB) F1 B5 E8 B0 fe ar) ?_ ?_
     ·clear ff
      refine AO (ua (Aa ?_))
      refine Am ?_
      refine Bk (fun bm e1 F1 L1 => ∃ (bn : List (List Bool)) (k3 : Int) (ae : Int) (ad : LH), Bc k bm bn k3 ae = some (fe, k2) ∧ F = F1 ∧ L1 = (ad ++ []) ∧ e1.sub [(0, .slice B5 E8 B0), (3, .int .i64 k3), (4, .slice (Zg B5 B0 (Int.toNat k) 30) (E8 - Int.toNat k) (B0 - Int.toNat k)), (5, .int .i64 ae)] ∧ A6 Hc 170 30 (JA 30 cB) F1 B5 E8 B0 bn ad) FU (m0 kr ⟨s_, k, 1, G1, gi, rfl, rfl, z4, ab⟩) ?_
      rintro bm e1 _ _ ⟨bn, k3, ae, ad, aw, rfl, rfl, cp, aa⟩
      refine AA _ cp ?_
      rcases bm with _ | bm
      ·rw [Bc] at aw; cases aw
      rw [Bc] at aw
      refine Ao (AO (um (um ?_)))
      refine uv ((A3 underlying166 rfl).i (A6.cD aa).symm) (uv (Bg rfl rfl) (Aa ?_))
      refine cQ (fun cq => ?_) fun cq => ?_
      ·have gj := A8 aw cq
       refine An (Ao ?_)
       refine Am (dW ?_)
       refine wm (wm ?_)
       obtain ⟨x3, bo, ax, gk⟩ := Cb gj
       obtain ⟨j0, j3, j4, gl, cr, ct, aj, ⟨rfl, gm⟩, cu, cv⟩ := A6.cC (Ca (n := 30) (sz := 1) Bi) aa (L := ad ++ []) fP af bo.1 ax
       refine wv (AN underlying166 sizeOf170 rfl cr rfl (A6.ZP aa bo)) (wv (AL isAgg170 sizeOf170 rfl ct aj (By aj cu cv)) ?_)
       refine wm (wm ?_)
       obtain ⟨gp, gq⟩ := A2 gk
       refine wv (Gl rfl rfl gp) ?_
       obtain ⟨x4, fg, cw, fh⟩ := Cb gq
       obtain ⟨j5, j6, j7, gr, cx, cy, ak, ⟨rfl, gu⟩, cz, da⟩ := A6.cC (Ca (n := 30) (sz := 1) Bi) aa (L := ad ++ []) fP af fg.1 cw
       refine wv (AN underlying166 sizeOf170 rfl cx rfl (A6.ZP aa fg)) (wv (AL isAgg170 sizeOf170 rfl cy ak (By ak cz da)) (wv (Ze (Wa _ _ _ _) (Yt gm gu) rfl rfl) (DN ?_)))
       refine cQ (fun db => ?_) fun db => ?_
       ·have gv := A8 fh db
        refine AO (um (um (um (um ?_))))
        obtain ⟨j8, j9, ja, gw, dd, de, al, ⟨rfl, gz⟩, df, dg⟩ := A6.cC (Ca (n := 30) (sz := 1) Bi) aa (L := ad ++ []) fP af bo.1 ax
        refine uv (AN underlying166 sizeOf170 rfl dd rfl (A6.ZP aa bo)) (uv (AL isAgg170 sizeOf170 rfl de al (By al df dg)) ?_)
        obtain ⟨x5, dh, di, dk⟩ := Cb gv
        obtain ⟨ia, ib, ic, fi, ao, fj, dm, ⟨rfl, ie⟩, fk, fl⟩ := A6.at (Ca (n := 30) (sz := 1) Bi) aa (L := ad ++ []) fP dh.1 di
        refine uv (AN underlying166 sizeOf170 rfl ao rfl (A6.idx aa dh)) ?_
        obtain ⟨ig, dn, dp⟩ := DK dk
        refine GM (u := x3) sizeOf170 (Ca (n := 30) (sz := 1) Bi) rfl ao rfl ⟨rfl, gz⟩ (fun _ => .h) aa dn dh ?_; intro ay az
        refine Aa (Ai (um ?_))
        obtain ⟨dq, dr⟩ := A2 dp
        refine uv (Bd rfl rfl dq) ?_
        refine ua (Aa (Au (id := 3) (Ai (um ?_))))
        obtain ⟨dt, du⟩ := A2 dr
        refine uv (Bd rfl rfl dt) ?_
        refine ua (Aa ?_)
        exact le kr ⟨ig, k3 + 1, ae + 1, ay, du, rfl, rfl, z4, az⟩
       have dv := A9 fh db
       refine An (Au (id := 3) (Ai (um ?_)))
       obtain ⟨dw, dx⟩ := A2 dv
       refine uv (Bd rfl rfl dw) ?_
       refine ua (Aa ?_)
       exact le kr ⟨bn, k3, ae + 1, ad, dx, rfl, rfl, z4, aa⟩
      have dy := A9 aw cq
      refine AQ (Af (Af ?_))
      refine Av ?_
      obtain ⟨rfl, rfl⟩ := DH dy
      exact mi kr ⟨ad, rfl, rfl, z2, aa⟩
     rintro e1 _ _ ⟨ar, rfl, rfl, ba, au⟩
     refine AA _ ba ?_
     refine AO (um (um ?_))
     obtain ⟨dz, e9⟩ := A2 ff
     have aq := A6.gV au dz
     refine uv (Fw.eq (v' := .slice (Zg B5 B0 (Int.toNat k2) 30) (E8 - Int.toNat k2) (B0 - Int.toNat k2)) (MM (l := k2) (h := (E8 : Nat)) underlying166 sizeOf170 rfl (.inr ⟨_, rfl, rfl⟩) (.inl ⟨rfl, rfl⟩) (A6.bF au aq)) rfl) ?_
     obtain ⟨ij, eg, eh⟩ := DK e9
     refine W7 (z0 := List.replicate 30 false) (zs := ij) (l := k2) rfl Lu (by decide) (Ca (n := 30) (sz := 1) Bi) (fun _ => ⟨rfl, rfl⟩) rfl (fun _ => .h) au aq eg ?_; intro fm bb
     refine Cj (um (um ?_))
     obtain ⟨ej, eo⟩ := A2 eh
     obtain ⟨ik, er, et⟩ := DK eo
     refine Ua (l := 0) (h := k2) (zs := ik) rfl Lu (Ca (n := 30) (sz := 1) Bi) rfl (.inl ⟨rfl, rfl⟩) (.inr ⟨_, rfl, rfl⟩) (fun _ => .h) bb ej er ?_; intro il im iq fo eu
     refine ua (Aa (Al (Ay (Ah (Ah (Ay (Ah ?_)))))))
     refine Cq results61 ?_
     obtain rfl := AM et
     exact ⟨_, _, _, _, rfl, rfl, eu⟩
    have ew := A9 fb cn
    refine An (Au (id := 1) ?_)
    exact mi kr ⟨ew, rfl, rfl, z2⟩
   rintro e1 _ _ ⟨bc, rfl, rfl, bg⟩
   refine AA _ bg ?_
   rw [CO] at bc
   refine Ai (um ?_)
   refine uv (Bd rfl rfl (Fp.EP bp bl g4)) ?_
   refine ua (Aa ?_)
   exact le kr ⟨_, bq, bc, rfl, rfl, z2⟩
  obtain rfl := Fp.zero bp bl
  rw [Bh] at r8
  refine AQ (Af (Af ?_))
  refine Av ?_
  exact mi kr ⟨r8, rfl, rfl, z1⟩
 rintro e1 _ _ ⟨bj, rfl, rfl, bk⟩
 refine AA _ bk ?_
 rw [CM] at bj
 refine AO (um (ua (Aa (Al ?_))))
 refine Cq results61 ?_
 obtain rfl := AM bj
 exact ⟨_, _, _, _, rfl, rfl, ab⟩
theorem H4 {s_ : List (List Bool)} (aa : Ax 30 (JA 30 cB) F B5 B0 s_) {r : List (List Bool)} (hr : CA s_ = some r) :
    SH.Spec Tryz.prog 62 #[.slice B5 s_.length B0] F [] fun F' L' v => ∃ (ra : Option Addr) (rn : Nat) (rc : Nat) (rL : LH), v = .slice ra rn rc ∧ L' = rL ++ [] ∧ A6 0 170 30 (JA 30 cB) F' ra rn rc r rL := by
 refine sp func62 ntmps62 fun K _ _ => ?_
 rw [CA] at hr
 refine AO (ua (Aa (Ao (AO (um ?_)))))
 refine uv (S2 underlying166 rfl) (Aa ?_)
 refine AY rfl (fun c1 => ?_) (fun c1 => ?_)
 ·have r2 := U2 hr (Ax.isNone aa c1)
  refine AO (ua (Aa (Al (Ah ?_))))
  refine Cq results62 ?_
  obtain rfl := AM r2
  exact ⟨_, _, _, [], rfl, rfl, A6.nil _ _ _ _ _⟩
 have r3 := VI hr
 refine An (AO ?_)
 refine HC (cs := #[]) rfl rfl (LI Lu) ?_; intro b4 af
 refine um ?_
 have ae : A6 K.w0.heap.size 170 30 (JA 30 cB) F (some ⟨b4, 0, none⟩) 0 0 ([] : List (List Bool)) [(b4, ce #[] 170)] := A6.BQ (vss := []) (Ca (n := 30) (sz := 1) Bi) af .nil rfl rfl (by simp [maxLen])
 generalize ab : ([(b4, ce #[] 170)] : LH) = ah at ae
 refine CW (L' := ah ++ []) (by rw [← ab]; exact fO) ?_
 obtain ⟨l, h8, g9, ai⟩ := Hv r3
 refine Fg (xs := ([] : List (List Bool))) (ys := s_) (zs := l) rfl Lu rfl rfl (Nat.le_refl _) (fun _ => .h) ae (Ax.src aa) h8 g9 (by decide) ?_; intro ak al ao aj ad
 refine ua (Aa (Al ?_))
 refine Cq results62 ?_
 obtain rfl := AM ai
 exact ⟨_, _, _, _, rfl, rfl, ad.any⟩
set_option maxHeartbeats 1000000 in
theorem IK {stand : Int} (ab : Ax 30 (JA 30 cB) F Hp Hx Eg) (_h_count : IQ Tryz.prog F FZ FY Gc (iE .i64) (Value.int .i64) count) {r : Int} (hr : EO Eg count stand = some r) :
    Bw Tryz.prog 139 #[.agg #[.slice Hp Eg.length Hx, .func (.func FZ) FY Gc], .int .i64 stand] F (.int .i64 r) := by
 refine sp func139 ntmps139 fun K _ _ => ?_
 rw [EO] at hr
 refine AO ?_
 refine BH rfl rfl ?_; intro b1 bn
 refine ua (Cj (ua (Aa ?_)))
 obtain ⟨Cm, h2, r3⟩ := AI hr
 refine jE ([]) [(5, .int .i64 Cm)] ?_ ?_
 ·clear r3
  refine AO (uv (Ab Ji rfl) (uv (Aj isAgg166 rfl (Has.own 0 rfl) rfl) (uv (A3 underlying166 rfl) ?_)))
  refine um (Aa ?_)
  refine Am (kW kn ?_)
  refine Bk (fun av e1 F1 L1 => LA Eg av fun tl k => ∃ (aa : Int), CK stand tl k aa = some Cm ∧ F = F1 ∧ L1 = [] ∧ e1.sub [(1, .int .i64 stand), (5, .int .i64 aa), (9, .slice Hp Eg.length Hx), (10, .int .i64 (Eg.length : Int)), (11, .int .i64 k)]) _ (m0 kr ⟨_, _, rfl, BP.start _, 0, h2, rfl, rfl, z5⟩) ?_
  rintro av e1 _ _ ⟨tl, k, aw, af, aa, r6, rfl, rfl, ba⟩
  refine AA _ ba (AO (uv (Bg rfl rfl) ?_))
  refine Aa (Ao ?_)
  refine cQ (fun c9 => ?_) fun c9 => ?_
  ·obtain ⟨x, bo, rfl, ah, ax, ae⟩ := BP.succ af c9
   rw [CK] at r6
   refine An (Ao ?_)
   refine Am ?_
   refine AO (um ?_)
   obtain ⟨bp, bq, br, bb, ai, aj, ad, ⟨rfl, ak⟩, al, ao⟩ := Ax.at (Ca (n := 30) (sz := 1) Bi) ab ([]) ax.1 ah
   refine uv (AN underlying166 sizeOf170 rfl ai rfl ax) (uv (AL isAgg170 sizeOf170 rfl aj ad (By ad al ao)) ?_)
   refine Bj rfl zeroValue170 ?_; intro ay bc
   refine AK (L' := [(ay, ce (arr cB (List.replicate 30 false)) 170)]) rfl (ua (Hl (i := 0) sizeOf170 rfl rfl rfl (EC Bi List.length_replicate) (EC Bi ak) (LB Bi) (AK (L' := [(ay, ce (arr cB x) 170)]) rfl ?_)))
   refine Cj (um ?_)
   obtain ⟨x2, bg, aq, az⟩ := Cb r6
   have ar := Z7 Bi ak aq
   refine uv (Ci underlying170 sizeOf4 rfl rfl (Sj ak bg)) (uv (Aj isAgg4 rfl (Has.own 0 rfl) ((ar).2.2 0 (by decide))) (Aa ?_))
   refine AY rfl (fun au => ?_) (fun au => ?_)
   ·have bj := bt az au
    refine Ai (um (um ?_))
    obtain ⟨bk, bl⟩ := A2 bj
    refine uv (WV rfl rfl bk) (uv (Xh rfl rfl) ?_)
    refine ua (Aa (Au (id := 1) (Ai ?_)))
    refine uv (Bd rfl rfl (BP.EP af c9 (Ax.lt ab))) ?_
    refine um (Aa ?_)
    subst aw; exact le kn ⟨_, _, rfl, ae, OD aa (shl 1 k), bl, rfl, rfl, z5⟩
   have bm := bf az au
   refine An (Au (id := 1) (Ai ?_))
   refine uv (Bd rfl rfl (BP.EP af c9 (Ax.lt ab))) ?_
   refine um (Aa ?_)
   subst aw; exact le kn ⟨_, _, rfl, ae, aa, bm, rfl, rfl, z5⟩
  obtain rfl := BP.zero af c9
  rw [CK] at r6
  refine AQ (Af (Af ?_))
  refine Av ?_
  obtain rfl := AM r6
  exact mi kr ⟨rfl, rfl, z1⟩
 refine AO (um (ua (Aa (Al ?_))))
 refine Cq results139 ?_
 obtain rfl := AM r3
 exact rfl
theorem Sr {n : Int} {aa : Option Addr} {ab : Nat} {more : List Int} (ad : Ax 1 (iE .i64) F aa ab more) {r : Int} (hr : J0 n more = some r) :
    Bw Tryz.prog 140 #[.int .i64 n, .slice aa more.length ab] F (.int .i64 r) := by
 refine sp func140 ntmps140 fun K _ _ => ?_
 rw [J0] at hr
 refine AO (ua (Aa ?_))
 obtain ⟨n2, h1, r2⟩ := AI hr
 refine jE ([]) [(0, .int .i64 n2)] ?_ ?_
 ·clear r2
  refine AO (um ?_)
  refine uv (A3 underlying33 rfl) ?_
  refine um (Aa ?_)
  refine Am ?_
  refine Bk (fun ak e1 F1 L1 => LA more ak fun tl k => ∃ (n3 : Int), FQ tl n3 = some n2 ∧ F = F1 ∧ L1 = [] ∧ e1.sub [(0, .int .i64 n3), (7, .slice aa more.length ab), (8, .int .i64 (more.length : Int)), (9, .int .i64 k)]) _ (m0 kr ⟨_, _, rfl, BP.start _, n, h1, rfl, rfl, z4⟩) ?_
  rintro ak e1 _ _ ⟨tl, k, aq, ae, n3, r5, rfl, rfl, ar⟩
  refine AA _ ar (AO (uv (Bg rfl rfl) ?_))
  refine Aa (Ao ?_)
  refine cQ (fun c8 => ?_) fun c8 => ?_
  ·obtain ⟨x, ax, rfl, af, al, au⟩ := BP.succ ae c8
   rw [FQ] at r5
   refine An (Ao ?_)
   refine Am (AO ?_)
   obtain ⟨Vd, ay, az, av, ah, ai, ao, rfl, aw, aj⟩ := Ax.at (Ad _) ad ([]) al.1 af
   refine uv (AN underlying33 sizeOf3 rfl ah rfl al) (uv (Aj isAgg3 rfl ai (aj 0 (by decide))) ?_)
   refine ua (Aa (Ai (um (um ?_))))
   refine uv (RW rfl rfl) ?_
   refine ua (Aa (Au (id := 1) (Ai ?_)))
   refine uv (Bd rfl rfl (BP.EP ae c8 (Ax.lt ad))) ?_
   refine um (Aa ?_)
   subst aq; exact le kr ⟨_, _, rfl, au, if x < n3 then x else n3, r5, rfl, rfl, z4⟩
  obtain rfl := BP.zero ae c8
  rw [FQ] at r5
  refine AQ (Af (Af ?_))
  refine Av ?_
  obtain rfl := AM r5
  exact mi kr ⟨rfl, rfl, z1⟩
 refine AO (um (ua (Aa (Al ?_))))
 refine Cq results140 ?_
 obtain rfl := AM r2
 exact rfl
set_option maxHeartbeats 1000000 in
theorem Kv {bb : Int → Int → Int → (List (List Bool)) → (Int → Option Int) → (List ((Int × Int × Int) × Int)) → Option (Int × (List ((Int × Int × Int) × Int)))} (bc : ∀ {from_ aa Cm : Int} {az : Nat} {Hp : Option Addr} {Hx : Nat} {Eg : List (List Bool)} {FZ : FuncId} {FY Gc : Array Value} {count : Int → Option Int} {ba : Nat × Nat} {ah af : Nat} {ad : Array MapEntry} {aj : Nat} {met : List ((Int × Int × Int) × Int)} {ar : Nat × Nat} {aq : Nat} {aw : Nat × Nat} {F : FS} (_ : F az = some (.cells #[.slice Hp Eg.length Hx, .func (.func FZ) FY Gc] 174 ba)) (_ : Ax 30 (JA 30 cB) F Hp Hx Eg) (_ : IQ Tryz.prog F FZ FY Gc (iE .i64) (Value.int .i64) count) (_ : F ah = some (.cells #[.map (some af)] 281 ar)) (_ : Er (vA (cP (cI .i64) (cP (cI .i64) (cI .i64)))) (Value.int .i64) ad met) (_ : F aq = some (.cells (#[.func (.func 138) #[] #[.pointer (some ⟨az, 0, none⟩), .pointer (some ⟨ah, 0, none⟩), .pointer (some ⟨aq, 0, none⟩)]]) 282 aw)) {r : Int} {r2 : List ((Int × Int × Int) × Int)} , bb from_ aa Cm Eg count met = some (r, r2) → SH.Spec Tryz.prog 138 #[.agg #[.int .i64 from_, .int .i64 aa, .int .i64 Cm], .pointer (some ⟨az, 0, none⟩), .pointer (some ⟨ah, 0, none⟩), .pointer (some ⟨aq, 0, none⟩)] F [(af, .map ad aj)] fun _ L' v => ∃ (ai : Array MapEntry) (ao : Nat), v = .int .i64 r ∧ L' = [(af, .map ai ao)] ∧ Er (vA (cP (cI .i64) (cP (cI .i64) (cI .i64)))) (Value.int .i64) ai r2) {from_ aa : Int} {az : Nat} {ba : Nat × Nat} {ah af : Nat} {ad : Array MapEntry} {aj : Nat} {met : List ((Int × Int × Int) × Int)} {ar : Nat × Nat} {aq : Nat} {aw : Nat × Nat} (av : F az = some (.cells #[.slice Hp Eg.length Hx, .func (.func FZ) FY Gc] 174 ba)) (ak : Ax 30 (JA 30 cB) F Hp Hx Eg) (ab : IQ Tryz.prog F FZ FY Gc (iE .i64) (Value.int .i64) count) (ae : F ah = some (.cells #[.map (some af)] 281 ar)) (au : Er (vA (cP (cI .i64) (cP (cI .i64) (cI .i64)))) (Value.int .i64) ad met) (al : F aq = some (.cells (#[.func (.func 138) #[] #[.pointer (some ⟨az, 0, none⟩), .pointer (some ⟨ah, 0, none⟩), .pointer (some ⟨aq, 0, none⟩)]]) 282 aw)) {r : Int} {r2 : List ((Int × Int × Int) × Int)} (hr : EX bb from_ aa Cm Eg count met = some (r, r2)) :
    SH.Spec Tryz.prog 138 #[.agg #[.int .i64 from_, .int .i64 aa, .int .i64 Cm], .pointer (some ⟨az, 0, none⟩), .pointer (some ⟨ah, 0, none⟩), .pointer (some ⟨aq, 0, none⟩)] F [(af, .map ad aj)] fun _ L' v => ∃ (ai : Array MapEntry) (ao : Nat), v = .int .i64 r ∧ L' = [(af, .map ai ao)] ∧ Er (vA (cP (cI .i64) (cP (cI .i64) (cI .i64)))) (Value.int .i64) ai r2 := by
 refine sp func138 ntmps138 fun K _ _ => ?_
 rw [EX] at hr
 refine AO ?_
 refine BH rfl rfl ?_; intro b1 dy
 refine ua (Aa (Ao ?_))
 obtain ⟨k, h2, r3⟩ := AI hr
 refine jE ([(b1, ce #[.int .i64 from_, .int .i64 aa, .int .i64 Cm] 284), (af, .map ad aj)]) [(1, .pointer (some ⟨az, 0, none⟩)), (2, .pointer (some ⟨ah, 0, none⟩)), (3, .pointer (some ⟨aq, 0, none⟩)), (4, .pointer (some ⟨b1, 0, none⟩)), (17, .bool k)] ?_ ?_
 ·clear r3
  refine Ai (uv (Ab Iq rfl) (uv (Aj isAgg3 rfl (Has.own 0 rfl) rfl) (uv (Dn rfl rfl) (um ?_))))
  by_cases c4 : aa = 0
  ·have r5 := A8 h2 c4
   refine fT c4 (fT c4 (fT c4 ?_))
   refine uv (AP (Bf rfl c4) rfl) (Aa ?_)
   obtain rfl := AM r5
   exact mi kr ⟨rfl, rfl, z5⟩
  have r6 := A9 h2 c4
  refine nF c4 (uv (Ab Hk rfl) (nF c4 (uv (Aj isAgg3 rfl (Has.own 0 rfl) rfl) (nF c4 (uv (Dn rfl rfl) (uv (AB (AU rfl c4) rfl) (Aa ?_)))))))
  obtain rfl := AM r6
  exact mi kr ⟨rfl, rfl, z5⟩
 refine AY rfl (fun c8 => ?_) (fun c8 => ?_)
 ·have r9 := bt r3 c8
  refine AO (uv (Ab Xj rfl) (uv (Aj isAgg139 rfl (Has.frozen av) rfl) (uv (Ab KU rfl) (uv (Aj isAgg3 rfl (Has.own 0 rfl) rfl) ?_))))
  obtain ⟨n, cg, cj⟩ := AI r9
  refine FI rfl ab.1 rfl rfl rfl (ab.2 _ (AZ.refl _) _ _ _ rfl cg) ?_
  refine ua (Aa ?_)
  refine kW (kd kr) ?_
  refine Al (Ah ?_)
  refine Cq results138 ?_
  obtain ⟨rfl, rfl⟩ := DH cj
  exact ⟨_, _, rfl, rfl, au⟩
 have cn := bf r3 c8
 refine An (Ao (AO ?_))
 refine uv (Aj isAgg281 rfl (Has.frozen ae) rfl) (uv (AL isAgg284 sizeOf284 rfl (Has.own 0 rfl) (Ce rfl) rfl) (uv (Fw.eq (v' := .tuple #[.int .i64 ((A7 met (from_, aa, Cm)).getD 0), .bool ((A7 met (from_, aa, Cm)).isSome)]) (LZ (k := (from_, aa, Cm)) (z0 := 0) rfl underlying281 VJ zeroValue3 rfl rfl (KW.own 1 rfl) (show Er (vA (cP (cI .i64) (cP (cI .i64) (cI .i64)))) (Value.int .i64) ad (met : List ((Int × Int × Int) × Int)) from au)) rfl) ?_))
 refine um (ox rfl rfl rfl (ox rfl rfl rfl ?_))
 obtain ⟨n2, cp, cb⟩ := DK cn
 refine uv ((Jj rfl).i cp) ?_
 refine ua (Cj (um (Aa ?_)))
 refine AY rfl (fun bl => ?_) (fun bl => ?_)
 ·have cq := bt cb bl
  refine AO (um (ua (Aa ?_)))
  refine kW (kd kr) ?_
  refine Al (Ah ?_)
  refine Cq results138 ?_
  obtain ⟨rfl, rfl⟩ := DH cq
  exact ⟨_, _, rfl, rfl, au⟩
 have cr := bf cb bl
 refine An (AO ?_)
 refine uv (Aj isAgg282 rfl (Has.frozen al) rfl) (uv (Ab Hk rfl) (uv (Aj isAgg3 rfl (Has.own 0 rfl) rfl) ?_))
 obtain ⟨ct, cu⟩ := A2 cr
 refine uv (Bd rfl rfl ct) (uv (Ab Iq rfl) (uv (Aj isAgg3 rfl (Has.own 0 rfl) rfl) (uv (Ab KU rfl) (uv (Aj isAgg3 rfl (Has.own 0 rfl) rfl) ?_))))
 refine uv (Bx (v := .agg #[.int .i64 (from_ + 1), .int .i64 aa, .int .i64 Cm]) rfl (by intro w; kernel_rfl)) ?_
 obtain ⟨n3, cv, cw, cx⟩ := DA cu
 refine GJ (Lb := [(af, .map ad aj)]) (Lr := [(b1, ce #[.int .i64 from_, .int .i64 aa, .int .i64 Cm] 284)]) rfl call138 rfl rfl rfl (((fC fO).trans (pC pR))) (bc av ak ab ae au al cw) ?_; rintro _ cy _ ax cz da ⟨bm, bn, rfl, rfl, bg⟩
 replace ak := ak.mono (Ca (n := 30) (sz := 1) Bi) ax
 replace ab := ab.mono ax
 replace av := ax _ _ av
 replace ae := ax _ _ ae
 replace al := ax _ _ al
 refine AK (lb (ln rfl)) ?_
 refine ua (Aa ?_)
 obtain ⟨m, n4, db, cc⟩ := DA cx
 refine AV (fun e1 F1 L1 => ∃ (ay : Array MapEntry) (bj : Nat), AZ cy F1 ∧ L1 = [(af, .map ay bj), (b1, ce #[.int .i64 from_, .int .i64 aa, .int .i64 Cm] 284)] ∧ e1.sub [(2, .pointer (some ⟨ah, 0, none⟩)), (4, .pointer (some ⟨b1, 0, none⟩)), (8, .int .i64 n4)] ∧ Er (vA (cP (cI .i64) (cP (cI .i64) (cI .i64)))) (Value.int .i64) ay m) ?_ ?_
 ·clear cc
  refine dW (wv (Ab KU rfl) (wv (Aj isAgg3 rfl (Has.own 1 rfl) rfl) (wv (AL isAgg174 sizeOf174 rfl (Has.frozen av) (Ce rfl) rfl) (wv (Ab Hk rfl) (wv (Aj isAgg3 rfl (Has.own 1 rfl) rfl) ?_)))))
  obtain ⟨n5, dd, cf⟩ := AI db
  refine Ie rfl call139 rfl rfl rfl (IK ak ab dd) (wv (Xh rfl rfl) ?_)
  refine wa (cK (um ?_))
  refine uv (Ab KU rfl) (uv (Aj isAgg3 rfl (Has.own 1 rfl) rfl) (uv (B8 rfl rfl) (Aa ?_)))
  refine cQ (fun bo => ?_) fun bo => ?_
  ·have de := A8 cf bo
   refine Ai (um ?_)
   refine uv (Aj isAgg282 rfl (Has.frozen al) rfl) (uv (Ab Hk rfl) (uv (Aj isAgg3 rfl (Has.own 1 rfl) rfl) ?_))
   obtain ⟨df, dg⟩ := A2 de
   refine uv (Bd rfl rfl df) (uv (Ab Iq rfl) (uv (Aj isAgg3 rfl (Has.own 1 rfl) rfl) ?_))
   obtain ⟨dh, di⟩ := A2 dg
   refine uv (Gl rfl rfl dh) (um ?_)
   refine uv (Bx (v := .agg #[.int .i64 (from_ + 1), .int .i64 (aa - 1), .int .i64 (OD Cm n5)]) rfl (by intro w; kernel_rfl)) ?_
   obtain ⟨n6, dk, dm, dn⟩ := DA di
   refine cG call138 (bc av ak ab ae bg al dm) ?_; rintro _ dz _ bp dp dq ⟨bq, br, rfl, rfl, bu⟩
   refine AK (lb (ln rfl)) (uv (Uj rfl rfl) ?_)
   refine ua (Aa ?_)
   obtain ⟨rfl, rfl⟩ := DH dn
   exact mi kr ⟨bq, br, bp, rfl, z3, bu⟩
  have dr := A9 cf bo
  refine An ?_
  obtain ⟨rfl, rfl⟩ := DH dr
  exact mi kr ⟨bm, bn, AZ.refl _, rfl, z3, bg⟩
 rintro e1 e9 _ ⟨ay, bj, bx, rfl, bz, ca⟩
 refine AA _ bz ?_
 replace ae := bx _ _ ae
 refine AO (uv (Aj isAgg281 rfl (Has.frozen ae) rfl) (uv (AL isAgg284 sizeOf284 rfl (Has.own 1 rfl) (Ce rfl) rfl) (um ?_)))
 refine Kt (i := 0) (k := (from_, aa, Cm)) (v := n4) underlying281 VJ rfl rfl rfl rfl (show Er (vA (cP (cI .i64) (cP (cI .i64) (cI .i64)))) (Value.int .i64) ay (m : List ((Int × Int × Int) × Int)) from ca) ?_; intro dt du bk
 obtain ⟨dv, dw, dx⟩ := DK cc
 rw [← dw] at bk
 refine AK rfl ?_
 refine Cj (um (ua (Aa ?_)))
 refine kW (kc kn) (Al (Cq results138 ?_))
 obtain ⟨rfl, rfl⟩ := DH dx
 exact ⟨_, _, rfl, rfl, bk⟩
theorem Gj : ∀ (fu : Nat) {from_ ah Cm : Int} {ao : Nat} {Hp : Option Addr} {Hx : Nat} {Eg : List (List Bool)} {FZ : FuncId} {FY Gc : Array Value} {count : Int → Option Int} {aq : Nat × Nat} {ab ad : Nat} {ae : Array MapEntry} {ai : Nat} {met : List ((Int × Int × Int) × Int)} {aj : Nat × Nat} {ak : Nat} {al : Nat × Nat} {F : FS} (_ : F ao = some (.cells #[.slice Hp Eg.length Hx, .func (.func FZ) FY Gc] 174 aq)) (_ : Ax 30 (JA 30 cB) F Hp Hx Eg) (_ : IQ Tryz.prog F FZ FY Gc (iE .i64) (Value.int .i64) count) (_ : F ab = some (.cells #[.map (some ad)] 281 aj)) (_ : Er (vA (cP (cI .i64) (cP (cI .i64) (cI .i64)))) (Value.int .i64) ae met) (_ : F ak = some (.cells (#[.func (.func 138) #[] #[.pointer (some ⟨ao, 0, none⟩), .pointer (some ⟨ab, 0, none⟩), .pointer (some ⟨ak, 0, none⟩)]]) 282 al)) {r : Int} {r2 : List ((Int × Int × Int) × Int)} , BK fu from_ ah Cm Eg count met = some (r, r2) → SH.Spec Tryz.prog 138 #[.agg #[.int .i64 from_, .int .i64 ah, .int .i64 Cm], .pointer (some ⟨ao, 0, none⟩), .pointer (some ⟨ab, 0, none⟩), .pointer (some ⟨ak, 0, none⟩)] F [(ad, .map ae ai)] fun _ L' v => ∃ (aa : Array MapEntry) (af : Nat), v = .int .i64 r ∧ L' = [(ad, .map aa af)] ∧ Er (vA (cP (cI .i64) (cP (cI .i64) (cI .i64)))) (Value.int .i64) aa r2 := by
  intro fu
  induction fu with
  | zero => intros; rename_i hr; rw [BK] at hr; cases hr
  | succ fu ih => intros; rename_i hr; rw [BK] at hr; exact Kv ih (by assumption) (by assumption) (by assumption) (by assumption) (by assumption) (by assumption) hr
set_option maxHeartbeats 1000000 in
theorem LR {most : Int} (ad : Ax 30 (JA 30 cB) F Hp Hx Eg) (aa : IQ Tryz.prog F FZ FY Gc (iE .i64) (Value.int .i64) count) {r : List Int} {r2 : Int} (hr : ES Eg count most = some (r, r2)) :
    SH.Spec Tryz.prog 63 #[.agg #[.slice Hp Eg.length Hx, .func (.func FZ) FY Gc], .int .i64 most] F [] fun F' L' v => ∃ (ra : Option Addr) (rn : Nat) (rc : Nat) (rL : LH), v = .tuple #[.slice ra rn rc, .int .i64 r2] ∧ L' = rL ++ [] ∧ A6 0 3 1 (iE .i64) F' ra rn rc r rL := by
 refine sp func63 ntmps63 fun K _ _ => ?_
 rw [ES] at hr
 refine AO ?_
 refine BH rfl rfl ?_; intro b1 ia
 refine ua (ua (Cj ?_))
 refine KJ rfl ?_; intro b2 jd
 refine Bj rfl zeroValue281 ?_; intro b3 ib
 refine CN (i := 0) sizeOf281 rfl rfl rfl rfl (Ce rfl) (AK rfl (Cj ?_))
 refine Bj rfl zeroValue282 ?_; intro b4 ic
 refine Cj (uv (C8 rfl rfl) (CN (i := 0) sizeOf282 rfl rfl rfl rfl (Ce rfl) (AK rfl ?_)))
 refine Cj (um ?_)
 refine uv (Ab Ji rfl) (uv (Aj isAgg166 rfl (Has.own 3 rfl) rfl) (uv (A3 underlying166 rfl) ?_))
 refine bA (cs := #[.int .i64 (Eg.length : Int)]) CD [.int .i64 (Eg.length : Int)] ?_; intro b5 ie
 refine Bo 0 rfl ie ?_; intro F6 gi ig
 refine AK rfl ?_
 replace ad := ad.mono (Ca (n := 30) (sz := 1) Bi) gi
 replace aa := aa.mono gi
 have h9 : Ax 1 (iE .i64) F6 (some ⟨b5, 0, none⟩) 1 [(Eg.length : Int)] := Ax.BQ (Ad _) (vss := [[.int .i64 (Eg.length : Int)]]) (xs := [(Eg.length : Int)]) ig (.cons rfl .nil) rfl (by simp [maxLen])
 obtain ⟨n, ij, ik⟩ := AI hr
 refine cV call140 (Sr h9 ij) ?_
 refine ua (Cj ?_)
 refine uv (Aj isAgg282 rfl (Has.own 0 rfl) rfl) (um ?_)
 refine uv (Bx (v := .agg #[.int .i64 0, .int .i64 n, .int .i64 0]) rfl (by intro w; kernel_rfl)) ?_
 refine Bo 3 rfl ia ?_; intro je cr ai
 refine AK rfl ?_
 replace ad := ad.mono (Ca (n := 30) (sz := 1) Bi) cr
 replace aa := aa.mono cr
 refine Bo 1 rfl ib ?_; intro jf bx ak
 refine AK rfl ?_
 replace ad := ad.mono (Ca (n := 30) (sz := 1) Bi) bx
 replace aa := aa.mono bx
 replace ai := bx _ _ ai
 refine Bo 0 rfl ic ?_; intro jg bj al
 refine AK rfl ?_
 replace ad := ad.mono (Ca (n := 30) (sz := 1) Bi) bj
 replace aa := aa.mono bj
 replace ai := bj _ _ ai
 replace ak := bj _ _ ak
 obtain ⟨n2, met, il, im⟩ := DA ik
 refine cG call138 ((Gj FU) ai ad aa ak Er.nil al il) ?_; rintro _ gj _ bb iq ir ⟨dn, dp, rfl, rfl, dq⟩
 replace ad := ad.mono (Ca (n := 30) (sz := 1) Bi) bb
 replace aa := aa.mono bb
 replace ai := bb _ _ ai
 replace ak := bb _ _ ak
 replace al := bb _ _ al
 refine AK (lb (ln rfl)) ?_
 refine ua (Cj ?_)
 refine uv (Bx (v := .agg #[.int .i64 0, .int .i64 0, .int .i64 0]) rfl (by intro w; kernel_rfl)) ?_
 refine Bj rfl zeroValue284 ?_; intro au iu
 refine Br (i := 0) sizeOf284 rfl rfl rfl (by simp [Value.oneCell']) rfl (Ce rfl) (AK rfl (Aa ?_))
 obtain ⟨m, ax, iv, gk⟩ := DA im
 refine AV (fun e1 F1 L1 => ∃ (bk : Array MapEntry) (bz : Nat), AZ gj F1 ∧ L1 = [(b2, .map bk bz), (au, ce #[.int .i64 0, .int .i64 ax, .int .i64 0] 284)] ∧ e1.sub [(2, .pointer (some ⟨b1, 0, none⟩)), (7, .pointer (some ⟨b4, 0, none⟩)), (8, .int .i64 n2), (9, .pointer (some ⟨au, 0, none⟩))] ∧ Er (vA (cP (cI .i64) (cP (cI .i64) (cI .i64)))) (Value.int .i64) bk m) ?_ ?_
 ·clear gk
  refine Am ?_
  refine Bk (fun dg e1 F1 L1 => ∃ (m2 : List ((Int × Int × Int) × Int)) (aj : Int) (bl : Array MapEntry) (ca : Nat), CI Eg count n2 dg m2 aj = some (m, ax) ∧ AZ gj F1 ∧ L1 = [(au, ce #[.int .i64 0, .int .i64 aj, .int .i64 0] 284), (b2, .map bl ca)] ∧ e1.sub [(2, .pointer (some ⟨b1, 0, none⟩)), (7, .pointer (some ⟨b4, 0, none⟩)), (8, .int .i64 n2), (9, .pointer (some ⟨au, 0, none⟩))] ∧ Er (vA (cP (cI .i64) (cP (cI .i64) (cI .i64)))) (Value.int .i64) bl m2) FU (m0 kr ⟨met, 0, dn, dp, iv, AZ.refl _, rfl, z4, dq⟩) ?_
  rintro dg e1 jh _ ⟨m2, aj, bl, ca, dh, ay, rfl, dr, dt⟩
  refine AA _ dr ?_
  replace ad := ad.mono (Ca (n := 30) (sz := 1) Bi) ay
  replace aa := aa.mono ay
  replace ai := ay _ _ ai
  replace ak := ay _ _ ak
  replace al := ay _ _ al
  rcases dg with _ | dg
  ·rw [CI] at dh; cases dh
  rw [CI] at dh
  refine Ao (AO ?_)
  refine uv (Aj isAgg282 rfl (Has.frozen al) rfl) (uv (Ab Iq rfl) (uv (Aj isAgg3 rfl (Has.own 0 rfl) rfl) ?_))
  refine uv (Bx (v := .agg #[.int .i64 0, .int .i64 aj, .int .i64 0]) rfl (by intro w; kernel_rfl)) ?_
  obtain ⟨n3, du, iw, gl⟩ := DA dh
  refine GJ (Lb := [(b2, .map bl ca)]) (Lr := [(au, ce #[.int .i64 0, .int .i64 aj, .int .i64 0] 284)]) rfl call138 rfl rfl rfl (((fC fO).trans (pC pR))) ((Gj FU) ai ad aa ak dt al iw) ?_; rintro _ ji _ ct iy iz ⟨cu, cv, rfl, rfl, cw⟩
  refine AK (lb (ln rfl)) (um (uv (Bg rfl rfl) (Aa ?_)))
  refine cQ (fun dv => ?_) fun dv => ?_
  ·have j0 := A8 gl dv
   refine An (Am (Ai (uv (Ab Iq rfl) (uv (Aj isAgg3 rfl (Has.own 1 rfl) rfl) ?_))))
   obtain ⟨j3, j4⟩ := A2 j0
   refine uv (Bd rfl rfl j3) (uv (Ab Iq rfl) (CN (i := 1) sizeOf3 rfl rfl rfl rfl (Ce rfl) (AK rfl ?_)))
   refine Aa (Au (id := 1) ?_)
   exact le (kf (fC fO) kr) ⟨du, aj + 1, cu, cv, j4, (ay.trans ct), rfl, z4, cw⟩
  have j5 := A9 gl dv
  refine AQ (Af (Af ?_))
  refine Av ?_
  obtain ⟨rfl, rfl⟩ := DH j5
  exact mi kr ⟨cu, cv, (ay.trans ct), rfl, z4, cw⟩
 rintro e1 gm _ ⟨bk, bz, bc, rfl, dw, dx⟩
 refine AA _ dw ?_
 replace ad := ad.mono (Ca (n := 30) (sz := 1) Bi) bc
 replace aa := aa.mono bc
 replace ai := bc _ _ ai
 replace ak := bc _ _ ak
 replace al := bc _ _ al
 refine AO (ua (Aa ?_))
 obtain ⟨out, j6, gp⟩ := AI gk
 refine AV (fun e1 F1 L1 => ∃ (dy : Option Addr) (dz : Nat) (e9 : Nat) (cb : LH), AZ gm F1 ∧ L1 = (cb ++ []) ∧ e1.sub [(8, .int .i64 n2), (10, .slice dy dz e9)] ∧ A6 K.w0.heap.size 3 1 (iE .i64) F1 dy dz e9 out cb) ?_ ?_
 ·clear gp
  refine Am ?_
  refine Bk (fun di e1 F1 L1 => ∃ (m3 : List ((Int × Int × Int) × Int)) (av : Int) (ab : Int) (af : Int) (bm : List Int) (bn : Array MapEntry) (cc : Nat) (cn : Option Addr) (cp : Nat) (cq : Nat) (ba : LH), Cg Eg count n2 di m3 av ab af bm = some out ∧ AZ gm F1 ∧ L1 = ((b2, .map bn cc) :: ((au, ce #[.int .i64 av, .int .i64 ab, .int .i64 af] 284) :: (ba ++ []))) ∧ e1.sub [(2, .pointer (some ⟨b1, 0, none⟩)), (7, .pointer (some ⟨b4, 0, none⟩)), (8, .int .i64 n2), (9, .pointer (some ⟨au, 0, none⟩)), (10, .slice cn cp cq)] ∧ Er (vA (cP (cI .i64) (cP (cI .i64) (cI .i64)))) (Value.int .i64) bn m3 ∧ A6 K.w0.heap.size 3 1 (iE .i64) F1 cn cp cq bm ba) FU (m0 (kc (kc (ke kr))) ⟨m, 0, ax, 0, [], bk, bz, none, 0, 0, [], j6, AZ.refl _, rfl, z5, dx, A6.nil _ _ _ _ _⟩) ?_
  rintro di e1 gq _ ⟨m3, av, ab, af, bm, bn, cc, cn, cp, cq, ba, cx, az, rfl, eg, eh, bo⟩
  refine AA _ eg ?_
  replace ad := ad.mono (Ca (n := 30) (sz := 1) Bi) az
  replace aa := aa.mono az
  replace ai := az _ _ ai
  replace ak := az _ _ ak
  replace al := az _ _ al
  rcases di with _ | di
  ·rw [Cg] at cx; cases cx
  rw [Cg] at cx
  refine Ao (AO ?_)
  refine uv (Ab Iq rfl) (uv (Aj isAgg3 rfl (Has.own 1 rfl) rfl) (uv (JU rfl rfl) (Aa ?_)))
  refine cQ (fun ej => ?_) fun ej => ?_
  ·have j7 := A8 cx ej
   refine An (Am ?_)
   obtain ⟨m4, ae, j8, gr⟩ := DA j7
   refine AV (fun e1 F1 L1 => ∃ (bp : Array MapEntry) (cf : Nat), AZ gq F1 ∧ L1 = ((b2, .map bp cf) :: ((au, ce #[.int .i64 ae, .int .i64 ab, .int .i64 af] 284) :: (ba ++ []))) ∧ e1.sub [(2, .pointer (some ⟨b1, 0, none⟩)), (7, .pointer (some ⟨b4, 0, none⟩)), (8, .int .i64 n2), (9, .pointer (some ⟨au, 0, none⟩)), (10, .slice cn cp cq)] ∧ Er (vA (cP (cI .i64) (cP (cI .i64) (cI .i64)))) (Value.int .i64) bp m4) ?_ ?_
   ·clear gr
    refine Am ?_
    refine Bk (fun dk e1 F1 L1 => ∃ (m5 : List ((Int × Int × Int) × Int)) (ah : Int) (cg : Array MapEntry) (cy : Nat), C7 Eg count n2 ab af dk m5 ah = some (m4, ae) ∧ AZ gq F1 ∧ L1 = ((b2, .map cg cy) :: ((au, ce #[.int .i64 ah, .int .i64 ab, .int .i64 af] 284) :: (ba ++ []))) ∧ e1.sub [(2, .pointer (some ⟨b1, 0, none⟩)), (7, .pointer (some ⟨b4, 0, none⟩)), (8, .int .i64 n2), (9, .pointer (some ⟨au, 0, none⟩)), (10, .slice cn cp cq)] ∧ Er (vA (cP (cI .i64) (cP (cI .i64) (cI .i64)))) (Value.int .i64) cg m5) FU (m0 kr ⟨m3, av, bn, cc, j8, AZ.refl _, rfl, z5, eh⟩) ?_
    rintro dk e1 jj _ ⟨m5, ah, cg, cy, dm, ao, rfl, eo, er⟩
    refine AA _ eo ?_
    replace ad := ad.mono (Ca (n := 30) (sz := 1) Bi) ao
    replace aa := aa.mono ao
    replace ai := ao _ _ ai
    replace ak := ao _ _ ak
    replace al := ao _ _ al
    rcases dk with _ | dk
    ·rw [C7] at dm; cases dm
    rw [C7] at dm
    refine Ao (Ao ?_)
    refine DB [(.still, 0), (.still, 1), (.still, 2), (.still, 3), (.still, 4), (.still, 5), (.still, 6), (.still, 7), (.still, 8), (.still, 9), (.still, 10), (.still, 11), (.still, 16), (.seq, 12), (.still, 13), (.still, 14), (.seq, 15), (.still, 17)] (by kernel_rfl) (by kernel_rfl) (trivial) (by rfl) (by kernel_rfl) (mL [7] ([]) rfl sm (fun H F' L' aq ar => Aj isAgg282 rfl ((Has.frozen al).ext aq ar) rfl) (mS [9] rfl (Ab Hk rfl) (mL [39] ([(au, ce #[.int .i64 ah, .int .i64 ab, .int .i64 af] 284)]) rfl (s0 (s1 (s2 (s3 sr)))) (fun H F' L' aq ar => Aj isAgg3 rfl ((Has.own 0 rfl).ext aq ar) rfl) ?_)))
    obtain ⟨et, eu⟩ := A2 dm
    refine mS (v := .int .i64 (ah + 1)) [40] rfl (Bd rfl rfl et) (mS [9] rfl (Ab Iq rfl) (mL [42] ([(au, ce #[.int .i64 ah, .int .i64 ab, .int .i64 af] 284)]) rfl (s0 (s1 (s2 (s3 sr)))) (fun H F' L' aq ar => Aj isAgg3 rfl ((Has.own 0 rfl).ext aq ar) rfl) ?_))
    obtain ⟨ew, ey⟩ := A2 eu
    refine mS (v := .int .i64 (ab - 1)) [43] rfl (Gl rfl rfl ew) (mS [9] rfl (Ab KU rfl) (mL [45] ([(au, ce #[.int .i64 ah, .int .i64 ab, .int .i64 af] 284)]) rfl (s0 (s1 (s2 (s3 sr)))) (fun H F' L' aq ar => Aj isAgg3 rfl ((Has.own 0 rfl).ext aq ar) rfl) (mL [2] ([]) rfl sm (fun H F' L' aq ar => AL isAgg174 sizeOf174 rfl ((Has.frozen ai).ext aq ar) (Ce rfl) rfl) (mS [9] rfl (Ab Hk rfl) (mL [48] ([(au, ce #[.int .i64 ah, .int .i64 ab, .int .i64 af] 284)]) rfl (s0 (s1 (s2 (s3 sr)))) (fun H F' L' aq ar => Aj isAgg3 rfl ((Has.own 0 rfl).ext aq ar) rfl) (mS [8] rfl (B3 rfl) ?_))))))
    refine ⟨_, [(47, .agg #[.slice Hp Eg.length Hx, .func (.func FZ) FY Gc]), (49, .int .i64 ah)], rfl, rfl, z2, by kernel_rfl, ?_⟩; intro H
    obtain ⟨n4, fa, fb⟩ := AI ey
    refine cV call139 (IK ad aa fa) ?_
    refine Aa ⟨_, rfl, AZ.refl _, [16, 8, 7, 6, 5, 4, 3, 2, 1, 0], by kernel_rfl, .inl (.inr (fun d h => by cases h; rfl)), (fc sm (fc (s0 (s1 (s2 (s3 sr)))) (fc sm (fc sm (fc (s0 (s1 (s2 (s3 sr)))) (fc sm (fc sm (fc (s0 (s1 (s2 (s3 sr)))) (fc sm (fc sm nm)))))))))), ?_⟩
    refine mS (v := .int .i64 (OD af n4)) [46, 50] rfl (Xh rfl rfl) ?_
    refine mS (v := .agg #[.int .i64 (ah + 1), .int .i64 (ab - 1), .int .i64 (OD af n4)]) [41, 44, 51] rfl (Bx (v := .agg #[.int .i64 (ah + 1), .int .i64 (ab - 1), .int .i64 (OD af n4)]) rfl (by intro w; kernel_rfl)) ?_
    refine ⟨_, [(38, .func (.func 138) #[] #[.pointer (some ⟨b1, 0, none⟩), .pointer (some ⟨b3, 0, none⟩), .pointer (some ⟨b4, 0, none⟩)]), (52, .agg #[.int .i64 (ah + 1), .int .i64 (ab - 1), .int .i64 (OD af n4)])], rfl, rfl, z2, by kernel_rfl, ?_⟩; intro H
    obtain ⟨n5, fe, ff, cz⟩ := DA fb
    refine cG call138 ((Gj FU) ai ad aa ak er al ff) ?_; rintro _ j9 _ bg gu gv ⟨bq, br, rfl, rfl, bu⟩
    refine AK (lb (ln rfl)) ?_
    refine Aa ⟨_, rfl, bg, [16], by kernel_rfl, .inl (.inr (fun d h => by cases h; rfl)), (fc sm nm), ?_⟩
    refine mS (v := .bool (decide (n5 < n2))) [53, 54] rfl (Bg rfl rfl) (EW ?_)
    refine cQ (fun cj => ?_) fun cj => ?_
    ·have fg := A8 cz cj
     refine An (Am (Ai (uv (Ab Hk rfl) (uv (Aj isAgg3 rfl (Has.own 1 rfl) rfl) ?_))))
     obtain ⟨fh, fi⟩ := A2 fg
     refine uv (Bd rfl rfl fh) (uv (Ab Hk rfl) (CN (i := 1) sizeOf3 rfl rfl rfl rfl (Ce rfl) (AK rfl ?_)))
     refine Aa (Au (id := 5) ?_)
     exact le kr ⟨fe, ah + 1, bq, br, fi, (ao.trans bg), rfl, z5, bu⟩
    have fj := A9 cz cj
    refine AQ (Af (Af ?_))
    refine Av ?_
    obtain ⟨rfl, rfl⟩ := DH fj
    exact mi kr ⟨bq, br, (ao.trans bg), rfl, z5, bu⟩
   rintro e1 ja _ ⟨bp, cf, aw, rfl, da, fk⟩
   refine AA _ da ?_
   replace ad := ad.mono (Ca (n := 30) (sz := 1) Bi) aw
   replace aa := aa.mono aw
   replace bo := bo.mono (Ad _) aw
   replace ai := aw _ _ ai
   refine AO (um ?_)
   refine uv (Ab Hk rfl) (uv (Aj isAgg3 rfl (Has.own 1 rfl) rfl) ?_)
   refine bA (cs := #[.int .i64 ae]) CD [.int .i64 ae] ?_; intro jb gw
   obtain ⟨db, fl, fm, fo⟩ := Hv gr
   refine Fg (xs := bm) (ys := [ae]) (zs := db) rfl CD rfl rfl (Nat.le_refl _) (fun _ => .c (.c (.c .h))) bo (HE.box (vss := [[.int .i64 ae]]) (ys := [ae]) 0 rfl (Ad _) (.cons rfl .nil) rfl rfl) fl fm (by decide) ?_; intro fp fq ft dd de
   refine kO (kd kr) ?_
   refine ua (Aa ?_)
   refine DB [(.still, 0), (.still, 1), (.still, 2), (.still, 3), (.still, 4), (.still, 5), (.still, 6), (.still, 7), (.still, 8), (.still, 9), (.still, 10), (.seq, 11), (.still, 12), (.still, 13), (.seq, 14)] (by kernel_rfl) (by kernel_rfl) (trivial) (by rfl) (by kernel_rfl) (mS [9] rfl (Ab Hk rfl) (mL [65] ([(au, ce #[.int .i64 ae, .int .i64 ab, .int .i64 af] 284)]) rfl (s0 (s1 (s2 (s3 sr)))) (fun H F' L' aq ar => Aj isAgg3 rfl ((Has.own 0 rfl).ext aq ar) rfl) ?_))
   obtain ⟨fv, fw⟩ := A2 fo
   refine mS (v := .int .i64 (ae + 1)) [66] rfl (Bd rfl rfl fv) (mS [9] rfl (Ab Iq rfl) (mL [68] ([(au, ce #[.int .i64 ae, .int .i64 ab, .int .i64 af] 284)]) rfl (s0 (s1 (s2 (s3 sr)))) (fun H F' L' aq ar => Aj isAgg3 rfl ((Has.own 0 rfl).ext aq ar) rfl) ?_))
   obtain ⟨fx, fy⟩ := A2 fw
   refine mS (v := .int .i64 (ab - 1)) [69] rfl (Gl rfl rfl fx) (mS [9] rfl (Ab KU rfl) (mL [71] ([(au, ce #[.int .i64 ae, .int .i64 ab, .int .i64 af] 284)]) rfl (s0 (s1 (s2 (s3 sr)))) (fun H F' L' aq ar => Aj isAgg3 rfl ((Has.own 0 rfl).ext aq ar) rfl) (mL [2] ([]) rfl sm (fun H F' L' aq ar => AL isAgg174 sizeOf174 rfl ((Has.frozen ai).ext aq ar) (Ce rfl) rfl) (mS [9] rfl (Ab Hk rfl) (mL [74] ([(au, ce #[.int .i64 ae, .int .i64 ab, .int .i64 af] 284)]) rfl (s0 (s1 (s2 (s3 sr)))) (fun H F' L' aq ar => Aj isAgg3 rfl ((Has.own 0 rfl).ext aq ar) rfl) ?_)))))
   refine ⟨_, [(73, .agg #[.slice Hp Eg.length Hx, .func (.func FZ) FY Gc]), (75, .int .i64 ae)], rfl, rfl, z2, by kernel_rfl, ?_⟩; intro H
   obtain ⟨n6, ga, gb⟩ := AI fy
   refine cV call139 (IK ad aa ga) ?_
   refine Aa ⟨_, rfl, AZ.refl _, [7, 6, 5, 4, 3, 2, 1, 0], by kernel_rfl, .inl (.inr (fun d h => by cases h; rfl)), (fc (s0 (s1 (s2 (s3 sr)))) (fc sm (fc sm (fc (s0 (s1 (s2 (s3 sr)))) (fc sm (fc sm (fc (s0 (s1 (s2 (s3 sr)))) (fc sm nm)))))))), ?_⟩
   refine mS (v := .int .i64 (OD af n6)) [72, 76] rfl (Xh rfl rfl) ?_
   refine mS (v := .agg #[.int .i64 (ae + 1), .int .i64 (ab - 1), .int .i64 (OD af n6)]) [67, 70, 77] rfl (Bx (v := .agg #[.int .i64 (ae + 1), .int .i64 (ab - 1), .int .i64 (OD af n6)]) rfl (by intro w; kernel_rfl)) ?_
   refine ⟨_, [(9, .pointer (some ⟨au, 0, none⟩)), (78, .agg #[.int .i64 (ae + 1), .int .i64 (ab - 1), .int .i64 (OD af n6)])], rfl, rfl, z2, by kernel_rfl, ?_⟩; intro H
   refine Br (i := 1) sizeOf284 rfl rfl rfl (by simp [Value.oneCell']) rfl (Ce rfl) (AK rfl ?_)
   refine Aa ⟨undef, rfl, AZ.refl _, [], by kernel_rfl, .inl (.inl rfl), nm, ?_⟩
   refine EW (Au (id := 3) ?_)
   exact le kr ⟨m4, ae + 1, ab - 1, OD af n6, db, bp, cf, fp, fq, ft, dd, gb, (az.trans aw), rfl, z5, fk, de⟩
  have gg := A9 cx ej
  refine AQ (Af (Af ?_))
  refine Av ?_
  obtain rfl := AM gg
  exact mi (kd (kd kr)) ⟨cn, cp, cq, ba, az, rfl, z2, bo⟩
 rintro e1 jc _ ⟨dy, dz, e9, cb, gz, rfl, df, gh⟩
 refine AA _ df ?_
 refine AO (um (um (ua (ua (Aa (Al ?_))))))
 refine CP results63 (AR rfl) (AR rfl) (sr) ?_
 obtain ⟨rfl, rfl⟩ := DH gp
 exact ⟨_, _, _, _, rfl, rfl, gh.any⟩
set_option maxHeartbeats 1000000 in
theorem Q9 {Ae : List Int} (ah : Ax 1 (iE .i64) F AS AT plots) (ad : Ax 1 (iE .i64) F FJ Fy Ae) {r : List Int} {r2 : Int} (hr : Gw wide plots BC BI Ae = some (r, r2)) :
    SH.Spec Tryz.prog 19 #[.agg #[.int .i64 wide, .slice AS plots.length AT], .agg #[.int .i64 BC, .int .i64 BI], .slice FJ Ae.length Fy] F [] fun F' L' v => ∃ (ra : Option Addr) (rn : Nat) (rc : Nat) (rL : LH), v = .tuple #[.slice ra rn rc, .int .i64 r2] ∧ L' = rL ++ [] ∧ A6 0 3 1 (iE .i64) F' ra rn rc r rL := by
 refine sp func19 ntmps19 fun K _ _ => ?_
 rw [Gw] at hr
 refine AO ?_
 refine BH rfl rfl ?_; intro b1 dd
 refine BH rfl rfl ?_; intro b2 de
 refine ua (ua (Cj ?_))
 refine uv (AL isAgg27 sizeOf27 rfl (Has.own 1 rfl) (Ce rfl) rfl) (uv (AL isAgg31 sizeOf31 rfl (Has.own 0 rfl) (Ce rfl) rfl) (um ?_))
 obtain ⟨l, y, n, h3, r4⟩ := IH hr
 refine c0 call59 (R7 ah ad h3) ?_; rintro _ F5 _ df bn ⟨a9, aq, ar, ai, dg, rfl, rfl, aa, ak⟩
 replace aa := aa.new fun p hp => bn p (by simp [hp])
 refine AK (lp (ln rfl)) (kO (kf (fS fO) (kf (fS fO) kr)) ?_)
 refine um (ox rfl rfl rfl (ox rfl rfl rfl ?_))
 refine Bj rfl zeroValue174 ?_; intro ao bo
 refine Br (i := 0) sizeOf174 rfl rfl rfl (fc rfl (fc (ak.1) nm)) rfl (Ce rfl) (AK rfl ?_)
 refine ua (Aa (Ao ?_))
 refine Am ?_
 refine AO (um ?_)
 refine uv (B8 rfl rfl) ?_
 refine ua (Aa ?_)
 refine cQ (fun au => ?_) fun au => ?_
 ·have bp := A8 r4 au
  refine AO (um (ua (ua (Aa ?_))))
  refine kW kn ?_
  refine Al (Ay (Ah ?_))
  refine CP results19 (AR rfl) (AR rfl) (sr) ?_
  obtain ⟨rfl, rfl⟩ := DH bp
  exact ⟨_, _, _, [], rfl, rfl, A6.nil _ _ _ _ _⟩
 have bq := A9 r4 au
 refine AO (uv (AL isAgg174 sizeOf174 rfl (Has.own 0 rfl) (Ce rfl) rfl) ?_)
 obtain ⟨br, bu⟩ := A2 bq
 obtain rfl := ak.2 br
 have ab : IQ Tryz.prog F5 136 #[] #[] (iE .i64) (Value.int .i64) (fun bl : Int => Ig bl) := ⟨call136, fun F2 h2 vs bl r ha hr => by obtain rfl := ha; exact TF hr⟩
 obtain ⟨ok, bx, bm⟩ := AI bu
 refine Ks (Lt := ai ++ []) (Lr := [(ao, ce (#[.slice a9 aq ar, .func (.func 136) #[] #[]]) 174), (b2, ce #[.int .i64 BC, .int .i64 BI] 31), (b1, ce #[.int .i64 wide, .slice AS plots.length AT] 27)]) rfl call60 rfl rfl rfl (pT ((fC (fC (fC fP))).trans (pA pR)) (lp (ln rfl))) (fun F2 h2 h3 => by rw [(A6.D9 aa).1]; exact MU (aa.row (Ca (n := 30) (sz := 1) Bi) h2 (fun p hp => h3 p (List.mem_append_left _ hp))) (ab.mono h2) bx) ?_
 refine ua (Aa ?_)
 refine AY rfl (fun av => ?_) (fun av => ?_)
 ·have bz := bt bm av
  refine AO (ua (ua (Aa ?_)))
  refine kW kn ?_
  refine Al (Ay (Ah ?_))
  refine CP results19 (AR rfl) (AR rfl) (sr) ?_
  obtain ⟨rfl, rfl⟩ := DH bz
  exact ⟨_, _, _, [], rfl, rfl, A6.nil _ _ _ _ _⟩
 have ca := bf bm av
 refine An (Au (id := 0) (AO ?_))
 refine uv (Ab Ji rfl) (uv (Aj isAgg166 rfl (Has.own 0 rfl) rfl) ?_)
 obtain ⟨l2, cb, cc⟩ := AI ca
 refine Jg (Lb := []) (Lt := ai ++ []) (Lr := [(ao, ce (#[.slice a9 aq ar, .func (.func 136) #[] #[]]) 174), (b2, ce #[.int .i64 BC, .int .i64 BI] 31), (b1, ce #[.int .i64 wide, .slice AS plots.length AT] 27)]) rfl call62 rfl rfl rfl (pT ((fC (fC (fC fP))).trans (pA pR)) (ln (lp (ln rfl)))) (fun F2 h2 h3 => by rw [(A6.D9 aa).1]; exact H4 (aa.row (Ca (n := 30) (sz := 1) Bi) h2 (fun p hp => h3 p (List.mem_append_left _ hp))) cb) (fun _ _ _ _ hq => by obtain ⟨cf, cg, cj, al, rfl, rfl, ae⟩ := hq; exact ⟨_, _, _, _, rfl, rfl, ae.flat (fun _ _ h => h)⟩) ?_; rintro _ dh _ aw ax ay ⟨cf, cg, cj, al, rfl, rfl, ae⟩
 replace ab := ab.mono aw
 have az := V0 (Lb' := []) (by rfl) ax ay
 replace ae := ae.new fun p hp => az p (by simp [hp])
 refine AK (lp (ln (lp (ln rfl)))) (kO (kf (fS (fS fO)) (kf (fS (fS fO)) (kf (fS (fS fO)) kr))) ?_)
 obtain ⟨l3, cn, cp⟩ := AI cc
 refine GJ (Lb := al ++ []) (Lr := (ao, ce (#[.slice a9 aq ar, .func (.func 136) #[] #[]]) 174) :: ((b2, ce #[.int .i64 BC, .int .i64 BI] 31) :: ((b1, ce #[.int .i64 wide, .slice AS plots.length AT] 27) :: (ai ++ [])))) rfl call61 rfl rfl rfl (pT ((fC (fC (fC fP))).trans (pA pR)) (lp (ln rfl))) (HG ae cn) ?_; rintro _ di _ ba cq cr ⟨ct, cu, cv, bb, rfl, rfl, aj⟩
 replace ab := ab.mono ba
 refine AK (lp (ln rfl)) (kO (kf (fS fO) (kf (fS fO) (kf (fS fO) kr))) (uv (Ab Ji rfl) (CN (i := 0) sizeOf166 rfl rfl rfl rfl (Ce rfl) (AK rfl (Cj (uv (AL isAgg174 sizeOf174 rfl (Has.own 0 rfl) (Ce rfl) rfl) (uv (Ab Ji rfl) ?_)))))))
 refine uv (Aj isAgg166 rfl (Has.own 0 rfl) rfl) (uv ((A3 underlying166 rfl).i (A6.Je aj)) ?_)
 obtain ⟨l4, n2, cw, cx⟩ := DA cp
 refine Jg (Lb := []) (Lt := bb ++ []) (Lr := (ao, ce (#[.slice ct cu cv, .func (.func 136) #[] #[]]) 174) :: ((b2, ce #[.int .i64 BC, .int .i64 BI] 31) :: ((b1, ce #[.int .i64 wide, .slice AS plots.length AT] 27) :: (ai ++ [])))) rfl call63 rfl rfl rfl (pT ((fC (fC (fC fP))).trans (pA pR)) (ln (lp (ln rfl)))) (fun F2 h2 h3 => by rw [(A6.D9 aj).1]; exact LR (aj.row (Ca (n := 30) (sz := 1) Bi) h2 (fun p hp => h3 p (List.mem_append_left _ hp))) (ab.mono h2) cw) (fun _ _ _ _ hq => by obtain ⟨cy, cz, da, bc, rfl, rfl, af⟩ := hq; exact ⟨_, _, _, _, rfl, rfl, af.flat (fun _ _ h => h)⟩) ?_; rintro _ dk _ db bg bj ⟨cy, cz, da, bc, rfl, rfl, af⟩
 have bk := V0 (Lb' := []) (by rfl) bg bj
 replace af := af.new fun p hp => bk p (by simp [hp])
 refine AK (lp (ln (lp (ln rfl)))) (kO (kf (fS (fS fO)) (kf (fS (fS fO)) (kf (fS (fS fO)) kr))) ?_)
 refine um (ox rfl rfl rfl (ox rfl rfl rfl (ua (ua (Cj (um (ua (ua (Aa ?_)))))))))
 refine kW (kd (kd (kd (ka kn)))) (Al (CP results19 (AR rfl) (AR rfl) (sr) ?_))
 obtain ⟨rfl, rfl⟩ := DH cx
 exact ⟨_, _, _, _, rfl, rfl, af.any⟩
set_option maxHeartbeats 1000000 in
theorem Rs {E6 : Int} (aa : Ax 1 (iE .i64) F AS AT plots) {r : Int} {r2 : List Int} (hr : Ja wide plots E6 = some (r, r2, r3)) :
    SH.Spec Tryz.prog 20 #[.agg #[.int .i64 wide, .slice AS plots.length AT], .int .i64 E6] F [] fun F' L' v => ∃ (aw : Option Addr) (ax : Nat) (ay : Nat) (az : LH), v = .tuple #[.agg #[.int .i64 r, .slice aw ax ay], .int .i64 r3] ∧ L' = az ++ [] ∧ A6 0 34 1 (iE .i64) F' aw ax ay r2 az := by
 refine sp func20 ntmps20 fun K _ _ => ?_
 rw [Ja] at hr
 refine AO ?_
 refine BH rfl rfl ?_; intro b1 cf
 refine Bj rfl zeroValue27 ?_; intro b2 cg
 refine ua (Aa (Ao (AO ?_)))
 refine uv (AL isAgg27 sizeOf27 rfl (Has.own 1 rfl) (Ce rfl) rfl) ?_
 obtain ⟨n, h3, r4⟩ := AI hr
 refine cV call64 (Lm aa h3) ?_
 refine ua (Cj (um ?_))
 refine uv (B8 rfl rfl) (Aa ?_)
 refine cQ (fun c5 => ?_) fun c5 => ?_
 ·have r6 := A8 r4 c5
  refine AO ?_
  refine uv (Bx (v := .agg #[.int .i64 0, .slice none 0 0]) rfl (by intro w; kernel_rfl)) ?_
  refine um (Br (i := 0) sizeOf27 rfl rfl rfl (by simp [Value.oneCell']) rfl (Ce rfl) (AK rfl ?_))
  refine ua (Aa ?_)
  refine kW (kc kn) ?_
  refine Al (Ah ?_)
  refine CP results20 (Dp (cs := #[.int .i64 0, .slice none 0 0]) isAgg27 sizeOf27 rfl (Has.own 0 rfl) (Ce rfl) rfl) (AR rfl) (s1 sr) ?_
  obtain ⟨rfl, rfl, rfl⟩ := KI r6
  exact ⟨_, _, _, [], rfl, rfl, A6.nil _ _ _ _ _⟩
 have r7 := A9 r4 c5
 refine An (Ao (AO ?_))
 refine uv (AL isAgg27 sizeOf27 rfl (Has.own 1 rfl) (Ce rfl) rfl) (um ?_)
 obtain ⟨n2, h8, r9⟩ := AI r7
 refine cV call65 (J8 aa h8) ?_
 refine ua (Cj (um ?_))
 refine uv (B8 rfl rfl) (Aa ?_)
 refine cQ (fun ah => ?_) fun ah => ?_
 ·have bb := A8 r9 ah
  refine AO ?_
  refine uv (Bx (v := .agg #[.int .i64 0, .slice none 0 0]) rfl (by intro w; kernel_rfl)) ?_
  refine um (Br (i := 0) sizeOf27 rfl rfl rfl (by simp [Value.oneCell']) rfl (Ce rfl) (AK rfl ?_))
  refine ua (Aa ?_)
  refine kW (kc kn) ?_
  refine Al (Ah ?_)
  refine CP results20 (Dp (cs := #[.int .i64 0, .slice none 0 0]) isAgg27 sizeOf27 rfl (Has.own 0 rfl) (Ce rfl) rfl) (AR rfl) (s1 sr) ?_
  obtain ⟨rfl, rfl, rfl⟩ := KI bb
  exact ⟨_, _, _, [], rfl, rfl, A6.nil _ _ _ _ _⟩
 have bc := A9 r9 ah
 refine An (Ao ?_)
 refine DB [(.pre, 7), (.still, 0), (.still, 1), (.still, 2), (.still, 3), (.still, 4), (.seq, 5), (.still, 6), (.alloc (.cells (.agg #[.int .i64 0, .slice none 0 0] : Value).cells 27 (0, 0)) (fun b => .pointer (some ⟨b, 0, none⟩)) [], 7), (.seq, 8)] (by kernel_rfl) (by kernel_rfl) (⟨⟨_, _, rfl, rfl, rfl, rfl, rfl, T9 zeroValue27⟩, trivial⟩) (by rfl) (by kernel_rfl) ?_
 refine ⟨⟨[], rfl, sn _, by kernel_rfl⟩, ?_⟩
 refine mS [2] rfl (Ab I7 rfl) (mL [22] ([(b1, ce #[.int .i64 wide, .slice AS plots.length AT] 27)]) rfl (s0 (s1 (s2 sr))) (fun H F' L' ai aj => Aj isAgg3 rfl ((Has.own 0 rfl).ext ai aj) rfl) (mS [2] rfl (Ab Dd rfl) (mL [24] ([(b1, ce #[.int .i64 wide, .slice AS plots.length AT] 27)]) rfl (s0 (s1 (s2 sr))) (fun H F' L' ai aj => Aj isAgg25 rfl ((Has.own 0 rfl).ext ai aj) rfl) (mS [25] rfl (A3 underlying25 rfl) ?_))))
 refine ⟨_, [(26, .int .i64 (plots.length : Int))], rfl, rfl, z1, by kernel_rfl, ?_⟩; intro H
 obtain ⟨bg, bj⟩ := A2 bc
 obtain ⟨l, bk, bl⟩ := DK bj
 refine NM (R := (iE .i64)) (z0 := 0) (zs := l) rfl Mg (by decide) (Ad _) (fun _ => rfl) rfl bg bk (fun _ => .c (.c .n)) ?_; intro ae ab ak al
 refine Aa ⟨_, rfl, AZ.refl _, [1, 0], by kernel_rfl, .inl (.inr (fun d h => by cases h; rfl)), (fc (s0 (s1 (s2 (s3 sr)))) (fc sm nm)), ?_⟩
 refine mS (v := .agg #[.int .i64 wide, .slice ae ab ab]) [23, 27] rfl (Bx (v := .agg #[.int .i64 wide, .slice ae ab ab]) rfl (by intro w; kernel_rfl)) ?_
 refine Vf rfl ?_; intro ao bm
 refine TN (L' := (ao, ce #[.int .i64 0, .slice none 0 0] 27) :: ((b2, ce #[.int .i64 0, .slice none 0 0] 27) :: ((b1, ce #[.int .i64 wide, .slice AS plots.length AT] 27) :: (ak ++ [])))) rfl ?_
 refine ⟨_, [(8, .pointer (some ⟨ao, 0, none⟩)), (28, .agg #[.int .i64 wide, .slice ae ab ab])], rfl, rfl, z2, by kernel_rfl, ?_⟩; intro H
 refine Br (i := 0) sizeOf27 rfl rfl rfl (by simp [Value.oneCell']) rfl (Ce rfl) (AK rfl ?_)
 refine Aa ⟨undef, rfl, AZ.refl _, [], by kernel_rfl, .inl (.inl rfl), nm, ?_⟩
 refine EW (AO (uv (Ab Dd rfl) (uv (Aj isAgg25 rfl (Has.own 0 rfl) rfl) (uv (Ab Dd rfl) (uv (Aj isAgg25 rfl (Has.own 2 rfl) rfl) ?_)))))
 obtain ⟨out, bn, bo⟩ := DK bl
 refine Ve (ys := plots) (zs := out) rfl Mg (Ad _) rfl rfl (fun _ => .c (.c (.c .h))) al (Ax.src aa) bn ?_; intro aq ad
 refine Cj (uv (Ab Dd rfl) (uv (Aj isAgg25 rfl (Has.own 0 rfl) rfl) (um ?_)))
 obtain ⟨x, ar, au, bp⟩ := Cb bo
 obtain ⟨cj, cn, cp, bq, af, br, ba, rfl, bu, bx⟩ := A6.at (Ad _) ad (L := (ao, ce #[.int .i64 wide, .slice ae ab ab] 27) :: ((b2, ce #[.int .i64 0, .slice none 0 0] 27) :: ((b1, ce #[.int .i64 wide, .slice AS plots.length AT] 27) :: (aq ++ [])))) (fC (fC (fC fP))) ar.1 au
 refine uv (AN underlying25 sizeOf34 rfl af rfl (A6.idx ad ar)) ?_
 obtain ⟨bz, ca, cb⟩ := DK bp
 refine GM (u := 2) sizeOf34 (Ad _) rfl af rfl rfl (fun _ => .c (.c (.c .h))) ad ca ar ?_; intro cc av
 refine Cj (uv (AL isAgg27 sizeOf27 rfl (Has.own 0 rfl) (Ce rfl) rfl) (Br (i := 1) sizeOf27 rfl rfl rfl (by simp [Value.oneCell']) rfl (Ce rfl) (AK rfl ?_)))
 refine ua (Aa ?_)
 refine kW (kd (kc (kd kr))) (Al (CP results20 (Dp (cs := #[.int .i64 wide, .slice ae ab ab]) isAgg27 sizeOf27 rfl (Has.own 0 rfl) (Ce rfl) rfl) (AR rfl) (s1 (s4 sr)) ?_))
 obtain ⟨rfl, rfl, rfl⟩ := KI cb
 exact ⟨_, _, _, _, rfl, rfl, av.any⟩
set_option maxHeartbeats 1000000 in
theorem GW {ai : Nat} {Ae : List Int} {dr : Nat × Nat} {dw : Nat} {et : Nat × Nat} {af : Nat} {ad : Option Addr} {ae : Nat} {aa : List Int} {da : Nat × Nat} (ao : Ax 1 (iE .i64) F AS AT plots) (ay : F ai = some (.cells #[.slice FJ Ae.length Fy] 33 dr)) (az : Ax 1 (iE .i64) F FJ Fy Ae) (de : F dw = some (.cells #[.int .u8 hour] 5 et)) (ba : F af = some (.cells #[.slice ad aa.length ae] 33 da)) (ah : Ax 1 (iE .i64) F ad ae aa) {r r2 : List (List Int)} {r4 : Int} {r5 : List ((List Int) × Int × Int)} {r6 : Bool} (hr : CU wide plots BC BI Ae hour aa = some (r, r2, r3, r4, r5, r6)) :
    SH.Spec Tryz.prog 10 #[.agg #[.int .i64 wide, .slice AS plots.length AT], .agg #[.int .i64 BC, .int .i64 BI], .pointer (some ⟨ai, 0, none⟩), .pointer (some ⟨dw, 0, none⟩), .pointer (some ⟨af, 0, none⟩)] F [] fun F' L' v => ∃ (ra : Option Addr) (rn : Nat) (rc : Nat) (rL : LH) (qe : Option Addr) (qf : Nat) (qg : Nat) (qh : LH) (qi : Option Addr) (qj : Nat), v = .tuple #[.agg #[.slice ra rn rc, .slice qe qf qg, .int .i64 r3, .int .i64 r4, .slice qi r5.length qj], .bool r6] ∧ L' = rL ++ (qh ++ []) ∧ A6 0 33 1 (Cn 1 (iE .i64)) F' ra rn rc r rL ∧ A6 0 33 1 (Cn 1 (iE .i64)) F' qe qf qg r2 qh ∧ Ax 3 (Cd (Cn 1 (iE .i64)) (Cd (iE .i64) (iE .i64))) F' qi qj r5 := by
 refine sp func10 ntmps10 fun K _ _ => ?_
 rw [CU] at hr
 refine AO ?_
 refine BH rfl rfl ?_; intro b1 u6
 refine BH rfl rfl ?_; intro b2 u7
 refine Bj rfl zeroValue39 ?_; intro b3 u9
 refine ua (Cj ?_)
 refine uv (Aj isAgg33 rfl (Has.frozen ay) rfl) (uv (A3 underlying33 rfl) (uv (Aj isAgg5 rfl (Has.frozen de) rfl) ?_))
 obtain ⟨g4, r7⟩ := A2 hr
 refine uv (O8 underlying5 underlying3 rfl g4) (uv (NG rfl rfl (by decide)) ?_)
 obtain ⟨g8, r9⟩ := A2 r7
 refine uv (Bd rfl rfl g8) (uv (Aj isAgg5 rfl (Has.frozen de) rfl) ?_)
 obtain ⟨rz, s6⟩ := A2 r9
 refine uv (O8 underlying5 underlying3 rfl rz) ?_
 obtain ⟨s7, s8⟩ := A2 s6
 refine uv (P1 rfl rfl s7) ?_
 obtain ⟨s9, sa⟩ := A2 s8
 refine uv (Bd rfl rfl s9) ?_
 refine uv (Bx (v := .agg #[.slice none 0 0, .int .i64 (1 + (Int.tmod hour 3)), .int .i64 (20 + (Int.tdiv hour 2))]) rfl (by intro w; kernel_rfl)) ?_
 refine bA (cs := #[.slice none 0 0, .int .i64 (1 + (Int.tmod hour 3)), .int .i64 (20 + (Int.tdiv hour 2))]) W4 [.agg #[.slice none 0 0, .int .i64 (1 + (Int.tmod hour 3)), .int .i64 (20 + (Int.tdiv hour 2))]] ?_; intro al fv
 refine uv (Bx (v := .agg #[.slice none 0 0, .slice none 0 0, .int .i64 (Ae.length : Int), .int .i64 0, .slice (some ⟨al, 0, none⟩) 1 1]) rfl (by intro w; kernel_rfl)) ?_
 refine Bj rfl zeroValue39 ?_; intro aw sb
 refine Br (i := 0) sizeOf39 rfl rfl rfl (by simp [Value.oneCell']) rfl (Ce rfl) (AK rfl (Aa ?_))
 obtain ⟨ab, se, qk⟩ := AI sa
 refine AV (fun e1 F1 L1 => ∃ (bz : Option Addr) (cn : Nat) (ca : Nat) (aq : LH), F = F1 ∧ L1 = ((aw, ce #[.slice none 0 0, .slice none 0 0, .int .i64 (Ae.length : Int), .int .i64 0, .slice (some ⟨al, 0, none⟩) 1 1] 39) :: ((al, ce #[.slice bz cn ca, .int .i64 (1 + (Int.tmod hour 3)), .int .i64 (20 + (Int.tdiv hour 2))] 41) :: ((b3, ce #[.slice none 0 0, .slice none 0 0, .int .i64 0, .int .i64 0, .slice none 0 0] 39) :: ((b2, ce #[.int .i64 BC, .int .i64 BI] 31) :: ((b1, ce #[.int .i64 wide, .slice AS plots.length AT] 27) :: (aq ++ [])))))) ∧ e1.sub [(2, .pointer (some ⟨ai, 0, none⟩)), (4, .pointer (some ⟨af, 0, none⟩)), (5, .pointer (some ⟨b1, 0, none⟩)), (6, .pointer (some ⟨b2, 0, none⟩)), (7, .pointer (some ⟨b3, 0, none⟩)), (9, .pointer (some ⟨aw, 0, none⟩))] ∧ A6 K.w0.heap.size 3 1 (iE .i64) F1 bz cn ca ab aq) ?_ ?_
 ·clear qk
  refine AO (uv (Aj isAgg33 rfl (Has.frozen ay) rfl) (uv (A3 underlying33 rfl) ?_))
  refine um (Aa ?_)
  refine Am ?_
  refine Bk (fun ql e1 F1 L1 => LA Ae ql fun tl k => ∃ (bb : List Int) (gv : Option Addr) (Qw : Nat) (gw : Nat) (eu : LH), CB tl k bb = some ab ∧ F = F1 ∧ L1 = ((aw, ce #[.slice none 0 0, .slice none 0 0, .int .i64 (Ae.length : Int), .int .i64 0, .slice (some ⟨al, 0, none⟩) 1 1] 39) :: ((al, ce #[.slice gv Qw gw, .int .i64 (1 + (Int.tmod hour 3)), .int .i64 (20 + (Int.tdiv hour 2))] 41) :: ((b3, ce #[.slice none 0 0, .slice none 0 0, .int .i64 0, .int .i64 0, .slice none 0 0] 39) :: ((b2, ce #[.int .i64 BC, .int .i64 BI] 31) :: ((b1, ce #[.int .i64 wide, .slice AS plots.length AT] 27) :: (eu ++ [])))))) ∧ e1.sub [(2, .pointer (some ⟨ai, 0, none⟩)), (4, .pointer (some ⟨af, 0, none⟩)), (5, .pointer (some ⟨b1, 0, none⟩)), (6, .pointer (some ⟨b2, 0, none⟩)), (7, .pointer (some ⟨b3, 0, none⟩)), (9, .pointer (some ⟨aw, 0, none⟩)), (37, .int .i64 (Ae.length : Int)), (38, .int .i64 k)] ∧ A6 K.w0.heap.size 3 1 (iE .i64) F1 gv Qw gw bb eu) _ (m0 (kc (kc (kc (kc (kc (ke kr)))))) ⟨_, _, rfl, BP.start _, [], none, 0, 0, [], se, rfl, rfl, z8, A6.nil _ _ _ _ _⟩) ?_
  rintro ql e1 _ _ ⟨tl, k, mw, fw, bb, gv, Qw, gw, eu, mc, rfl, rfl, mx, ik⟩
  refine AA _ mx (AO (uv (Bg rfl rfl) ?_))
  refine Aa (Ao ?_)
  refine cQ (fun me => ?_) fun me => ?_
  ·obtain ⟨x, ub, rfl, sf, uc, my⟩ := BP.succ fw me
   rw [CB] at mc
   refine An (Ao ?_)
   refine Am ?_
   refine AO (um (ua (Aa ?_)))
   refine DB [(.still, 0), (.still, 1), (.still, 2), (.still, 3), (.still, 4), (.still, 5), (.still, 6), (.still, 7), (.seq, 8), (.seq, 9), (.still, 10), (.still, 11), (.seq, 12)] (by kernel_rfl) (by kernel_rfl) (trivial) (by rfl) (by kernel_rfl) (mS [9] rfl (Ab II rfl) (mL [41] ([(aw, ce #[.slice none 0 0, .slice none 0 0, .int .i64 (Ae.length : Int), .int .i64 0, .slice (some ⟨al, 0, none⟩) 1 1] 39)]) rfl (s0 (s2 (s1 (s1 (s1 (s1 (s3 sr))))))) (fun H F' L' ew ey => Aj isAgg37 rfl ((Has.own 0 rfl).ext ew ey) rfl) (mS [9] rfl (Ab II rfl) (mL [43] ([(aw, ce #[.slice none 0 0, .slice none 0 0, .int .i64 (Ae.length : Int), .int .i64 0, .slice (some ⟨al, 0, none⟩) 1 1] 39)]) rfl (s0 (s2 (s1 (s1 (s1 (s1 (s3 sr))))))) (fun H F' L' ew ey => Aj isAgg37 rfl ((Has.own 0 rfl).ext ew ey) rfl) (mS (v := .pointer (some ⟨al, 0, none⟩)) [44] rfl (Fw.eq (Ql (i := 0) underlying37 sizeOf41 rfl rfl (by decide)) rfl) (mS [45] rfl (Ab MK rfl) (mL [46] ([(al, ce #[.slice gv Qw gw, .int .i64 (1 + (Int.tmod hour 3)), .int .i64 (20 + (Int.tdiv hour 2))] 41)]) rfl (s0 (s1 (s2 (s1 (s1 (s1 (s3 sr))))))) (fun H F' L' ew ey => Aj isAgg33 rfl ((Has.own 0 rfl).ext ew ey) rfl) ?_)))))))
   refine mS [10] rfl (B3 rfl) ?_
   refine ⟨_, [(48, .int .i64 k)], rfl, rfl, z1, by kernel_rfl, ?_⟩; intro H
   refine bA (cs := #[.int .i64 k]) CD [.int .i64 k] ?_; intro sg sh
   refine Aa ⟨_, rfl, AZ.refl _, [6, 5, 4, 3, 2, 1, 0], by kernel_rfl, .inl (.inr (fun d h => by cases h; rfl)), (fc (s0 (s1 (s1 (s2 (s1 (s1 (s1 (s3 sr)))))))) (fc sm (fc sm (fc (s0 (s1 (s2 (s1 (s1 (s1 (s1 (s3 sr)))))))) (fc sm (fc (s0 (s1 (s2 (s1 (s1 (s1 (s1 (s3 sr)))))))) (fc sm nm))))))), ?_⟩
   refine ⟨_, [(47, .slice gv Qw gw), (49, .slice (some ⟨sg, 0, none⟩) 1 1)], rfl, rfl, z2, by kernel_rfl, ?_⟩; intro H
   obtain ⟨l, si, sj, sk⟩ := Hv mc
   refine Fg (xs := bb) (ys := [k]) (zs := l) rfl CD rfl rfl (Nat.le_refl _) (fun _ => .c (.c (.c (.c (.c (.c .h)))))) ik (HE.box (vss := [[.int .i64 k]]) (ys := [k]) 0 rfl (Ad _) (.cons rfl .nil) rfl rfl) si sj (by decide) ?_; intro qn qo qp mz na
   refine kO (kd kr) ?_
   refine Aa ⟨_, rfl, AZ.refl _, [1, 0], by kernel_rfl, .inl (.inr (fun d h => by cases h; rfl)), (fc (s0 (s2 (s1 (s1 (s1 (s1 (s3 sr))))))) (fc sm nm)), ?_⟩
   refine mS (v := .pointer (some ⟨al, 0, none⟩)) [42] rfl (Fw.eq (Ql (i := 0) underlying37 sizeOf41 rfl rfl (by decide)) rfl) (mS [51] rfl (Ab MK rfl) ?_)
   refine ⟨_, [(50, .slice qn qo qp), (52, .pointer (some ⟨al, 0, none⟩))], rfl, rfl, z2, by kernel_rfl, ?_⟩; intro H
   refine CN (i := 1) sizeOf33 rfl rfl rfl rfl (Ce rfl) (AK rfl ?_)
   refine Aa ⟨undef, rfl, AZ.refl _, [], by kernel_rfl, .inl (.inl rfl), nm, ?_⟩
   refine EW ?_
   refine Au (id := 1) (Ai ?_)
   refine uv (Bd rfl rfl (BP.EP fw me (Ax.lt az))) ?_
   refine um (Aa ?_)
   subst mw; exact le kr ⟨_, _, rfl, my, l, qn, qo, qp, mz, sk, rfl, rfl, z8, na⟩
  obtain rfl := BP.zero fw me
  rw [CB] at mc
  refine AQ (Af (Af ?_))
  refine Av ?_
  obtain rfl := AM mc
  exact mi kr ⟨gv, Qw, gw, eu, rfl, rfl, z6, ik⟩
 rintro e1 _ _ ⟨bz, cn, ca, aq, rfl, rfl, nc, bl⟩
 refine AA _ nc ?_
 refine AV (fun e1 F1 L1 => ∃ (cp : List (List Int)) (cq : List (List Int)) (gz : Option Addr) (ia : Nat) (ib : Nat) (fa : LH) (ic : Option Addr) (ie : Nat) (ig : Nat) (fb : LH), GA Ae hour ab cp cq = some (r, r2, r3, r4, r5, r6) ∧ AZ F F1 ∧ L1 = ((aw, ce #[.slice gz ia ib, .slice ic ie ig, .int .i64 (Ae.length : Int), .int .i64 0, .slice (some ⟨al, 0, none⟩) 1 1] 39) :: ((al, ce #[.slice bz cn ca, .int .i64 (1 + (Int.tmod hour 3)), .int .i64 (20 + (Int.tdiv hour 2))] 41) :: ((b3, ce #[.slice none 0 0, .slice none 0 0, .int .i64 0, .int .i64 0, .slice none 0 0] 39) :: (fa ++ (fb ++ (aq ++ [])))))) ∧ e1.sub [(7, .pointer (some ⟨b3, 0, none⟩)), (9, .pointer (some ⟨aw, 0, none⟩))] ∧ A6 K.w0.heap.size 33 1 (Cn 1 (iE .i64)) F1 gz ia ib cp fa ∧ A6 K.w0.heap.size 33 1 (Cn 1 (iE .i64)) F1 ic ie ig cq fb) ?_ ?_
 ·refine AO (uv (Aj isAgg33 rfl (Has.frozen ba) rfl) (uv (A3 underlying33 rfl) ?_))
  refine um (Aa ?_)
  refine Am ?_
  refine Bk (fun qq e1 F1 L1 => LA aa qq fun qs k2 => ∃ (aj : List (List Int)) (ak : List (List Int)) (bm : Option Addr) (bn : Nat) (bo : Nat) (ar : LH) (bp : Option Addr) (bq : Nat) (br : Nat) (ax : LH), Bm wide plots BC BI Ae hour aa ab qs aj ak = some (r, r2, r3, r4, r5, r6) ∧ AZ F F1 ∧ L1 = ((aw, ce #[.slice bm bn bo, .slice bp bq br, .int .i64 (Ae.length : Int), .int .i64 0, .slice (some ⟨al, 0, none⟩) 1 1] 39) :: ((al, ce #[.slice bz cn ca, .int .i64 (1 + (Int.tmod hour 3)), .int .i64 (20 + (Int.tdiv hour 2))] 41) :: ((b3, ce #[.slice none 0 0, .slice none 0 0, .int .i64 0, .int .i64 0, .slice none 0 0] 39) :: ((b2, ce #[.int .i64 BC, .int .i64 BI] 31) :: ((b1, ce #[.int .i64 wide, .slice AS plots.length AT] 27) :: (ar ++ (ax ++ (aq ++ [])))))))) ∧ e1.sub [(2, .pointer (some ⟨ai, 0, none⟩)), (4, .pointer (some ⟨af, 0, none⟩)), (5, .pointer (some ⟨b1, 0, none⟩)), (6, .pointer (some ⟨b2, 0, none⟩)), (7, .pointer (some ⟨b3, 0, none⟩)), (9, .pointer (some ⟨aw, 0, none⟩)), (54, .slice ad aa.length ae), (55, .int .i64 (aa.length : Int)), (56, .int .i64 k2)] ∧ A6 K.w0.heap.size 33 1 (Cn 1 (iE .i64)) F1 bm bn bo aj ar ∧ A6 K.w0.heap.size 33 1 (Cn 1 (iE .i64)) F1 bp bq br ak ax) _ (m0 (kc (kc (kc (kc (kc (ke (ke kr))))))) ⟨_, _, rfl, BP.start _, [], [], none, 0, 0, [], none, 0, 0, [], qk, AZ.refl _, rfl, (sc rfl z8), A6.nil _ _ _ _ _, A6.nil _ _ _ _ _⟩) ?_
  rintro qq e1 il _ ⟨qs, k2, nf, fx, aj, ak, bm, bn, bo, ar, bp, bq, br, ax, mg, cr, rfl, ng, au, av⟩
  refine AA _ ng ?_
  replace ao := ao.mono (Ad _) cr
  replace az := az.mono (Ad _) cr
  replace ah := ah.mono (Ad _) cr
  replace bl := bl.mono (Ad _) cr
  replace ay := cr _ _ ay
  replace ba := cr _ _ ba
  refine AO (uv (Bg rfl rfl) ?_)
  refine Aa (Ao ?_)
  refine cQ (fun mh => ?_) fun mh => ?_
  ·obtain ⟨x2, ij, rfl, nh, qt, ni⟩ := BP.succ fx mh
   rw [Bm] at mg
   refine An ?_
   refine AV (fun e1 F1 L1 => ∃ (bu : List (List Int)) (bx : List (List Int)) (mj : Option Addr) (ml : Nat) (mo : Nat) (fe : LH) (mq : Option Addr) (mr : Nat) (mv : Nat) (ff : LH), GC (Bm wide plots BC BI Ae hour aa ab ij) bu bx = some (r, r2, r3, r4, r5, r6) ∧ AZ il F1 ∧ L1 = ((aw, ce #[.slice mj ml mo, .slice mq mr mv, .int .i64 (Ae.length : Int), .int .i64 0, .slice (some ⟨al, 0, none⟩) 1 1] 39) :: ((al, ce #[.slice bz cn ca, .int .i64 (1 + (Int.tmod hour 3)), .int .i64 (20 + (Int.tdiv hour 2))] 41) :: ((b3, ce #[.slice none 0 0, .slice none 0 0, .int .i64 0, .int .i64 0, .slice none 0 0] 39) :: ((b2, ce #[.int .i64 BC, .int .i64 BI] 31) :: ((b1, ce #[.int .i64 wide, .slice AS plots.length AT] 27) :: (fe ++ (ff ++ (aq ++ [])))))))) ∧ e1.sub [(2, .pointer (some ⟨ai, 0, none⟩)), (4, .pointer (some ⟨af, 0, none⟩)), (5, .pointer (some ⟨b1, 0, none⟩)), (6, .pointer (some ⟨b2, 0, none⟩)), (7, .pointer (some ⟨b3, 0, none⟩)), (9, .pointer (some ⟨aw, 0, none⟩)), (54, .slice ad aa.length ae), (55, .int .i64 (aa.length : Int)), (56, .int .i64 k2)] ∧ A6 K.w0.heap.size 33 1 (Cn 1 (iE .i64)) F1 mj ml mo bu fe ∧ A6 K.w0.heap.size 33 1 (Cn 1 (iE .i64)) F1 mq mr mv bx ff) ?_ ?_
   ·refine Am (AO ?_)
    obtain ⟨ud, sq, ss, qu, im, iq, nj, rfl, qw, ir⟩ := Ax.at (Ad _) ah ((aw, ce #[.slice bm bn bo, .slice bp bq br, .int .i64 (Ae.length : Int), .int .i64 0, .slice (some ⟨al, 0, none⟩) 1 1] 39) :: ((al, ce #[.slice bz cn ca, .int .i64 (1 + (Int.tmod hour 3)), .int .i64 (20 + (Int.tdiv hour 2))] 41) :: ((b3, ce #[.slice none 0 0, .slice none 0 0, .int .i64 0, .int .i64 0, .slice none 0 0] 39) :: ((b2, ce #[.int .i64 BC, .int .i64 BI] 31) :: ((b1, ce #[.int .i64 wide, .slice AS plots.length AT] 27) :: (ar ++ (ax ++ (aq ++ [])))))))) qt.1 nh
    refine uv (AN underlying33 sizeOf3 rfl im rfl qt) (uv (Aj isAgg3 rfl iq (ir 0 (by decide))) ?_)
    refine ua (Cj (ua (ua (Aa ?_))))
    refine AV (fun e1 F1 L1 => ∃ (own : List Int) (cb : Option Addr) (db : Nat) (cc : Nat) (bc : LH), DC wide plots Ae hour aa ab aj ak x2 (Bm wide plots BC BI Ae hour aa ab ij) own = some (r, r2, r3, r4, r5, r6) ∧ il = F1 ∧ L1 = ((aw, ce #[.slice bm bn bo, .slice bp bq br, .int .i64 (Ae.length : Int), .int .i64 0, .slice (some ⟨al, 0, none⟩) 1 1] 39) :: ((al, ce #[.slice bz cn ca, .int .i64 (1 + (Int.tmod hour 3)), .int .i64 (20 + (Int.tdiv hour 2))] 41) :: ((b3, ce #[.slice none 0 0, .slice none 0 0, .int .i64 0, .int .i64 0, .slice none 0 0] 39) :: ((b2, ce #[.int .i64 BC, .int .i64 BI] 31) :: ((b1, ce #[.int .i64 wide, .slice AS plots.length AT] 27) :: (ar ++ (ax ++ (aq ++ (bc ++ []))))))))) ∧ e1.sub [(2, .pointer (some ⟨ai, 0, none⟩)), (4, .pointer (some ⟨af, 0, none⟩)), (5, .pointer (some ⟨b1, 0, none⟩)), (6, .pointer (some ⟨b2, 0, none⟩)), (7, .pointer (some ⟨b3, 0, none⟩)), (9, .pointer (some ⟨aw, 0, none⟩)), (12, .int .i64 x2), (13, .slice cb db cc), (14, .slice none 0 0), (54, .slice ad aa.length ae), (55, .int .i64 (aa.length : Int)), (56, .int .i64 k2)] ∧ A6 K.w0.heap.size 3 1 (iE .i64) F1 cb db cc own bc) ?_ ?_
    ·refine AO (uv (Aj isAgg33 rfl (Has.frozen ay) rfl) (uv (A3 underlying33 rfl) ?_))
     refine um (Aa ?_)
     refine Am ?_
     refine Bk (fun qx e1 F1 L1 => LA Ae qx fun qy k3 => ∃ (dd : List Int) (ct : Option Addr) (cu : Nat) (cv : Nat) (bg : LH), CH wide plots BC BI Ae hour aa ab aj ak x2 (Bm wide plots BC BI Ae hour aa ab ij) qy k3 dd = some (r, r2, r3, r4, r5, r6) ∧ il = F1 ∧ L1 = ((aw, ce #[.slice bm bn bo, .slice bp bq br, .int .i64 (Ae.length : Int), .int .i64 0, .slice (some ⟨al, 0, none⟩) 1 1] 39) :: ((al, ce #[.slice bz cn ca, .int .i64 (1 + (Int.tmod hour 3)), .int .i64 (20 + (Int.tdiv hour 2))] 41) :: ((b3, ce #[.slice none 0 0, .slice none 0 0, .int .i64 0, .int .i64 0, .slice none 0 0] 39) :: ((b2, ce #[.int .i64 BC, .int .i64 BI] 31) :: ((b1, ce #[.int .i64 wide, .slice AS plots.length AT] 27) :: (ar ++ (ax ++ (aq ++ (bg ++ []))))))))) ∧ e1.sub [(2, .pointer (some ⟨ai, 0, none⟩)), (4, .pointer (some ⟨af, 0, none⟩)), (5, .pointer (some ⟨b1, 0, none⟩)), (6, .pointer (some ⟨b2, 0, none⟩)), (7, .pointer (some ⟨b3, 0, none⟩)), (9, .pointer (some ⟨aw, 0, none⟩)), (12, .int .i64 x2), (13, .slice ct cu cv), (14, .slice none 0 0), (54, .slice ad aa.length ae), (55, .int .i64 (aa.length : Int)), (56, .int .i64 k2), (60, .slice FJ Ae.length Fy), (61, .int .i64 (Ae.length : Int)), (62, .int .i64 k3)] ∧ A6 K.w0.heap.size 3 1 (iE .i64) F1 ct cu cv dd bg) _ (m0 (kc (kc (kc (kc (kc (ka (ka (ka (ke kr))))))))) ⟨_, _, rfl, BP.start _, [], none, 0, 0, [], mg, rfl, rfl, (sc rfl (sc rfl (sc rfl (sc rfl (sc rfl (sc rfl (sc rfl z8))))))), A6.nil _ _ _ _ _⟩) ?_
     rintro qx e1 _ _ ⟨qy, k3, fj, df, dd, ct, cu, cv, bg, fg, rfl, rfl, iu, dg⟩
     refine AA _ iu (AO (uv (Bg rfl rfl) ?_))
     refine Aa (Ao ?_)
     refine cQ (fun dx => ?_) fun dx => ?_
     ·obtain ⟨x3, ue, rfl, iv, iw, fk⟩ := BP.succ df dx
      rw [CH] at fg
      refine An (Ao ?_)
      refine Am ?_
      refine AO (um ?_)
      obtain ⟨su, sv, sw, qz, iy, iz, nk, rfl, re, j0⟩ := Ax.at (Ad _) az ((aw, ce #[.slice bm bn bo, .slice bp bq br, .int .i64 (Ae.length : Int), .int .i64 0, .slice (some ⟨al, 0, none⟩) 1 1] 39) :: ((al, ce #[.slice bz cn ca, .int .i64 (1 + (Int.tmod hour 3)), .int .i64 (20 + (Int.tdiv hour 2))] 41) :: ((b3, ce #[.slice none 0 0, .slice none 0 0, .int .i64 0, .int .i64 0, .slice none 0 0] 39) :: ((b2, ce #[.int .i64 BC, .int .i64 BI] 31) :: ((b1, ce #[.int .i64 wide, .slice AS plots.length AT] 27) :: (ar ++ (ax ++ (aq ++ (bg ++ []))))))))) iw.1 iv
      refine uv (AN underlying33 sizeOf3 rfl iy rfl iw) (uv (Aj isAgg3 rfl iz (j0 0 (by decide))) ?_)
      refine ua (ua (Aa (Ao (AO ?_))))
      refine uv (Ab Dd rfl) (uv (Aj isAgg25 rfl (Has.own 4 rfl) rfl) (um ?_))
      obtain ⟨x4, j3, j4, j5⟩ := Cb fg
      obtain ⟨sx, sy, ta, rf, j6, j7, nn, rfl, rh, j8⟩ := Ax.at (Ad _) ao ((aw, ce #[.slice bm bn bo, .slice bp bq br, .int .i64 (Ae.length : Int), .int .i64 0, .slice (some ⟨al, 0, none⟩) 1 1] 39) :: ((al, ce #[.slice bz cn ca, .int .i64 (1 + (Int.tmod hour 3)), .int .i64 (20 + (Int.tdiv hour 2))] 41) :: ((b3, ce #[.slice none 0 0, .slice none 0 0, .int .i64 0, .int .i64 0, .slice none 0 0] 39) :: ((b2, ce #[.int .i64 BC, .int .i64 BI] 31) :: ((b1, ce #[.int .i64 wide, .slice AS plots.length AT] 27) :: (ar ++ (ax ++ (aq ++ (bg ++ []))))))))) j3.1 j4
      refine uv (AN underlying25 sizeOf34 rfl j6 rfl j3) (uv (Aj isAgg34 rfl j7 (j8 0 (by decide))) (uv (B8 rfl rfl) (Aa ?_)))
      refine cQ (fun fy => ?_) fun fy => ?_
      ·have np := A8 j5 fy
       refine AQ (Af ?_)
       refine Ra rfl ?_
       refine Af (Af ?_)
       refine Av ?_
       exact mi kr ⟨dd, ct, cu, cv, bg, np, rfl, rfl, (sc rfl (sc rfl (sc rfl (sc rfl z8)))), dg⟩
      have nq := A9 j5 fy
      refine An (AO ?_)
      refine uv (AL isAgg27 sizeOf27 rfl (Has.own 4 rfl) (Ce rfl) rfl) (uv (Ab PH rfl) (uv (Aj isAgg29 rfl (Has.own 3 rfl) rfl) ?_))
      refine um (um ?_)
      obtain ⟨n, n2, nr, nt⟩ := DA nq
      refine cV call11 (Pf ao nr) ?_
      refine um (ox rfl rfl rfl (ox rfl rfl rfl (ua (ua (Aa (Ao ?_))))))
      obtain ⟨k4, j9, ga⟩ := AI nt
      refine jE (((aw, ce #[.slice bm bn bo, .slice bp bq br, .int .i64 (Ae.length : Int), .int .i64 0, .slice (some ⟨al, 0, none⟩) 1 1] 39) :: ((al, ce #[.slice bz cn ca, .int .i64 (1 + (Int.tmod hour 3)), .int .i64 (20 + (Int.tdiv hour 2))] 41) :: ((b3, ce #[.slice none 0 0, .slice none 0 0, .int .i64 0, .int .i64 0, .slice none 0 0] 39) :: ((b2, ce #[.int .i64 BC, .int .i64 BI] 31) :: ((b1, ce #[.int .i64 wide, .slice AS plots.length AT] 27) :: (ar ++ (ax ++ (aq ++ (bg ++ [])))))))))) [(2, .pointer (some ⟨ai, 0, none⟩)), (4, .pointer (some ⟨af, 0, none⟩)), (5, .pointer (some ⟨b1, 0, none⟩)), (6, .pointer (some ⟨b2, 0, none⟩)), (7, .pointer (some ⟨b3, 0, none⟩)), (9, .pointer (some ⟨aw, 0, none⟩)), (12, .int .i64 x2), (13, .slice ct cu cv), (14, .slice none 0 0), (15, .int .i64 k3), (17, .int .i64 n), (18, .int .i64 n2), (54, .slice ad aa.length ae), (55, .int .i64 (aa.length : Int)), (56, .int .i64 k2), (60, .slice FJ Ae.length Fy), (61, .int .i64 (Ae.length : Int)), (62, .int .i64 k3), (87, .bool k4)] ?_ ?_
      ·clear ga
       refine Ai (um ?_)
       refine uv (B8 rfl rfl) (um ?_)
       by_cases cw : n2 ≠ 0
       ·have nu := A8 j9 cw
        refine nT cw (um (nT cw ?_))
        refine uv (B8 rfl rfl) (uv (AP (Bf rfl cw) rfl) (Aa ?_))
        obtain rfl := AM nu
        exact mi kr ⟨rfl, rfl, (sc rfl (sc rfl (sc rfl (sc rfl (sc rfl (sc rfl (sc rfl (sc rfl (sc rfl (sc rfl (sc rfl z8)))))))))))⟩
       have nv := A9 j9 cw
       refine fF cw (fF cw ?_)
       refine uv (AB (AU rfl cw) rfl) (Aa ?_)
       obtain rfl := AM nv
       exact mi kr ⟨rfl, rfl, (sc rfl (sc rfl (sc rfl (sc rfl (sc rfl (sc rfl (sc rfl (sc rfl (sc rfl (sc rfl (sc rfl z8)))))))))))⟩
      refine AY rfl (fun gb => ?_) (fun gb => ?_)
      ·have nw := bt ga gb
       refine AO (uv (AL isAgg39 sizeOf39 rfl (Has.own 0 rfl) (Ce rfl) rfl) (Br (i := 2) sizeOf39 rfl rfl rfl (by simp [Value.oneCell']) rfl (Ce rfl) (AK rfl ?_)))
       refine ua (Aa ?_)
       obtain rfl := (A6.D9 bl).1
       refine Ik (Nat.le_refl _) (Ad _) (fC (fC (fC (fC (fC (fS (fS fP))))))) bl ?_; intro tc fl gg
       replace au := au.mono (Az (Ad _)) fl
       replace av := av.mono (Az (Ad _)) fl
       refine CX 1 rfl fv ?_; intro ny dy ja
       refine Fi (L' := (aw, ce #[.slice bm bn bo, .slice bp bq br, .int .i64 (Ae.length : Int), .int .i64 0, .slice (some ⟨al, 0, none⟩) 1 1] 39) :: ((b3, ce #[.slice bm bn bo, .slice bp bq br, .int .i64 (Ae.length : Int), .int .i64 0, .slice (some ⟨al, 0, none⟩) 1 1] 39) :: ((b2, ce #[.int .i64 BC, .int .i64 BI] 31) :: ((b1, ce #[.int .i64 wide, .slice AS plots.length AT] 27) :: (ar ++ (ax ++ (bg ++ []))))))) rfl ?_
       replace gg := gg.mono (Ad _) dy
       replace au := au.mono (Az (Ad _)) dy
       replace av := av.mono (Az (Ad _)) dy
       have nz : Ax 3 (Cd (Cn 1 (iE .i64)) (Cd (iE .i64) (iE .i64))) ny (some ⟨al, 0, none⟩) 1 [(ab, 1 + (Int.tmod hour 3), 20 + (Int.tdiv hour 2))] := Ax.BQ (AD (Az (Ad _)) (AD (Ad _) (Ad _))) (vss := [[.slice bz ab.length ca, .int .i64 (1 + (Int.tmod hour 3)), .int .i64 (20 + (Int.tdiv hour 2))]]) (xs := [(ab, 1 + (Int.tmod hour 3), 20 + (Int.tdiv hour 2))]) ja (.cons ⟨_, _, rfl, ⟨_, _, rfl, gg⟩, ⟨_, _, rfl, rfl, rfl⟩⟩ .nil) rfl (by simp [maxLen])
       refine kW (kd (kc (kd (kd (ka (ka kn)))))) ?_
       refine Al (Ah (Ay (Ah (Ah (Ay (Ah (Ay (Ah (Ah ?_)))))))))
       refine Ay (Ah ?_)
       refine CP results10 (Dp (cs := #[.slice bm bn bo, .slice bp bq br, .int .i64 (Ae.length : Int), .int .i64 0, .slice (some ⟨al, 0, none⟩) [(ab, 1 + (Int.tmod hour 3), 20 + (Int.tdiv hour 2))].length 1]) isAgg39 sizeOf39 rfl (Has.own 0 rfl) (Ce rfl) rfl) (AR rfl) (s1 (s4 (s4 sr))) ?_
       obtain ⟨rfl, rfl, rfl, rfl, rfl, rfl⟩ := ZM nw
       exact ⟨_, _, _, _, _, _, _, _, _, _, rfl, rfl, au.any, av.any, nz⟩
      have o7 := bf ga gb
      refine An ?_
      obtain ⟨k5, jb, gh⟩ := AI o7
      refine jE (((aw, ce #[.slice bm bn bo, .slice bp bq br, .int .i64 (Ae.length : Int), .int .i64 0, .slice (some ⟨al, 0, none⟩) 1 1] 39) :: ((al, ce #[.slice bz cn ca, .int .i64 (1 + (Int.tmod hour 3)), .int .i64 (20 + (Int.tdiv hour 2))] 41) :: ((b3, ce #[.slice none 0 0, .slice none 0 0, .int .i64 0, .int .i64 0, .slice none 0 0] 39) :: ((b2, ce #[.int .i64 BC, .int .i64 BI] 31) :: ((b1, ce #[.int .i64 wide, .slice AS plots.length AT] 27) :: (ar ++ (ax ++ (aq ++ (bg ++ [])))))))))) [(2, .pointer (some ⟨ai, 0, none⟩)), (4, .pointer (some ⟨af, 0, none⟩)), (5, .pointer (some ⟨b1, 0, none⟩)), (6, .pointer (some ⟨b2, 0, none⟩)), (7, .pointer (some ⟨b3, 0, none⟩)), (9, .pointer (some ⟨aw, 0, none⟩)), (12, .int .i64 x2), (13, .slice ct cu cv), (14, .slice none 0 0), (15, .int .i64 k3), (54, .slice ad aa.length ae), (55, .int .i64 (aa.length : Int)), (56, .int .i64 k2), (60, .slice FJ Ae.length Fy), (61, .int .i64 (Ae.length : Int)), (62, .int .i64 k3), (96, .bool k5)] ?_ ?_
      ·clear gh
       refine Ai (um ?_)
       refine uv (Dn rfl rfl) (um ?_)
       by_cases cf : n2 = 0
       ·have o8 := A8 jb cf
        refine nT cf (um (nT cf ?_))
        refine uv (Ab PK rfl) (nT cf (uv (Aj isAgg3 rfl (Has.own 3 rfl) rfl) (nT cf (uv (LG rfl rfl) (uv (AP (Bf rfl cf) rfl) (Aa ?_))))))
        obtain rfl := AM o8
        exact mi kr ⟨rfl, rfl, (sc rfl (sc rfl (sc rfl (sc rfl (sc rfl (sc rfl (sc rfl (sc rfl (sc rfl z8)))))))))⟩
       have o9 := A9 jb cf
       refine fF cf (fF cf (fF cf (fF cf ?_)))
       refine uv (AB (AU rfl cf) rfl) (Aa ?_)
       obtain rfl := AM o9
       exact mi kr ⟨rfl, rfl, (sc rfl (sc rfl (sc rfl (sc rfl (sc rfl (sc rfl (sc rfl (sc rfl (sc rfl z8)))))))))⟩
      refine AY rfl (fun gi => ?_) (fun gi => ?_)
      ·have oc := bt gh gi
       refine Ai (um (um ?_))
       refine bA (cs := #[.int .i64 k3]) CD [.int .i64 k3] ?_; intro td ri
       obtain ⟨jc, od, oe, og⟩ := Hv oc
       refine Fg (xs := dd) (ys := [k3]) (zs := jc) rfl CD rfl rfl (Nat.le_refl _) (fun _ => .c (.c (.c (.c (.c (.c (.s (.s (.s .h))))))))) dg (HE.box (vss := [[.int .i64 k3]]) (ys := [k3]) 0 rfl (Ad _) (.cons rfl .nil) rfl rfl) od oe (by decide) ?_; intro oh oi oj jd je
       refine kO (kd kr) ?_
       refine ua (Aa (Au (id := 5) (Ai ?_)))
       refine uv (Bd rfl rfl (BP.EP df dx (Ax.lt az))) ?_
       refine um (Aa ?_)
       subst fj; exact le kr ⟨_, _, rfl, fk, jc, oh, oi, oj, jd, og, rfl, rfl, (sc rfl (sc rfl (sc rfl (sc rfl (sc rfl (sc rfl (sc rfl z8))))))), je⟩
      have oo := bf gh gi
      refine An (Au (id := 5) (Ai ?_))
      refine uv (Bd rfl rfl (BP.EP df dx (Ax.lt az))) ?_
      refine um (Aa ?_)
      subst fj; exact le kr ⟨_, _, rfl, fk, dd, ct, cu, cv, bg, oo, rfl, rfl, (sc rfl (sc rfl (sc rfl (sc rfl (sc rfl (sc rfl (sc rfl z8))))))), dg⟩
     obtain rfl := BP.zero df dx
     rw [CH] at fg
     refine AQ (Af (Af ?_))
     refine Av ?_
     exact mi kr ⟨dd, ct, cu, cv, bg, fg, rfl, rfl, (sc rfl (sc rfl (sc rfl (sc rfl z8)))), dg⟩
    rintro e1 _ _ ⟨own, cb, db, cc, bc, jf, rfl, rfl, jg, dh⟩
    refine AA _ jg ?_
    rw [DC] at jf
    refine AV (fun e1 F1 L1 => ∃ (walks : List Int) (cx : Option Addr) (gj : Nat) (cy : Nat) (dz : LH), Ee aj ak own (Bm wide plots BC BI Ae hour aa ab ij) walks = some (r, r2, r3, r4, r5, r6) ∧ AZ il F1 ∧ L1 = ((aw, ce #[.slice bm bn bo, .slice bp bq br, .int .i64 (Ae.length : Int), .int .i64 0, .slice (some ⟨al, 0, none⟩) 1 1] 39) :: ((al, ce #[.slice bz cn ca, .int .i64 (1 + (Int.tmod hour 3)), .int .i64 (20 + (Int.tdiv hour 2))] 41) :: ((b3, ce #[.slice none 0 0, .slice none 0 0, .int .i64 0, .int .i64 0, .slice none 0 0] 39) :: ((b2, ce #[.int .i64 BC, .int .i64 BI] 31) :: ((b1, ce #[.int .i64 wide, .slice AS plots.length AT] 27) :: (ar ++ (ax ++ (aq ++ (bc ++ (dz ++ [])))))))))) ∧ e1.sub [(2, .pointer (some ⟨ai, 0, none⟩)), (4, .pointer (some ⟨af, 0, none⟩)), (5, .pointer (some ⟨b1, 0, none⟩)), (6, .pointer (some ⟨b2, 0, none⟩)), (7, .pointer (some ⟨b3, 0, none⟩)), (9, .pointer (some ⟨aw, 0, none⟩)), (13, .slice cb db cc), (14, .slice cx gj cy), (54, .slice ad aa.length ae), (55, .int .i64 (aa.length : Int)), (56, .int .i64 k2)] ∧ A6 K.w0.heap.size 3 1 (iE .i64) F1 cx gj cy walks dz) ?_ ?_
    ·refine AO (uv (Aj isAgg33 rfl (Has.frozen ba) rfl) (uv (A3 underlying33 rfl) ?_))
     refine um (Aa ?_)
     refine Am ?_
     refine Bk (fun rj e1 F1 L1 => LA aa rj fun rk k6 => ∃ (A5 : List Int) (dt : Option Addr) (du : Nat) (dv : Nat) (bk : LH), BZ wide plots Ae hour ab aj ak x2 own (Bm wide plots BC BI Ae hour aa ab ij) rk A5 = some (r, r2, r3, r4, r5, r6) ∧ AZ il F1 ∧ L1 = ((aw, ce #[.slice bm bn bo, .slice bp bq br, .int .i64 (Ae.length : Int), .int .i64 0, .slice (some ⟨al, 0, none⟩) 1 1] 39) :: ((al, ce #[.slice bz cn ca, .int .i64 (1 + (Int.tmod hour 3)), .int .i64 (20 + (Int.tdiv hour 2))] 41) :: ((b3, ce #[.slice none 0 0, .slice none 0 0, .int .i64 0, .int .i64 0, .slice none 0 0] 39) :: ((b2, ce #[.int .i64 BC, .int .i64 BI] 31) :: ((b1, ce #[.int .i64 wide, .slice AS plots.length AT] 27) :: (ar ++ (ax ++ (aq ++ (bc ++ (bk ++ [])))))))))) ∧ e1.sub [(2, .pointer (some ⟨ai, 0, none⟩)), (4, .pointer (some ⟨af, 0, none⟩)), (5, .pointer (some ⟨b1, 0, none⟩)), (6, .pointer (some ⟨b2, 0, none⟩)), (7, .pointer (some ⟨b3, 0, none⟩)), (9, .pointer (some ⟨aw, 0, none⟩)), (12, .int .i64 x2), (13, .slice cb db cc), (14, .slice dt du dv), (54, .slice ad aa.length ae), (55, .int .i64 (aa.length : Int)), (56, .int .i64 k2), (102, .slice ad aa.length ae), (103, .int .i64 (aa.length : Int)), (104, .int .i64 k6)] ∧ A6 K.w0.heap.size 3 1 (iE .i64) F1 dt du dv A5 bk) _ (m0 (kc (kc (kc (kc (kc (ka (ka (ka (ka (ke kr)))))))))) ⟨_, _, rfl, BP.start _, [], none, 0, 0, [], jf, AZ.refl _, rfl, (sc rfl (sc rfl (sc rfl (sc rfl (sc rfl (sc rfl (sc rfl z8))))))), A6.nil _ _ _ _ _⟩) ?_
     rintro rj e1 te _ ⟨rk, k6, jh, e9, A5, dt, du, dv, bk, fh, cg, rfl, ji, di⟩
     refine AA _ ji ?_
     replace ao := ao.mono (Ad _) cg
     replace ah := ah.mono (Ad _) cg
     replace au := au.mono (Az (Ad _)) cg
     replace av := av.mono (Az (Ad _)) cg
     replace bl := bl.mono (Ad _) cg
     refine AO (uv (Bg rfl rfl) ?_)
     refine Aa (Ao ?_)
     refine cQ (fun fi => ?_) fun fi => ?_
     ·obtain ⟨x5, tf, rfl, jj, jk, jl⟩ := BP.succ e9 fi
      rw [BZ] at fh
      refine An (Ao ?_)
      refine Am (AO ?_)
      obtain ⟨tg, th, ti, rl, jm, jn, oq, rfl, rm, jo⟩ := Ax.at (Ad _) ah ((aw, ce #[.slice bm bn bo, .slice bp bq br, .int .i64 (Ae.length : Int), .int .i64 0, .slice (some ⟨al, 0, none⟩) 1 1] 39) :: ((al, ce #[.slice bz cn ca, .int .i64 (1 + (Int.tmod hour 3)), .int .i64 (20 + (Int.tdiv hour 2))] 41) :: ((b3, ce #[.slice none 0 0, .slice none 0 0, .int .i64 0, .int .i64 0, .slice none 0 0] 39) :: ((b2, ce #[.int .i64 BC, .int .i64 BI] 31) :: ((b1, ce #[.int .i64 wide, .slice AS plots.length AT] 27) :: (ar ++ (ax ++ (aq ++ (bc ++ (bk ++ [])))))))))) jk.1 jj
      refine uv (AN underlying33 sizeOf3 rfl jm rfl jk) (uv (Aj isAgg3 rfl jn (jo 0 (by decide))) ?_)
      refine ua (Cj ?_)
      refine uv (AL isAgg27 sizeOf27 rfl (Has.own 4 rfl) (Ce rfl) rfl) ?_
      obtain ⟨n3, l2, ot, ou⟩ := DA fh
      refine c0 call12 (PB ao ot) ?_; rintro _ ow _ cj jq ⟨tj, tk, tm, fm, rfl, rfl, dk⟩
      replace ao := ao.mono (Ad _) cj
      replace ah := ah.mono (Ad _) cj
      replace au := au.mono (Az (Ad _)) cj
      replace av := av.mono (Az (Ad _)) cj
      replace bl := bl.mono (Ad _) cj
      replace di := di.mono (Ad _) cj
      replace dk := dk.new fun p hp => jq p (by simp [hp])
      refine AK (lp (ln rfl)) (kO (kf (fS fO) (kf (fS fO) (kf (fS fO) (kf (fS fO) (kf (fS fO) kr))))) ?_)
      refine um (um ?_)
      obtain ⟨n4, n5, oy, jr⟩ := DA ou
      refine Ks (Lt := fm ++ []) (Lr := (aw, ce #[.slice bm bn bo, .slice bp bq br, .int .i64 (Ae.length : Int), .int .i64 0, .slice (some ⟨al, 0, none⟩) 1 1] 39) :: ((al, ce #[.slice bz cn ca, .int .i64 (1 + (Int.tmod hour 3)), .int .i64 (20 + (Int.tdiv hour 2))] 41) :: ((b3, ce #[.slice none 0 0, .slice none 0 0, .int .i64 0, .int .i64 0, .slice none 0 0] 39) :: ((b2, ce #[.int .i64 BC, .int .i64 BI] 31) :: ((b1, ce #[.int .i64 wide, .slice AS plots.length AT] 27) :: (ar ++ (ax ++ (aq ++ (bc ++ (bk ++ [])))))))))) rfl call11 rfl rfl rfl (pT ((fC (fC (fC (fC (fC fP))))).trans (pA pR)) (lp (ln rfl))) (fun F2 h2 h3 => by rw [(A6.D9 dk).1]; exact Pf (dk.row (Ad _) h2 (fun p hp => h3 p (List.mem_append_left _ hp))) oy) ?_
      refine um (ox rfl rfl rfl (ox rfl rfl rfl (ua (ua (Aa ?_)))))
      refine AV (fun e1 F1 L1 => ∃ (n6 : Int), DE A5 (BZ wide plots Ae hour ab aj ak x2 own (Bm wide plots BC BI Ae hour aa ab ij) tf) n6 = some (r, r2, r3, r4, r5, r6) ∧ ow = F1 ∧ L1 = ((aw, ce #[.slice bm bn bo, .slice bp bq br, .int .i64 (Ae.length : Int), .int .i64 0, .slice (some ⟨al, 0, none⟩) 1 1] 39) :: ((al, ce #[.slice bz cn ca, .int .i64 (1 + (Int.tmod hour 3)), .int .i64 (20 + (Int.tdiv hour 2))] 41) :: ((b3, ce #[.slice none 0 0, .slice none 0 0, .int .i64 0, .int .i64 0, .slice none 0 0] 39) :: ((b2, ce #[.int .i64 BC, .int .i64 BI] 31) :: ((b1, ce #[.int .i64 wide, .slice AS plots.length AT] 27) :: (ar ++ (ax ++ (aq ++ (bc ++ (bk ++ [])))))))))) ∧ e1.sub [(2, .pointer (some ⟨ai, 0, none⟩)), (4, .pointer (some ⟨af, 0, none⟩)), (5, .pointer (some ⟨b1, 0, none⟩)), (6, .pointer (some ⟨b2, 0, none⟩)), (7, .pointer (some ⟨b3, 0, none⟩)), (9, .pointer (some ⟨aw, 0, none⟩)), (12, .int .i64 x2), (13, .slice cb db cc), (14, .slice dt du dv), (21, .int .i64 n6), (54, .slice ad aa.length ae), (55, .int .i64 (aa.length : Int)), (56, .int .i64 k2), (102, .slice ad aa.length ae), (103, .int .i64 (aa.length : Int)), (104, .int .i64 k6)]) ?_ ?_
      ·refine Am ?_
       refine AO (um (um ?_))
       refine uv (Dn rfl rfl) ?_
       refine ua (Aa ?_)
       refine cQ (fun gk => ?_) fun gk => ?_
       ·have oz := A8 jr gk
        refine Ai (ua (Aa (Au (id := 8) ?_)))
        exact mi (kc (kc (kc (kc (kc (kx kr)))))) ⟨0, oz, rfl, rfl, (sc rfl (sc rfl (sc rfl (sc rfl (sc rfl (sc rfl (sc rfl (sc rfl z8))))))))⟩
       have p0 := A9 jr gk
       obtain ⟨k7, js, gl⟩ := AI p0
       refine jE (((aw, ce #[.slice bm bn bo, .slice bp bq br, .int .i64 (Ae.length : Int), .int .i64 0, .slice (some ⟨al, 0, none⟩) 1 1] 39) :: ((al, ce #[.slice bz cn ca, .int .i64 (1 + (Int.tmod hour 3)), .int .i64 (20 + (Int.tdiv hour 2))] 41) :: ((b3, ce #[.slice none 0 0, .slice none 0 0, .int .i64 0, .int .i64 0, .slice none 0 0] 39) :: ((b2, ce #[.int .i64 BC, .int .i64 BI] 31) :: ((b1, ce #[.int .i64 wide, .slice AS plots.length AT] 27) :: (ar ++ (ax ++ (aq ++ (bc ++ (bk ++ []))))))))))) [(2, .pointer (some ⟨ai, 0, none⟩)), (4, .pointer (some ⟨af, 0, none⟩)), (5, .pointer (some ⟨b1, 0, none⟩)), (6, .pointer (some ⟨b2, 0, none⟩)), (7, .pointer (some ⟨b3, 0, none⟩)), (9, .pointer (some ⟨aw, 0, none⟩)), (12, .int .i64 x2), (13, .slice cb db cc), (14, .slice dt du dv), (21, .int .i64 n4), (54, .slice ad aa.length ae), (55, .int .i64 (aa.length : Int)), (56, .int .i64 k2), (102, .slice ad aa.length ae), (103, .int .i64 (aa.length : Int)), (104, .int .i64 k6), (120, .bool k7)] ?_ ?_
       ·clear gl
        refine Ai (um ?_)
        refine uv (B8 rfl rfl) (um ?_)
        by_cases cz : n5 ≠ 0
        ·have p6 := A8 js cz
         refine fT cz (fT cz ?_)
         refine uv (AP (Bf rfl cz) rfl) ?_
         refine um (AH (b' := true) 127 rfl rfl rfl rfl (AH (b' := true) 127 rfl rfl rfl rfl (AH (b' := true) 127 rfl rfl rfl rfl (AH (b' := true) 127 rfl rfl rfl rfl (AH (b' := true) 127 rfl rfl rfl rfl (AH (b' := true) 127 rfl rfl rfl rfl ?_))))))
         refine uv (AP rfl rfl) ?_
         refine ua (Aa ?_)
         obtain rfl := AM p6
         exact mi (kc (kc (kc (kc (kc (kx kr)))))) ⟨rfl, rfl, (sc rfl (sc rfl (sc rfl (sc rfl (sc rfl (sc rfl (sc rfl (sc rfl (sc rfl z8)))))))))⟩
        have jt := A9 js cz
        refine nF cz (um (nF cz ?_))
        refine uv (JU rfl rfl) (uv (AB (AU rfl cz) rfl) (um ?_))
        by_cases bj : 20 < n4
        ·have p7 := A8 jt bj
         refine fT bj (fT bj (fT bj (fT bj (fT bj (fT bj ?_)))))
         refine uv (AP (Bf rfl bj) rfl) ?_
         refine ua (Aa ?_)
         obtain rfl := AM p7
         exact mi (kc (kc (kc (kc (kc (kx kr)))))) ⟨rfl, rfl, (sc rfl (sc rfl (sc rfl (sc rfl (sc rfl (sc rfl (sc rfl (sc rfl (sc rfl z8)))))))))⟩
        have p8 := A9 jt bj
        refine nF bj (uv (Ab Dd rfl) (nF bj (uv (Aj isAgg25 rfl (Has.own 4 rfl) rfl) ?_)))
        refine nF bj (um (nF bj ?_))
        obtain ⟨x6, ju, jv, p9⟩ := Cb p8
        obtain ⟨tn, tq, tr, rp, jw, jx, pa, rfl, rq, jz⟩ := Ax.at (Ad _) ao ((aw, ce #[.slice bm bn bo, .slice bp bq br, .int .i64 (Ae.length : Int), .int .i64 0, .slice (some ⟨al, 0, none⟩) 1 1] 39) :: ((al, ce #[.slice bz cn ca, .int .i64 (1 + (Int.tmod hour 3)), .int .i64 (20 + (Int.tdiv hour 2))] 41) :: ((b3, ce #[.slice none 0 0, .slice none 0 0, .int .i64 0, .int .i64 0, .slice none 0 0] 39) :: ((b2, ce #[.int .i64 BC, .int .i64 BI] 31) :: ((b1, ce #[.int .i64 wide, .slice AS plots.length AT] 27) :: (fm ++ (ar ++ (ax ++ (aq ++ (bc ++ (bk ++ []))))))))))) ju.1 jv
        refine uv (AN underlying25 sizeOf34 rfl jw rfl ju) (nF bj (uv (Aj isAgg34 rfl jx (jz 0 (by decide))) (nF bj (uv (B8 rfl rfl) (uv (AB (AU rfl bj) rfl) ?_)))))
        refine ua (Aa ?_)
        obtain rfl := AM p9
        exact mi (kc (kc (kc (kc (kc (kx kr)))))) ⟨rfl, rfl, (sc rfl (sc rfl (sc rfl (sc rfl (sc rfl (sc rfl (sc rfl (sc rfl (sc rfl z8)))))))))⟩
       refine AY rfl (fun gm => ?_) (fun gm => ?_)
       ·have pb := bt gl gm
        refine Ai (ua (Aa (Au (id := 8) ?_)))
        exact mi kr ⟨-1, pb, rfl, rfl, (sc rfl (sc rfl (sc rfl (sc rfl (sc rfl (sc rfl (sc rfl (sc rfl z8))))))))⟩
       have kb := bf gl gm
       refine AO (um ?_)
       refine uv (Bg rfl rfl) ?_
       refine ua (Aa ?_)
       refine cQ (fun gp => ?_) fun gp => ?_
       ·have pc := A8 kb gp
        refine AO (uv (AL isAgg39 sizeOf39 rfl (Has.own 0 rfl) (Ce rfl) rfl) (Br (i := 2) sizeOf39 rfl rfl rfl (by simp [Value.oneCell']) rfl (Ce rfl) (AK rfl ?_)))
        refine ua (Aa ?_)
        obtain rfl := (A6.D9 bl).1
        refine Ik (Nat.le_refl _) (Ad _) (fC (fC (fC (fC (fC (fS (fS fP))))))) bl ?_; intro tt fo gq
        replace au := au.mono (Az (Ad _)) fo
        replace av := av.mono (Az (Ad _)) fo
        refine CX 1 rfl fv ?_; intro pd eg kh
        refine Fi (L' := (aw, ce #[.slice bm bn bo, .slice bp bq br, .int .i64 (Ae.length : Int), .int .i64 0, .slice (some ⟨al, 0, none⟩) 1 1] 39) :: ((b3, ce #[.slice bm bn bo, .slice bp bq br, .int .i64 (Ae.length : Int), .int .i64 0, .slice (some ⟨al, 0, none⟩) 1 1] 39) :: ((b2, ce #[.int .i64 BC, .int .i64 BI] 31) :: ((b1, ce #[.int .i64 wide, .slice AS plots.length AT] 27) :: (ar ++ (ax ++ (bc ++ (bk ++ [])))))))) rfl ?_
        replace gq := gq.mono (Ad _) eg
        replace au := au.mono (Az (Ad _)) eg
        replace av := av.mono (Az (Ad _)) eg
        have pf : Ax 3 (Cd (Cn 1 (iE .i64)) (Cd (iE .i64) (iE .i64))) pd (some ⟨al, 0, none⟩) 1 [(ab, 1 + (Int.tmod hour 3), 20 + (Int.tdiv hour 2))] := Ax.BQ (AD (Az (Ad _)) (AD (Ad _) (Ad _))) (vss := [[.slice bz ab.length ca, .int .i64 (1 + (Int.tmod hour 3)), .int .i64 (20 + (Int.tdiv hour 2))]]) (xs := [(ab, 1 + (Int.tmod hour 3), 20 + (Int.tdiv hour 2))]) kh (.cons ⟨_, _, rfl, ⟨_, _, rfl, gq⟩, ⟨_, _, rfl, rfl, rfl⟩⟩ .nil) rfl (by simp [maxLen])
        refine kW (kd (kc (kd (kd (ka (ka kn)))))) ?_
        refine Al (Ay (Ah (Ay (Ah (Ah (Ay (Ah (Ay (Ah ?_)))))))))
        refine Ah (Ay (Ah ?_))
        refine CP results10 (Dp (cs := #[.slice bm bn bo, .slice bp bq br, .int .i64 (Ae.length : Int), .int .i64 0, .slice (some ⟨al, 0, none⟩) [(ab, 1 + (Int.tmod hour 3), 20 + (Int.tdiv hour 2))].length 1]) isAgg39 sizeOf39 rfl (Has.own 0 rfl) (Ce rfl) rfl) (AR rfl) (s1 (s4 (s4 sr))) ?_
        obtain ⟨rfl, rfl, rfl, rfl, rfl, rfl⟩ := ZM pc
        exact ⟨_, _, _, _, _, _, _, _, _, _, rfl, rfl, au.any, av.any, pf⟩
       have pg := A9 kb gp
       refine An (Au (id := 8) ?_)
       exact mi kr ⟨n4, pg, rfl, rfl, (sc rfl (sc rfl (sc rfl (sc rfl (sc rfl (sc rfl (sc rfl (sc rfl z8))))))))⟩
      rintro e1 _ _ ⟨n6, kj, rfl, rfl, kl⟩
      refine AA _ kl ?_
      rw [DE] at kj
      refine Ai (um (um ?_))
      refine bA (cs := #[.int .i64 n6]) CD [.int .i64 n6] ?_; intro tu rr
      obtain ⟨eh, ph, pj, pk⟩ := Hv kj
      refine Fg (xs := A5) (ys := [n6]) (zs := eh) rfl CD rfl rfl (Nat.le_refl _) (fun _ => .c (.c (.c (.c (.c (.c (.s (.s (.s (.s .h)))))))))) di (HE.box (vss := [[.int .i64 n6]]) (ys := [n6]) 0 rfl (Ad _) (.cons rfl .nil) rfl rfl) ph pj (by decide) ?_; intro pn po pq km ko
      refine kO (kd kr) ?_
      refine ua (Aa (Au (id := 7) (Ai ?_)))
      refine uv (Bd rfl rfl (BP.EP e9 fi (Ax.lt ah))) ?_
      refine um (Aa ?_)
      subst jh; exact le kr ⟨_, _, rfl, jl, eh, pn, po, pq, km, pk, (cg.trans cj), rfl, (sc rfl (sc rfl (sc rfl (sc rfl (sc rfl (sc rfl (sc rfl z8))))))), ko⟩
     obtain rfl := BP.zero e9 fi
     rw [BZ] at fh
     refine AQ (Af (Af ?_))
     refine Av ?_
     exact mi kr ⟨A5, dt, du, dv, bk, fh, cg, rfl, (sc rfl (sc rfl (sc rfl z8))), di⟩
    rintro e1 tv _ ⟨walks, cx, gj, cy, dz, kt, dm, rfl, ku, dn⟩
    refine AA _ ku ?_
    replace au := au.mono (Az (Ad _)) dm
    replace av := av.mono (Az (Ad _)) dm
    replace dh := dh.mono (Ad _) dm
    rw [Ee] at kt
    obtain rfl := (A6.D9 dh).1
    refine Ik (Nat.le_refl _) (Ad _) (fC (fC (fC (fC (fC (fS (fS (fS fP)))))))) dh ?_; intro tw dp gr
    replace au := au.mono (Az (Ad _)) dp
    replace av := av.mono (Az (Ad _)) dp
    replace dn := dn.mono (Ad _) dp
    obtain rfl := (A6.D9 dn).1
    refine Ik (Nat.le_refl _) (Ad _) (fC (fC (fC (fC (fC (fS (fS (fS fP)))))))) dn ?_; intro tx dq pr
    replace gr := gr.mono (Ad _) dq
    replace au := au.mono (Az (Ad _)) dq
    replace av := av.mono (Az (Ad _)) dq
    refine DB [(.still, 0), (.still, 1), (.still, 2), (.pre, 3), (.still, 5), (.still, 6), (.still, 7), (.pre, 8), (.alloc (ce #[.slice cb own.length cc] 33) (fun b => .slice (some ⟨b, 0, none⟩) 1 1) [(146, .slice cb own.length cc)], 3), (.seq, 4), (.still, 10), (.alloc (ce #[.slice cx walks.length cy] 33) (fun b => .slice (some ⟨b, 0, none⟩) 1 1) [(151, .slice cx walks.length cy)], 8), (.seq, 9), (.seq, 11), (.still, 12), (.seq, 13)] (by kernel_rfl) (by kernel_rfl) (⟨⟨_, _, rfl, rfl, rfl, rfl, rfl, Qf rfl (Hu Nx [.slice cb own.length cc] rfl (by decide) (by simp [Value.cells]) (by decide))⟩, ⟨⟨_, _, rfl, rfl, rfl, rfl, rfl, Qf rfl (Hu Nx [.slice cx walks.length cy] rfl (by decide) (by simp [Value.cells]) (by decide))⟩, trivial⟩⟩) (by rfl) (by kernel_rfl) (mS [9] rfl (Ab I9 rfl) (mL [144] ([(aw, ce #[.slice bm bn bo, .slice bp bq br, .int .i64 (Ae.length : Int), .int .i64 0, .slice (some ⟨al, 0, none⟩) 1 1] 39)]) rfl (s0 (s2 (s1 (s1 (s1 (s1 (s3 (s3 (s3 sr))))))))) (fun H F' L' ew ey => Aj isAgg36 rfl ((Has.own 0 rfl).ext ew ey) rfl) (mS [13] rfl (B3 rfl) ?_)))
    refine ⟨⟨_, rfl, z1, by kernel_rfl⟩, ?_⟩
    refine mS [9] rfl (Ab Kq rfl) (mL [149] ([(aw, ce #[.slice bm bn bo, .slice bp bq br, .int .i64 (Ae.length : Int), .int .i64 0, .slice (some ⟨al, 0, none⟩) 1 1] 39)]) rfl (s0 (s2 (s1 (s1 (s1 (s1 (s3 (s3 (s3 sr))))))))) (fun H F' L' ew ey => Aj isAgg36 rfl ((Has.own 0 rfl).ext ew ey) rfl) (mS [14] rfl (B3 rfl) ?_))
    refine ⟨⟨_, rfl, z1, by kernel_rfl⟩, ?_⟩
    refine Ul rfl ?_; intro kv ru
    refine TN (L' := (kv, ce #[.slice cb own.length cc] 33) :: ((aw, ce #[.slice bm bn bo, .slice bp bq br, .int .i64 (Ae.length : Int), .int .i64 0, .slice (some ⟨al, 0, none⟩) 1 1] 39) :: ((al, ce #[.slice bz cn ca, .int .i64 (1 + (Int.tmod hour 3)), .int .i64 (20 + (Int.tdiv hour 2))] 41) :: ((b3, ce #[.slice none 0 0, .slice none 0 0, .int .i64 0, .int .i64 0, .slice none 0 0] 39) :: ((b2, ce #[.int .i64 BC, .int .i64 BI] 31) :: ((b1, ce #[.int .i64 wide, .slice AS plots.length AT] 27) :: (ar ++ (ax ++ (aq ++ []))))))))) rfl ?_
    refine ⟨_, [(145, .slice bp bq br), (147, .slice (some ⟨kv, 0, none⟩) 1 1)], rfl, rfl, z2, by kernel_rfl, ?_⟩; intro H
    obtain ⟨l3, pt, pv, pw⟩ := Hv kt
    refine Fg (xs := ak) (ys := [own]) (zs := l3) rfl Nx rfl rfl (Nat.le_refl _) (fun _ => .c (.c (.c (.c (.c (.c (.s .h))))))) av (HE.box (vss := [[.slice cb own.length cc]]) (ys := [own]) 0 rfl (Az (Ad _)) (.cons ⟨_, _, rfl, gr⟩ .nil) rfl rfl) pt pv (by decide) ?_; intro kz l0 ld fp lg
    refine kO (kd kr) ?_
    refine Aa ⟨_, rfl, AZ.refl _, [7, 6, 5], by kernel_rfl, .inl (.inr (fun d h => by cases h; rfl)), (fc sm (fc (s0 (s2 (s1 (s1 (s1 (s1 (s3 (s3 (s3 sr))))))))) (fc sm nm))), ?_⟩
    refine mS [9] rfl (Ab I9 rfl) ?_
    refine Ul rfl ?_; intro lh ry
    refine TN (L' := (lh, ce #[.slice cx walks.length cy] 33) :: ((aw, ce #[.slice bm bn bo, .slice bp bq br, .int .i64 (Ae.length : Int), .int .i64 0, .slice (some ⟨al, 0, none⟩) 1 1] 39) :: ((al, ce #[.slice bz cn ca, .int .i64 (1 + (Int.tmod hour 3)), .int .i64 (20 + (Int.tdiv hour 2))] 41) :: ((b3, ce #[.slice none 0 0, .slice none 0 0, .int .i64 0, .int .i64 0, .slice none 0 0] 39) :: ((b2, ce #[.int .i64 BC, .int .i64 BI] 31) :: ((b1, ce #[.int .i64 wide, .slice AS plots.length AT] 27) :: (ar ++ (fp ++ (aq ++ []))))))))) rfl ?_
    refine ⟨_, [(150, .slice bm bn bo), (152, .slice (some ⟨lh, 0, none⟩) 1 1)], rfl, rfl, z2, by kernel_rfl, ?_⟩; intro H
    obtain ⟨l4, px, py, pz⟩ := Hv pw
    refine Fg (xs := aj) (ys := [walks]) (zs := l4) rfl Nx rfl rfl (Nat.le_refl _) (fun _ => .c (.c (.c (.c (.c (.c .h)))))) au (HE.box (vss := [[.slice cx walks.length cy]]) (ys := [walks]) 0 rfl (Az (Ad _)) (.cons ⟨_, _, rfl, pr⟩ .nil) rfl rfl) px py (by decide) ?_; intro lj lk ll lq lr
    refine kO (kd kr) ?_
    refine Aa ⟨_, rfl, AZ.refl _, [10], by kernel_rfl, .inl (.inr (fun d h => by cases h; rfl)), (fc sm nm), ?_⟩
    refine ⟨_, [(148, .slice kz l0 ld), (154, .pointer (some ⟨aw, 1, none⟩))], rfl, rfl, z2, by kernel_rfl, ?_⟩; intro H
    refine CN (i := 0) sizeOf36 rfl rfl rfl rfl (Ce rfl) (AK rfl ?_)
    refine Aa ⟨undef, rfl, AZ.refl _, [], by kernel_rfl, .inl (.inl rfl), nm, ?_⟩
    refine mS [9] rfl (Ab Kq rfl) ?_
    refine ⟨_, [(153, .slice lj lk ll), (155, .pointer (some ⟨aw, 0, none⟩))], rfl, rfl, z2, by kernel_rfl, ?_⟩; intro H
    refine CN (i := 0) sizeOf36 rfl rfl rfl rfl (Ce rfl) (AK rfl ?_)
    refine Aa ⟨undef, rfl, AZ.refl _, [], by kernel_rfl, .inl (.inl rfl), nm, ?_⟩
    refine EW (Au (id := 3) ?_)
    exact mi kr ⟨l4, l3, lj, lk, ll, lq, kz, l0, ld, fp, pz, ((dm.trans dp).trans dq), rfl, (sc rfl z8), lr, lg⟩
   rintro e1 tz _ ⟨bu, bx, mj, ml, mo, fe, mq, mr, mv, ff, lu, fq, rfl, lv, q0, qb⟩
   refine AA _ lv ?_
   replace ah := ah.mono (Ad _) fq
   rw [GC] at lu
   refine Ai (uv (Bd rfl rfl (BP.EP fx mh (Ax.lt ah))) ?_)
   refine um (Aa ?_)
   subst nf; exact le kr ⟨_, _, rfl, ni, bu, bx, mj, ml, mo, fe, mq, mr, mv, ff, lu, (cr.trans fq), rfl, (sc rfl z8), q0, qb⟩
  obtain rfl := BP.zero fx mh
  rw [Bm] at mg
  refine AQ (Af (Af ?_))
  refine Av ?_
  exact mi (kc (kc (kc (kd (kd kr))))) ⟨aj, ak, bm, bn, bo, ar, bp, bq, br, ax, mg, cr, rfl, z2, au, av⟩
 rintro e1 u4 _ ⟨cp, cq, gz, ia, ib, fa, ic, ie, ig, fb, lx, ly, rfl, ma, ej, eo⟩
 refine AA _ ma ?_
 replace bl := bl.mono (Ad _) ly
 rw [GA] at lx
 refine AO (uv (AL isAgg39 sizeOf39 rfl (Has.own 0 rfl) (Ce rfl) rfl) (Br (i := 2) sizeOf39 rfl rfl rfl (by simp [Value.oneCell']) rfl (Ce rfl) (AK rfl ?_)))
 refine ua (Aa ?_)
 obtain rfl := (A6.D9 bl).1
 refine Ik (Nat.le_refl _) (Ad _) (fC (fC (fC (fS (fS fP))))) bl ?_; intro u5 ft gu
 replace eo := eo.mono (Az (Ad _)) ft
 replace ej := ej.mono (Az (Ad _)) ft
 refine CX 1 rfl fv ?_; intro qc er mb
 refine Fi (L' := (aw, ce #[.slice gz ia ib, .slice ic ie ig, .int .i64 (Ae.length : Int), .int .i64 0, .slice (some ⟨al, 0, none⟩) 1 1] 39) :: ((b3, ce #[.slice gz ia ib, .slice ic ie ig, .int .i64 (Ae.length : Int), .int .i64 0, .slice (some ⟨al, 0, none⟩) 1 1] 39) :: (fa ++ (fb ++ [])))) rfl ?_
 replace gu := gu.mono (Ad _) er
 replace eo := eo.mono (Az (Ad _)) er
 replace ej := ej.mono (Az (Ad _)) er
 have qd : Ax 3 (Cd (Cn 1 (iE .i64)) (Cd (iE .i64) (iE .i64))) qc (some ⟨al, 0, none⟩) 1 [(ab, 1 + (Int.tmod hour 3), 20 + (Int.tdiv hour 2))] := Ax.BQ (AD (Az (Ad _)) (AD (Ad _) (Ad _))) (vss := [[.slice bz ab.length ca, .int .i64 (1 + (Int.tmod hour 3)), .int .i64 (20 + (Int.tdiv hour 2))]]) (xs := [(ab, 1 + (Int.tmod hour 3), 20 + (Int.tdiv hour 2))]) mb (.cons ⟨_, _, rfl, ⟨_, _, rfl, gu⟩, ⟨_, _, rfl, rfl, rfl⟩⟩ .nil) rfl (by simp [maxLen])
 refine kW (kd kr) (Al (CP results10 (Dp (cs := #[.slice gz ia ib, .slice ic ie ig, .int .i64 (Ae.length : Int), .int .i64 0, .slice (some ⟨al, 0, none⟩) [(ab, 1 + (Int.tmod hour 3), 20 + (Int.tdiv hour 2))].length 1]) isAgg39 sizeOf39 rfl (Has.own 0 rfl) (Ce rfl) rfl) (AR rfl) (s1 (s4 (s4 sr))) ?_))
 obtain ⟨rfl, rfl, rfl, rfl, rfl, rfl⟩ := ZM lx
 exact ⟨_, _, _, _, _, _, _, _, _, _, rfl, rfl, ej.any, eo.any, qd⟩
set_option maxHeartbeats 1000000 in
theorem MZ {dp : Option Addr} {dq : Nat} {numbers : List Int} {ad ai : Int} (fo : Ax 1 (iE .u8) F dp dq numbers) {r : Bool} (hr : FK numbers hour ad ai = some r) :
    Bw Tryz.prog 3 #[.slice dp numbers.length dq, .int .u8 hour, .int .u8 ad, .int .u8 ai] F (.bool r) := by
 refine sp func3 ntmps3 fun K _ _ => ?_
 rw [FK] at hr
 refine AO ?_
 refine BH rfl rfl ?_; intro b1 hb1
 refine ua (Cj (um ?_))
 obtain ⟨metal, at_, G2, h2, r3⟩ := IH hr
 refine c0 call6 (P9 fo h2) ?_; rintro _ F4 _ hF5 hn6 ⟨b8, a9, c10, rfl, rfl, qt⟩
 refine AK (lb (ln rfl)) ?_
 refine ua (Cj (um ?_))
 obtain ⟨n, l, ku, iy, h12, r13⟩ := Zd r3
 refine cG call7 (OJ qt h12) ?_; rintro _ F14 _ qy qz re ⟨aw, ej, ax, kv, rfl, rfl, fp⟩
 replace qt := qt.mono (Ad _) qy
 have rf := V0 (Lb' := [(b8, ce #[.slice a9 metal.length c10, .int .i64 ku, .int .u32 iy] 137)]) (by rfl) qz re
 replace fp := fp.new fun p hp => rf p (by simp [hp])
 refine AK (lb (lp (ln rfl))) (kO (kc (kf (fS fO) kr)) ?_)
 refine Bj rfl zeroValue27 ?_; intro ar hb25
 refine Br (i := 0) sizeOf27 rfl rfl rfl (by simp [Value.oneCell']) rfl (Ce rfl) (AK rfl ?_)
 refine Cj (um ?_)
 obtain ⟨n2, n3, at_3, turn3, h26, r27⟩ := Zd r13
 refine GJ (Lb := [(b8, ce #[.slice a9 metal.length c10, .int .i64 ku, .int .u32 iy] 137)]) (Lr := (ar, ce #[.int .i64 n, .slice aw ej ax] 27) :: ((b1, ce #[.int .u8 hour] 5) :: (kv ++ []))) rfl call8 rfl rfl rfl (((fC fO).trans (pC pR))) (On qt h26) ?_; rintro _ F28 _ rh hd31 hn30 ⟨rfl, rfl⟩
 replace fp := fp.mono (Ad _) rh
 refine AK (lb (ln rfl)) ?_
 refine Bj rfl zeroValue31 ?_; intro aq hb32
 refine Br (i := 0) sizeOf31 rfl rfl rfl (by simp [Value.oneCell']) rfl (Ce rfl) (AK rfl (Cj ?_))
 refine Bj rfl zeroValue33 ?_; intro ca ri
 refine Bj rfl zeroValue33 ?_; intro dd rj
 refine Aa ?_
 obtain ⟨aa, ay, Ae, h49, rk⟩ := IH r27
 refine AV (fun e1 F1 L1 => ∃ (je : LH) (rl : Option Addr) (rm : Nat) (rp : Nat) (jf : LH) (kz : Option Addr) (rq : Nat) (l0 : Nat) (jg : LH), F28 = F1 ∧ L1 = ((dd, ce #[.slice kz rq l0] 33) :: ((ca, ce #[.slice rl rm rp] 33) :: ((aq, ce #[.int .i64 n2, .int .i64 n3] 31) :: ((ar, ce #[.int .i64 n, .slice aw ej ax] 27) :: ((b1, ce #[.int .u8 hour] 5) :: (je ++ (jf ++ (jg ++ [])))))))) ∧ e1.sub [(2, .int .u8 ad), (3, .int .u8 ai), (5, .pointer (some ⟨b1, 0, none⟩)), (10, .pointer (some ⟨ar, 0, none⟩)), (11, .pointer (some ⟨aq, 0, none⟩)), (12, .pointer (some ⟨ca, 0, none⟩)), (13, .pointer (some ⟨dd, 0, none⟩))] ∧ A6 K.w0.heap.size 34 1 (iE .i64) F1 aw ej ax aa je ∧ A6 K.w0.heap.size 3 1 (iE .i64) F1 rl rm rp ay jf ∧ A6 K.w0.heap.size 3 1 (iE .i64) F1 kz rq l0 Ae jg) ?_ ?_
 ·clear rk
  refine AO (uv (Ab Dd rfl) (uv (Aj isAgg25 rfl (Has.own 4 rfl) rfl) (uv ((A3 underlying25 rfl).i (A6.Je fp)) ?_)))
  refine um (Aa ?_)
  refine Am (kW (kc (kc (kc (kd kr)))) ?_)
  obtain ⟨rr, r66⟩ := A2 h49
  refine Bk (fun qu e1 F1 L1 => ∃ (k : Int), Fp 0 (l.length : Int) k qu ∧ ∃ (bc : List Int) (au : List Int) (bm : List Int) (de : LH) (gw : Option Addr) (gz : Nat) (ia : Nat) (df : LH) (ib : Option Addr) (ic : Nat) (ie : Nat) (dg : LH), Bl qu k bc au bm = some (aa, ay, Ae) ∧ F28 = F1 ∧ L1 = ((dd, ce #[.slice ib ic ie] 33) :: ((ca, ce #[.slice gw gz ia] 33) :: ((aq, ce #[.int .i64 n2, .int .i64 n3] 31) :: ((ar, ce #[.int .i64 n, .slice aw ej ax] 27) :: ((b1, ce #[.int .u8 hour] 5) :: (de ++ (df ++ (dg ++ [])))))))) ∧ e1.sub [(2, .int .u8 ad), (3, .int .u8 ai), (5, .pointer (some ⟨b1, 0, none⟩)), (10, .pointer (some ⟨ar, 0, none⟩)), (11, .pointer (some ⟨aq, 0, none⟩)), (12, .pointer (some ⟨ca, 0, none⟩)), (13, .pointer (some ⟨dd, 0, none⟩)), (48, .slice aw ej ax), (49, .int .i64 (l.length : Int)), (50, .int .i64 k)] ∧ A6 K.w0.heap.size 34 1 (iE .i64) F1 aw ej ax bc de ∧ A6 K.w0.heap.size 3 1 (iE .i64) F1 gw gz ia au df ∧ A6 K.w0.heap.size 3 1 (iE .i64) F1 ib ic ie bm dg) _ (m0 (kc (kc (kc (kc (kc (ka (ke (ke kr)))))))) ⟨_, Fp.start _ _, l, [], [], kv, none, 0, 0, [], none, 0, 0, [], r66, rfl, rfl, (sc rfl (sc rfl z8)), fp, A6.nil _ _ _ _ _, A6.nil _ _ _ _ _⟩) ?_
  rintro qu e1 _ _ ⟨k, gb, bc, au, bm, de, gw, gz, ia, df, ib, ic, ie, dg, qw, rfl, rfl, ru, eo, gg, gh⟩
  refine AA _ ru (AO (uv (Bg rfl rfl) ?_))
  refine Aa (Ao ?_)
  refine cQ (fun kt => ?_) fun kt => ?_
  ·obtain ⟨qu, rfl, jh⟩ := Fp.succ gb kt
   rw [Bl] at qw
   refine An (Ao ?_)
   refine Am ?_
   refine AO (um ?_)
   obtain ⟨x, ld, lg, r76⟩ := Cb qw
   obtain ⟨b77, o78, c79, vs80, ry, rz, hle83, rfl, hl84, s6⟩ := A6.at (Ad _) eo (L := (dd, ce #[.slice ib ic ie] 33) :: ((ca, ce #[.slice gw gz ia] 33) :: ((aq, ce #[.int .i64 n2, .int .i64 n3] 31) :: ((ar, ce #[.int .i64 n, .slice aw ej ax] 27) :: ((b1, ce #[.int .u8 hour] 5) :: (de ++ (df ++ (dg ++ [])))))))) (fC (fC (fC (fC (fC fP))))) ld.1 lg
   refine uv (AN underlying25 sizeOf34 rfl ry rfl (A6.idx eo ld)) (uv (Aj isAgg34 rfl rz (s6 0 (by decide))) ?_)
   refine ua (ua (Aa ?_))
   refine Am ?_
   obtain ⟨k2, h86, s7⟩ := AI r76
   refine jE (((dd, ce #[.slice ib ic ie] 33) :: ((ca, ce #[.slice gw gz ia] 33) :: ((aq, ce #[.int .i64 n2, .int .i64 n3] 31) :: ((ar, ce #[.int .i64 n, .slice aw ej ax] 27) :: ((b1, ce #[.int .u8 hour] 5) :: (de ++ (df ++ (dg ++ []))))))))) [(2, .int .u8 ad), (3, .int .u8 ai), (5, .pointer (some ⟨b1, 0, none⟩)), (10, .pointer (some ⟨ar, 0, none⟩)), (11, .pointer (some ⟨aq, 0, none⟩)), (12, .pointer (some ⟨ca, 0, none⟩)), (13, .pointer (some ⟨dd, 0, none⟩)), (14, .int .i64 k), (15, .int .i64 x), (48, .slice aw ej ax), (49, .int .i64 (l.length : Int)), (50, .int .i64 k), (59, .bool k2)] ?_ ?_
   ·clear s7
    refine Ai (um ?_)
    refine uv (Dn rfl rfl) (um ?_)
    by_cases ig : x = 0
    ·have r89 := A8 h86 ig
     refine nT ig (uv (Aj isAgg33 rfl (Has.own 1 rfl) rfl) (nT ig (uv ((A3 underlying33 rfl).i (A6.Je gg)) (nT ig (uv (Bg rfl rfl) (uv (AP (Bf rfl ig) rfl) ?_))))))
     refine ua (Aa ?_)
     obtain rfl := AM r89
     exact mi kr ⟨rfl, rfl, (sc rfl (sc rfl (sc rfl (sc rfl (sc rfl z8)))))⟩
    have r90 := A9 h86 ig
    refine fF ig (fF ig (fF ig ?_))
    refine uv (AB (AU rfl ig) rfl) ?_
    refine ua (Aa ?_)
    obtain rfl := AM r90
    exact mi kr ⟨rfl, rfl, (sc rfl (sc rfl (sc rfl (sc rfl (sc rfl z8)))))⟩
   refine AY rfl (fun s8 => ?_) (fun s8 => ?_)
   ·have r93 := bt s7 s8
    refine Ai (uv (Aj isAgg33 rfl (Has.own 1 rfl) rfl) (um ?_))
    refine bA (cs := #[.int .i64 k]) CD [.int .i64 k] ?_; intro b94 hb94
    obtain ⟨er, h95, g96, r97⟩ := Hv r93
    refine Fg (xs := au) (ys := [k]) (zs := er) rfl CD rfl rfl (Nat.le_refl _) (fun _ => .c (.c (.c (.c (.c (.c (.s .h))))))) gg (HE.box (vss := [[.int .i64 k]]) (ys := [k]) 0 rfl (Ad _) (.cons rfl .nil) rfl rfl) h95 g96 (by decide) ?_; intro a98 s9 c99 lh lj
    refine kO (kd kr) (CN (i := 1) sizeOf33 rfl rfl rfl rfl (Ce rfl) (AK rfl ?_))
    refine Aa (Au (id := 2) (Au (id := 1) (Ai ?_)))
    refine uv (Bd rfl rfl (Fp.EP gb kt rr)) ?_
    refine um (Aa ?_)
    exact le kr ⟨_, jh, bc, er, bm, de, a98, s9, c99, lh, ib, ic, ie, dg, r97, rfl, rfl, (sc rfl (sc rfl z8)), eo, lj, gh⟩
   have sa := bf s7 s8
   obtain ⟨k3, lk, ji⟩ := AI sa
   refine jE (((dd, ce #[.slice ib ic ie] 33) :: ((ca, ce #[.slice gw gz ia] 33) :: ((aq, ce #[.int .i64 n2, .int .i64 n3] 31) :: ((ar, ce #[.int .i64 n, .slice aw ej ax] 27) :: ((b1, ce #[.int .u8 hour] 5) :: (de ++ (df ++ (dg ++ []))))))))) [(2, .int .u8 ad), (3, .int .u8 ai), (5, .pointer (some ⟨b1, 0, none⟩)), (10, .pointer (some ⟨ar, 0, none⟩)), (11, .pointer (some ⟨aq, 0, none⟩)), (12, .pointer (some ⟨ca, 0, none⟩)), (13, .pointer (some ⟨dd, 0, none⟩)), (14, .int .i64 k), (48, .slice aw ej ax), (49, .int .i64 (l.length : Int)), (50, .int .i64 k), (71, .bool k3)] ?_ ?_
   ·clear ji
    refine Ai (um ?_)
    refine uv (Dn rfl rfl) (um ?_)
    by_cases dh : x = 1
    ·have sb := A8 lk dh
     refine nT dh (uv (Aj isAgg33 rfl (Has.own 0 rfl) rfl) (nT dh (uv ((A3 underlying33 rfl).i (A6.Je gh)) (nT dh (uv (Bg rfl rfl) (uv (AP (Bf rfl dh) rfl) ?_))))))
     refine ua (Aa ?_)
     obtain rfl := AM sb
     exact mi kr ⟨rfl, rfl, (sc rfl (sc rfl (sc rfl (sc rfl z8))))⟩
    have se := A9 lk dh
    refine fF dh (fF dh (fF dh ?_))
    refine uv (AB (AU rfl dh) rfl) ?_
    refine ua (Aa ?_)
    obtain rfl := AM se
    exact mi kr ⟨rfl, rfl, (sc rfl (sc rfl (sc rfl (sc rfl z8))))⟩
   refine AY rfl (fun jj => ?_) (fun jj => ?_)
   ·have sf := bt ji jj
    refine Ai (uv (Aj isAgg33 rfl (Has.own 0 rfl) rfl) (um ?_))
    refine bA (cs := #[.int .i64 k]) CD [.int .i64 k] ?_; intro b113 hb113
    obtain ⟨fe, sg, sh, si⟩ := Hv sf
    refine Fg (xs := bm) (ys := [k]) (zs := fe) rfl CD rfl rfl (Nat.le_refl _) (fun _ => .c (.c (.c (.c (.c (.c (.s (.s .h)))))))) gh (HE.box (vss := [[.int .i64 k]]) (ys := [k]) 0 rfl (Ad _) (.cons rfl .nil) rfl rfl) sg sh (by decide) ?_; intro sj sk sq ll lq
    refine kO (kd kr) (CN (i := 0) sizeOf33 rfl rfl rfl rfl (Ce rfl) (AK rfl ?_))
    refine Aa (Au (id := 2) (Au (id := 1) (Ai ?_)))
    refine uv (Bd rfl rfl (Fp.EP gb kt rr)) ?_
    refine um (Aa ?_)
    exact le kr ⟨_, jh, bc, au, fe, de, gw, gz, ia, df, sj, sk, sq, ll, si, rfl, rfl, (sc rfl (sc rfl z8)), eo, gg, lq⟩
   have ss := bf ji jj
   refine Ai (uv (Ab Dd rfl) (uv (Aj isAgg25 rfl (Has.own 3 rfl) rfl) (um ?_)))
   obtain ⟨b124, o125, c126, vs127, iz, hs129, su, rfl, hl131, hc132⟩ := A6.at (Ad _) eo (L := (dd, ce #[.slice ib ic ie] 33) :: ((ca, ce #[.slice gw gz ia] 33) :: ((aq, ce #[.int .i64 n2, .int .i64 n3] 31) :: ((ar, ce #[.int .i64 n, .slice aw ej ax] 27) :: ((b1, ce #[.int .u8 hour] 5) :: (de ++ (df ++ (dg ++ [])))))))) (fC (fC (fC (fC (fC fP))))) ld.1 lg
   refine uv (AN underlying25 sizeOf34 rfl iz rfl (A6.idx eo ld)) ?_
   obtain ⟨t, sv, sw⟩ := DK ss
   refine GM (u := 2) sizeOf34 (Ad _) rfl iz rfl rfl (fun _ => .c (.c (.c (.c (.c .h))))) eo sv ld ?_; intro lr lu
   refine Aa (Au (id := 2) (Au (id := 1) (Ai ?_)))
   refine uv (Bd rfl rfl (Fp.EP gb kt rr)) ?_
   refine um (Aa ?_)
   exact le kr ⟨_, jh, t, au, bm, lr, gw, gz, ia, df, ib, ic, ie, dg, sw, rfl, rfl, (sc rfl (sc rfl z8)), lu, gg, gh⟩
  obtain rfl := Fp.zero gb kt
  rw [Bl] at qw
  refine AQ (Af (Af ?_))
  refine Av ?_
  obtain ⟨rfl, rfl, rfl⟩ := KI qw
  exact mi kr ⟨de, gw, gz, ia, df, ib, ic, ie, dg, rfl, rfl, z7, eo, gg, gh⟩
 rintro e1 _ _ ⟨je, rl, rm, rp, jf, kz, rq, l0, jg, rfl, rfl, lv, lx, di, gi⟩
 refine AA _ lv ?_
 refine Ao (AO ?_)
 refine uv (Aj isAgg33 rfl (Has.own 0 rfl) rfl) (uv ((A3 underlying33 rfl).i (A6.Je gi)) (uv (Dn rfl rfl) (Aa ?_)))
 refine cQ (fun jk => ?_) fun jk => ?_
 ·have sx := A8 rk jk
  refine AO ?_
  obtain ⟨ok, sy, ta⟩ := AI sx
  refine cV call9 (EI sy) ?_
  refine ua (Aa ?_)
  refine kW kn ?_
  refine Al (Ah ?_)
  refine Cq results3 ?_
  obtain rfl := AM ta
  exact rfl
 have tc := A9 rk jk
 refine An (AO ?_)
 refine uv (C8 rfl rfl) ?_
 refine ua (Cj (um ?_))
 refine uv (AL (cs := #[.int .i64 n, .slice aw ej ax]) isAgg27 sizeOf27 rfl (Has.own 3 rfl) (Ce rfl) rfl) (uv (AL (cs := #[.int .i64 n2, .int .i64 n3]) isAgg31 sizeOf31 rfl (Has.own 2 rfl) (Ce rfl) rfl) ?_)
 obtain rfl := (A6.D9 lx).1
 refine Gv (Nat.le_refl _) (Ad _) (fC (fC (fC (fC (fC fP))))) lx ?_; intro F143 j0 aj
 replace di := di.mono (Ad _) j0
 replace gi := gi.mono (Ad _) j0
 obtain rfl := (A6.D9 gi).1
 refine Gv (Nat.le_refl _) (Ad _) (fC (fC (fC (fC (fC (fS fP)))))) gi ?_; intro F146 j3 ah
 replace aj := aj.mono (Ad _) j3
 replace di := di.mono (Ad _) j3
 refine Bo 0 rfl rj ?_; intro F149 gj ab
 refine AK rfl ?_
 replace aj := aj.mono (Ad _) gj
 replace ah := ah.mono (Ad _) gj
 replace di := di.mono (Ad _) gj
 refine Bo 3 rfl hb1 ?_; intro F152 ff ae
 refine AK rfl ?_
 replace aj := aj.mono (Ad _) ff
 replace ah := ah.mono (Ad _) ff
 replace di := di.mono (Ad _) ff
 replace ab := ff _ _ ab
 obtain rfl := (A6.D9 di).1
 refine Gv (Nat.le_refl _) (Ad _) (fC (fC (fC fP))) di ?_; intro F155 fg ak
 replace aj := aj.mono (Ad _) fg
 replace ah := ah.mono (Ad _) fg
 replace ab := fg _ _ ab
 replace ae := fg _ _ ae
 refine Bo 0 rfl ri ?_; intro F158 et af
 refine AK rfl ?_
 replace aj := aj.mono (Ad _) et
 replace ah := ah.mono (Ad _) et
 replace ak := ak.mono (Ad _) et
 replace ab := et _ _ ab
 replace ae := et _ _ ae
 obtain ⟨l2, l3, n4, n5, l4, ok2, td, te⟩ := Xz tc
 refine c0 call10 (GW aj ab ah ae af ak td) ?_; rintro _ F163 _ dr j4 ⟨cb, cc, cf, bg, cg, cj, cn, bj, cp, cq, rfl, rfl, al, ao, dk⟩
 replace aj := aj.mono (Ad _) dr
 replace ah := ah.mono (Ad _) dr
 replace ak := ak.mono (Ad _) dr
 replace ab := dr _ _ ab
 replace ae := dr _ _ ae
 replace af := dr _ _ af
 replace al := al.new fun p hp => j4 p (by simp [hp])
 replace ao := ao.new fun p hp => j4 p (by simp [hp])
 refine AK (lp (lp (ln rfl))) (kO (kf (fS (fS fO)) (kf (fS (fS fO)) kr)) ?_)
 refine um (ox rfl rfl rfl (ox rfl rfl rfl ?_))
 refine Bj rfl zeroValue39 ?_; intro cr hb182
 refine Br (i := 0) sizeOf39 rfl rfl rfl (by simp [Value.oneCell']) rfl (Ce rfl) (AK rfl ?_)
 refine ua (Cj ?_)
 refine uv (AL (cs := #[.slice cb cc cf, .slice cg cj cn, .int .i64 n4, .int .i64 n5, .slice cp l4.length cq]) isAgg39 sizeOf39 rfl (Has.own 0 rfl) (Ce rfl) rfl) ?_
 obtain ⟨l5, n6, tf, tg⟩ := DA te
 refine Jg (Lb := []) (Lt := bg ++ (bj ++ [])) (Lr := [(cr, ce #[.slice cb cc cf, .slice cg cj cn, .int .i64 n4, .int .i64 n5, .slice cp l4.length cq] 39), (aq, ce #[.int .i64 n2, .int .i64 n3] 31), (ar, ce #[.int .i64 n, .slice aw aa.length ax] 27)]) rfl call13 rfl rfl rfl (pT ((fC (fC (fC fP))).trans (pA ((fC (fC (fC fP))).trans (pA pR)))) (ln (lp (lp (ln rfl))))) (fun F2 h2 h3 => by rw [(A6.D9 al).1]; rw [(A6.D9 ao).1]; exact Sv (al.row (Az (Ad _)) h2 (fun p hp => h3 p (List.mem_append_left _ hp))) (ao.row (Az (Ad _)) h2 (fun p hp => h3 p (List.mem_append_right _ (List.mem_append_left _ hp)))) (dk.mono (AD (Az (Ad _)) (AD (Ad _) (Ad _))) h2) tf) (fun _ _ _ _ hq => by obtain ⟨ij, ik, il, bk, rfl, rfl, br⟩ := hq; exact ⟨_, _, _, _, rfl, rfl, br.flat (fun _ _ h => h)⟩) ?_; rintro _ F185 _ ct ly ma ⟨ij, ik, il, bk, rfl, rfl, br⟩
 replace aj := aj.mono (Ad _) ct
 replace ah := ah.mono (Ad _) ct
 replace ak := ak.mono (Ad _) ct
 replace dk := dk.mono (AD (Az (Ad _)) (AD (Ad _) (Ad _))) ct
 replace al := al.mono (Az (Ad _)) ct
 replace ao := ao.mono (Az (Ad _)) ct
 replace ab := ct _ _ ab
 replace ae := ct _ _ ae
 replace af := ct _ _ af
 have mb := V0 (Lb' := []) (by rfl) ly ma
 replace br := br.new fun p hp => mb p (by simp [hp])
 refine AK (lp (ln (lp (lp (ln rfl))))) (kO (kf (fS (fS (fS fO))) (kf (fS (fS (fS fO))) (kf (fS (fS (fS fO))) kr))) ?_)
 refine um (ox rfl rfl rfl (ox rfl rfl rfl (ua (ua (Cj ?_)))))
 refine uv (AL (cs := #[.slice cb cc cf, .slice cg cj cn, .int .i64 n4, .int .i64 n5, .slice cp l4.length cq]) isAgg39 sizeOf39 rfl (Has.own 0 rfl) (Ce rfl) rfl) ?_
 obtain ⟨l6, n7, n8, th, ti⟩ := IH tg
 refine Jg (Lb := []) (Lt := bg ++ (bj ++ [])) (Lr := (cr, ce #[.slice cb cc cf, .slice cg cj cn, .int .i64 n4, .int .i64 n5, .slice cp l4.length cq] 39) :: ((aq, ce #[.int .i64 n2, .int .i64 n3] 31) :: ((ar, ce #[.int .i64 n, .slice aw aa.length ax] 27) :: (bk ++ [])))) rfl call14 rfl rfl rfl (pT ((fC (fC (fC (fS fP)))).trans (pA ((fC (fC (fC (fS fP)))).trans (pA pR)))) (ln (lp (lp (ln rfl))))) (fun F2 h2 h3 => by rw [(A6.D9 al).1]; rw [(A6.D9 ao).1]; exact JJ (al.row (Az (Ad _)) h2 (fun p hp => h3 p (List.mem_append_left _ hp))) (ao.row (Az (Ad _)) h2 (fun p hp => h3 p (List.mem_append_right _ (List.mem_append_left _ hp)))) (dk.mono (AD (Az (Ad _)) (AD (Ad _) (Ad _))) h2) th) (fun _ _ _ _ hq => by obtain ⟨fq, ft, fv, av, rfl, rfl, az⟩ := hq; exact ⟨_, _, _, _, rfl, rfl, az.flat (fun _ _ h => h)⟩) ?_; rintro _ F198 _ bu mc me ⟨fq, ft, fv, av, rfl, rfl, az⟩
 replace aj := aj.mono (Ad _) bu
 replace ah := ah.mono (Ad _) bu
 replace ak := ak.mono (Ad _) bu
 replace dk := dk.mono (AD (Az (Ad _)) (AD (Ad _) (Ad _))) bu
 replace al := al.mono (Az (Ad _)) bu
 replace ao := ao.mono (Az (Ad _)) bu
 replace br := br.mono (AD (Ad _) (Ad _)) bu
 replace ab := bu _ _ ab
 replace ae := bu _ _ ae
 replace af := bu _ _ af
 have mg := V0 (Lb' := []) (by rfl) mc me
 replace az := az.new fun p hp => mg p (by simp [hp])
 refine AK (lp (ln (lp (lp (ln rfl))))) (kO (kf (fS (fS (fS fO))) (kf (fS (fS (fS fO))) (kf (fS (fS (fS fO))) kr))) ?_)
 refine um (ox rfl rfl rfl (ox rfl rfl rfl (ox rfl rfl rfl (ua (ua (ua (Cj ?_)))))))
 refine uv (AL (cs := #[.int .i64 n, .slice aw aa.length ax]) isAgg27 sizeOf27 rfl (Has.own 2 rfl) (Ce rfl) rfl) (uv (AL (cs := #[.int .i64 n2, .int .i64 n3]) isAgg31 sizeOf31 rfl (Has.own 1 rfl) (Ce rfl) rfl) ?_)
 obtain ⟨l7, n9, tj, tk⟩ := DA ti
 refine c0 call15 (TH aj tj) ?_; rintro _ jl _ bl mh ⟨jm, jn, jo, cu, rfl, rfl, dt⟩
 replace aj := aj.mono (Ad _) bl
 replace ah := ah.mono (Ad _) bl
 replace ak := ak.mono (Ad _) bl
 replace dk := dk.mono (AD (Az (Ad _)) (AD (Ad _) (Ad _))) bl
 replace al := al.mono (Az (Ad _)) bl
 replace ao := ao.mono (Az (Ad _)) bl
 replace br := br.mono (AD (Ad _) (Ad _)) bl
 replace az := az.mono (AD (Ad _) (Ad _)) bl
 replace ab := bl _ _ ab
 replace ae := bl _ _ ae
 replace af := bl _ _ af
 replace dt := dt.new fun p hp => mh p (by simp [hp])
 refine AK (lp (ln rfl)) (kO (kf (fS fO) (kf (fS fO) (kf (fS fO) kr))) ?_)
 refine um (ox rfl rfl rfl (ox rfl rfl rfl (ua (ua (Aa (Ao ?_))))))
 obtain ⟨k4, mj, jq⟩ := AI tk
 refine jE (((cr, ce #[.slice cb cc cf, .slice cg cj cn, .int .i64 n4, .int .i64 n5, .slice cp l4.length cq] 39) :: ((aq, ce #[.int .i64 n2, .int .i64 n3] 31) :: ((ar, ce #[.int .i64 n, .slice aw aa.length ax] 27) :: (bg ++ (bj ++ (bk ++ (av ++ (cu ++ []))))))))) [(2, .int .u8 ad), (3, .int .u8 ai), (10, .pointer (some ⟨ar, 0, none⟩)), (11, .pointer (some ⟨aq, 0, none⟩)), (12, .pointer (some ⟨ca, 0, none⟩)), (13, .pointer (some ⟨dd, 0, none⟩)), (16, .func (.func 10) #[] #[.pointer (some ⟨dd, 0, none⟩), .pointer (some ⟨b1, 0, none⟩), .pointer (some ⟨ca, 0, none⟩)]), (17, .pointer (some ⟨cr, 0, none⟩)), (19, .slice ij ik il), (21, .slice fq ft fv), (22, .int .i64 n7), (23, .int .i64 n8), (24, .slice jm jn jo), (130, .bool k4)] ?_ ?_
 ·clear jq
  refine Ai (um ?_)
  refine uv (Cc rfl) (um ?_)
  rcases Dc (!ok2) with dz | dz
  ·have tm := bt mj dz
   refine fB dz (fB dz ?_)
   refine uv (AP (IW rfl dz) rfl) ?_
   refine um (AH (b' := true) 119 rfl rfl rfl rfl (AH (b' := true) 119 rfl rfl rfl rfl (AH (b' := true) 119 rfl rfl rfl rfl (fU (fU (AH (b' := true) 119 rfl rfl rfl rfl ?_))))))
   refine uv (AP rfl rfl) ?_
   refine um (AH (b' := true) 127 rfl rfl rfl rfl (AH (b' := true) 127 rfl rfl rfl rfl ?_))
   refine uv (AP rfl rfl) (Aa ?_)
   obtain rfl := AM tm
   exact mi (kc (kc (kc (kg (fS (fS fP)) (kg (fS (fS fP)) (kg (fS (fS fP)) (kg (fS fP) kr))))))) ⟨rfl, rfl, (sc rfl (sc rfl (sc rfl (sc rfl (sc rfl (sc rfl z8))))))⟩
  have ml := bf mj dz
  refine nB dz (um (nB dz ?_))
  refine uv (B8 rfl rfl) (uv (AB (IW rfl dz) rfl) (um ?_))
  by_cases cv : n6 ≠ 0
  ·have tn := A8 ml cv
   refine fT cv (fT cv (fT cv (fU (fU (fT cv ?_)))))
   refine uv (AP (Bf rfl cv) rfl) ?_
   refine um (AH (b' := true) 127 rfl rfl rfl rfl (AH (b' := true) 127 rfl rfl rfl rfl ?_))
   refine uv (AP rfl rfl) (Aa ?_)
   obtain rfl := AM tn
   exact mi (kc (kc (kc (kg (fS (fS fP)) (kg (fS (fS fP)) (kg (fS (fS fP)) (kg (fS fP) kr))))))) ⟨rfl, rfl, (sc rfl (sc rfl (sc rfl (sc rfl (sc rfl (sc rfl z8))))))⟩
  have mo := A9 ml cv
  refine nF cv (um (nF cv ?_))
  refine uv (B8 rfl rfl) ?_
  refine nF cv (um ?_)
  by_cases eu : n8 ≠ 0
  ·have mq := A8 mo eu
   refine nT eu (um (nT eu ?_))
   refine uv (B8 rfl rfl) (nF cv (uv (AP (Bf rfl eu) rfl) (uv (AB (AU rfl cv) rfl) (um ?_))))
   by_cases ew : n8 ≠ 6
   ·have tq := A8 mq ew
    refine fT ew (fT ew ?_)
    refine uv (AP (Bf rfl ew) rfl) (Aa ?_)
    obtain rfl := AM tq
    exact mi (kc (kc (kc (kg (fS (fS fP)) (kg (fS (fS fP)) (kg (fS (fS fP)) (kg (fS fP) kr))))))) ⟨rfl, rfl, (sc rfl (sc rfl (sc rfl (sc rfl (sc rfl (sc rfl z8))))))⟩
   have tr := A9 mq ew
   refine nF ew (um (nF ew ?_))
   refine uv (B8 rfl rfl) (uv (AB (AU rfl ew) rfl) (Aa ?_))
   obtain rfl := AM tr
   exact mi (kc (kc (kc (kg (fS (fS fP)) (kg (fS (fS fP)) (kg (fS (fS fP)) (kg (fS fP) kr))))))) ⟨rfl, rfl, (sc rfl (sc rfl (sc rfl (sc rfl (sc rfl (sc rfl z8))))))⟩
  have tt := A9 mo eu
  refine fF eu (fF eu (nF cv ?_))
  refine uv (AB (AU rfl eu) rfl) (uv (AB (AU rfl cv) rfl) ?_)
  refine um (DU (b := false) 127 rfl rfl (um (DU (b := false) 127 rfl rfl ?_)))
  refine uv (B8 rfl rfl) (uv (AB rfl rfl) (Aa ?_))
  obtain rfl := AM tt
  exact mi (kc (kc (kc (kg (fS (fS fP)) (kg (fS (fS fP)) (kg (fS (fS fP)) (kg (fS fP) kr))))))) ⟨rfl, rfl, (sc rfl (sc rfl (sc rfl (sc rfl (sc rfl (sc rfl z8))))))⟩
 refine AY rfl (fun jr => ?_) (fun jr => ?_)
 ·have tu := bt jq jr
  refine AO (ua (Aa ?_))
  refine kW kn ?_
  refine Al (Ah ?_)
  refine Cq results3 ?_
  obtain rfl := AM tu
  exact rfl
 have tv := bf jq jr
 refine An ?_
 refine AV (fun e1 F1 L1 => D4 hour ad ai n n2 n3 aa ay Ae l6 n7 n8 = some r ∧ jl = F1 ∧ L1 = ((aq, ce #[.int .i64 n2, .int .i64 n3] 31) :: ((ar, ce #[.int .i64 n, .slice aw aa.length ax] 27) :: (av ++ []))) ∧ e1.sub [(2, .int .u8 ad), (3, .int .u8 ai), (10, .pointer (some ⟨ar, 0, none⟩)), (11, .pointer (some ⟨aq, 0, none⟩)), (12, .pointer (some ⟨ca, 0, none⟩)), (13, .pointer (some ⟨dd, 0, none⟩)), (16, .func (.func 10) #[] #[.pointer (some ⟨dd, 0, none⟩), .pointer (some ⟨b1, 0, none⟩), .pointer (some ⟨ca, 0, none⟩)]), (21, .slice fq ft fv), (22, .int .i64 n7), (23, .int .i64 n8)]) ?_ ?_
 ·refine AO (uv (Aj isAgg33 rfl (Has.frozen ab) rfl) (uv (A3 underlying33 rfl) ?_))
  refine um (Aa ?_)
  refine Am ?_
  refine Bk (fun fu3 e1 F1 L1 => LA Ae fu3 fun tl k5 => C4 hour ad ai n n2 n3 aa ay Ae l2 l3 n4 n5 l4 l5 l6 n7 n8 l7 tl k5 = some r ∧ jl = F1 ∧ L1 = ((cr, ce #[.slice cb cc cf, .slice cg cj cn, .int .i64 n4, .int .i64 n5, .slice cp l4.length cq] 39) :: ((aq, ce #[.int .i64 n2, .int .i64 n3] 31) :: ((ar, ce #[.int .i64 n, .slice aw aa.length ax] 27) :: (bg ++ (bj ++ (bk ++ (av ++ (cu ++ [])))))))) ∧ e1.sub [(2, .int .u8 ad), (3, .int .u8 ai), (10, .pointer (some ⟨ar, 0, none⟩)), (11, .pointer (some ⟨aq, 0, none⟩)), (12, .pointer (some ⟨ca, 0, none⟩)), (13, .pointer (some ⟨dd, 0, none⟩)), (16, .func (.func 10) #[] #[.pointer (some ⟨dd, 0, none⟩), .pointer (some ⟨b1, 0, none⟩), .pointer (some ⟨ca, 0, none⟩)]), (17, .pointer (some ⟨cr, 0, none⟩)), (19, .slice ij ik il), (21, .slice fq ft fv), (22, .int .i64 n7), (23, .int .i64 n8), (24, .slice jm jn jo), (131, .slice kz Ae.length l0), (132, .int .i64 (Ae.length : Int)), (133, .int .i64 k5)]) _ (m0 kr ⟨_, _, rfl, BP.start _, tv, rfl, rfl, (sc rfl (sc rfl (sc rfl (sc rfl (sc rfl (sc rfl (sc rfl (sc rfl z8))))))))⟩) ?_
  rintro fu3 e1 _ _ ⟨tl, k5, mr, gk, im, rfl, rfl, mv⟩
  refine AA _ mv (AO (uv (Bg rfl rfl) ?_))
  refine Aa (Ao ?_)
  refine cQ (fun iq => ?_) fun iq => ?_
  ·obtain ⟨x2, tl2, rfl, mw, mx, my⟩ := BP.succ gk iq
   rw [C4] at im
   refine An (Ao ?_)
   refine Am ?_
   refine AO (um ?_)
   obtain ⟨b248, o249, c250, vs251, mz, na, tw, rfl, hl255, nc⟩ := Ax.at (Ad _) ah ((cr, ce #[.slice cb cc cf, .slice cg cj cn, .int .i64 n4, .int .i64 n5, .slice cp l4.length cq] 39) :: ((aq, ce #[.int .i64 n2, .int .i64 n3] 31) :: ((ar, ce #[.int .i64 n, .slice aw aa.length ax] 27) :: (bg ++ (bj ++ (bk ++ (av ++ (cu ++ [])))))))) mx.1 mw
   refine uv (AN underlying33 sizeOf3 rfl mz rfl mx) (uv (Aj isAgg3 rfl na (nc 0 (by decide))) ?_)
   refine ua (ua (Cj ?_))
   refine uv (AL (cs := #[.slice cb cc cf, .slice cg cj cn, .int .i64 n4, .int .i64 n5, .slice cp l4.length cq]) isAgg39 sizeOf39 rfl (Has.own 0 rfl) (Ce rfl) rfl) (um ?_)
   refine uv (Bx (v := .agg #[.int .i64 0, .int .i64 k5]) rfl (by intro w; kernel_rfl)) ?_
   obtain ⟨n10, n11, tx, tz⟩ := DA im
   refine Ks (Lt := bg ++ (bj ++ [])) (Lr := (cr, ce #[.slice cb cc cf, .slice cg cj cn, .int .i64 n4, .int .i64 n5, .slice cp l4.length cq] 39) :: ((aq, ce #[.int .i64 n2, .int .i64 n3] 31) :: ((ar, ce #[.int .i64 n, .slice aw aa.length ax] 27) :: (bk ++ (av ++ (cu ++ [])))))) rfl call16 rfl rfl rfl (pT ((fC (fC (fC fP))).trans (pA ((fC (fC (fC fP))).trans (pA pR)))) (lp (lp (ln rfl)))) (fun F2 h2 h3 => by rw [(A6.D9 al).1]; rw [(A6.D9 ao).1]; exact PA (al.row (Az (Ad _)) h2 (fun p hp => h3 p (List.mem_append_left _ hp))) (ao.row (Az (Ad _)) h2 (fun p hp => h3 p (List.mem_append_right _ (List.mem_append_left _ hp)))) (dk.mono (AD (Az (Ad _)) (AD (Ad _) (Ad _))) h2) tx) ?_
   refine um (ox rfl rfl rfl (ox rfl rfl rfl (ua (ua (Cj (um (um ?_)))))))
   refine uv (Bx (v := .agg #[.int .i64 0, .int .i64 k5]) rfl (by intro w; kernel_rfl)) ?_
   obtain ⟨ok3, u4, u5⟩ := AI tz
   refine Ks (Lt := bk ++ []) (Lr := (cr, ce #[.slice cb cc cf, .slice cg cj cn, .int .i64 n4, .int .i64 n5, .slice cp l4.length cq] 39) :: ((aq, ce #[.int .i64 n2, .int .i64 n3] 31) :: ((ar, ce #[.int .i64 n, .slice aw aa.length ax] 27) :: (bg ++ (bj ++ (av ++ (cu ++ []))))))) rfl call17 rfl rfl rfl (pT ((fC (fC (fC (fS (fS fP))))).trans (pA pR)) (lp (ln rfl))) (fun F2 h2 h3 => by rw [(A6.D9 br).1]; exact G8 (br.row (AD (Ad _) (Ad _)) h2 (fun p hp => h3 p (List.mem_append_left _ hp))) u4) ?_
   refine ua (Aa ?_)
   obtain ⟨k6, nf, js⟩ := AI u5
   refine jE (((cr, ce #[.slice cb cc cf, .slice cg cj cn, .int .i64 n4, .int .i64 n5, .slice cp l4.length cq] 39) :: ((aq, ce #[.int .i64 n2, .int .i64 n3] 31) :: ((ar, ce #[.int .i64 n, .slice aw aa.length ax] 27) :: (bg ++ (bj ++ (bk ++ (av ++ (cu ++ []))))))))) [(2, .int .u8 ad), (3, .int .u8 ai), (10, .pointer (some ⟨ar, 0, none⟩)), (11, .pointer (some ⟨aq, 0, none⟩)), (12, .pointer (some ⟨ca, 0, none⟩)), (13, .pointer (some ⟨dd, 0, none⟩)), (16, .func (.func 10) #[] #[.pointer (some ⟨dd, 0, none⟩), .pointer (some ⟨b1, 0, none⟩), .pointer (some ⟨ca, 0, none⟩)]), (17, .pointer (some ⟨cr, 0, none⟩)), (19, .slice ij ik il), (21, .slice fq ft fv), (22, .int .i64 n7), (23, .int .i64 n8), (24, .slice jm jn jo), (131, .slice kz Ae.length l0), (132, .int .i64 (Ae.length : Int)), (133, .int .i64 k5), (170, .bool k6)] ?_ ?_
   ·clear js
    refine Ai (um (um ?_))
    refine uv (B8 rfl rfl) (um ?_)
    by_cases ba : n11 ≠ 0
    ·have ng := A8 nf ba
     refine fT ba (fT ba (fT ba (fT ba (fT ba (fT ba (fT ba ?_))))))
     refine uv (AP (Bf rfl ba) rfl) (uv (WR underlying4 rfl rfl) (um ?_))
     by_cases bn : ok3 ≠ true
     ·have u6 := A8 ng bn
      refine fT bn (fT bn (fT bn (fT bn (fU (fU (fT bn ?_))))))
      refine uv (AP (Bf rfl bn) rfl) (Aa ?_)
      obtain rfl := AM u6
      exact mi kr ⟨rfl, rfl, (sc rfl (sc rfl (sc rfl (sc rfl (sc rfl (sc rfl (sc rfl (sc rfl (sc rfl z8)))))))))⟩
     have u7 := A9 ng bn
     refine nF bn (um (nF bn (um (nF bn ?_))))
     obtain ⟨ok4, u9, nh⟩ := AI u7
     refine Ks (Lt := cu ++ []) (Lr := (cr, ce #[.slice cb cc cf, .slice cg cj cn, .int .i64 n4, .int .i64 n5, .slice cp l4.length cq] 39) :: ((aq, ce #[.int .i64 n2, .int .i64 n3] 31) :: ((ar, ce #[.int .i64 n, .slice aw aa.length ax] 27) :: (bg ++ (bj ++ (bk ++ (av ++ []))))))) rfl call18 rfl rfl rfl (pT ((fC (fC (fC (fS (fS (fS (fS fP))))))).trans (pA pR)) (lp (ln rfl))) (fun F2 h2 h3 => by rw [(A6.D9 dt).1]; exact Cv (dt.row (Ad _) h2 (fun p hp => h3 p (List.mem_append_left _ hp))) u9) ?_
     refine nF bn (um ?_)
     rcases Dc ok4 with e9 | e9
     ·have ub := bt nh e9
      refine nB e9 (um (nB e9 ?_))
      refine uv (Cc rfl) (nF bn (uv (AP (IW rfl e9) rfl) (uv (AB (AU rfl bn) rfl) (Aa ?_))))
      obtain rfl := AM ub
      exact mi kr ⟨rfl, rfl, (sc rfl (sc rfl (sc rfl (sc rfl (sc rfl (sc rfl (sc rfl (sc rfl (sc rfl z8)))))))))⟩
     have uc := bf nh e9
     refine fB e9 (fB e9 (nF bn ?_))
     refine uv (AB (IW rfl e9) rfl) (uv (AB (AU rfl bn) rfl) (Aa ?_))
     obtain rfl := AM uc
     exact mi kr ⟨rfl, rfl, (sc rfl (sc rfl (sc rfl (sc rfl (sc rfl (sc rfl (sc rfl (sc rfl (sc rfl z8)))))))))⟩
    have ud := A9 nf ba
    refine nF ba (um (nF ba ?_))
    refine uv (Ab II rfl) (nF ba (uv (Aj isAgg37 rfl (Has.own 0 rfl) rfl) (nF ba ?_)))
    obtain ⟨x3, ni, nj, nk⟩ := Cb ud
    obtain ⟨b277, o278, c279, vs280, nn, np, ue, ⟨_, _, rfl, ⟨a286, c287, rfl, h288⟩, ⟨_, _, rfl, rfl, rfl⟩⟩, hl284, nq⟩ := Ax.at (AD (Az (Ad _)) (AD (Ad _) (Ad _))) dk ((cr, ce #[.slice cb cc cf, .slice cg cj cn, .int .i64 n4, .int .i64 n5, .slice cp l4.length cq] 39) :: ((aq, ce #[.int .i64 n2, .int .i64 n3] 31) :: ((ar, ce #[.int .i64 n, .slice aw aa.length ax] 27) :: (bg ++ (bj ++ (bk ++ (av ++ (cu ++ [])))))))) ni.1 nj
    refine uv (AN underlying37 sizeOf41 rfl nn rfl ni) (nF ba (uv (Ab PI rfl) (nF ba (uv (Aj isAgg3 rfl np (nq 2 (by decide))) (nF ba (uv (JU rfl rfl) (uv (AB (AU rfl ba) rfl) ?_)))))))
    refine uv (WR underlying4 rfl rfl) (um ?_)
    by_cases bo : ok3 ≠ (decide (x3.2.2 < n10))
    ·have uf := A8 nk bo
     refine fT bo (fT bo (fT bo (fT bo (fU (fU (fT bo ?_))))))
     refine uv (AP (Bf rfl bo) rfl) (Aa ?_)
     obtain rfl := AM uf
     exact mi kr ⟨rfl, rfl, (sc rfl (sc rfl (sc rfl (sc rfl (sc rfl (sc rfl (sc rfl (sc rfl (sc rfl z8)))))))))⟩
    have ug := A9 nk bo
    refine nF bo (um (nF bo (um (nF bo ?_))))
    obtain ⟨ok5, uh, nr⟩ := AI ug
    refine Ks (Lt := cu ++ []) (Lr := (cr, ce #[.slice cb cc cf, .slice cg cj cn, .int .i64 n4, .int .i64 n5, .slice cp l4.length cq] 39) :: ((aq, ce #[.int .i64 n2, .int .i64 n3] 31) :: ((ar, ce #[.int .i64 n, .slice aw aa.length ax] 27) :: (bg ++ (bj ++ (bk ++ (av ++ []))))))) rfl call18 rfl rfl rfl (pT ((fC (fC (fC (fS (fS (fS (fS fP))))))).trans (pA pR)) (lp (ln rfl))) (fun F2 h2 h3 => by rw [(A6.D9 dt).1]; exact Cv (dt.row (Ad _) h2 (fun p hp => h3 p (List.mem_append_left _ hp))) uh) ?_
    refine nF bo (um ?_)
    rcases Dc ok5 with eg | eg
    ·have ui := bt nr eg
     refine nB eg (um (nB eg ?_))
     refine uv (Cc rfl) (nF bo (uv (AP (IW rfl eg) rfl) (uv (AB (AU rfl bo) rfl) (Aa ?_))))
     obtain rfl := AM ui
     exact mi kr ⟨rfl, rfl, (sc rfl (sc rfl (sc rfl (sc rfl (sc rfl (sc rfl (sc rfl (sc rfl (sc rfl z8)))))))))⟩
    have uj := bf nr eg
    refine fB eg (fB eg (nF bo ?_))
    refine uv (AB (IW rfl eg) rfl) (uv (AB (AU rfl bo) rfl) (Aa ?_))
    obtain rfl := AM uj
    exact mi kr ⟨rfl, rfl, (sc rfl (sc rfl (sc rfl (sc rfl (sc rfl (sc rfl (sc rfl (sc rfl (sc rfl z8)))))))))⟩
   refine AY rfl (fun jt => ?_) (fun jt => ?_)
   ·have uk := bt js jt
    refine AO (ua (Aa ?_))
    refine kW kn ?_
    refine Al (Ay (Ah (Ah (Ay (Ah ?_)))))
    refine Cq results3 ?_
    obtain rfl := AM uk
    exact rfl
   have uo := bf js jt
   refine An (Au (id := 4) (Ai ?_))
   refine uv (Bd rfl rfl (BP.EP gk iq (Ax.lt ah))) ?_
   refine um (Aa ?_)
   subst mr; exact le kr ⟨_, _, rfl, my, uo, rfl, rfl, (sc rfl (sc rfl (sc rfl (sc rfl (sc rfl (sc rfl (sc rfl (sc rfl z8))))))))⟩
  obtain rfl := BP.zero gk iq
  rw [C4] at im
  refine AQ (Af (Af ?_))
  refine Av ?_
  exact mi (kd (kc (kc (kx (kx (kx (ka kn))))))) ⟨im, rfl, rfl, (sc rfl (sc rfl z8))⟩
 rintro e1 _ _ ⟨ju, rfl, rfl, nt⟩
 refine AA _ nt ?_
 rw [D4] at ju
 refine AV (fun e1 F1 L1 => Ea hour ad ai n n2 n3 aa ay Ae n7 n8 = some r ∧ AZ jl F1 ∧ L1 = [(aq, ce #[.int .i64 n2, .int .i64 n3] 31), (ar, ce #[.int .i64 n, .slice aw aa.length ax] 27)] ∧ e1.sub [(2, .int .u8 ad), (3, .int .u8 ai), (10, .pointer (some ⟨ar, 0, none⟩)), (11, .pointer (some ⟨aq, 0, none⟩)), (12, .pointer (some ⟨ca, 0, none⟩)), (16, .func (.func 10) #[] #[.pointer (some ⟨dd, 0, none⟩), .pointer (some ⟨b1, 0, none⟩), .pointer (some ⟨ca, 0, none⟩)]), (22, .int .i64 n7), (23, .int .i64 n8)]) ?_ ?_
 ·refine AO (um ?_)
  refine uv (Dn rfl rfl) (Aa ?_)
  refine cQ (fun jv => ?_) fun jv => ?_
  ·have uq := A8 ju jv
   refine AO (uv (AL (cs := #[.int .i64 n, .slice aw aa.length ax]) isAgg27 sizeOf27 rfl (Has.own 1 rfl) (Ce rfl) rfl) (uv (AL (cs := #[.int .i64 n2, .int .i64 n3]) isAgg31 sizeOf31 rfl (Has.own 0 rfl) (Ce rfl) rfl) (uv (Aj isAgg33 rfl (Has.frozen ab) rfl) ?_)))
   obtain ⟨l8, ur, uu, uw⟩ := DA uq
   refine c0 call19 (Q9 aj ah uu) ?_; rintro _ nu _ j5 nv ⟨nw, ny, nz, gl, rfl, rfl, gm⟩
   replace az := az.mono (AD (Ad _) (Ad _)) j5
   replace gm := gm.new fun p hp => nv p (by simp [hp])
   refine AK (lp (ln rfl)) (kO (kf (fS fO) (kf (fS fO) kr)) ?_)
   refine um (ox rfl rfl rfl (ox rfl rfl rfl (ua (ua (Cj ?_)))))
   refine KJ rfl ?_; intro gp hb317
   refine ua (Aa ?_)
   obtain ⟨gq, ux, o7⟩ := AI uw
   refine AV (fun e1 F1 L1 => ∃ (fh : Array MapEntry) (j6 : Nat), nu = F1 ∧ L1 = ((gp, .map fh j6) :: ((aq, ce #[.int .i64 n2, .int .i64 n3] 31) :: ((ar, ce #[.int .i64 n, .slice aw aa.length ax] 27) :: (gl ++ [])))) ∧ e1.sub [(2, .int .u8 ad), (3, .int .u8 ai), (10, .pointer (some ⟨ar, 0, none⟩)), (11, .pointer (some ⟨aq, 0, none⟩)), (12, .pointer (some ⟨ca, 0, none⟩)), (16, .func (.func 10) #[] #[.pointer (some ⟨dd, 0, none⟩), .pointer (some ⟨b1, 0, none⟩), .pointer (some ⟨ca, 0, none⟩)]), (22, .int .i64 n7), (23, .int .i64 n8), (31, .slice nw ny nz), (32, .int .i64 ur), (33, .map (some gp))] ∧ Er (Value.int .i64) Value.bool fh gq) ?_ ?_
   ·clear o7
    refine AO (um ?_)
    refine uv ((A3 underlying51 rfl).i (A6.Je az)) ?_
    refine um (Aa ?_)
    refine Am ?_
    refine Bk (fun fu5 e1 F1 L1 => LA l6 fu5 fun tl3 k7 => ∃ (eh : List (Int × Bool)) (du : Array MapEntry) (fi : Nat), Dt tl3 eh = some gq ∧ nu = F1 ∧ L1 = ((gp, .map du fi) :: ((aq, ce #[.int .i64 n2, .int .i64 n3] 31) :: ((ar, ce #[.int .i64 n, .slice aw aa.length ax] 27) :: (gl ++ (av ++ []))))) ∧ e1.sub [(2, .int .u8 ad), (3, .int .u8 ai), (10, .pointer (some ⟨ar, 0, none⟩)), (11, .pointer (some ⟨aq, 0, none⟩)), (12, .pointer (some ⟨ca, 0, none⟩)), (16, .func (.func 10) #[] #[.pointer (some ⟨dd, 0, none⟩), .pointer (some ⟨b1, 0, none⟩), .pointer (some ⟨ca, 0, none⟩)]), (22, .int .i64 n7), (23, .int .i64 n8), (31, .slice nw ny nz), (32, .int .i64 ur), (33, .map (some gp)), (182, .slice fq ft fv), (183, .int .i64 (l6.length : Int)), (184, .int .i64 k7)] ∧ Er (Value.int .i64) Value.bool du eh) _ (m0 kr ⟨_, _, rfl, BP.start _, [], #[], 0, ux, rfl, rfl, (sc rfl (sc rfl (sc rfl (sc rfl (sc rfl (sc rfl z8)))))), Er.nil⟩) ?_
    rintro fu5 e1 _ _ ⟨tl3, k7, o8, gr, eh, du, fi, ir, rfl, rfl, o9, j7⟩
    refine AA _ o9 (AO (uv (Bg rfl rfl) ?_))
    refine Aa (Ao ?_)
    refine cQ (fun iu => ?_) fun iu => ?_
    ·obtain ⟨x4, tl4, rfl, oc, od, oe⟩ := BP.succ gr iu
     rw [Dt] at ir
     refine An (Ao ?_)
     refine Am (AO ?_)
     obtain ⟨b335, o336, c337, vs338, og, oh, gu, ⟨_, _, rfl, rfl, rfl⟩, oi, oj⟩ := A6.at (AD (Ad _) (Ad _)) az (L := (gp, .map du fi) :: ((aq, ce #[.int .i64 n2, .int .i64 n3] 31) :: ((ar, ce #[.int .i64 n, .slice aw aa.length ax] 27) :: (gl ++ (av ++ []))))) (fC (fC (fC (fS fP)))) od.1 oc
     refine uv (AN underlying51 sizeOf64 rfl og rfl (A6.idx az od)) (uv (AL (cs := #[.int .i64 x4.1, .int .i64 x4.2]) isAgg64 sizeOf64 rfl oh gu (By gu oi oj)) ?_)
     refine Bj rfl zeroValue64 ?_; intro b344 hb344
     refine Br (i := 0) sizeOf64 rfl rfl rfl (by simp [Value.oneCell']) rfl (Ce rfl) (AK rfl ?_)
     refine Aa (Ai (um ?_))
     refine uv (Ab Sx rfl) (uv (Aj isAgg3 rfl (Has.own 0 rfl) rfl) ?_)
     refine Kt (i := 1) (k := x4.1) (v := true) underlying62 (JO underlying3) rfl rfl rfl rfl (show Er (Value.int .i64) Value.bool du (eh : List (Int × Bool)) from j7) ?_; intro oo oq j8
     obtain ⟨jw, uy, uz⟩ := DK ir
     rw [← uy] at j8
     refine AK rfl ?_
     refine Aa (Au (id := 6) (Ai ?_))
     refine uv (Bd rfl rfl (BP.EP gr iu (A6.Xq az))) ?_
     refine um (Aa ?_)
     subst o8; exact le (kd kr) ⟨_, _, rfl, oe, jw, oo, oq, uz, rfl, rfl, (sc rfl (sc rfl (sc rfl (sc rfl (sc rfl (sc rfl z8)))))), j8⟩
    obtain rfl := BP.zero gr iu
    rw [Dt] at ir
    refine AQ (Af (Af ?_))
    refine Av ?_
    obtain rfl := AM ir
    exact mi (kc (kc (kc (ka kn)))) ⟨du, fi, rfl, rfl, (sc rfl (sc rfl (sc rfl z8))), j7⟩
   rintro e1 _ _ ⟨fh, j6, rfl, rfl, ot, ou⟩
   refine AA _ ot ?_
   obtain ⟨k8, ow, jx⟩ := AI o7
   refine jE ([(aq, ce #[.int .i64 n2, .int .i64 n3] 31), (ar, ce #[.int .i64 n, .slice aw aa.length ax] 27)]) [(2, .int .u8 ad), (3, .int .u8 ai), (10, .pointer (some ⟨ar, 0, none⟩)), (11, .pointer (some ⟨aq, 0, none⟩)), (12, .pointer (some ⟨ca, 0, none⟩)), (16, .func (.func 10) #[] #[.pointer (some ⟨dd, 0, none⟩), .pointer (some ⟨b1, 0, none⟩), .pointer (some ⟨ca, 0, none⟩)]), (22, .int .i64 n7), (23, .int .i64 n8), (200, .bool k8)] ?_ ?_
   ·clear jx
    refine Ai (um ?_)
    refine uv (B8 rfl rfl) (um ?_)
    by_cases cw : ur ≠ 0
    ·have va := A8 ow cw
     refine fT cw (fT cw (fT cw (fT cw (fT cw ?_))))
     refine uv (AP (Bf rfl cw) rfl) (Aa ?_)
     obtain rfl := AM va
     exact mi (kd (kc (kc kn))) ⟨rfl, rfl, (sc rfl z8)⟩
    have vb := A9 ow cw
    refine nF cw (um (nF cw ?_))
    refine uv (ZN underlying62 rfl (KW.own 0 rfl) (show Er (Value.int .i64) Value.bool fh (gq : List (Int × Bool)) from ou)) ?_
    refine nF cw (um (nF cw ?_))
    refine uv ((A3 underlying33 rfl).i (A6.Je gm)) (nF cw (uv (Bg rfl rfl) (uv (AB (AU rfl cw) rfl) (Aa ?_))))
    obtain rfl := AM vb
    exact mi (kd (kc (kc kn))) ⟨rfl, rfl, (sc rfl z8)⟩
   refine AY rfl (fun jz => ?_) (fun jz => ?_)
   ·have vc := bt jx jz
    refine AO (ua (Aa ?_))
    refine kW kn ?_
    refine Al (Ah ?_)
    refine Cq results3 ?_
    obtain rfl := AM vc
    exact rfl
   have vd := bf jx jz
   refine An ?_
   exact mi kr ⟨vd, j5, rfl, z8⟩
  have ve := A9 ju jv
  refine An ?_
  exact mi (kc (kc kn)) ⟨ve, AZ.refl _, rfl, z8⟩
 rintro e1 F363 _ ⟨oy, dv, rfl, oz⟩
 refine AA _ oz ?_
 replace aj := aj.mono (Ad _) dv
 replace ah := ah.mono (Ad _) dv
 replace ak := ak.mono (Ad _) dv
 replace ab := dv _ _ ab
 replace ae := dv _ _ ae
 replace af := dv _ _ af
 rw [Ea] at oy
 refine AO (um ?_)
 refine uv (AL (cs := #[.int .i64 n, .slice aw aa.length ax]) isAgg27 sizeOf27 rfl (Has.own 1 rfl) (Ce rfl) rfl) (uv (Ab PH rfl) (uv (Aj isAgg29 rfl (Has.own 0 rfl) rfl) (uv (Ab PK rfl) (uv (Aj isAgg3 rfl (Has.own 0 rfl) rfl) (um ?_)))))
 obtain ⟨vf, vg⟩ := A2 oy
 refine uv (O8 underlying5 underlying3 rfl vf) (uv (NG rfl rfl (by decide)) ?_)
 obtain ⟨vh, vi⟩ := A2 vg
 refine uv (Bd rfl rfl vh) (uv (RW rfl rfl) ?_)
 refine uv (Bx (v := .agg #[.int .i64 n2, .int .i64 (if n3 + (Int.tmod ad 9) < 40 then n3 + (Int.tmod ad 9) else 40)]) rfl (by intro w; kernel_rfl)) ?_
 obtain ⟨l9, l10, n13, n14, l11, ok6, vj, vk⟩ := Xz vi
 refine c0 call10 (GW aj ab ah ae af ak vj) ?_; rintro _ F371 _ dw j9 ⟨p0, p6, p7, p8, p9, pa, pb, pc, pd, pf, rfl, rfl, fj, fk, vl⟩
 replace aj := aj.mono (Ad _) dw
 replace ah := ah.mono (Ad _) dw
 replace ak := ak.mono (Ad _) dw
 replace ab := dw _ _ ab
 replace ae := dw _ _ ae
 replace af := dw _ _ af
 replace fj := fj.new fun p hp => j9 p (by simp [hp])
 replace fk := fk.new fun p hp => j9 p (by simp [hp])
 refine AK (lp (lp (ln rfl))) (kO (kf (fS (fS fO)) (kf (fS (fS fO)) kr)) ?_)
 refine um (ox rfl rfl rfl (ox rfl rfl rfl ?_))
 refine Bj rfl zeroValue39 ?_; intro vm hb390
 refine Br (i := 0) sizeOf39 rfl rfl rfl (by simp [Value.oneCell']) rfl (Ce rfl) (AK rfl ?_)
 refine ua (Cj ?_)
 refine uv (AL (cs := #[.slice p0 p6 p7, .slice p9 pa pb, .int .i64 n13, .int .i64 n14, .slice pd l11.length pf]) isAgg39 sizeOf39 rfl (Has.own 0 rfl) (Ce rfl) rfl) ?_
 obtain ⟨l12, n15, n16, vn, vo⟩ := IH vk
 refine Jg (Lb := []) (Lt := p8 ++ (pc ++ [])) (Lr := [(vm, ce #[.slice p0 p6 p7, .slice p9 pa pb, .int .i64 n13, .int .i64 n14, .slice pd l11.length pf] 39), (aq, ce #[.int .i64 n2, .int .i64 n3] 31), (ar, ce #[.int .i64 n, .slice aw aa.length ax] 27)]) rfl call14 rfl rfl rfl (pT ((fC (fC (fC fP))).trans (pA ((fC (fC (fC fP))).trans (pA pR)))) (ln (lp (lp (ln rfl))))) (fun F2 h2 h3 => by rw [(A6.D9 fj).1]; rw [(A6.D9 fk).1]; exact JJ (fj.row (Az (Ad _)) h2 (fun p hp => h3 p (List.mem_append_left _ hp))) (fk.row (Az (Ad _)) h2 (fun p hp => h3 p (List.mem_append_right _ (List.mem_append_left _ hp)))) (vl.mono (AD (Az (Ad _)) (AD (Ad _) (Ad _))) h2) vn) (fun _ _ _ _ hq => by obtain ⟨vp, vq, vr, pg, rfl, rfl, ja⟩ := hq; exact ⟨_, _, _, _, rfl, rfl, ja.flat (fun _ _ h => h)⟩) ?_; rintro _ F393 _ dx hd396 hn395 ⟨vp, vq, vr, pg, rfl, rfl, ja⟩
 replace aj := aj.mono (Ad _) dx
 replace ah := ah.mono (Ad _) dx
 replace ak := ak.mono (Ad _) dx
 replace ab := dx _ _ ab
 replace ae := dx _ _ ae
 replace af := dx _ _ af
 refine AK (lp (ln (lp (lp (ln rfl))))) (kO (kf (fS (fS (fS fO))) (kf (fS (fS (fS fO))) (kf (fS (fS (fS fO))) kr))) ?_)
 refine um (ox rfl rfl rfl (ox rfl rfl rfl (ox rfl rfl rfl (ua (ua (ua (Aa (Ao ?_))))))))
 obtain ⟨k9, ph, kb⟩ := AI vo
 refine jE ([(aq, ce #[.int .i64 n2, .int .i64 n3] 31), (ar, ce #[.int .i64 n, .slice aw aa.length ax] 27)]) [(3, .int .u8 ai), (10, .pointer (some ⟨ar, 0, none⟩)), (11, .pointer (some ⟨aq, 0, none⟩)), (12, .pointer (some ⟨ca, 0, none⟩)), (16, .func (.func 10) #[] #[.pointer (some ⟨dd, 0, none⟩), .pointer (some ⟨b1, 0, none⟩), .pointer (some ⟨ca, 0, none⟩)]), (22, .int .i64 n7), (23, .int .i64 n8), (245, .bool k9)] ?_ ?_
 ·clear kb
  refine Ai (um ?_)
  refine uv (Cc rfl) (um ?_)
  rcases Dc (!ok6) with bx | bx
  ·have vt := bt ph bx
   refine fB bx (fB bx (fB bx (fU (fU (fB bx ?_)))))
   refine uv (AP (IW rfl bx) rfl) ?_
   refine um (AH (b' := true) 233 rfl rfl rfl rfl (AH (b' := true) 233 rfl rfl rfl rfl (AH (b' := true) 233 rfl rfl rfl rfl (fU (fU (fU (fU (fU (fU ?_)))))))))
   refine fU (AH (b' := true) 233 rfl rfl rfl rfl ?_)
   refine uv (AP rfl rfl) (Aa ?_)
   obtain rfl := AM vt
   exact mi (kd (kc (kc kn))) ⟨rfl, rfl, z8⟩
  have r408 := bf ph bx
  refine nB bx (um (nB bx ?_))
  refine uv (B8 rfl rfl) ?_
  refine nB bx (um ?_)
  by_cases bp : n16 ≠ 0
  ·have pj := A8 r408 bp
   refine nT bp (um (nT bp ?_))
   refine uv (B8 rfl rfl) (nB bx (uv (AP (Bf rfl bp) rfl) (uv (AB (IW rfl bx) rfl) (um ?_))))
   by_cases cx : n16 ≠ 6
   ·have vu := A8 pj cx
    refine fT cx (fT cx (fT cx (fU (fU (fU (fU (fU (fU (fU ?_)))))))))
    refine fT cx (uv (AP (Bf rfl cx) rfl) (Aa ?_))
    obtain rfl := AM vu
    exact mi (kd (kc (kc kn))) ⟨rfl, rfl, z8⟩
   have r413 := A9 pj cx
   refine nF cx (um (nF cx ?_))
   refine uv (Dn rfl rfl) ?_
   refine nF cx (um ?_)
   by_cases da : n8 = 0
   ·have vw := A8 r413 da
    refine nT da (um (nT da ?_))
    refine uv (B8 rfl rfl) ?_
    refine nT da (um (fT bp (fT bp (fT bp (nT da ?_)))))
    refine uv (AP (Bf rfl bp) rfl) (nF cx (uv (AP (Bf rfl da) rfl) (uv (AB (AU rfl cx) rfl) (Aa ?_))))
    obtain rfl := AM vw
    exact mi (kd (kc (kc kn))) ⟨rfl, rfl, z8⟩
   have vx := A9 r413 da
   refine fF da (fF da (fF da (fU (fU (fU (fF da (nF cx ?_)))))))
   refine uv (AB (AU rfl da) rfl) (uv (AB (AU rfl cx) rfl) (Aa ?_))
   obtain rfl := AM vx
   exact mi (kd (kc (kc kn))) ⟨rfl, rfl, z8⟩
  have r417 := A9 r408 bp
  refine fF bp (fF bp (nB bx ?_))
  refine uv (AB (AU rfl bp) rfl) (uv (AB (IW rfl bx) rfl) ?_)
  refine um (DU (b := false) 233 rfl rfl (um (DU (b := false) 233 rfl rfl ?_)))
  refine uv (Dn rfl rfl) ?_
  refine DU (b := false) 233 rfl rfl (um ?_)
  by_cases db : n8 = 0
  ·have vy := A8 r417 db
   refine nT db (um (nT db ?_))
   refine uv (B8 rfl rfl) ?_
   refine nT db (um (nF bp (um (nF bp (um (nF bp ?_))))))
   refine uv (JU rfl rfl) (nT db (uv (AB (AU rfl bp) rfl) (DU (b := false) 233 rfl rfl (uv (AP (Bf rfl db) rfl) (uv (AB rfl rfl) (Aa ?_))))))
   obtain rfl := AM vy
   exact mi (kd (kc (kc kn))) ⟨rfl, rfl, z8⟩
  have vz := A9 r417 db
  refine fF db (fF db (fF db (fU (fU (fU (fF db (DU (b := false) 233 rfl rfl ?_)))))))
  refine uv (AB (AU rfl db) rfl) (uv (AB rfl rfl) (Aa ?_))
  obtain rfl := AM vz
  exact mi (kd (kc (kc kn))) ⟨rfl, rfl, z8⟩
 refine AY rfl (fun kh => ?_) (fun kh => ?_)
 ·have w4 := bt kb kh
  refine AO (ua (Aa ?_))
  refine kW kn ?_
  refine Al (Ah ?_)
  refine Cq results3 ?_
  obtain rfl := AM w4
  exact rfl
 have pk := bf kb kh
 refine An (Ao (AO ?_))
 refine uv (Aj isAgg33 rfl (Has.frozen af) rfl) (uv (A3 underlying33 rfl) (uv (Dn rfl rfl) (Aa ?_)))
 refine cQ (fun kj => ?_) fun kj => ?_
 ·have w7 := A8 pk kj
  refine AO ?_
  obtain ⟨ok7, w8, w9⟩ := AI w7
  refine cV call9 (EI w8) ?_
  refine ua (Aa ?_)
  refine kW kn ?_
  refine Al (Ah ?_)
  refine Cq results3 ?_
  obtain rfl := AM w9
  exact rfl
 have wb := A9 pk kj
 refine An (Ao ?_)
 refine DB [(.pre, 15), (.still, 0), (.still, 1), (.still, 2), (.still, 3), (.still, 4), (.still, 5), (.still, 6), (.still, 7), (.still, 8), (.still, 9), (.still, 10), (.seq, 11), (.still, 12), (.still, 13), (.still, 14), (.alloc (.cells (.agg #[.int .i64 0, .slice none 0 0] : Value).cells 27 (0, 0)) (fun b => .pointer (some ⟨b, 0, none⟩)) [], 15), (.seq, 16), (.still, 17)] (by kernel_rfl) (by kernel_rfl) (⟨⟨_, _, rfl, rfl, rfl, rfl, rfl, T9 zeroValue27⟩, trivial⟩) (by rfl) (by kernel_rfl) ?_
 refine ⟨⟨[], rfl, sn _, by kernel_rfl⟩, ?_⟩
 refine mL [10] ([(ar, ce #[.int .i64 n, .slice aw aa.length ax] 27)]) rfl (s0 (s1 (s2 sr))) (fun H F' L' fy ga => AL (cs := #[.int .i64 n, .slice aw aa.length ax]) isAgg27 sizeOf27 rfl ((Has.own 0 rfl).ext fy ga) (Ce rfl) rfl) (mL [12] ([]) rfl sm (fun H F' L' fy ga => Aj isAgg33 rfl ((Has.frozen af).ext fy ga) rfl) (mS [3] rfl (B3 rfl) ?_))
 obtain ⟨wc, r431⟩ := A2 wb
 refine mS (v := .int .i64 ai) [253] rfl (O8 underlying5 underlying3 rfl wc) (mL [12] ([]) rfl sm (fun H F' L' fy ga => Aj isAgg33 rfl ((Has.frozen af).ext fy ga) rfl) (mS [255] rfl (A3 underlying33 rfl) ?_))
 obtain ⟨we, wg⟩ := A2 r431
 refine mS (v := .int .i64 ((ay.length : Int) - 1)) [256] rfl (Gl rfl rfl we) ?_
 obtain ⟨wh, wi⟩ := A2 wg
 refine mS (v := .int .i64 (Int.tmod ai ((ay.length : Int) - 1))) [254, 257] rfl (NG rfl rfl wh) ?_
 obtain ⟨wj, wo⟩ := A2 wi
 refine mL [258] ([]) rfl sm (fun H F' L' fy ga => Bd rfl rfl wj) ?_
 obtain ⟨x5, pn, po, wq⟩ := Cb wo
 obtain ⟨b441, o442, c443, vs444, pq, pr, wu, rfl, hl448, pt⟩ := Ax.at (Ad _) ak ([]) pn.1 po
 refine mL [252, 259] ([]) rfl sm (fun H F' L' fy ga => AN underlying33 sizeOf3 rfl pq rfl pn) (mL [260] ([]) rfl sm (fun H F' L' fy ga => Aj isAgg3 rfl (pr.ext fy ga) (pt 0 (by decide))) ?_)
 refine ⟨_, [(251, .agg #[.int .i64 n, .slice aw aa.length ax]), (261, .int .i64 x5)], rfl, rfl, z2, by kernel_rfl, ?_⟩; intro H
 obtain ⟨qx, l13, n18, wx, wy⟩ := IH wq
 refine c0 call20 (Rs aj wx) ?_; rintro _ F452 _ dy pv ⟨iv, kl, iw, jb, rfl, rfl, ey⟩
 replace ah := ah.mono (Ad _) dy
 replace ak := ak.mono (Ad _) dy
 replace ab := dy _ _ ab
 replace ae := dy _ _ ae
 replace af := dy _ _ af
 replace ey := ey.new fun p hp => pv p (by simp [hp])
 refine AK (lp (ln rfl)) (kO (kf (fS fO) (kf (fS fO) kr)) ?_)
 refine Aa ⟨_, rfl, dy, [5, 4, 2], by kernel_rfl, .inl (.inr (fun d h => by cases h; rfl)), (fc sm (fc sm (fc sm nm))), ?_⟩
 refine mL [262] ([]) rfl sm (fun H F' L' fy ga => B3 rfl) (mL [250] ([]) rfl sm (fun H F' L' fy ga => O0 rfl rfl) (mL [250] ([]) rfl sm (fun H F' L' fy ga => O0 rfl rfl) ?_))
 refine Vf rfl ?_; intro gv hb462
 refine TN (L' := (gv, ce #[.int .i64 0, .slice none 0 0] 27) :: ((aq, ce #[.int .i64 n2, .int .i64 n3] 31) :: ((ar, ce #[.int .i64 n, .slice aw aa.length ax] 27) :: (jb ++ [])))) rfl ?_
 refine ⟨_, [(39, .pointer (some ⟨gv, 0, none⟩)), (263, .agg #[.int .i64 qx, .slice iv kl iw])], rfl, rfl, z2, by kernel_rfl, ?_⟩; intro H
 refine Br (i := 0) sizeOf27 rfl rfl rfl (by simp [Value.oneCell']) rfl (Ce rfl) (AK rfl ?_)
 refine Aa ⟨undef, rfl, AZ.refl _, [14], by kernel_rfl, .inl (.inr (fun d h => by cases h)), (fc sm nm), ?_⟩
 refine mS [264] rfl (Jj rfl) (EW (Ao ?_))
 obtain ⟨k10, pw, km⟩ := AI wy
 refine jE (((gv, ce #[.int .i64 qx, .slice iv kl iw] 27) :: ((aq, ce #[.int .i64 n2, .int .i64 n3] 31) :: (jb ++ [])))) [(11, .pointer (some ⟨aq, 0, none⟩)), (16, .func (.func 10) #[] #[.pointer (some ⟨dd, 0, none⟩), .pointer (some ⟨b1, 0, none⟩), .pointer (some ⟨ca, 0, none⟩)]), (22, .int .i64 n7), (23, .int .i64 n8), (39, .pointer (some ⟨gv, 0, none⟩)), (275, .bool k10)] ?_ ?_
 ·clear km
  refine Ai (um ?_)
  refine uv (B8 rfl rfl) (um ?_)
  by_cases bb : n18 ≠ 0
  ·have wz := A8 pw bb
   refine fT bb (fT bb (fT bb (fT bb (fT bb (fT bb (fT bb ?_))))))
   refine uv (AP (Bf rfl bb) rfl) (Aa ?_)
   obtain rfl := AM wz
   exact mi (kc (kc (kd kr))) ⟨rfl, rfl, z6⟩
  have xa := A9 pw bb
  refine nF bb (uv (Ab Dd rfl) (nF bb (uv (Aj isAgg25 rfl (Has.own 0 rfl) rfl) (nF bb (uv ((A3 underlying25 rfl).i (A6.Je ey)) (nF bb (uv (Ab Dd rfl) ?_)))))))
  refine nF bb (uv (Aj isAgg25 rfl (Has.own 2 rfl) rfl) (nF bb (uv (A3 underlying25 rfl) (nF bb (uv (B8 rfl rfl) (uv (AB (AU rfl bb) rfl) (Aa ?_)))))))
  obtain rfl := AM xa
  exact mi (kc (kc (kd kr))) ⟨rfl, rfl, z6⟩
 refine AY rfl (fun ko => ?_) (fun ko => ?_)
 ·have xb := bt km ko
  refine AO (ua (Aa ?_))
  refine kW kn ?_
  refine Al (Ah ?_)
  refine Cq results3 ?_
  obtain rfl := AM xb
  exact rfl
 have xc := bf km ko
 refine An (AO (um ?_))
 refine uv (AL (cs := #[.int .i64 qx, .slice iv kl iw]) isAgg27 sizeOf27 rfl (Has.own 0 rfl) (Ce rfl) rfl) (uv (AL (cs := #[.int .i64 n2, .int .i64 n3]) isAgg31 sizeOf31 rfl (Has.own 1 rfl) (Ce rfl) rfl) ?_)
 obtain rfl := (A6.D9 ey).1
 refine Gv (Nat.le_refl _) (Ad _) (fC (fC fP)) ey ?_; intro F472 fa xd
 replace ah := ah.mono (Ad _) fa
 replace ak := ak.mono (Ad _) fa
 replace ab := fa _ _ ab
 replace ae := fa _ _ ae
 replace af := fa _ _ af
 obtain ⟨l14, l15, n19, n20, l16, ok8, xe, xf⟩ := Xz xc
 refine c0 call10 (GW xd ab ah ae af ak xe) ?_; rintro _ F477 _ hF478 jc ⟨px, py, pz, q0, qb, qc, qd, qe, qf, qg, rfl, rfl, fl, fm, xg⟩
 replace fl := fl.new fun p hp => jc p (by simp [hp])
 replace fm := fm.new fun p hp => jc p (by simp [hp])
 refine AK (lp (lp (ln rfl))) (kO (kf (fS (fS fO)) (kf (fS (fS fO)) kr)) ?_)
 refine um (ox rfl rfl rfl (ox rfl rfl rfl ?_))
 refine Bj rfl zeroValue39 ?_; intro xh hb496
 refine Br (i := 0) sizeOf39 rfl rfl rfl (by simp [Value.oneCell']) rfl (Ce rfl) (AK rfl ?_)
 refine ua (Cj ?_)
 refine uv (AL (cs := #[.slice px py pz, .slice qb qc qd, .int .i64 n19, .int .i64 n20, .slice qf l16.length qg]) isAgg39 sizeOf39 rfl (Has.own 0 rfl) (Ce rfl) rfl) ?_
 obtain ⟨l17, n21, ej, xi, qh⟩ := IH xf
 refine Jg (Lb := []) (Lt := q0 ++ (qe ++ [])) (Lr := [(xh, ce #[.slice px py pz, .slice qb qc qd, .int .i64 n19, .int .i64 n20, .slice qf l16.length qg] 39), (gv, ce #[.int .i64 qx, .slice iv l13.length iw] 27), (aq, ce #[.int .i64 n2, .int .i64 n3] 31)]) rfl call14 rfl rfl rfl (pT ((fC (fC (fC fP))).trans (pA ((fC (fC (fC fP))).trans (pA pR)))) (ln (lp (lp (ln rfl))))) (fun F2 h2 h3 => by rw [(A6.D9 fl).1]; rw [(A6.D9 fm).1]; exact JJ (fl.row (Az (Ad _)) h2 (fun p hp => h3 p (List.mem_append_left _ hp))) (fm.row (Az (Ad _)) h2 (fun p hp => h3 p (List.mem_append_right _ (List.mem_append_left _ hp)))) (xg.mono (AD (Az (Ad _)) (AD (Ad _) (Ad _))) h2) xi) (fun _ _ _ _ hq => by obtain ⟨xj, xk, xl, qi, rfl, rfl, jd⟩ := hq; exact ⟨_, _, _, _, rfl, rfl, jd.flat (fun _ _ h => h)⟩) ?_; rintro _ F499 _ hF500 hd502 hn501 ⟨xj, xk, xl, qi, rfl, rfl, jd⟩
 refine AK (lp (ln (lp (lp (ln rfl))))) (kO (kf (fS (fS (fS fO))) (kf (fS (fS (fS fO))) (kf (fS (fS (fS fO))) kr))) ?_)
 refine um (ox rfl rfl rfl (ox rfl rfl rfl (ox rfl rfl rfl (ua (ua (Cj (um (um ?_))))))))
 rcases Dc ok8 with bz | bz
 ·have qj := bt qh bz
  refine nB bz (um (nB bz ?_))
  refine uv (Dn rfl rfl) ?_
  refine nB bz (um ?_)
  by_cases fb : ej = 0
  ·have qk := A8 qj fb
   refine fT fb (fT fb (nB bz ?_))
   refine uv (AP (Bf rfl fb) rfl) (uv (AP (IW rfl bz) rfl) ?_)
   refine um (DU (b := true) 298 rfl rfl (um (DU (b := true) 298 rfl rfl ?_)))
   refine uv (B8 rfl rfl) ?_
   refine DU (b := true) 298 rfl rfl (um ?_)
   by_cases cy : ej ≠ 0
   ·have xm := A8 qk cy
    refine fT cy (fT cy (fT cy (fU (fU (fU (fT cy (DU (b := true) 298 rfl rfl ?_)))))))
    refine uv (AP (Bf rfl cy) rfl) (uv (AP rfl rfl) ?_)
    refine um (DU (b := true) 311 rfl rfl ?_)
    obtain ⟨ok9, xn, xo⟩ := AI xm
    refine cV call9 (EI xn) (uv (AP rfl rfl) ?_)
    refine ua (Aa ?_)
    refine kW kn (Al (Cq results3 ?_))
    obtain rfl := AM xo
    exact rfl
   have ql := A9 qk cy
   refine nF cy (um (nF cy ?_))
   refine uv (Dn rfl rfl) ?_
   refine nF cy (um ?_)
   by_cases dm : n8 = 0
   ·have qn := A8 ql dm
    refine nT dm (um (nT dm (um (nT dm ?_))))
    refine uv (Hn rfl rfl) (nF cy (uv (AP (Bf rfl dm) rfl) (DU (b := true) 298 rfl rfl (uv (AB (AU rfl cy) rfl) (uv (AP rfl rfl) (um ?_))))))
    by_cases fw : n7 ≤ n21
    ·have r522 := A8 qn fw
     refine nT fw ?_
     obtain ⟨ok10, h523, r524⟩ := AI r522
     refine cV call9 (EI h523) (uv (AP (Bf rfl fw) rfl) ?_)
     refine ua (Aa ?_)
     refine kW kn (Al (Cq results3 ?_))
     obtain rfl := AM r524
     exact rfl
    have r525 := A9 qn fw
    refine fF fw (uv (AB (AU rfl fw) rfl) ?_)
    refine ua (Aa ?_)
    refine kW kn (Al (Cq results3 ?_))
    obtain rfl := AM r525
    exact rfl
   have r526 := A9 ql dm
   refine fF dm (fF dm (fF dm (nF cy ?_)))
   refine uv (AB (AU rfl dm) rfl) (DU (b := true) 298 rfl rfl (uv (AB (AU rfl cy) rfl) (uv (AP rfl rfl) ?_)))
   refine um (AH (b' := false) 311 rfl rfl rfl rfl ?_)
   refine uv (AB rfl rfl) ?_
   refine ua (Aa ?_)
   refine kW kn (Al (Cq results3 ?_))
   obtain rfl := AM r526
   exact rfl
  have qo := A9 qj fb
  refine nF fb (um (nF fb ?_))
  refine uv (Dn rfl rfl) (nB bz (uv (AB (AU rfl fb) rfl) (uv (AP (IW rfl bz) rfl) (um ?_))))
  by_cases bq : ej = 6
  ·have qp := A8 qo bq
   refine nT bq (um (nT bq ?_))
   refine uv (B8 rfl rfl) ?_
   refine nT bq (um ?_)
   by_cases cz : ej ≠ 0
   ·have r531 := A8 qp cz
    refine fT cz (fT cz (fT cz (fU (fU (fU (fT cz (nT bq ?_)))))))
    refine uv (AP (Bf rfl cz) rfl) (uv (AP (Bf rfl bq) rfl) ?_)
    refine um (DU (b := true) 311 rfl rfl ?_)
    obtain ⟨ok11, h532, r533⟩ := AI r531
    refine cV call9 (EI h532) (uv (AP rfl rfl) ?_)
    refine ua (Aa ?_)
    refine kW kn (Al (Cq results3 ?_))
    obtain rfl := AM r533
    exact rfl
   have qq := A9 qp cz
   refine nF cz (um (nF cz ?_))
   refine uv (Dn rfl rfl) ?_
   refine nF cz (um ?_)
   by_cases dn : n8 = 0
   ·have qs := A8 qq dn
    refine nT dn (um (nT dn (um (nT dn ?_))))
    refine uv (Hn rfl rfl) (nF cz (uv (AP (Bf rfl dn) rfl) (nT bq (uv (AB (AU rfl cz) rfl) (uv (AP (Bf rfl bq) rfl) (um ?_))))))
    by_cases fx : n7 ≤ n21
    ·have r538 := A8 qs fx
     refine nT fx ?_
     obtain ⟨ok12, h539, r540⟩ := AI r538
     refine cV call9 (EI h539) (uv (AP (Bf rfl fx) rfl) ?_)
     refine ua (Aa ?_)
     refine kW kn (Al (Cq results3 ?_))
     obtain rfl := AM r540
     exact rfl
    have r541 := A9 qs fx
    refine fF fx (uv (AB (AU rfl fx) rfl) ?_)
    refine ua (Aa ?_)
    refine kW kn (Al (Cq results3 ?_))
    obtain rfl := AM r541
    exact rfl
   have r542 := A9 qq dn
   refine fF dn (fF dn (fF dn (nF cz ?_)))
   refine uv (AB (AU rfl dn) rfl) (nT bq (uv (AB (AU rfl cz) rfl) (uv (AP (Bf rfl bq) rfl) ?_)))
   refine um (AH (b' := false) 311 rfl rfl rfl rfl ?_)
   refine uv (AB rfl rfl) ?_
   refine ua (Aa ?_)
   refine kW kn (Al (Cq results3 ?_))
   obtain rfl := AM r542
   exact rfl
  have r543 := A9 qo bq
  refine fF bq (fF bq (fF bq (fU (fU (fU (fU (fU (fU (fU ?_)))))))))
  refine fF bq (uv (AB (AU rfl bq) rfl) ?_)
  refine um (AH (b' := false) 311 rfl rfl rfl rfl ?_)
  refine uv (AB rfl rfl) ?_
  refine ua (Aa ?_)
  refine kW kn (Al (Cq results3 ?_))
  obtain rfl := AM r543
  exact rfl
 have r544 := bf qh bz
 refine fB bz (fB bz (fB bz (fU (fU (fB bz ?_)))))
 refine uv (AB (IW rfl bz) rfl) ?_
 refine um (AH (b' := false) 298 rfl rfl rfl rfl (AH (b' := false) 298 rfl rfl rfl rfl (AH (b' := false) 298 rfl rfl rfl rfl (fU (fU (fU (fU (fU (fU ?_)))))))))
 refine fU (AH (b' := false) 298 rfl rfl rfl rfl ?_)
 refine uv (AB rfl rfl) ?_
 refine um (AH (b' := false) 311 rfl rfl rfl rfl ?_)
 refine uv (AB rfl rfl) ?_
 refine ua (Aa ?_)
 refine kW kn (Al (Cq results3 ?_))
 obtain rfl := AM r544
 exact rfl
end Go.Proofs.YtfmapnhfamoecaaGreat
