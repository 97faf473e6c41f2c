/- The walks that this claim needs, printed by a program of mine; part 3. -/
import Derived.Test.YtfmapnhfamoecabGreatZQNQ2
namespace Go.Proofs.YtfmapnhfamoecabGreat
open Go.SH Go.PL
open Tryz 
variable {FB FA P9 PZ : Array Value} {F : FS} {Fz PW : FuncId} {Co Bx Bs Cf wide DI : Int} {f : Int → Option Bool} {count : Int → Option Int} {D3 : List (List Bool)} {v : List Bool} {plots : List Int} {GM H2 Bc Cq Ar : Nat} {GG HX Bb CG As : Option Addr}
set_option maxHeartbeats 1000000 in
theorem Nf {Of : Nat} {down BL : Int} {De : Bool} {Uq : Nat × Nat} (ad : F Of = some (.cells #[.int .i64 wide, .slice Bb plots.length Bc, .int .i64 down, .int .i64 BL, .bool De] 167 Uq)) (aa : AF 1 (iE .i64) F Bb Bc plots) {r : List (List Bool)} (hr : Ge wide plots down BL De Cf = some r) :
    SH.Spec Tryz.prog 77 #[.pointer (some ⟨Of, 0, none⟩), .int .i64 Cf] F [] fun F' L' v => ∃ (ra : Option Addr) (rn : Nat) (rc : Nat) (rL : LH), v = .slice ra rn rc ∧ L' = rL ++ [] ∧ AT 0 92 30 (Kf 30 cB) F' ra rn rc r rL := by
 refine sp func77 ntmps77 fun K _ _ => ?_
 rw [Ge] at hr
 refine AP (ua (Cj (um ?_)))
 refine uv (AU rfl) (uv (Ad Hg rfl) (uv (Ad Em rfl) (uv (Al isAgg25 rfl (Has.frozen ad) rfl) (uv (A3 underlying25 rfl) ?_))))
 obtain ⟨g1, r2⟩ := AV hr
 obtain ⟨l, h3, r4⟩ := CT r2
 refine Ob (R := (Kf 30 cB)) (z0 := List.replicate 30 false) (zs := l) rfl Mk (by decide) (Cz (n := 30) (sz := 1) DE) (fun _ => ⟨rfl, rfl⟩) rfl g1 h3 (fun _ => .n) ?_; intro a5 n8 ew ey
 refine ua (Aa ?_)
 obtain ⟨out, fa, di⟩ := AO r4
 refine AX (fun e1 F1 L1 => ∃ (ay : LH), AW F F1 ∧ L1 = (ay ++ []) ∧ e1.sub [(5, .slice a5 n8 n8)] ∧ AT K.w0.heap.size 92 30 (Kf 30 cB) F1 a5 n8 n8 out ay) ?_ ?_
 ·clear di
  refine AP (um ?_)
  refine uv (AU rfl) (uv (Ad Hg rfl) (uv (Ad Em rfl) (uv (Al isAgg25 rfl (Has.frozen ad) rfl) (uv (A3 underlying25 rfl) ?_))))
  refine um (Aa ?_)
  refine Am ?_
  refine Bg (fun dk e1 F1 L1 => LA plots dk fun tl k => ∃ (al : List (List Bool)) (ae : LH), Dn wide plots down BL De Cf tl k al = some out ∧ AW F F1 ∧ L1 = (ae ++ []) ∧ e1.sub [(0, .pointer (some ⟨Of, 0, none⟩)), (1, .int .i64 Cf), (5, .slice a5 n8 n8), (21, .slice Bb plots.length Bc), (22, .int .i64 (plots.length : Int)), (23, .int .i64 k)] ∧ AT K.w0.heap.size 92 30 (Kf 30 cB) F1 a5 n8 n8 al ae) _ (m0 kr ⟨_, _, rfl, BT.start _, l, ew, fa, AW.refl _, rfl, z6, ey⟩) ?_
  rintro dk e1 fb _ ⟨tl, k, bw, az, al, ae, bq, ao, rfl, bx, ah⟩
  refine AD _ bx ?_
  replace aa := aa.mono (Ab _) ao
  replace ad := ao _ _ ad
  refine AP (uv (A8 rfl rfl) ?_)
  refine Aa (Aq ?_)
  refine cQ (fun br => ?_) fun br => ?_
  ·obtain ⟨x, gl, rfl, bz, dm, ca⟩ := BT.succ az br
   rw [Dn] at bq
   refine An ?_
   obtain ⟨ba, dn, dp⟩ := AO bq
   refine AX (fun e1 F1 L1 => ∃ (aq : LH), AW fb F1 ∧ L1 = (aq ++ []) ∧ e1.sub [(0, .pointer (some ⟨Of, 0, none⟩)), (1, .int .i64 Cf), (5, .slice a5 n8 n8), (21, .slice Bb plots.length Bc), (22, .int .i64 (plots.length : Int)), (23, .int .i64 k)] ∧ AT K.w0.heap.size 92 30 (Kf 30 cB) F1 a5 n8 n8 ba aq) ?_ ?_
   ·clear dp
    refine Am ?_
    refine AP (um ?_)
    obtain ⟨gm, gp, gq, fe, cb, cc, dq, rfl, ff, cd⟩ := AF.at (Ab _) aa (ae ++ []) dm.1 bz
    refine uv (AI underlying25 sizeOf34 rfl cb rfl dm) (uv (Al isAgg34 rfl cc (cd 0 (by decide))) ?_)
    refine ua (ua (Aa (Aq (AP (um ?_)))))
    refine uv (B6 rfl rfl) (Aa ?_)
    refine cQ (fun cf => ?_) fun cf => ?_
    ·have fg := A2 dn cf
     refine AS (Ae ?_)
     refine AA ?_
     obtain rfl := AR fg
     exact mi kr ⟨ae, AW.refl _, rfl, z6, ah⟩
    have fh := A1 dn cf
    refine An (AP (um (um ?_)))
    obtain ⟨l2, fi, fj⟩ := AO fh
    refine c0 call69 (JO ad aa fi) ?_; rintro _ fk _ ar cg ⟨dr, dt, du, ai, rfl, rfl, af⟩
    replace aa := aa.mono (Ab _) ar
    replace ah := ah.mono (Cz (n := 30) (sz := 1) DE) ar
    replace ad := ar _ _ ad
    replace af := af.new fun p hp => cg p (by simp [hp])
    refine AK (lp (ln rfl)) (uv ((A3 underlying33 rfl).i (AT.Hc af)) ?_)
    refine um (Aa ?_)
    refine Am ?_
    refine Bg (fun dv e1 F1 L1 => LA l2 dv fun dw k2 => ∃ (au : List (List Bool)) (ab : LH), CF plots Cf k dw k2 au = some ba ∧ fk = F1 ∧ L1 = (ab ++ (ai ++ [])) ∧ e1.sub [(0, .pointer (some ⟨Of, 0, none⟩)), (1, .int .i64 Cf), (5, .slice a5 n8 n8), (6, .int .i64 k), (21, .slice Bb plots.length Bc), (22, .int .i64 (plots.length : Int)), (23, .int .i64 k), (32, .slice dr dt du), (33, .int .i64 (l2.length : Int)), (34, .int .i64 k2)] ∧ AT K.w0.heap.size 92 30 (Kf 30 cB) F1 a5 n8 n8 au ab) _ (m0 (kg (fS fP) kr) ⟨_, _, rfl, BT.start _, al, ae, fj, rfl, rfl, (sc rfl (sc rfl z8)), ah⟩) ?_
    rintro dv e1 _ _ ⟨dw, k2, bg, av, au, ab, bu, rfl, rfl, cj, aj⟩
    refine AD _ cj (AP (uv (A8 rfl rfl) ?_))
    refine Aa (Aq ?_)
    refine cQ (fun bh => ?_) fun bh => ?_
    ·obtain ⟨x2, gr, rfl, cn, dx, bj⟩ := BT.succ av bh
     rw [CF] at bu
     refine An (Aq ?_)
     refine Am ?_
     refine AP (um ?_)
     obtain ⟨gu, gv, gw, fl, cp, cq, dy, rfl, fm, cr⟩ := AT.at (Ab _) af (L := ab ++ (ai ++ [])) (fS fP) dx.1 cn
     refine uv (AI underlying33 sizeOf3 rfl cp rfl (AT.idx af dx)) (uv (Al isAgg3 rfl cq (cr 0 (by decide))) ?_)
     refine ua (ua (Aa ?_))
     obtain ⟨k3, fo, ct⟩ := AO bu
     refine jE ((ab ++ (ai ++ []))) [(0, .pointer (some ⟨Of, 0, none⟩)), (1, .int .i64 Cf), (5, .slice a5 n8 n8), (6, .int .i64 k), (8, .int .i64 k2), (21, .slice Bb plots.length Bc), (22, .int .i64 (plots.length : Int)), (23, .int .i64 k), (32, .slice dr dt du), (33, .int .i64 (l2.length : Int)), (34, .int .i64 k2), (52, .bool k3)] ?_ ?_
     ·clear ct
      refine Ak (um ?_)
      refine uv (AU rfl) (uv (Ad Hg rfl) (uv (Ad Em rfl) (uv (Al isAgg25 rfl (Has.frozen ad) rfl) (um ?_))))
      obtain ⟨x3, dz, cu, e9⟩ := BH fo
      obtain ⟨gz, ia, ib, fp, cv, cw, eg, rfl, fq, cx⟩ := AF.at (Ab _) aa (ab ++ (ai ++ [])) dz.1 cu
      refine uv (AI underlying25 sizeOf34 rfl cv rfl dz) (uv (Al isAgg34 rfl cw (cx 0 (by decide))) (uv (DY rfl rfl) (um ?_)))
      by_cases ak : x3 = 1
      ·have fs := A2 e9 ak
       refine nT ak (um (nT ak (um (nT ak ?_))))
       obtain ⟨ok, ft, fv⟩ := AO fs
       refine cV call34 (HD ft) (uv (AQ (Bd rfl ak) rfl) (Aa ?_))
       obtain rfl := AR fv
       exact mi kr ⟨rfl, rfl, (sc rfl (sc rfl (sc rfl (sc rfl z8))))⟩
      have fw := A1 e9 ak
      refine fF ak (fF ak (fF ak ?_))
      refine uv (AL (A4 rfl ak) rfl) (Aa ?_)
      obtain rfl := AR fw
      exact mi kr ⟨rfl, rfl, (sc rfl (sc rfl (sc rfl (sc rfl z8))))⟩
     refine AY rfl (fun cy => ?_) (fun cy => ?_)
     ·have fx := bt ct cy
      refine Ak (um (um (um ?_)))
      obtain ⟨x4, cz, bk, fy⟩ := BH fx
      obtain ⟨ga, gb, gg, eh, aw, ej, da, ⟨rfl, bb⟩, eo, er⟩ := AT.at (Cz (n := 30) (sz := 1) DE) aj (L := ab ++ (ai ++ [])) fP cz.1 bk
      refine uv (AI underlying85 sizeOf92 rfl aw rfl (AT.idx aj cz)) ?_
      obtain ⟨x5, bc, et, db⟩ := BH fy
      refine uv (BB underlying92 sizeOf4 rfl rfl (Q1 bb bc)) ?_
      obtain ⟨bl, dd, de⟩ := CT db
      refine UB (zs := bl) (off := (k : Int).toNat * 1) (x0 := x4) (u := x4.set (k : Int).toNat true) sizeOf4 (Cz (n := 30) (sz := 1) DE) rfl aw rfl rfl (WX (Q1 bb bc)) bk (fun vs h => Q3 DE h (WO (Q1 bb bc)) rfl) (fun _ => .h) aj dd cz ?_; intro bm bn
      refine Aa (Az (id := 3) (Ak ?_))
      refine uv (A5 rfl rfl (BT.El av bh (AT.UD af))) ?_
      refine um (Aa ?_)
      subst bg; exact le kr ⟨_, _, rfl, bj, bl, bm, de, rfl, rfl, (sc rfl (sc rfl z8)), bn⟩
     have df := bf ct cy
     refine An (Az (id := 3) (Ak ?_))
     refine uv (A5 rfl rfl (BT.El av bh (AT.UD af))) ?_
     refine um (Aa ?_)
     subst bg; exact le kr ⟨_, _, rfl, bj, au, ab, df, rfl, rfl, (sc rfl (sc rfl z8)), aj⟩
    obtain rfl := BT.zero av bh
    rw [CF] at bu
    refine AS (Ae (Ae ?_))
    refine AA (Az (id := 1) ?_)
    obtain rfl := AR bu
    exact mi (ka kn) ⟨ab, ar, rfl, z6, aj⟩
   rintro e1 gh _ ⟨aq, ax, rfl, bo, dg⟩
   refine AD _ bo ?_
   replace aa := aa.mono (Ab _) ax
   refine Ak (uv (A5 rfl rfl (BT.El az br (AF.lt aa))) ?_)
   refine um (Aa ?_)
   subst bw; exact le kr ⟨_, _, rfl, ca, ba, aq, dp, (ao.trans ax), rfl, z6, dg⟩
  obtain rfl := BT.zero az br
  rw [Dn] at bq
  refine AS (Ae (Ae ?_))
  refine AA ?_
  obtain rfl := AR bq
  exact mi kr ⟨ae, ao, rfl, z1, ah⟩
 rintro e1 gk _ ⟨ay, eu, rfl, bp, dh⟩
 refine AD _ bp ?_
 refine AP (um (ua (Aa (Ap ?_))))
 refine C9 results77 ?_
 obtain rfl := AR di
 exact ⟨_, _, _, _, rfl, rfl, dh.any⟩
set_option maxHeartbeats 1000000 in
theorem Km (aa : AF 1 (iE .i64) F Bb Bc plots) {r : List (List Bool)} {r2 : Int} (hr : Hu wide plots DI Cf = some (r, r2)) :
    SH.Spec Tryz.prog 40 #[.agg #[.int .i64 wide, .slice Bb plots.length Bc], .agg #[.int .i64 DI, .int .i64 Cf]] F [] fun F' L' v => ∃ (ra : Option Addr) (rn : Nat) (rc : Nat) (rL : LH), v = .tuple #[.slice ra rn rc, .int .i64 r2] ∧ L' = rL ++ [] ∧ AT 0 92 30 (Kf 30 cB) F' ra rn rc r rL := by
 refine sp func40 ntmps40 fun K _ _ => ?_
 rw [Hu] at hr
 refine AP ?_
 refine BK rfl rfl ?_; intro b1 bn
 refine BK rfl rfl ?_; intro b2 bo
 refine ua (ua (Aa (Aq (AP ?_))))
 refine uv (AM isAgg27 sizeOf27 rfl (Has.own 1 rfl) (CE rfl) rfl) ?_
 obtain ⟨n, h3, r4⟩ := AO hr
 refine cV call31 (Kl aa h3) ?_
 refine ua (Cj (um ?_))
 refine uv (B6 rfl rfl) (Aa ?_)
 refine cQ (fun c5 => ?_) fun c5 => ?_
 ·have r6 := A2 r4 c5
  refine AP (um (ua (ua (Aa ?_))))
  refine kW kn ?_
  refine Ap (Aj ?_)
  refine BU results40 (AH rfl) (AH rfl) (sr) ?_
  obtain ⟨rfl, rfl⟩ := CP r6
  exact ⟨_, _, _, [], rfl, rfl, AT.nil _ _ _ _ _⟩
 have r7 := A1 r4 c5
 refine An (Aq (AP ?_))
 refine uv (AM isAgg31 sizeOf31 rfl (Has.own 0 rfl) (CE rfl) rfl) ?_
 obtain ⟨n2, h8, r9⟩ := AO r7
 refine cV call32 (KI h8) ?_
 refine ua (Cj (um ?_))
 refine uv (B6 rfl rfl) (Aa ?_)
 refine cQ (fun ah => ?_) fun ah => ?_
 ·have ao := A2 r9 ah
  refine AP (um (ua (ua (Aa ?_))))
  refine kW kn ?_
  refine Ap (Aj ?_)
  refine BU results40 (AH rfl) (AH rfl) (sr) ?_
  obtain ⟨rfl, rfl⟩ := CP ao
  exact ⟨_, _, _, [], rfl, rfl, AT.nil _ _ _ _ _⟩
 have aq := A1 r9 ah
 refine An (AP ?_)
 refine uv (AM isAgg27 sizeOf27 rfl (Has.own 1 rfl) (CE rfl) rfl) (uv (Ad QD rfl) (uv (Al isAgg29 rfl (Has.own 0 rfl) rfl) ?_))
 obtain ⟨d, n3, ar, au⟩ := CQ aq
 refine c0 call76 (LY aa ar) ?_; rintro _ av _ aw ax ⟨bp, rfl, rfl, ai⟩
 refine AK (ln rfl) ?_
 refine um (ox rfl rfl rfl (ox rfl rfl rfl (ua (ua (Cj (um ?_))))))
 refine uv (Ad QC rfl) (uv (Al isAgg3 rfl (Has.own 0 rfl) rfl) ?_)
 obtain ⟨af, ab, down, BL, De, ay, az⟩ := MY au
 have al := ai; rw [ay] at al; obtain ⟨ba, bq, bb, aj, ad, ⟨_, _, rfl, rfl, ⟨_, _, rfl, ⟨bc, bg, rfl, bh⟩, ⟨_, _, rfl, rfl, ⟨_, _, rfl, rfl, rfl⟩⟩⟩⟩⟩ := al; subst aj
 have ad : av ba = some (.cells #[.int .i64 af, .slice bc ab.length bg, .int .i64 down, .int .i64 BL, .bool De] 167 bb) := ad
 obtain ⟨l, bj, bk⟩ := AO az
 refine c0 call77 (Nf ad bh bj) ?_; rintro _ br _ bl ak ⟨bu, bw, bx, bm, rfl, rfl, ae⟩
 replace ae := ae.new fun p hp => ak p (by simp [hp])
 refine AK (lp (ln rfl)) (kO (kf (fS fO) (kf (fS fO) kr)) ?_)
 refine ua (ua (Aa ?_))
 refine kW (kd (kd kr)) (Ap (BU results40 (AH rfl) (AH rfl) (sr) ?_))
 obtain ⟨rfl, rfl⟩ := CP bk
 exact ⟨_, _, _, _, rfl, rfl, ae.any⟩
set_option maxHeartbeats 1000000 in
theorem Mx {Af : List Int} (ab : AF 1 (iE .i64) F Bb Bc plots) (aa : AF 1 (iE .i64) F HX H2 Af) {r : Int} (hr : Hh wide plots Af = some r) :
    BG Tryz.prog 70 #[.agg #[.int .i64 wide, .slice Bb plots.length Bc], .slice HX Af.length H2] F (.int .i64 r) := by
 refine sp func70 ntmps70 fun K _ _ => ?_
 rw [Hh] at hr
 refine AP ?_
 refine BK rfl rfl ?_; intro b1 bw
 refine ua (Aa ?_)
 refine AX (fun e1 F1 L1 => Hv = some r ∧ F = F1 ∧ L1 = [] ∧ e1.sub []) ?_ ?_
 ·refine AP (um ?_)
  refine uv (A3 underlying33 rfl) ?_
  refine um (Aa ?_)
  refine Am ?_
  refine Bg (fun aq e1 F1 L1 => LA Af aq fun tl k => DM wide plots Af tl k = some r ∧ F = F1 ∧ L1 = [(b1, ce #[.int .i64 wide, .slice Bb plots.length Bc] 27)] ∧ e1.sub [(1, .slice HX Af.length H2), (2, .pointer (some ⟨b1, 0, none⟩)), (8, .slice HX Af.length H2), (9, .int .i64 (Af.length : Int)), (10, .int .i64 k)]) _ (m0 kr ⟨_, _, rfl, BT.start _, hr, rfl, rfl, z5⟩) ?_
  rintro aq e1 _ _ ⟨tl, k, ay, af, r4, rfl, rfl, az⟩
  refine AD _ az (AP (uv (A8 rfl rfl) ?_))
  refine Aa (Aq ?_)
  refine cQ (fun c7 => ?_) fun c7 => ?_
  ·obtain ⟨x, bx, rfl, ba, ar, bb⟩ := BT.succ af c7
   rw [DM] at r4
   refine An (Aq ?_)
   refine Am ?_
   refine AP (um ?_)
   obtain ⟨N9, bz, ca, bc, ah, ai, au, rfl, bg, aj⟩ := AF.at (Ab _) aa ([(b1, ce #[.int .i64 wide, .slice Bb plots.length Bc] 27)]) ar.1 ba
   refine uv (AI underlying33 sizeOf3 rfl ah rfl ar) (uv (Al isAgg3 rfl ai (aj 0 (by decide))) ?_)
   refine ua (ua (Aa (Aq (AP ?_))))
   refine uv (AM isAgg27 sizeOf27 rfl (Has.own 0 rfl) (CE rfl) rfl) (um ?_)
   obtain ⟨n, bh, av⟩ := AO r4
   refine cV call48 (Je ab bh) ?_
   refine ua (Cj (um ?_))
   refine uv (B6 rfl rfl) (Aa ?_)
   refine cQ (fun ak => ?_) fun ak => ?_
   ·have bj := A2 av ak
    refine AP (um (ua (Aa ?_)))
    refine kW kn ?_
    refine Ap (Aj (AE (Aj (Aj (AE (Aj ?_))))))
    refine C9 results70 ?_
    obtain rfl := AR bj
    exact rfl
   have bk := A1 av ak
   refine An (AP (um (um ?_)))
   obtain ⟨bl, bm⟩ := AV bk
   obtain ⟨ae, bn, bo⟩ := CT bm
   obtain ⟨cb, cc, bp, ad⟩ := AF.slice (Ab _) aa bl bn
   refine uv ((Ku (l := 0) (h := k) underlying33 sizeOf3 rfl (.inl ⟨rfl, rfl⟩) (.inr ⟨_, rfl, rfl⟩) ad.1).eq ad.2) (um ?_)
   obtain ⟨ok, bq, aw⟩ := AO bo
   refine cV call10 (Cn bp bq) (Aa ?_)
   refine AY rfl (fun al => ?_) (fun al => ?_)
   ·have br := bt aw al
    refine AP (ua (Aa ?_))
    refine kW kn ?_
    refine Ap (AE (Aj (Aj (AE (Aj ?_)))))
    refine C9 results70 ?_
    obtain rfl := AR br
    exact rfl
   have bu := bf aw al
   refine An (Az (id := 1) (Ak ?_))
   refine uv (A5 rfl rfl (BT.El af c7 (AF.lt aa))) ?_
   refine um (Aa ?_)
   subst ay; exact le kr ⟨_, _, rfl, bb, bu, rfl, rfl, z5⟩
  obtain rfl := BT.zero af c7
  rw [DM] at r4
  refine AS (Ae (Ae ?_))
  refine AA ?_
  exact mi kn ⟨r4, rfl, rfl, (sn _)⟩
 rintro e1 _ _ ⟨ax, rfl, rfl, ao⟩
 refine AD _ ao ?_
 rw [Hv] at ax
 refine AP (ua (Aa (Ap ?_)))
 refine C9 results70 ?_
 obtain rfl := AR ax
 exact rfl
theorem R2 {r : Int} (hr : HB Bs = some r) :
    BG Tryz.prog 71 #[.int .i64 Bs] F (.int .i64 r) := by
 refine sp func71 ntmps71 fun K _ _ => ?_
 rw [HB] at hr
 refine AP (ua (Cj (ua (Aa ?_))))
 obtain ⟨n, h1, r2⟩ := AO hr
 refine jE ([]) [(3, .int .i64 n)] ?_ ?_
 ·clear r2
  refine Am ?_
  refine Bg (fun ab e1 F1 L1 => ∃ (aa : Int) (n2 : Int), Fk ab aa n2 = some n ∧ F = F1 ∧ L1 = [] ∧ e1.sub [(0, .int .i64 aa), (3, .int .i64 n2)]) FU (m0 kr ⟨Bs, 0, h1, rfl, rfl, z2⟩) ?_
  rintro ab e1 _ _ ⟨aa, n2, r5, rfl, rfl, ad⟩
  refine AD _ ad ?_
  rcases ab with _ | ab
  ·rw [Fk] at r5; cases r5
  rw [Fk] at r5
  refine Aq (AP (um ?_))
  refine uv (IF rfl rfl) (Aa ?_)
  refine cQ (fun c7 => ?_) fun c7 => ?_
  ·have r8 := A2 r5 c7
   refine An (Aq ?_)
   refine Am ?_
   refine Ak (um (um ?_))
   refine uv (SV rfl rfl (by decide)) ?_
   obtain ⟨g9, ae⟩ := AV r8
   refine uv (A5 rfl rfl g9) ?_
   refine ua (Aa (Az (id := 1) (Ak (um ?_))))
   obtain ⟨af, ah⟩ := AV ae
   refine uv (O0 rfl rfl af) ?_
   refine ua (Aa ?_)
   exact le kr ⟨Int.tdiv aa 2, n2 + (Int.tmod aa 2), ah, rfl, rfl, z2⟩
  have ai := A1 r5 c7
  refine AS (Ae (Ae ?_))
  refine AA ?_
  obtain rfl := AR ai
  exact mi kr ⟨rfl, rfl, z1⟩
 refine AP (um (ua (Aa (Ap ?_))))
 refine C9 results71 ?_
 obtain rfl := AR r2
 exact rfl
set_option maxHeartbeats 1000000 in
theorem Q0 {Af : List Int} (ab : AF 1 (iE .i64) F Bb Bc plots) (aa : AF 1 (iE .i64) F HX H2 Af) {r : List (List Bool)} {r2 : Bool} {r3 : Int} (hr : Jr wide plots DI Cf Af = some (r, r2, r3)) :
    SH.Spec Tryz.prog 35 #[.agg #[.int .i64 wide, .slice Bb plots.length Bc], .agg #[.int .i64 DI, .int .i64 Cf], .slice HX Af.length H2] F [] fun F' L' v => ∃ (ra : Option Addr) (rn : Nat) (rc : Nat) (rL : LH) (cd : Value), v = .tuple #[.agg #[.slice ra rn rc, cd], .int .i64 r3] ∧ L' = rL ++ [] ∧ AT 0 92 30 (Kf 30 cB) F' ra rn rc r rL ∧ Sb cd r2 71 := by
 refine sp func35 ntmps35 fun K _ _ => ?_
 rw [Jr] at hr
 refine AP ?_
 refine BK rfl rfl ?_; intro b1 dw
 refine BK rfl rfl ?_; intro b2 dx
 refine Br rfl zeroValue87 ?_; intro b3 dy
 refine ua (Cj ?_)
 refine uv (AM isAgg27 sizeOf27 rfl (Has.own 2 rfl) (CE rfl) rfl) (uv (AM isAgg31 sizeOf31 rfl (Has.own 1 rfl) (CE rfl) rfl) ?_)
 obtain ⟨l, n, h4, r5⟩ := CQ hr
 refine c0 call40 (Km ab h4) ?_; rintro _ F6 _ cf cx ⟨cy, cz, da, ah, rfl, rfl, ai⟩
 replace ab := ab.mono (Ab _) cf
 replace aa := aa.mono (Ab _) cf
 replace ai := ai.new fun p hp => cx p (by simp [hp])
 refine AK (lp (ln rfl)) (kO (kf (fS fO) (kf (fS fO) (kf (fS fO) kr))) ?_)
 refine um (ox rfl rfl rfl (ox rfl rfl rfl (ua (ua (Aa (Aq (AP (um ?_))))))))
 refine uv (B6 rfl rfl) (Aa ?_)
 refine cQ (fun bb => ?_) fun bb => ?_
 ·have db := A2 r5 bb
  refine AP ?_
  refine uv (BC (v := .agg #[.slice none 0 0, .nilFunc]) rfl (by intro w; kernel_rfl)) ?_
  refine um (By (i := 0) sizeOf87 rfl rfl rfl (by simp [Value.oneCell']) rfl (CE rfl) (AK rfl ?_))
  refine ua (Aa ?_)
  refine kW (kc kn) ?_
  refine Ap (Aj ?_)
  refine BU results35 (Gn (cs := #[.slice none 0 0, .nilFunc]) isAgg87 sizeOf87 rfl (Has.own 0 rfl) (CE rfl) rfl) (AH rfl) (s1 sr) ?_
  obtain ⟨rfl, rfl, rfl⟩ := Iz db
  exact ⟨_, _, _, [], _, rfl, rfl, AT.nil _ _ _ _ _, Sb.nil _⟩
 have dd := A1 r5 bb
 refine An (Aq (AP ?_))
 refine uv (AM isAgg27 sizeOf27 rfl (Has.own 2 rfl) (CE rfl) rfl) (um ?_)
 obtain ⟨n2, de, cg⟩ := AO dd
 refine cV call70 (Mx ab aa de) ?_
 refine ua (Cj (um ?_))
 refine uv (B6 rfl rfl) (Aa ?_)
 refine cQ (fun bc => ?_) fun bc => ?_
 ·have df := A2 cg bc
  refine AP ?_
  refine uv (BC (v := .agg #[.slice none 0 0, .nilFunc]) rfl (by intro w; kernel_rfl)) ?_
  refine um (By (i := 0) sizeOf87 rfl rfl rfl (by simp [Value.oneCell']) rfl (CE rfl) (AK rfl ?_))
  refine ua (Aa ?_)
  refine kW (kc kn) ?_
  refine Ap (Aj ?_)
  refine BU results35 (Gn (cs := #[.slice none 0 0, .nilFunc]) isAgg87 sizeOf87 rfl (Has.own 0 rfl) (CE rfl) rfl) (AH rfl) (s1 sr) ?_
  obtain ⟨rfl, rfl, rfl⟩ := Iz df
  exact ⟨_, _, _, [], _, rfl, rfl, AT.nil _ _ _ _ _, Sb.nil _⟩
 have dg := A1 cg bc
 refine An (AP ?_)
 refine uv (BC (v := .agg (#[.slice none 0 0, .func (.func 71) #[] #[]])) rfl (by intro w; kernel_rfl)) ?_
 refine Br rfl zeroValue87 ?_; intro ak dh
 refine By (i := 0) sizeOf87 rfl rfl rfl (by simp [Value.oneCell']) rfl (CE rfl) (AK rfl (Aa ?_))
 obtain ⟨ae, di, cj⟩ := AO dg
 refine AX (fun e1 F1 L1 => ∃ (aw : Option Addr) (ax : Nat) (ay : Nat) (al : LH), F6 = F1 ∧ L1 = ((ak, ce (#[.slice aw ax ay, .func (.func 71) #[] #[]]) 87) :: ((b3, ce #[.slice none 0 0, .nilFunc] 87) :: (al ++ []))) ∧ e1.sub [(6, .pointer (some ⟨b3, 0, none⟩)), (11, .pointer (some ⟨ak, 0, none⟩))] ∧ AT K.w0.heap.size 92 30 (Kf 30 cB) F1 aw ax ay ae al) ?_ ?_
 ·clear cj
  refine AP (um ?_)
  refine uv (A3 underlying33 rfl) ?_
  refine um (Aa ?_)
  refine Am (kW (kc (kc (kd (kd kr)))) ?_)
  refine Bg (fun cn e1 F1 L1 => LA Af cn fun tl k => ∃ (ad : List (List Bool)) (ao : Option Addr) (aq : Nat) (ar : Nat) (af : LH), ET l tl ad = some ae ∧ F6 = F1 ∧ L1 = ((ak, ce (#[.slice ao aq ar, .func (.func 71) #[] #[]]) 87) :: ((b3, ce #[.slice none 0 0, .nilFunc] 87) :: (ah ++ (af ++ [])))) ∧ e1.sub [(6, .pointer (some ⟨b3, 0, none⟩)), (8, .slice cy cz da), (11, .pointer (some ⟨ak, 0, none⟩)), (32, .slice HX Af.length H2), (33, .int .i64 (Af.length : Int)), (34, .int .i64 k)] ∧ AT K.w0.heap.size 92 30 (Kf 30 cB) F1 ao aq ar ad af) _ (m0 (kc (kc (ka (ke kr)))) ⟨_, _, rfl, BT.start _, [], none, 0, 0, [], di, rfl, rfl, z6, AT.nil _ _ _ _ _⟩) ?_
  rintro cn e1 _ _ ⟨tl, k, bg, au, ad, ao, aq, ar, af, az, rfl, rfl, bh, av⟩
  refine AD _ bh (AP (uv (A8 rfl rfl) ?_))
  refine Aa (Aq ?_)
  refine cQ (fun ba => ?_) fun ba => ?_
  ·obtain ⟨x, dz, rfl, bj, cp, bk⟩ := BT.succ au ba
   rw [ET] at az
   refine An (Aq ?_)
   refine Am (AP ?_)
   obtain ⟨e9, eg, eh, dk, bl, bm, cq, rfl, dm, bn⟩ := AF.at (Ab _) aa ((ak, ce (#[.slice ao aq ar, .func (.func 71) #[] #[]]) 87) :: ((b3, ce #[.slice none 0 0, .nilFunc] 87) :: (ah ++ (af ++ [])))) cp.1 bj
   refine uv (AI underlying33 sizeOf3 rfl bl rfl cp) (uv (Al isAgg3 rfl bm (bn 0 (by decide))) ?_)
   refine ua (Aa ?_)
   refine C5 [(.still, 0), (.still, 1), (.still, 2), (.still, 3), (.still, 4), (.still, 5), (.seq, 6), (.seq, 7), (.still, 8), (.seq, 9)] (by kernel_rfl) (by kernel_rfl) (trivial) (by rfl) (by kernel_rfl) (mS [11] rfl (Ad JB rfl) (mL [38] ([(ak, ce (#[.slice ao aq ar, .func (.func 71) #[] #[]]) 87)]) rfl (s0 (s2 (s1 (s3 (s3 sr))))) (fun H F' L' bo bp => Al isAgg85 rfl ((Has.own 0 rfl).ext bo bp) rfl) (mS [8] rfl (Be rfl) (mS [13] rfl (Be rfl) ?_))))
   obtain ⟨x2, cr, bq, dn⟩ := BH az
   obtain ⟨ej, eo, er, dp, br, bu, aj, ⟨rfl, ct⟩, bw, bx⟩ := AT.at (Cz (n := 30) (sz := 1) DE) ai (L := ah ++ []) fP cr.1 bq
   refine mS [40, 41] rfl (AI underlying85 sizeOf92 rfl br rfl (AT.idx ai cr)) (mL [42] (ah ++ []) rfl (s0 (s1 (s1 (s4 (s3 sr))))) (fun H F' L' bo bp => AM isAgg92 sizeOf92 rfl (bu.ext bo bp) aj (Bh aj bw bx)) ?_)
   refine ⟨_, [(43, .agg (arr cB x2))], rfl, rfl, z1, by kernel_rfl, ?_⟩; intro H
   refine Kj (cs := arr cB x2) rfl rfl (Ps Mk DE ct rfl (by decide)) ?_; intro dq dr
   refine Aa ⟨_, rfl, AW.refl _, [1, 0], by kernel_rfl, .inl (.inr (fun d h => by cases h; rfl)), (fc (s0 (s1 (s2 (s1 (s3 (s3 sr)))))) (fc sm nm)), ?_⟩
   refine ⟨_, [(39, .slice ao aq ar), (44, .slice (some ⟨dq, 0, none⟩) 1 1)], rfl, rfl, z2, by kernel_rfl, ?_⟩; intro H
   obtain ⟨l2, dt, du, dv⟩ := FQ dn
   refine EA (xs := ad) (ys := [x2]) (zs := l2) rfl Mk rfl rfl (Nat.le_refl _) (fun _ => .c (.c (.c (.s .h)))) av (Gk.box (vss := [(arr cB x2).toList]) (ys := [x2]) 0 rfl (Cz (n := 30) (sz := 1) DE) (.cons ⟨rfl, ct⟩ .nil) (by simp) rfl) dt du (by decide) ?_; intro cu cv cw bz ca
   refine kO (kd kr) ?_
   refine Aa ⟨_, rfl, AW.refl _, [], by kernel_rfl, .inl (.inl rfl), nm, ?_⟩
   refine mS [11] rfl (Ad JB rfl) ?_
   refine ⟨_, [(45, .slice cu cv cw), (46, .pointer (some ⟨ak, 0, none⟩))], rfl, rfl, z2, by kernel_rfl, ?_⟩; intro H
   refine CS (i := 0) sizeOf85 rfl rfl rfl rfl (CE rfl) (AK rfl ?_)
   refine Aa ⟨undef, rfl, AW.refl _, [], by kernel_rfl, .inl (.inl rfl), nm, ?_⟩
   refine Ef ?_
   refine Az (id := 1) (Ak ?_)
   refine uv (A5 rfl rfl (BT.El au ba (AF.lt aa))) ?_
   refine um (Aa ?_)
   subst bg; exact le kr ⟨_, _, rfl, bk, l2, cu, cv, cw, bz, dv, rfl, rfl, z6, ca⟩
  obtain rfl := BT.zero au ba
  rw [ET] at az
  refine AS (Ae (Ae ?_))
  refine AA ?_
  obtain rfl := AR az
  exact mi (kc (kc (kx kr))) ⟨ao, aq, ar, af, rfl, rfl, z2, av⟩
 rintro e1 _ _ ⟨aw, ax, ay, al, rfl, rfl, cb, cc⟩
 refine AD _ cb (AP (uv (AM isAgg87 sizeOf87 rfl (Has.own 0 rfl) (CE rfl) rfl) (By (i := 1) sizeOf87 rfl rfl rfl (by simp [Value.oneCell']) rfl (CE rfl) (AK rfl ?_))))
 refine ua (Aa ?_)
 refine kW (kd kr) (Ap (BU results35 (Gn (cs := #[.slice aw ax ay, .func (.func 71) #[] #[]]) isAgg87 sizeOf87 rfl (Has.own 0 rfl) (CE rfl) rfl) (AH rfl) (s1 (s4 sr)) ?_))
 obtain ⟨rfl, rfl, rfl⟩ := Iz cj
 exact ⟨_, _, _, _, _, rfl, rfl, cc.any, Sb.fn _⟩
set_option maxHeartbeats 1000000 in
theorem Hx {s_ : List (List Bool)} (ab : AF 30 (Kf 30 cB) F CG Cq s_) (al : v.length = 30) {r : Int} (hr : Da s_ v = some r) :
    BG Tryz.prog 95 #[.slice CG s_.length Cq, .agg (arr cB v)] F (.int .i64 r) := by
 refine sp func95 ntmps95 fun K _ _ => ?_
 rw [Da] at hr
 refine AP ?_
 refine BK rfl rfl ?_; intro b1 bc
 refine ua (Aa ?_)
 refine AX (fun e1 F1 L1 => DC = some r ∧ F = F1 ∧ L1 = [] ∧ e1.sub []) ?_ ?_
 ·refine AP (um ?_)
  refine uv (A3 underlying85 rfl) ?_
  refine um (Aa ?_)
  refine Am ?_
  refine Bg (fun ao e1 F1 L1 => LA s_ ao fun tl k => Bv v tl k = some r ∧ F = F1 ∧ L1 = [(b1, ce (arr cB v) 92)] ∧ e1.sub [(0, .slice CG s_.length Cq), (3, .pointer (some ⟨b1, 0, none⟩)), (7, .int .i64 (s_.length : Int)), (8, .int .i64 k)]) _ (m0 kr ⟨_, _, rfl, BT.start _, hr, rfl, rfl, z4⟩) ?_
  rintro ao e1 _ _ ⟨tl, k, au, ad, r4, rfl, rfl, av⟩
  refine AD _ av (AP (uv (A8 rfl rfl) ?_))
  refine Aa (Aq ?_)
  refine cQ (fun c7 => ?_) fun c7 => ?_
  ·obtain ⟨x, bg, rfl, aw, aq, ax⟩ := BT.succ ad c7
   rw [Bv] at r4
   refine An (Aq ?_)
   refine Am ?_
   refine AP (um (ua ?_))
   refine dN (wv (I3 isAgg92 sizeOf92 rfl (Has.own 0 rfl) (ES DE al)) ?_)
   refine wm (wm ?_)
   obtain ⟨N9, bh, bj, ay, ae, af, aa, ⟨rfl, az⟩, ah, ai⟩ := AF.at (Cz (n := 30) (sz := 1) DE) ab ([(b1, ce (arr cB v) 92)]) aq.1 aw
   refine wv (AI underlying85 sizeOf92 rfl ae rfl aq) (wv (AM isAgg92 sizeOf92 rfl af aa (Bh aa ah ai)) (wv (OG (QG _ _ _ _) (S2 al az) rfl rfl) (Df ?_)))
   refine cQ (fun aj => ?_) fun aj => ?_
   ·have ba := A2 r4 aj
    refine AP (um (ua (Aa ?_)))
    refine kW kn ?_
    refine Ap (AE (Aj (Aj (AE (Aj ?_)))))
    refine C9 results95 ?_
    obtain rfl := AR ba
    exact rfl
   have bb := A1 r4 aj
   refine An (Az (id := 1) (Ak ?_))
   refine uv (A5 rfl rfl (BT.El ad c7 (AF.lt ab))) ?_
   refine um (Aa ?_)
   subst au; exact le kr ⟨_, _, rfl, ax, bb, rfl, rfl, z4⟩
  obtain rfl := BT.zero ad c7
  rw [Bv] at r4
  refine AS (Ae (Ae ?_))
  refine AA ?_
  exact mi kn ⟨r4, rfl, rfl, (sn _)⟩
 rintro e1 _ _ ⟨ar, rfl, rfl, ak⟩
 refine AD _ ak ?_
 rw [DC] at ar
 refine AP (ua (Aa (Ap ?_)))
 refine C9 results95 ?_
 obtain rfl := AR ar
 exact rfl
theorem GW {s_ : List (List Bool)} (aa : AF 30 (Kf 30 cB) F CG Cq s_) (ab : v.length = 30) {r : Bool} (hr : CR s_ v = some r) :
    BG Tryz.prog 72 #[.slice CG s_.length Cq, .agg (arr cB v)] F (.bool r) := by
 refine sp func72 ntmps72 fun K _ _ => ?_
 rw [CR] at hr
 refine AP ?_
 refine BK rfl rfl ?_; intro b1 ad
 refine ua (Cj (um ?_))
 refine uv (I3 isAgg92 sizeOf92 rfl (Has.own 0 rfl) (ES DE ab)) ?_
 obtain ⟨n, h2, r3⟩ := AO hr
 refine cV call95 (Hx aa ab h2) (uv (Il rfl rfl) ?_)
 refine ua (Aa ?_)
 refine kW kn (Ap (C9 results72 ?_))
 obtain rfl := AR r3
 exact rfl
theorem LS (aa : AF 30 (Kf 30 cB) F GG GM D3) (_h_count : KM Tryz.prog F Fz FB FA (iE .i64) (Value.int .i64) count) {r : Bool} (hr : Fl D3 count = some r) :
    BG Tryz.prog 36 #[.agg #[.slice GG D3.length GM, .func (.func Fz) FB FA]] F (.bool r) := by
 refine sp func36 ntmps36 fun K _ _ => ?_
 rw [Fl] at hr
 refine AP ?_
 refine BK rfl rfl ?_; intro b1 ab
 refine ua (Cj ?_)
 refine uv (Ad JB rfl) (uv (Al isAgg85 rfl (Has.own 0 rfl) rfl) ?_)
 refine uv (BC (v := .agg (arr cB (List.replicate 30 false))) rfl (by intro w; kernel_rfl)) ?_
 obtain ⟨ok, h2, r3⟩ := AO hr
 refine cV call72 (GW aa List.length_replicate h2) ?_
 refine ua (Aa ?_)
 refine kW kn (Ap (C9 results36 ?_))
 obtain rfl := AR r3
 exact rfl
set_option maxHeartbeats 1000000 in
theorem G5 {EV : Nat} {Gq : LH} {s_ : List (List Bool)} {GJ : Nat} (ab : AT GJ 92 30 (Kf 30 cB) F CG EV Cq s_ Gq) {r : List (List Bool)} (hr : Ch s_ = some r) :
    SH.Spec Tryz.prog 37 #[.slice CG EV Cq] F (Gq ++ []) fun F' L' v => ∃ (ra : Option Addr) (rn : Nat) (rc : Nat) (rL : LH), v = .slice ra rn rc ∧ L' = rL ++ [] ∧ AT GJ 92 30 (Kf 30 cB) F' ra rn rc r rL := by
 refine sp func37 ntmps37 fun K _ _ => ?_
 rw [Ch] at hr
 refine Gv (L' := Gq ++ []) (by simp) ?_
 refine AP (ua (Aa (Aq (AP (um ?_)))))
 refine uv ((A3 underlying85 rfl).i (AT.Hc ab)) (uv (A8 rfl rfl) (Aa ?_))
 refine cQ (fun c1 => ?_) fun c1 => ?_
 ·have r2 := A2 hr c1
  refine AP (um (ua (Aa (Ap (Aj ?_)))))
  refine C9 results37 ?_
  obtain rfl := AR r2
  exact ⟨_, _, _, _, rfl, rfl, ab⟩
 have r3 := A1 hr c1
 refine An ?_
 refine AX (fun e1 F1 L1 => CJ s_ = some r ∧ F = F1 ∧ L1 = (Gq ++ []) ∧ e1.sub [(0, .slice CG EV Cq)]) ?_ ?_
 ·refine AP (ua (Aa ?_))
  refine Am ?_
  obtain ⟨g4, r5⟩ := AV r3
  refine Bg (fun av e1 F1 L1 => ∃ (k : Int), Es 1 (s_.length : Int) k av ∧ Ba s_ av k = some r ∧ F = F1 ∧ L1 = (Gq ++ []) ∧ e1.sub [(0, .slice CG EV Cq), (3, .int .i64 k)]) _ (m0 kr ⟨_, Es.start _ _, r5, rfl, rfl, z2⟩) ?_
  rintro av e1 _ _ ⟨k, bo, r8, rfl, rfl, fl⟩
  refine AD _ fl ?_
  refine Aq (AP (um (um ?_)))
  refine uv ((A3 underlying85 rfl).i (AT.Hc ab)) (uv (A8 rfl rfl) (Aa ?_))
  refine cQ (fun bk => ?_) fun bk => ?_
  ·obtain ⟨av, rfl, bp⟩ := Es.succ bo bk
   rw [Ba] at r8
   refine An ?_
   refine AX (fun e1 F1 L1 => CL k (Ba s_ av) = some r ∧ F = F1 ∧ L1 = (Gq ++ []) ∧ e1.sub [(0, .slice CG EV Cq), (3, .int .i64 k)]) ?_ ?_
   ·refine Am (dW ?_)
    refine wm (wm ?_)
    obtain ⟨x, et, bq, fm⟩ := BH r8
    obtain ⟨im, iq, ir, fo, br, bu, ah, ⟨rfl, fp⟩, bw, bx⟩ := AT.at (Cz (n := 30) (sz := 1) DE) ab (L := Gq ++ []) fP et.1 bq
    refine wv (AI underlying85 sizeOf92 rfl br rfl (AT.idx ab et)) (wv (AM isAgg92 sizeOf92 rfl bu ah (Bh ah bw bx)) ?_)
    refine wm (wm ?_)
    obtain ⟨fq, fs⟩ := AV fm
    refine wv (FR rfl rfl fq) ?_
    obtain ⟨x2, eu, bz, ew⟩ := BH fs
    obtain ⟨iu, iv, iw, ft, ca, cb, ai, ⟨rfl, fv⟩, cc, cd⟩ := AT.at (Cz (n := 30) (sz := 1) DE) ab (L := Gq ++ []) fP eu.1 bz
    refine wv (AI underlying85 sizeOf92 rfl ca rfl (AT.idx ab eu)) (wv (AM isAgg92 sizeOf92 rfl cb ai (Bh ai cc cd)) (wv (OG (QG _ _ _ _) (S2 fp fv) rfl rfl) (Df ?_)))
    refine cQ (fun cf => ?_) fun cf => ?_
    ·have fw := A2 ew cf
     refine AP (um (um ?_))
     obtain ⟨fx, fy⟩ := AV fw
     have af := AT.gV ab fx
     refine uv (E7.eq (v' := .slice (Tu CG Cq (Int.toNat k) 30) (EV - Int.toNat k) (Cq - Int.toNat k)) (Ku (l := k) (h := (EV : Nat)) underlying85 sizeOf92 rfl (.inr ⟨_, rfl, rfl⟩) (.inl ⟨rfl, rfl⟩) (AT.XC ab af)) rfl) ?_
     refine ua (Aa ?_)
     obtain ⟨ey, k2, ga, fa⟩ := CQ fy
     refine AX (fun e1 F1 L1 => ∃ (ar : LH), F = F1 ∧ L1 = (ar ++ []) ∧ e1.sub [(0, .slice CG EV Cq), (3, .int .i64 k2)] ∧ AT GJ 92 30 (Kf 30 cB) F1 CG EV Cq ey ar) ?_ ?_
     ·clear fa
      refine AP (ua (Aa ?_))
      refine Am ?_
      refine Bg (fun bl e1 F1 L1 => ∃ (bm : List (List Bool)) (k3 : Int) (ae : Int) (ad : LH), A6 k bl bm k3 ae = some (ey, k2) ∧ F = F1 ∧ L1 = (ad ++ []) ∧ e1.sub [(0, .slice CG EV Cq), (3, .int .i64 k3), (4, .slice (Tu CG Cq (Int.toNat k) 30) (EV - Int.toNat k) (Cq - Int.toNat k)), (5, .int .i64 ae)] ∧ AT GJ 92 30 (Kf 30 cB) F1 CG EV Cq bm ad) FU (m0 kr ⟨s_, k, 1, Gq, ga, rfl, rfl, z4, ab⟩) ?_
      rintro bl e1 _ _ ⟨bm, k3, ae, ad, aw, rfl, rfl, cg, aa⟩
      refine AD _ cg ?_
      rcases bl with _ | bl
      ·rw [A6] at aw; cases aw
      rw [A6] at aw
      refine Aq (AP (um (um ?_)))
      refine uv ((A3 underlying85 rfl).i (AT.YQ aa).symm) (uv (A8 rfl rfl) (Aa ?_))
      refine cQ (fun cj => ?_) fun cj => ?_
      ·have gb := A2 aw cj
       refine An (Aq ?_)
       refine Am (dW ?_)
       refine wm (wm ?_)
       obtain ⟨x3, bn, ax, gg⟩ := BH gb
       obtain ⟨iy, iz, j0, gh, cn, cp, aj, ⟨rfl, gk⟩, cq, cr⟩ := AT.YT (Cz (n := 30) (sz := 1) DE) aa (L := ad ++ []) fP af bn.1 ax
       refine wv (AI underlying85 sizeOf92 rfl cn rfl (AT.Xu aa bn)) (wv (AM isAgg92 sizeOf92 rfl cp aj (Bh aj cq cr)) ?_)
       refine wm (wm ?_)
       obtain ⟨gl, gm⟩ := AV gg
       refine wv (FR rfl rfl gl) ?_
       obtain ⟨x4, fb, ct, fe⟩ := BH gm
       obtain ⟨j3, j4, j5, gp, cu, cv, ak, ⟨rfl, gq⟩, cw, cx⟩ := AT.YT (Cz (n := 30) (sz := 1) DE) aa (L := ad ++ []) fP af fb.1 ct
       refine wv (AI underlying85 sizeOf92 rfl cu rfl (AT.Xu aa fb)) (wv (AM isAgg92 sizeOf92 rfl cv ak (Bh ak cw cx)) (wv (UK (Vd _ _ _ _) (XB gk gq) rfl rfl) (Df ?_)))
       refine cQ (fun cy => ?_) fun cy => ?_
       ·have gr := A2 fe cy
        refine AP (um (um (um (um ?_))))
        obtain ⟨j6, j7, j8, gu, cz, da, al, ⟨rfl, gv⟩, db, dd⟩ := AT.YT (Cz (n := 30) (sz := 1) DE) aa (L := ad ++ []) fP af bn.1 ax
        refine uv (AI underlying85 sizeOf92 rfl cz rfl (AT.Xu aa bn)) (uv (AM isAgg92 sizeOf92 rfl da al (Bh al db dd)) ?_)
        obtain ⟨x5, de, df, dg⟩ := BH gr
        obtain ⟨gw, gz, ia, ff, ao, fg, dh, ⟨rfl, ib⟩, fh, fi⟩ := AT.at (Cz (n := 30) (sz := 1) DE) aa (L := ad ++ []) fP de.1 df
        refine uv (AI underlying85 sizeOf92 rfl ao rfl (AT.idx aa de)) ?_
        obtain ⟨ic, di, dk⟩ := CT dg
        refine E5 (u := x3) sizeOf92 (Cz (n := 30) (sz := 1) DE) rfl ao rfl ⟨rfl, gv⟩ (fun _ => .h) aa di de ?_; intro ay az
        refine Aa (Ak (um ?_))
        obtain ⟨dm, dn⟩ := AV dk
        refine uv (A5 rfl rfl dm) ?_
        refine ua (Aa (Az (id := 3) (Ak (um ?_))))
        obtain ⟨dp, dq⟩ := AV dn
        refine uv (A5 rfl rfl dp) ?_
        refine ua (Aa ?_)
        exact le kr ⟨ic, k3 + 1, ae + 1, ay, dq, rfl, rfl, z4, az⟩
       have dr := A1 fe cy
       refine An (Az (id := 3) (Ak (um ?_)))
       obtain ⟨dt, du⟩ := AV dr
       refine uv (A5 rfl rfl dt) ?_
       refine ua (Aa ?_)
       exact le kr ⟨bm, k3, ae + 1, ad, du, rfl, rfl, z4, aa⟩
      have dv := A1 aw cj
      refine AS (Ae (Ae ?_))
      refine AA ?_
      obtain ⟨rfl, rfl⟩ := CP dv
      exact mi kr ⟨ad, rfl, rfl, z2, aa⟩
     rintro e1 _ _ ⟨ar, rfl, rfl, ba, au⟩
     refine AD _ ba ?_
     refine AP (um (um ?_))
     obtain ⟨dw, dx⟩ := AV fa
     have aq := AT.gV au dw
     refine uv (E7.eq (v' := .slice (Tu CG Cq (Int.toNat k2) 30) (EV - Int.toNat k2) (Cq - Int.toNat k2)) (Ku (l := k2) (h := (EV : Nat)) underlying85 sizeOf92 rfl (.inr ⟨_, rfl, rfl⟩) (.inl ⟨rfl, rfl⟩) (AT.XC au aq)) rfl) ?_
     obtain ⟨ie, dy, dz⟩ := CT dx
     refine U7 (z0 := List.replicate 30 false) (zs := ie) (l := k2) rfl Mk (by decide) (Cz (n := 30) (sz := 1) DE) (fun _ => ⟨rfl, rfl⟩) rfl (fun _ => .h) au aq dy ?_; intro fj bb
     refine Cj (um (um ?_))
     obtain ⟨e9, eg⟩ := AV dz
     obtain ⟨ig, eh, ej⟩ := CT eg
     refine OP (l := 0) (h := k2) (zs := ig) rfl Mk (Cz (n := 30) (sz := 1) DE) rfl (.inl ⟨rfl, rfl⟩) (.inr ⟨_, rfl, rfl⟩) (fun _ => .h) bb e9 eh ?_; intro ij ik il fk eo
     refine ua (Aa (Ap (AE (Aj (Aj (AE (Aj ?_)))))))
     refine C9 results37 ?_
     obtain rfl := AR ej
     exact ⟨_, _, _, _, rfl, rfl, eo⟩
    have er := A1 ew cf
    refine An (Az (id := 1) ?_)
    exact mi kr ⟨er, rfl, rfl, z2⟩
   rintro e1 _ _ ⟨bc, rfl, rfl, bg⟩
   refine AD _ bg ?_
   rw [CL] at bc
   refine Ak (um ?_)
   refine uv (A5 rfl rfl (Es.El bo bk g4)) ?_
   refine ua (Aa ?_)
   exact le kr ⟨_, bp, bc, rfl, rfl, z2⟩
  obtain rfl := Es.zero bo bk
  rw [Ba] at r8
  refine AS (Ae (Ae ?_))
  refine AA ?_
  exact mi kr ⟨r8, rfl, rfl, z1⟩
 rintro e1 _ _ ⟨bh, rfl, rfl, bj⟩
 refine AD _ bj ?_
 rw [CJ] at bh
 refine AP (um (ua (Aa (Ap ?_))))
 refine C9 results37 ?_
 obtain rfl := AR bh
 exact ⟨_, _, _, _, rfl, rfl, ab⟩
theorem Hn {s_ : List (List Bool)} (aa : AF 30 (Kf 30 cB) F CG Cq s_) {r : List (List Bool)} (hr : CB s_ = some r) :
    SH.Spec Tryz.prog 38 #[.slice CG s_.length Cq] F [] fun F' L' v => ∃ (ra : Option Addr) (rn : Nat) (rc : Nat) (rL : LH), v = .slice ra rn rc ∧ L' = rL ++ [] ∧ AT 0 92 30 (Kf 30 cB) F' ra rn rc r rL := by
 refine sp func38 ntmps38 fun K _ _ => ?_
 rw [CB] at hr
 refine AP (ua (Aa (Aq (AP (um ?_)))))
 refine uv (VX underlying85 rfl) (Aa ?_)
 refine AY rfl (fun c1 => ?_) (fun c1 => ?_)
 ·have r2 := WY hr (AF.isNone aa c1)
  refine AP (ua (Aa (Ap (Aj ?_))))
  refine C9 results38 ?_
  obtain rfl := AR r2
  exact ⟨_, _, _, [], rfl, rfl, AT.nil _ _ _ _ _⟩
 have r3 := Wr hr
 refine An (AP ?_)
 refine Kj (cs := #[]) rfl rfl (N8 Mk) ?_; intro b4 af
 refine um ?_
 have ae : AT K.w0.heap.size 92 30 (Kf 30 cB) F (some ⟨b4, 0, none⟩) 0 0 ([] : List (List Bool)) [(b4, ce #[] 92)] := AT.CV (vss := []) (Cz (n := 30) (sz := 1) DE) af .nil rfl rfl (by simp [maxLen])
 generalize ab : ([(b4, ce #[] 92)] : LH) = Lb5 at ae
 refine Dl (L' := Lb5 ++ []) (by rw [← ab]; exact fO) ?_
 obtain ⟨l, h8, g9, ah⟩ := FQ r3
 refine EA (xs := ([] : List (List Bool))) (ys := s_) (zs := l) rfl Mk rfl rfl (Nat.le_refl _) (fun _ => .h) ae (AF.src aa) h8 g9 (by decide) ?_; intro aj ak al ai ad
 refine ua (Aa (Ap ?_))
 refine C9 results38 ?_
 obtain rfl := AR ah
 exact ⟨_, _, _, _, rfl, rfl, ad.any⟩
set_option maxHeartbeats 1000000 in
theorem HL {stand : Int} (ab : AF 30 (Kf 30 cB) F GG GM D3) (_h_count : KM Tryz.prog F Fz FB FA (iE .i64) (Value.int .i64) count) {r : Int} (hr : EI D3 count stand = some r) :
    BG Tryz.prog 74 #[.agg #[.slice GG D3.length GM, .func (.func Fz) FB FA], .int .i64 stand] F (.int .i64 r) := by
 refine sp func74 ntmps74 fun K _ _ => ?_
 rw [EI] at hr
 refine AP ?_
 refine BK rfl rfl ?_; intro b1 bm
 refine ua (Cj (ua (Aa ?_)))
 obtain ⟨Bs, h2, r3⟩ := AO hr
 refine jE ([]) [(5, .int .i64 Bs)] ?_ ?_
 ·clear r3
  refine AP (uv (Ad JB rfl) (uv (Al isAgg85 rfl (Has.own 0 rfl) rfl) (uv (A3 underlying85 rfl) ?_)))
  refine um (Aa ?_)
  refine Am (kW kn ?_)
  refine Bg (fun av e1 F1 L1 => LA D3 av fun tl k => ∃ (aa : Int), CH stand tl k aa = some Bs ∧ F = F1 ∧ L1 = [] ∧ e1.sub [(1, .int .i64 stand), (5, .int .i64 aa), (9, .slice GG D3.length GM), (10, .int .i64 (D3.length : Int)), (11, .int .i64 k)]) _ (m0 kr ⟨_, _, rfl, BT.start _, 0, h2, rfl, rfl, z5⟩) ?_
  rintro av e1 _ _ ⟨tl, k, aw, af, aa, r6, rfl, rfl, ba⟩
  refine AD _ ba (AP (uv (A8 rfl rfl) ?_))
  refine Aa (Aq ?_)
  refine cQ (fun c9 => ?_) fun c9 => ?_
  ·obtain ⟨x, bn, rfl, ah, ax, ae⟩ := BT.succ af c9
   rw [CH] at r6
   refine An (Aq ?_)
   refine Am ?_
   refine AP (um ?_)
   obtain ⟨bo, bp, bq, bb, ai, aj, ad, ⟨rfl, ak⟩, al, ao⟩ := AF.at (Cz (n := 30) (sz := 1) DE) ab ([]) ax.1 ah
   refine uv (AI underlying85 sizeOf92 rfl ai rfl ax) (uv (AM isAgg92 sizeOf92 rfl aj ad (Bh ad al ao)) ?_)
   refine Br rfl zeroValue92 ?_; intro ay bc
   refine AK (L' := [(ay, ce (arr cB (List.replicate 30 false)) 92)]) rfl (ua (JP (i := 0) sizeOf92 rfl rfl rfl (ES DE List.length_replicate) (ES DE ak) (LF DE) (AK (L' := [(ay, ce (arr cB x) 92)]) rfl ?_)))
   refine Cj (um ?_)
   obtain ⟨x2, bg, aq, az⟩ := BH r6
   have ar := X1 DE ak aq
   refine uv (BB underlying92 sizeOf4 rfl rfl (Q1 ak bg)) (uv (Al isAgg4 rfl (Has.own 0 rfl) ((ar).2.2 0 (by decide))) (Aa ?_))
   refine AY rfl (fun au => ?_) (fun au => ?_)
   ·have bh := bt az au
    refine Ak (um (um ?_))
    obtain ⟨bj, bk⟩ := AV bh
    refine uv (Qg rfl rfl bj) (uv (SN rfl rfl) ?_)
    refine ua (Aa (Az (id := 1) (Ak ?_)))
    refine uv (A5 rfl rfl (BT.El af c9 (AF.lt ab))) ?_
    refine um (Aa ?_)
    subst aw; exact le kn ⟨_, _, rfl, ae, LR aa (shl 1 k), bk, rfl, rfl, z5⟩
   have bl := bf az au
   refine An (Az (id := 1) (Ak ?_))
   refine uv (A5 rfl rfl (BT.El af c9 (AF.lt ab))) ?_
   refine um (Aa ?_)
   subst aw; exact le kn ⟨_, _, rfl, ae, aa, bl, rfl, rfl, z5⟩
  obtain rfl := BT.zero af c9
  rw [CH] at r6
  refine AS (Ae (Ae ?_))
  refine AA ?_
  obtain rfl := AR r6
  exact mi kr ⟨rfl, rfl, z1⟩
 refine AP (um (ua (Aa (Ap ?_))))
 refine C9 results74 ?_
 obtain rfl := AR r3
 exact rfl
theorem QX {n : Int} {aa : Option Addr} {ab : Nat} {more : List Int} (ad : AF 1 (iE .i64) F aa ab more) {r : Int} (hr : Jf n more = some r) :
    BG Tryz.prog 75 #[.int .i64 n, .slice aa more.length ab] F (.int .i64 r) := by
 refine sp func75 ntmps75 fun K _ _ => ?_
 rw [Jf] at hr
 refine AP (ua (Aa ?_))
 obtain ⟨n2, h1, r2⟩ := AO hr
 refine jE ([]) [(0, .int .i64 n2)] ?_ ?_
 ·clear r2
  refine AP (um ?_)
  refine uv (A3 underlying33 rfl) ?_
  refine um (Aa ?_)
  refine Am ?_
  refine Bg (fun ak e1 F1 L1 => LA more ak fun tl k => ∃ (n3 : Int), Fu tl n3 = some n2 ∧ F = F1 ∧ L1 = [] ∧ e1.sub [(0, .int .i64 n3), (7, .slice aa more.length ab), (8, .int .i64 (more.length : Int)), (9, .int .i64 k)]) _ (m0 kr ⟨_, _, rfl, BT.start _, n, h1, rfl, rfl, z4⟩) ?_
  rintro ak e1 _ _ ⟨tl, k, aq, ae, n3, r5, rfl, rfl, ar⟩
  refine AD _ ar (AP (uv (A8 rfl rfl) ?_))
  refine Aa (Aq ?_)
  refine cQ (fun c8 => ?_) fun c8 => ?_
  ·obtain ⟨x, ax, rfl, af, al, au⟩ := BT.succ ae c8
   rw [Fu] at r5
   refine An (Aq ?_)
   refine Am (AP ?_)
   obtain ⟨Tx, ay, az, av, ah, ai, ao, rfl, aw, aj⟩ := AF.at (Ab _) ad ([]) al.1 af
   refine uv (AI underlying33 sizeOf3 rfl ah rfl al) (uv (Al isAgg3 rfl ai (aj 0 (by decide))) ?_)
   refine ua (Aa (Ak (um (um ?_))))
   refine uv (SZ rfl rfl) ?_
   refine ua (Aa (Az (id := 1) (Ak ?_)))
   refine uv (A5 rfl rfl (BT.El ae c8 (AF.lt ad))) ?_
   refine um (Aa ?_)
   subst aq; exact le kr ⟨_, _, rfl, au, if x < n3 then x else n3, r5, rfl, rfl, z4⟩
  obtain rfl := BT.zero ae c8
  rw [Fu] at r5
  refine AS (Ae (Ae ?_))
  refine AA ?_
  obtain rfl := AR r5
  exact mi kr ⟨rfl, rfl, z1⟩
 refine AP (um (ua (Aa (Ap ?_))))
 refine C9 results75 ?_
 obtain rfl := AR r2
 exact rfl
set_option maxHeartbeats 1000000 in
theorem JE {bb : Int → Int → Int → (List (List Bool)) → (Int → Option Int) → (List ((Int × Int × Int) × Int)) → Option (Int × (List ((Int × Int × Int) × Int)))} (bc : ∀ {from_ aa Bs : Int} {az : Nat} {GG : Option Addr} {GM : Nat} {D3 : List (List Bool)} {Fz : FuncId} {FB FA : Array Value} {count : Int → Option Int} {ba : Nat × Nat} {ah af : Nat} {ad : Array MapEntry} {aj : Nat} {met : List ((Int × Int × Int) × Int)} {ar : Nat × Nat} {aq : Nat} {aw : Nat × Nat} {F : FS} (_ : F az = some (.cells #[.slice GG D3.length GM, .func (.func Fz) FB FA] 87 ba)) (_ : AF 30 (Kf 30 cB) F GG GM D3) (_ : KM Tryz.prog F Fz FB FA (iE .i64) (Value.int .i64) count) (_ : F ah = some (.cells #[.map (some af)] 133 ar)) (_ : Eb (vA (cP (cI .i64) (cP (cI .i64) (cI .i64)))) (Value.int .i64) ad met) (_ : F aq = some (.cells (#[.func (.func 73) #[] #[.pointer (some ⟨az, 0, none⟩), .pointer (some ⟨ah, 0, none⟩), .pointer (some ⟨aq, 0, none⟩)]]) 134 aw)) {r : Int} {r2 : List ((Int × Int × Int) × Int)} , bb from_ aa Bs D3 count met = some (r, r2) → SH.Spec Tryz.prog 73 #[.agg #[.int .i64 from_, .int .i64 aa, .int .i64 Bs], .pointer (some ⟨az, 0, none⟩), .pointer (some ⟨ah, 0, none⟩), .pointer (some ⟨aq, 0, none⟩)] F [(af, .map ad aj)] fun _ L' v => ∃ (ai : Array MapEntry) (ao : Nat), v = .int .i64 r ∧ L' = [(af, .map ai ao)] ∧ Eb (vA (cP (cI .i64) (cP (cI .i64) (cI .i64)))) (Value.int .i64) ai r2) {from_ aa : Int} {az : Nat} {ba : Nat × Nat} {ah af : Nat} {ad : Array MapEntry} {aj : Nat} {met : List ((Int × Int × Int) × Int)} {ar : Nat × Nat} {aq : Nat} {aw : Nat × Nat} (av : F az = some (.cells #[.slice GG D3.length GM, .func (.func Fz) FB FA] 87 ba)) (ak : AF 30 (Kf 30 cB) F GG GM D3) (ab : KM Tryz.prog F Fz FB FA (iE .i64) (Value.int .i64) count) (ae : F ah = some (.cells #[.map (some af)] 133 ar)) (au : Eb (vA (cP (cI .i64) (cP (cI .i64) (cI .i64)))) (Value.int .i64) ad met) (al : F aq = some (.cells (#[.func (.func 73) #[] #[.pointer (some ⟨az, 0, none⟩), .pointer (some ⟨ah, 0, none⟩), .pointer (some ⟨aq, 0, none⟩)]]) 134 aw)) {r : Int} {r2 : List ((Int × Int × Int) × Int)} (hr : ER bb from_ aa Bs D3 count met = some (r, r2)) :
    SH.Spec Tryz.prog 73 #[.agg #[.int .i64 from_, .int .i64 aa, .int .i64 Bs], .pointer (some ⟨az, 0, none⟩), .pointer (some ⟨ah, 0, none⟩), .pointer (some ⟨aq, 0, none⟩)] F [(af, .map ad aj)] fun _ L' v => ∃ (ai : Array MapEntry) (ao : Nat), v = .int .i64 r ∧ L' = [(af, .map ai ao)] ∧ Eb (vA (cP (cI .i64) (cP (cI .i64) (cI .i64)))) (Value.int .i64) ai r2 := by
 refine sp func73 ntmps73 fun K _ _ => ?_
 rw [ER] at hr
 refine AP ?_
 refine BK rfl rfl ?_; intro b1 dv
 refine ua (Aa (Aq ?_))
 obtain ⟨k, h2, r3⟩ := AO hr
 refine jE ([(b1, ce #[.int .i64 from_, .int .i64 aa, .int .i64 Bs] 136), (af, .map ad aj)]) [(1, .pointer (some ⟨az, 0, none⟩)), (2, .pointer (some ⟨ah, 0, none⟩)), (3, .pointer (some ⟨aq, 0, none⟩)), (4, .pointer (some ⟨b1, 0, none⟩)), (17, .bool k)] ?_ ?_
 ·clear r3
  refine Ak (uv (Ad H4 rfl) (uv (Al isAgg3 rfl (Has.own 0 rfl) rfl) (uv (DY rfl rfl) (um ?_))))
  by_cases c4 : aa = 0
  ·have r5 := A2 h2 c4
   refine fT c4 (fT c4 (fT c4 ?_))
   refine uv (AQ (Bd rfl c4) rfl) (Aa ?_)
   obtain rfl := AR r5
   exact mi kr ⟨rfl, rfl, z5⟩
  have r6 := A1 h2 c4
  refine nF c4 (uv (Ad GD rfl) (nF c4 (uv (Al isAgg3 rfl (Has.own 0 rfl) rfl) (nF c4 (uv (DY rfl rfl) (uv (AL (A4 rfl c4) rfl) (Aa ?_)))))))
  obtain rfl := AR r6
  exact mi kr ⟨rfl, rfl, z5⟩
 refine AY rfl (fun c8 => ?_) (fun c8 => ?_)
 ·have r9 := bt r3 c8
  refine AP (uv (Ad WQ rfl) (uv (Al isAgg69 rfl (Has.frozen av) rfl) (uv (Ad J7 rfl) (uv (Al isAgg3 rfl (Has.own 0 rfl) rfl) ?_))))
  obtain ⟨n, cc, cd⟩ := AO r9
  refine I1 rfl ab.1 rfl rfl rfl (ab.2 _ (AW.refl _) _ _ _ rfl cc) ?_
  refine ua (Aa ?_)
  refine kW (kd kr) ?_
  refine Ap (Aj ?_)
  refine C9 results73 ?_
  obtain ⟨rfl, rfl⟩ := CP cd
  exact ⟨_, _, rfl, rfl, au⟩
 have cf := bf r3 c8
 refine An (Aq (AP ?_))
 refine uv (Al isAgg133 rfl (Has.frozen ae) rfl) (uv (AM isAgg136 sizeOf136 rfl (Has.own 0 rfl) (CE rfl) rfl) (uv (E7.eq (v' := .tuple #[.int .i64 ((AZ met (from_, aa, Bs)).getD 0), .bool ((AZ met (from_, aa, Bs)).isSome)]) (Lw (k := (from_, aa, Bs)) (z0 := 0) rfl underlying133 To zeroValue3 rfl rfl (Kw.own 1 rfl) (show Eb (vA (cP (cI .i64) (cP (cI .i64) (cI .i64)))) (Value.int .i64) ad (met : List ((Int × Int × Int) × Int)) from au)) rfl) ?_))
 refine um (ox rfl rfl rfl (ox rfl rfl rfl ?_))
 obtain ⟨n2, cg, bz⟩ := CT cf
 refine uv ((DQ rfl).i cg) ?_
 refine ua (Cj (um (Aa ?_)))
 refine AY rfl (fun bk => ?_) (fun bk => ?_)
 ·have cj := bt bz bk
  refine AP (um (ua (Aa ?_)))
  refine kW (kd kr) ?_
  refine Ap (Aj ?_)
  refine C9 results73 ?_
  obtain ⟨rfl, rfl⟩ := CP cj
  exact ⟨_, _, rfl, rfl, au⟩
 have cn := bf bz bk
 refine An (AP ?_)
 refine uv (Al isAgg134 rfl (Has.frozen al) rfl) (uv (Ad GD rfl) (uv (Al isAgg3 rfl (Has.own 0 rfl) rfl) ?_))
 obtain ⟨cp, cq⟩ := AV cn
 refine uv (A5 rfl rfl cp) (uv (Ad H4 rfl) (uv (Al isAgg3 rfl (Has.own 0 rfl) rfl) (uv (Ad J7 rfl) (uv (Al isAgg3 rfl (Has.own 0 rfl) rfl) ?_))))
 refine uv (BC (v := .agg #[.int .i64 (from_ + 1), .int .i64 aa, .int .i64 Bs]) rfl (by intro w; kernel_rfl)) ?_
 obtain ⟨n3, cr, ct, cu⟩ := CQ cq
 refine Fy (Lb := [(af, .map ad aj)]) (Lr := [(b1, ce #[.int .i64 from_, .int .i64 aa, .int .i64 Bs] 136)]) rfl call73 rfl rfl rfl (((fC fO).trans (pC pR))) (bc av ak ab ae au al ct) ?_; rintro _ cv _ ax cw cx ⟨bl, bm, rfl, rfl, bg⟩
 replace ak := ak.mono (Cz (n := 30) (sz := 1) DE) ax
 replace ab := ab.mono ax
 replace av := ax _ _ av
 replace ae := ax _ _ ae
 replace al := ax _ _ al
 refine AK (lb (ln rfl)) ?_
 refine ua (Aa ?_)
 obtain ⟨m, n4, cy, ca⟩ := CQ cu
 refine AX (fun e1 F1 L1 => ∃ (ay : Array MapEntry) (bh : Nat), AW cv F1 ∧ L1 = [(af, .map ay bh), (b1, ce #[.int .i64 from_, .int .i64 aa, .int .i64 Bs] 136)] ∧ e1.sub [(2, .pointer (some ⟨ah, 0, none⟩)), (4, .pointer (some ⟨b1, 0, none⟩)), (8, .int .i64 n4)] ∧ Eb (vA (cP (cI .i64) (cP (cI .i64) (cI .i64)))) (Value.int .i64) ay m) ?_ ?_
 ·clear ca
  refine dW (wv (Ad J7 rfl) (wv (Al isAgg3 rfl (Has.own 1 rfl) rfl) (wv (AM isAgg87 sizeOf87 rfl (Has.frozen av) (CE rfl) rfl) (wv (Ad GD rfl) (wv (Al isAgg3 rfl (Has.own 1 rfl) rfl) ?_)))))
  obtain ⟨n5, cz, cb⟩ := AO cy
  refine GS rfl call74 rfl rfl rfl (HL ak ab cz) (wv (SN rfl rfl) ?_)
  refine wa (YG (um ?_))
  refine uv (Ad J7 rfl) (uv (Al isAgg3 rfl (Has.own 1 rfl) rfl) (uv (B6 rfl rfl) (Aa ?_)))
  refine cQ (fun bn => ?_) fun bn => ?_
  ·have da := A2 cb bn
   refine Ak (um ?_)
   refine uv (Al isAgg134 rfl (Has.frozen al) rfl) (uv (Ad GD rfl) (uv (Al isAgg3 rfl (Has.own 1 rfl) rfl) ?_))
   obtain ⟨db, dd⟩ := AV da
   refine uv (A5 rfl rfl db) (uv (Ad H4 rfl) (uv (Al isAgg3 rfl (Has.own 1 rfl) rfl) ?_))
   obtain ⟨de, df⟩ := AV dd
   refine uv (FR rfl rfl de) (um ?_)
   refine uv (BC (v := .agg #[.int .i64 (from_ + 1), .int .i64 (aa - 1), .int .i64 (LR Bs n5)]) rfl (by intro w; kernel_rfl)) ?_
   obtain ⟨n6, dg, dh, di⟩ := CQ df
   refine cG call73 (bc av ak ab ae bg al dh) ?_; rintro _ dw _ bo dk dm ⟨bp, bq, rfl, rfl, br⟩
   refine AK (lb (ln rfl)) (uv (Nt rfl rfl) ?_)
   refine ua (Aa ?_)
   obtain ⟨rfl, rfl⟩ := CP di
   exact mi kr ⟨bp, bq, bo, rfl, z3, br⟩
  have dn := A1 cb bn
  refine An ?_
  obtain ⟨rfl, rfl⟩ := CP dn
  exact mi kr ⟨bl, bm, AW.refl _, rfl, z3, bg⟩
 rintro e1 dx _ ⟨ay, bh, bu, rfl, bw, bx⟩
 refine AD _ bw ?_
 replace ae := bu _ _ ae
 refine AP (uv (Al isAgg133 rfl (Has.frozen ae) rfl) (uv (AM isAgg136 sizeOf136 rfl (Has.own 1 rfl) (CE rfl) rfl) (um ?_)))
 refine Lu (i := 0) (k := (from_, aa, Bs)) (v := n4) underlying133 To rfl rfl rfl rfl (show Eb (vA (cP (cI .i64) (cP (cI .i64) (cI .i64)))) (Value.int .i64) ay (m : List ((Int × Int × Int) × Int)) from bx) ?_; intro dp dq bj
 obtain ⟨dr, dt, du⟩ := CT ca
 rw [← dt] at bj
 refine AK rfl ?_
 refine Cj (um (ua (Aa ?_)))
 refine kW (kc kn) (Ap (C9 results73 ?_))
 obtain ⟨rfl, rfl⟩ := CP du
 exact ⟨_, _, rfl, rfl, bj⟩
theorem FO : ∀ (fu : Nat) {from_ ah Bs : Int} {ao : Nat} {GG : Option Addr} {GM : Nat} {D3 : List (List Bool)} {Fz : FuncId} {FB FA : Array Value} {count : Int → Option Int} {aq : Nat × Nat} {ab ad : Nat} {ae : Array MapEntry} {ai : Nat} {met : List ((Int × Int × Int) × Int)} {aj : Nat × Nat} {ak : Nat} {al : Nat × Nat} {F : FS} (_ : F ao = some (.cells #[.slice GG D3.length GM, .func (.func Fz) FB FA] 87 aq)) (_ : AF 30 (Kf 30 cB) F GG GM D3) (_ : KM Tryz.prog F Fz FB FA (iE .i64) (Value.int .i64) count) (_ : F ab = some (.cells #[.map (some ad)] 133 aj)) (_ : Eb (vA (cP (cI .i64) (cP (cI .i64) (cI .i64)))) (Value.int .i64) ae met) (_ : F ak = some (.cells (#[.func (.func 73) #[] #[.pointer (some ⟨ao, 0, none⟩), .pointer (some ⟨ab, 0, none⟩), .pointer (some ⟨ak, 0, none⟩)]]) 134 al)) {r : Int} {r2 : List ((Int × Int × Int) × Int)} , BA fu from_ ah Bs D3 count met = some (r, r2) → SH.Spec Tryz.prog 73 #[.agg #[.int .i64 from_, .int .i64 ah, .int .i64 Bs], .pointer (some ⟨ao, 0, none⟩), .pointer (some ⟨ab, 0, none⟩), .pointer (some ⟨ak, 0, none⟩)] F [(ad, .map ae ai)] fun _ L' v => ∃ (aa : Array MapEntry) (af : Nat), v = .int .i64 r ∧ L' = [(ad, .map aa af)] ∧ Eb (vA (cP (cI .i64) (cP (cI .i64) (cI .i64)))) (Value.int .i64) aa r2 := by
  intro fu
  induction fu with
  | zero => intros; rename_i hr; rw [BA] at hr; cases hr
  | succ fu ih => intros; rename_i hr; rw [BA] at hr; exact JE ih (by assumption) (by assumption) (by assumption) (by assumption) (by assumption) (by assumption) hr
set_option maxHeartbeats 1000000 in
theorem KO {most : Int} (ad : AF 30 (Kf 30 cB) F GG GM D3) (aa : KM Tryz.prog F Fz FB FA (iE .i64) (Value.int .i64) count) {r : List Int} {r2 : Int} (hr : EN D3 count most = some (r, r2)) :
    SH.Spec Tryz.prog 39 #[.agg #[.slice GG D3.length GM, .func (.func Fz) FB FA], .int .i64 most] F [] fun F' L' v => ∃ (ra : Option Addr) (rn : Nat) (rc : Nat) (rL : LH), v = .tuple #[.slice ra rn rc, .int .i64 r2] ∧ L' = rL ++ [] ∧ AT 0 3 1 (iE .i64) F' ra rn rc r rL := by
 refine sp func39 ntmps39 fun K _ _ => ?_
 rw [EN] at hr
 refine AP ?_
 refine BK rfl rfl ?_; intro b1 gw
 refine ua (ua (Cj ?_))
 refine LC rfl ?_; intro b2 jb
 refine Br rfl zeroValue133 ?_; intro b3 gz
 refine CS (i := 0) sizeOf133 rfl rfl rfl rfl (CE rfl) (AK rfl (Cj ?_))
 refine Br rfl zeroValue134 ?_; intro b4 ia
 refine Cj (uv (DO rfl rfl) (CS (i := 0) sizeOf134 rfl rfl rfl rfl (CE rfl) (AK rfl ?_)))
 refine Cj (um ?_)
 refine uv (Ad JB rfl) (uv (Al isAgg85 rfl (Has.own 3 rfl) rfl) (uv (A3 underlying85 rfl) ?_))
 refine bA (cs := #[.int .i64 (D3.length : Int)]) BX [.int .i64 (D3.length : Int)] ?_; intro b5 ib
 refine BP 0 rfl ib ?_; intro F6 ga ic
 refine AK rfl ?_
 replace ad := ad.mono (Cz (n := 30) (sz := 1) DE) ga
 replace aa := aa.mono ga
 have h9 : AF 1 (iE .i64) F6 (some ⟨b5, 0, none⟩) 1 [(D3.length : Int)] := AF.CV (Ab _) (vss := [[.int .i64 (D3.length : Int)]]) (xs := [(D3.length : Int)]) ic (.cons rfl .nil) rfl (by simp [maxLen])
 obtain ⟨n, ie, ig⟩ := AO hr
 refine cV call75 (QX h9 ie) ?_
 refine ua (Cj ?_)
 refine uv (Al isAgg134 rfl (Has.own 0 rfl) rfl) (um ?_)
 refine uv (BC (v := .agg #[.int .i64 0, .int .i64 n, .int .i64 0]) rfl (by intro w; kernel_rfl)) ?_
 refine BP 3 rfl gw ?_; intro jc cn ai
 refine AK rfl ?_
 replace ad := ad.mono (Cz (n := 30) (sz := 1) DE) cn
 replace aa := aa.mono cn
 refine BP 1 rfl gz ?_; intro jd bu ak
 refine AK rfl ?_
 replace ad := ad.mono (Cz (n := 30) (sz := 1) DE) bu
 replace aa := aa.mono bu
 replace ai := bu _ _ ai
 refine BP 0 rfl ia ?_; intro je bh al
 refine AK rfl ?_
 replace ad := ad.mono (Cz (n := 30) (sz := 1) DE) bh
 replace aa := aa.mono bh
 replace ai := bh _ _ ai
 replace ak := bh _ _ ak
 obtain ⟨n2, met, ij, ik⟩ := CQ ig
 refine cG call73 ((FO FU) ai ad aa ak Eb.nil al ij) ?_; rintro _ gb _ bb il im ⟨di, dk, rfl, rfl, dm⟩
 replace ad := ad.mono (Cz (n := 30) (sz := 1) DE) bb
 replace aa := aa.mono bb
 replace ai := bb _ _ ai
 replace ak := bb _ _ ak
 replace al := bb _ _ al
 refine AK (lb (ln rfl)) ?_
 refine ua (Cj ?_)
 refine uv (BC (v := .agg #[.int .i64 0, .int .i64 0, .int .i64 0]) rfl (by intro w; kernel_rfl)) ?_
 refine Br rfl zeroValue136 ?_; intro au iq
 refine By (i := 0) sizeOf136 rfl rfl rfl (by simp [Value.oneCell']) rfl (CE rfl) (AK rfl (Aa ?_))
 obtain ⟨m, ax, ir, gg⟩ := CQ ik
 refine AX (fun e1 F1 L1 => ∃ (bj : Array MapEntry) (bw : Nat), AW gb F1 ∧ L1 = [(b2, .map bj bw), (au, ce #[.int .i64 0, .int .i64 ax, .int .i64 0] 136)] ∧ e1.sub [(2, .pointer (some ⟨b1, 0, none⟩)), (7, .pointer (some ⟨b4, 0, none⟩)), (8, .int .i64 n2), (9, .pointer (some ⟨au, 0, none⟩))] ∧ Eb (vA (cP (cI .i64) (cP (cI .i64) (cI .i64)))) (Value.int .i64) bj m) ?_ ?_
 ·clear gg
  refine Am ?_
  refine Bg (fun dd e1 F1 L1 => ∃ (m2 : List ((Int × Int × Int) × Int)) (aj : Int) (bk : Array MapEntry) (bx : Nat), Cs D3 count n2 dd m2 aj = some (m, ax) ∧ AW gb F1 ∧ L1 = [(au, ce #[.int .i64 0, .int .i64 aj, .int .i64 0] 136), (b2, .map bk bx)] ∧ e1.sub [(2, .pointer (some ⟨b1, 0, none⟩)), (7, .pointer (some ⟨b4, 0, none⟩)), (8, .int .i64 n2), (9, .pointer (some ⟨au, 0, none⟩))] ∧ Eb (vA (cP (cI .i64) (cP (cI .i64) (cI .i64)))) (Value.int .i64) bk m2) FU (m0 kr ⟨met, 0, di, dk, ir, AW.refl _, rfl, z4, dm⟩) ?_
  rintro dd e1 jf _ ⟨m2, aj, bk, bx, de, ay, rfl, dn, dp⟩
  refine AD _ dn ?_
  replace ad := ad.mono (Cz (n := 30) (sz := 1) DE) ay
  replace aa := aa.mono ay
  replace ai := ay _ _ ai
  replace ak := ay _ _ ak
  replace al := ay _ _ al
  rcases dd with _ | dd
  ·rw [Cs] at de; cases de
  rw [Cs] at de
  refine Aq (AP ?_)
  refine uv (Al isAgg134 rfl (Has.frozen al) rfl) (uv (Ad H4 rfl) (uv (Al isAgg3 rfl (Has.own 0 rfl) rfl) ?_))
  refine uv (BC (v := .agg #[.int .i64 0, .int .i64 aj, .int .i64 0]) rfl (by intro w; kernel_rfl)) ?_
  obtain ⟨n3, dq, iu, gh⟩ := CQ de
  refine Fy (Lb := [(b2, .map bk bx)]) (Lr := [(au, ce #[.int .i64 0, .int .i64 aj, .int .i64 0] 136)]) rfl call73 rfl rfl rfl (((fC fO).trans (pC pR))) ((FO FU) ai ad aa ak dp al iu) ?_; rintro _ jg _ cp iv iw ⟨cq, cr, rfl, rfl, ct⟩
  refine AK (lb (ln rfl)) (um (uv (A8 rfl rfl) (Aa ?_)))
  refine cQ (fun dr => ?_) fun dr => ?_
  ·have iy := A2 gh dr
   refine An (Am (Ak (uv (Ad H4 rfl) (uv (Al isAgg3 rfl (Has.own 1 rfl) rfl) ?_))))
   obtain ⟨iz, j0⟩ := AV iy
   refine uv (A5 rfl rfl iz) (uv (Ad H4 rfl) (CS (i := 1) sizeOf3 rfl rfl rfl rfl (CE rfl) (AK rfl ?_)))
   refine Aa (Az (id := 1) ?_)
   exact le (kf (fC fO) kr) ⟨dq, aj + 1, cq, cr, j0, (ay.trans cp), rfl, z4, ct⟩
  have j3 := A1 gh dr
  refine AS (Ae (Ae ?_))
  refine AA ?_
  obtain ⟨rfl, rfl⟩ := CP j3
  exact mi kr ⟨cq, cr, (ay.trans cp), rfl, z4, ct⟩
 rintro e1 gk _ ⟨bj, bw, bc, rfl, dt, du⟩
 refine AD _ dt ?_
 replace ad := ad.mono (Cz (n := 30) (sz := 1) DE) bc
 replace aa := aa.mono bc
 replace ai := bc _ _ ai
 replace ak := bc _ _ ak
 replace al := bc _ _ al
 refine AP (ua (Aa ?_))
 obtain ⟨out, j4, gl⟩ := AO gg
 refine AX (fun e1 F1 L1 => ∃ (dv : Option Addr) (dw : Nat) (dx : Nat) (bz : LH), AW gk F1 ∧ L1 = (bz ++ []) ∧ e1.sub [(8, .int .i64 n2), (10, .slice dv dw dx)] ∧ AT K.w0.heap.size 3 1 (iE .i64) F1 dv dw dx out bz) ?_ ?_
 ·clear gl
  refine Am ?_
  refine Bg (fun df e1 F1 L1 => ∃ (m3 : List ((Int × Int × Int) × Int)) (av : Int) (ab : Int) (af : Int) (bl : List Int) (bm : Array MapEntry) (ca : Nat) (cf : Option Addr) (cg : Nat) (cj : Nat) (ba : LH), B9 D3 count n2 df m3 av ab af bl = some out ∧ AW gk F1 ∧ L1 = ((b2, .map bm ca) :: ((au, ce #[.int .i64 av, .int .i64 ab, .int .i64 af] 136) :: (ba ++ []))) ∧ e1.sub [(2, .pointer (some ⟨b1, 0, none⟩)), (7, .pointer (some ⟨b4, 0, none⟩)), (8, .int .i64 n2), (9, .pointer (some ⟨au, 0, none⟩)), (10, .slice cf cg cj)] ∧ Eb (vA (cP (cI .i64) (cP (cI .i64) (cI .i64)))) (Value.int .i64) bm m3 ∧ AT K.w0.heap.size 3 1 (iE .i64) F1 cf cg cj bl ba) FU (m0 (kc (kc (ke kr))) ⟨m, 0, ax, 0, [], bj, bw, none, 0, 0, [], j4, AW.refl _, rfl, z5, du, AT.nil _ _ _ _ _⟩) ?_
  rintro df e1 gm _ ⟨m3, av, ab, af, bl, bm, ca, cf, cg, cj, ba, cu, az, rfl, dy, dz, bn⟩
  refine AD _ dy ?_
  replace ad := ad.mono (Cz (n := 30) (sz := 1) DE) az
  replace aa := aa.mono az
  replace ai := az _ _ ai
  replace ak := az _ _ ak
  replace al := az _ _ al
  rcases df with _ | df
  ·rw [B9] at cu; cases cu
  rw [B9] at cu
  refine Aq (AP ?_)
  refine uv (Ad H4 rfl) (uv (Al isAgg3 rfl (Has.own 1 rfl) rfl) (uv (IF rfl rfl) (Aa ?_)))
  refine cQ (fun e9 => ?_) fun e9 => ?_
  ·have j5 := A2 cu e9
   refine An (Am ?_)
   obtain ⟨m4, ae, j6, gp⟩ := CQ j5
   refine AX (fun e1 F1 L1 => ∃ (bo : Array MapEntry) (cb : Nat), AW gm F1 ∧ L1 = ((b2, .map bo cb) :: ((au, ce #[.int .i64 ae, .int .i64 ab, .int .i64 af] 136) :: (ba ++ []))) ∧ e1.sub [(2, .pointer (some ⟨b1, 0, none⟩)), (7, .pointer (some ⟨b4, 0, none⟩)), (8, .int .i64 n2), (9, .pointer (some ⟨au, 0, none⟩)), (10, .slice cf cg cj)] ∧ Eb (vA (cP (cI .i64) (cP (cI .i64) (cI .i64)))) (Value.int .i64) bo m4) ?_ ?_
   ·clear gp
    refine Am ?_
    refine Bg (fun dg e1 F1 L1 => ∃ (m5 : List ((Int × Int × Int) × Int)) (ah : Int) (cc : Array MapEntry) (cv : Nat), CX D3 count n2 ab af dg m5 ah = some (m4, ae) ∧ AW gm F1 ∧ L1 = ((b2, .map cc cv) :: ((au, ce #[.int .i64 ah, .int .i64 ab, .int .i64 af] 136) :: (ba ++ []))) ∧ e1.sub [(2, .pointer (some ⟨b1, 0, none⟩)), (7, .pointer (some ⟨b4, 0, none⟩)), (8, .int .i64 n2), (9, .pointer (some ⟨au, 0, none⟩)), (10, .slice cf cg cj)] ∧ Eb (vA (cP (cI .i64) (cP (cI .i64) (cI .i64)))) (Value.int .i64) cc m5) FU (m0 kr ⟨m3, av, bm, ca, j6, AW.refl _, rfl, z5, dz⟩) ?_
    rintro dg e1 jh _ ⟨m5, ah, cc, cv, dh, ao, rfl, eg, eh⟩
    refine AD _ eg ?_
    replace ad := ad.mono (Cz (n := 30) (sz := 1) DE) ao
    replace aa := aa.mono ao
    replace ai := ao _ _ ai
    replace ak := ao _ _ ak
    replace al := ao _ _ al
    rcases dg with _ | dg
    ·rw [CX] at dh; cases dh
    rw [CX] at dh
    refine Aq (Aq ?_)
    refine C5 [(.still, 0), (.still, 1), (.still, 2), (.still, 3), (.still, 4), (.still, 5), (.still, 6), (.still, 7), (.still, 8), (.still, 9), (.still, 10), (.still, 11), (.still, 16), (.seq, 12), (.still, 13), (.still, 14), (.seq, 15), (.still, 17)] (by kernel_rfl) (by kernel_rfl) (trivial) (by rfl) (by kernel_rfl) (mL [7] ([]) rfl sm (fun H F' L' aq ar => Al isAgg134 rfl ((Has.frozen al).ext aq ar) rfl) (mS [9] rfl (Ad GD rfl) (mL [39] ([(au, ce #[.int .i64 ah, .int .i64 ab, .int .i64 af] 136)]) rfl (s0 (s1 (s2 (s3 sr)))) (fun H F' L' aq ar => Al isAgg3 rfl ((Has.own 0 rfl).ext aq ar) rfl) ?_)))
    obtain ⟨ej, eo⟩ := AV dh
    refine mS (v := .int .i64 (ah + 1)) [40] rfl (A5 rfl rfl ej) (mS [9] rfl (Ad H4 rfl) (mL [42] ([(au, ce #[.int .i64 ah, .int .i64 ab, .int .i64 af] 136)]) rfl (s0 (s1 (s2 (s3 sr)))) (fun H F' L' aq ar => Al isAgg3 rfl ((Has.own 0 rfl).ext aq ar) rfl) ?_))
    obtain ⟨er, et⟩ := AV eo
    refine mS (v := .int .i64 (ab - 1)) [43] rfl (FR rfl rfl er) (mS [9] rfl (Ad J7 rfl) (mL [45] ([(au, ce #[.int .i64 ah, .int .i64 ab, .int .i64 af] 136)]) rfl (s0 (s1 (s2 (s3 sr)))) (fun H F' L' aq ar => Al isAgg3 rfl ((Has.own 0 rfl).ext aq ar) rfl) (mL [2] ([]) rfl sm (fun H F' L' aq ar => AM isAgg87 sizeOf87 rfl ((Has.frozen ai).ext aq ar) (CE rfl) rfl) (mS [9] rfl (Ad GD rfl) (mL [48] ([(au, ce #[.int .i64 ah, .int .i64 ab, .int .i64 af] 136)]) rfl (s0 (s1 (s2 (s3 sr)))) (fun H F' L' aq ar => Al isAgg3 rfl ((Has.own 0 rfl).ext aq ar) rfl) (mS [8] rfl (Be rfl) ?_))))))
    refine ⟨_, [(47, .agg #[.slice GG D3.length GM, .func (.func Fz) FB FA]), (49, .int .i64 ah)], rfl, rfl, z2, by kernel_rfl, ?_⟩; intro H
    obtain ⟨n4, eu, ew⟩ := AO et
    refine cV call74 (HL ad aa eu) ?_
    refine Aa ⟨_, rfl, AW.refl _, [16, 8, 7, 6, 5, 4, 3, 2, 1, 0], by kernel_rfl, .inl (.inr (fun d h => by cases h; rfl)), (fc sm (fc (s0 (s1 (s2 (s3 sr)))) (fc sm (fc sm (fc (s0 (s1 (s2 (s3 sr)))) (fc sm (fc sm (fc (s0 (s1 (s2 (s3 sr)))) (fc sm (fc sm nm)))))))))), ?_⟩
    refine mS (v := .int .i64 (LR af n4)) [46, 50] rfl (SN rfl rfl) ?_
    refine mS (v := .agg #[.int .i64 (ah + 1), .int .i64 (ab - 1), .int .i64 (LR af n4)]) [41, 44, 51] rfl (BC (v := .agg #[.int .i64 (ah + 1), .int .i64 (ab - 1), .int .i64 (LR af n4)]) rfl (by intro w; kernel_rfl)) ?_
    refine ⟨_, [(38, .func (.func 73) #[] #[.pointer (some ⟨b1, 0, none⟩), .pointer (some ⟨b3, 0, none⟩), .pointer (some ⟨b4, 0, none⟩)]), (52, .agg #[.int .i64 (ah + 1), .int .i64 (ab - 1), .int .i64 (LR af n4)])], rfl, rfl, z2, by kernel_rfl, ?_⟩; intro H
    obtain ⟨n5, ey, fa, cw⟩ := CQ ew
    refine cG call73 ((FO FU) ai ad aa ak eh al fa) ?_; rintro _ j7 _ bg gq gr ⟨bp, bq, rfl, rfl, br⟩
    refine AK (lb (ln rfl)) ?_
    refine Aa ⟨_, rfl, bg, [16], by kernel_rfl, .inl (.inr (fun d h => by cases h; rfl)), (fc sm nm), ?_⟩
    refine mS (v := .bool (decide (n5 < n2))) [53, 54] rfl (A8 rfl rfl) (Ef ?_)
    refine cQ (fun cd => ?_) fun cd => ?_
    ·have fb := A2 cw cd
     refine An (Am (Ak (uv (Ad GD rfl) (uv (Al isAgg3 rfl (Has.own 1 rfl) rfl) ?_))))
     obtain ⟨fe, ff⟩ := AV fb
     refine uv (A5 rfl rfl fe) (uv (Ad GD rfl) (CS (i := 1) sizeOf3 rfl rfl rfl rfl (CE rfl) (AK rfl ?_)))
     refine Aa (Az (id := 5) ?_)
     exact le kr ⟨ey, ah + 1, bp, bq, ff, (ao.trans bg), rfl, z5, br⟩
    have fg := A1 cw cd
    refine AS (Ae (Ae ?_))
    refine AA ?_
    obtain ⟨rfl, rfl⟩ := CP fg
    exact mi kr ⟨bp, bq, (ao.trans bg), rfl, z5, br⟩
   rintro e1 j8 _ ⟨bo, cb, aw, rfl, cx, fh⟩
   refine AD _ cx ?_
   replace ad := ad.mono (Cz (n := 30) (sz := 1) DE) aw
   replace aa := aa.mono aw
   replace bn := bn.mono (Ab _) aw
   replace ai := aw _ _ ai
   refine AP (um ?_)
   refine uv (Ad GD rfl) (uv (Al isAgg3 rfl (Has.own 1 rfl) rfl) ?_)
   refine bA (cs := #[.int .i64 ae]) BX [.int .i64 ae] ?_; intro j9 gu
   obtain ⟨cy, fi, fj, fk⟩ := FQ gp
   refine EA (xs := bl) (ys := [ae]) (zs := cy) rfl BX rfl rfl (Nat.le_refl _) (fun _ => .c (.c (.c .h))) bn (Gk.box (vss := [[.int .i64 ae]]) (ys := [ae]) 0 rfl (Ab _) (.cons rfl .nil) rfl rfl) fi fj (by decide) ?_; intro fl fm fo cz da
   refine kO (kd kr) ?_
   refine ua (Aa ?_)
   refine C5 [(.still, 0), (.still, 1), (.still, 2), (.still, 3), (.still, 4), (.still, 5), (.still, 6), (.still, 7), (.still, 8), (.still, 9), (.still, 10), (.seq, 11), (.still, 12), (.still, 13), (.seq, 14)] (by kernel_rfl) (by kernel_rfl) (trivial) (by rfl) (by kernel_rfl) (mS [9] rfl (Ad GD rfl) (mL [65] ([(au, ce #[.int .i64 ae, .int .i64 ab, .int .i64 af] 136)]) rfl (s0 (s1 (s2 (s3 sr)))) (fun H F' L' aq ar => Al isAgg3 rfl ((Has.own 0 rfl).ext aq ar) rfl) ?_))
   obtain ⟨fp, fq⟩ := AV fk
   refine mS (v := .int .i64 (ae + 1)) [66] rfl (A5 rfl rfl fp) (mS [9] rfl (Ad H4 rfl) (mL [68] ([(au, ce #[.int .i64 ae, .int .i64 ab, .int .i64 af] 136)]) rfl (s0 (s1 (s2 (s3 sr)))) (fun H F' L' aq ar => Al isAgg3 rfl ((Has.own 0 rfl).ext aq ar) rfl) ?_))
   obtain ⟨fs, ft⟩ := AV fq
   refine mS (v := .int .i64 (ab - 1)) [69] rfl (FR rfl rfl fs) (mS [9] rfl (Ad J7 rfl) (mL [71] ([(au, ce #[.int .i64 ae, .int .i64 ab, .int .i64 af] 136)]) rfl (s0 (s1 (s2 (s3 sr)))) (fun H F' L' aq ar => Al isAgg3 rfl ((Has.own 0 rfl).ext aq ar) rfl) (mL [2] ([]) rfl sm (fun H F' L' aq ar => AM isAgg87 sizeOf87 rfl ((Has.frozen ai).ext aq ar) (CE rfl) rfl) (mS [9] rfl (Ad GD rfl) (mL [74] ([(au, ce #[.int .i64 ae, .int .i64 ab, .int .i64 af] 136)]) rfl (s0 (s1 (s2 (s3 sr)))) (fun H F' L' aq ar => Al isAgg3 rfl ((Has.own 0 rfl).ext aq ar) rfl) ?_)))))
   refine ⟨_, [(73, .agg #[.slice GG D3.length GM, .func (.func Fz) FB FA]), (75, .int .i64 ae)], rfl, rfl, z2, by kernel_rfl, ?_⟩; intro H
   obtain ⟨n6, fv, fw⟩ := AO ft
   refine cV call74 (HL ad aa fv) ?_
   refine Aa ⟨_, rfl, AW.refl _, [7, 6, 5, 4, 3, 2, 1, 0], by kernel_rfl, .inl (.inr (fun d h => by cases h; rfl)), (fc (s0 (s1 (s2 (s3 sr)))) (fc sm (fc sm (fc (s0 (s1 (s2 (s3 sr)))) (fc sm (fc sm (fc (s0 (s1 (s2 (s3 sr)))) (fc sm nm)))))))), ?_⟩
   refine mS (v := .int .i64 (LR af n6)) [72, 76] rfl (SN rfl rfl) ?_
   refine mS (v := .agg #[.int .i64 (ae + 1), .int .i64 (ab - 1), .int .i64 (LR af n6)]) [67, 70, 77] rfl (BC (v := .agg #[.int .i64 (ae + 1), .int .i64 (ab - 1), .int .i64 (LR af n6)]) rfl (by intro w; kernel_rfl)) ?_
   refine ⟨_, [(9, .pointer (some ⟨au, 0, none⟩)), (78, .agg #[.int .i64 (ae + 1), .int .i64 (ab - 1), .int .i64 (LR af n6)])], rfl, rfl, z2, by kernel_rfl, ?_⟩; intro H
   refine By (i := 1) sizeOf136 rfl rfl rfl (by simp [Value.oneCell']) rfl (CE rfl) (AK rfl ?_)
   refine Aa ⟨undef, rfl, AW.refl _, [], by kernel_rfl, .inl (.inl rfl), nm, ?_⟩
   refine Ef (Az (id := 3) ?_)
   exact le kr ⟨m4, ae + 1, ab - 1, LR af n6, cy, bo, cb, fl, fm, fo, cz, fw, (az.trans aw), rfl, z5, fh, da⟩
  have fx := A1 cu e9
  refine AS (Ae (Ae ?_))
  refine AA ?_
  obtain rfl := AR fx
  exact mi (kd (kd kr)) ⟨cf, cg, cj, ba, az, rfl, z2, bn⟩
 rintro e1 ja _ ⟨dv, dw, dx, bz, gv, rfl, db, fy⟩
 refine AD _ db ?_
 refine AP (um (um (ua (ua (Aa (Ap ?_))))))
 refine BU results39 (AH rfl) (AH rfl) (sr) ?_
 obtain ⟨rfl, rfl⟩ := CP gl
 exact ⟨_, _, _, _, rfl, rfl, fy.any⟩
set_option maxHeartbeats 1000000 in
theorem PA {Af : List Int} (ah : AF 1 (iE .i64) F Bb Bc plots) (ad : AF 1 (iE .i64) F HX H2 Af) {r : List Int} {r2 : Int} (hr : FT wide plots DI Cf Af = some (r, r2)) :
    SH.Spec Tryz.prog 13 #[.agg #[.int .i64 wide, .slice Bb plots.length Bc], .agg #[.int .i64 DI, .int .i64 Cf], .slice HX Af.length H2] F [] fun F' L' v => ∃ (ra : Option Addr) (rn : Nat) (rc : Nat) (rL : LH), v = .tuple #[.slice ra rn rc, .int .i64 r2] ∧ L' = rL ++ [] ∧ AT 0 3 1 (iE .i64) F' ra rn rc r rL := by
 refine sp func13 ntmps13 fun K _ _ => ?_
 rw [FT] at hr
 refine AP ?_
 refine BK rfl rfl ?_; intro b1 cz
 refine BK rfl rfl ?_; intro b2 da
 refine ua (ua (Cj ?_))
 refine uv (AM isAgg27 sizeOf27 rfl (Has.own 1 rfl) (CE rfl) rfl) (uv (AM isAgg31 sizeOf31 rfl (Has.own 0 rfl) (CE rfl) rfl) (um ?_))
 obtain ⟨l, y, n, h3, r4⟩ := EZ hr
 refine c0 call35 (Q0 ah ad h3) ?_; rintro _ F5 _ db bm ⟨a9, aq, ar, ai, dd, rfl, rfl, aa, ak⟩
 replace aa := aa.new fun p hp => bm p (by simp [hp])
 refine AK (lp (ln rfl)) (kO (kf (fS fO) (kf (fS fO) kr)) ?_)
 refine um (ox rfl rfl rfl (ox rfl rfl rfl ?_))
 refine Br rfl zeroValue87 ?_; intro ao bn
 refine By (i := 0) sizeOf87 rfl rfl rfl (fc rfl (fc (ak.1) nm)) rfl (CE rfl) (AK rfl ?_)
 refine ua (Aa (Aq ?_))
 refine Am ?_
 refine AP (um ?_)
 refine uv (B6 rfl rfl) ?_
 refine ua (Aa ?_)
 refine cQ (fun au => ?_) fun au => ?_
 ·have bo := A2 r4 au
  refine AP (um (ua (ua (Aa ?_))))
  refine kW kn ?_
  refine Ap (AE (Aj ?_))
  refine BU results13 (AH rfl) (AH rfl) (sr) ?_
  obtain ⟨rfl, rfl⟩ := CP bo
  exact ⟨_, _, _, [], rfl, rfl, AT.nil _ _ _ _ _⟩
 have bp := A1 r4 au
 refine AP (uv (AM isAgg87 sizeOf87 rfl (Has.own 0 rfl) (CE rfl) rfl) ?_)
 obtain ⟨bq, br⟩ := AV bp
 obtain rfl := ak.2 bq
 have ab : KM Tryz.prog F5 71 #[] #[] (iE .i64) (Value.int .i64) (fun bk : Int => HB bk) := ⟨call71, fun F2 h2 vs bk r ha hr => by obtain rfl := ha; exact R2 hr⟩
 obtain ⟨ok, bu, bl⟩ := AO br
 refine GR (Lt := ai ++ []) (Lr := [(ao, ce (#[.slice a9 aq ar, .func (.func 71) #[] #[]]) 87), (b2, ce #[.int .i64 DI, .int .i64 Cf] 31), (b1, ce #[.int .i64 wide, .slice Bb plots.length Bc] 27)]) rfl call36 rfl rfl rfl (pT ((fC (fC (fC fP))).trans (pA pR)) (lp (ln rfl))) (fun F2 h2 h3 => by rw [(AT.C4 aa).1]; exact LS (aa.row (Cz (n := 30) (sz := 1) DE) h2 (fun p hp => h3 p (List.mem_append_left _ hp))) (ab.mono h2) bu) ?_
 refine ua (Aa ?_)
 refine AY rfl (fun av => ?_) (fun av => ?_)
 ·have bw := bt bl av
  refine AP (ua (ua (Aa ?_)))
  refine kW kn ?_
  refine Ap (AE (Aj ?_))
  refine BU results13 (AH rfl) (AH rfl) (sr) ?_
  obtain ⟨rfl, rfl⟩ := CP bw
  exact ⟨_, _, _, [], rfl, rfl, AT.nil _ _ _ _ _⟩
 have bx := bf bl av
 refine An (Az (id := 0) (AP ?_))
 refine uv (Ad JB rfl) (uv (Al isAgg85 rfl (Has.own 0 rfl) rfl) ?_)
 obtain ⟨l2, bz, ca⟩ := AO bx
 refine Gb (Lb := []) (Lt := ai ++ []) (Lr := [(ao, ce (#[.slice a9 aq ar, .func (.func 71) #[] #[]]) 87), (b2, ce #[.int .i64 DI, .int .i64 Cf] 31), (b1, ce #[.int .i64 wide, .slice Bb plots.length Bc] 27)]) rfl call38 rfl rfl rfl (pT ((fC (fC (fC fP))).trans (pA pR)) (ln (lp (ln rfl)))) (fun F2 h2 h3 => by rw [(AT.C4 aa).1]; exact Hn (aa.row (Cz (n := 30) (sz := 1) DE) h2 (fun p hp => h3 p (List.mem_append_left _ hp))) bz) (fun _ _ _ _ hq => by obtain ⟨cb, cc, cd, al, rfl, rfl, ae⟩ := hq; exact ⟨_, _, _, _, rfl, rfl, ae.flat (fun _ _ h => h)⟩) ?_; rintro _ de _ aw ax ay ⟨cb, cc, cd, al, rfl, rfl, ae⟩
 replace ab := ab.mono aw
 have az := MR (Lb' := []) (by rfl) ax ay
 replace ae := ae.new fun p hp => az p (by simp [hp])
 refine AK (lp (ln (lp (ln rfl)))) (kO (kf (fS (fS fO)) (kf (fS (fS fO)) (kf (fS (fS fO)) kr))) ?_)
 obtain ⟨l3, cf, cg⟩ := AO ca
 refine Fy (Lb := al ++ []) (Lr := (ao, ce (#[.slice a9 aq ar, .func (.func 71) #[] #[]]) 87) :: ((b2, ce #[.int .i64 DI, .int .i64 Cf] 31) :: ((b1, ce #[.int .i64 wide, .slice Bb plots.length Bc] 27) :: (ai ++ [])))) rfl call37 rfl rfl rfl (pT ((fC (fC (fC fP))).trans (pA pR)) (lp (ln rfl))) (G5 ae cf) ?_; rintro _ df _ ba cj cn ⟨cp, cq, cr, bb, rfl, rfl, aj⟩
 replace ab := ab.mono ba
 refine AK (lp (ln rfl)) (kO (kf (fS fO) (kf (fS fO) (kf (fS fO) kr))) (uv (Ad JB rfl) (CS (i := 0) sizeOf85 rfl rfl rfl rfl (CE rfl) (AK rfl (Cj (uv (AM isAgg87 sizeOf87 rfl (Has.own 0 rfl) (CE rfl) rfl) (uv (Ad JB rfl) ?_)))))))
 refine uv (Al isAgg85 rfl (Has.own 0 rfl) rfl) (uv ((A3 underlying85 rfl).i (AT.Hc aj)) ?_)
 obtain ⟨l4, n2, ct, cu⟩ := CQ cg
 refine Gb (Lb := []) (Lt := bb ++ []) (Lr := (ao, ce (#[.slice cp cq cr, .func (.func 71) #[] #[]]) 87) :: ((b2, ce #[.int .i64 DI, .int .i64 Cf] 31) :: ((b1, ce #[.int .i64 wide, .slice Bb plots.length Bc] 27) :: (ai ++ [])))) rfl call39 rfl rfl rfl (pT ((fC (fC (fC fP))).trans (pA pR)) (ln (lp (ln rfl)))) (fun F2 h2 h3 => by rw [(AT.C4 aj).1]; exact KO (aj.row (Cz (n := 30) (sz := 1) DE) h2 (fun p hp => h3 p (List.mem_append_left _ hp))) (ab.mono h2) ct) (fun _ _ _ _ hq => by obtain ⟨cv, cw, cx, bc, rfl, rfl, af⟩ := hq; exact ⟨_, _, _, _, rfl, rfl, af.flat (fun _ _ h => h)⟩) ?_; rintro _ dg _ cy bg bh ⟨cv, cw, cx, bc, rfl, rfl, af⟩
 have bj := MR (Lb' := []) (by rfl) bg bh
 replace af := af.new fun p hp => bj p (by simp [hp])
 refine AK (lp (ln (lp (ln rfl)))) (kO (kf (fS (fS fO)) (kf (fS (fS fO)) (kf (fS (fS fO)) kr))) ?_)
 refine um (ox rfl rfl rfl (ox rfl rfl rfl (ua (ua (Cj (um (ua (ua (Aa ?_)))))))))
 refine kW (kd (kd (kd (ka kn)))) (Ap (BU results13 (AH rfl) (AH rfl) (sr) ?_))
 obtain ⟨rfl, rfl⟩ := CP cu
 exact ⟨_, _, _, _, rfl, rfl, af.any⟩
set_option maxHeartbeats 1000000 in
theorem Sj (aa : AF 1 (iE .i64) F Bb Bc plots) {r : List Int} {r2 : Int} (hr : JN wide plots DI Cf = some (r, r2)) :
    SH.Spec Tryz.prog 14 #[.agg #[.int .i64 wide, .slice Bb plots.length Bc], .agg #[.int .i64 DI, .int .i64 Cf]] F [] fun F' L' v => ∃ (ra : Option Addr) (rn : Nat) (rc : Nat) (rL : LH), v = .tuple #[.slice ra rn rc, .int .i64 r2] ∧ L' = rL ++ [] ∧ AT 0 3 1 (iE .i64) F' ra rn rc r rL := by
 refine sp func14 ntmps14 fun K _ _ => ?_
 rw [JN] at hr
 refine AP ?_
 refine BK rfl rfl ?_; intro b1 dp
 refine BK rfl rfl ?_; intro b2 dq
 refine ua (ua (Cj ?_))
 refine uv (AM isAgg27 sizeOf27 rfl (Has.own 1 rfl) (CE rfl) rfl) (uv (AM isAgg31 sizeOf31 rfl (Has.own 0 rfl) (CE rfl) rfl) ?_)
 obtain ⟨l, n, h3, r4⟩ := CQ hr
 refine c0 call40 (Km aa h3) ?_; rintro _ F5 _ cp cq ⟨a9, ca, cb, af, rfl, rfl, ah⟩
 replace aa := aa.mono (Ab _) cp
 replace ah := ah.new fun p hp => cq p (by simp [hp])
 refine AK (lp (ln rfl)) (kO (kf (fS fO) (kf (fS fO) kr)) ?_)
 refine um (ox rfl rfl rfl (ox rfl rfl rfl (ua (ua (Aa (Aq (AP (um ?_))))))))
 refine uv (B6 rfl rfl) (Aa ?_)
 refine cQ (fun ay => ?_) fun ay => ?_
 ·have cr := A2 r4 ay
  refine AP (um (ua (ua (Aa ?_))))
  refine kW kn ?_
  refine Ap (Aj ?_)
  refine BU results14 (AH rfl) (AH rfl) (sr) ?_
  obtain ⟨rfl, rfl⟩ := CP cr
  exact ⟨_, _, _, [], rfl, rfl, AT.nil _ _ _ _ _⟩
 have ct := A1 r4 ay
 refine An (AP (ua (Aa ?_)))
 obtain ⟨out, cu, cc⟩ := AO ct
 refine AX (fun e1 F1 L1 => ∃ (az : Option Addr) (ba : Nat) (bb : Nat) (ak : LH), F5 = F1 ∧ L1 = (ak ++ []) ∧ e1.sub [(8, .slice az ba bb)] ∧ AT K.w0.heap.size 3 1 (iE .i64) F1 az ba bb out ak) ?_ ?_
 ·clear cc
  refine AP (uv (Ad Em rfl) (uv (Al isAgg25 rfl (Has.own 1 rfl) rfl) (uv (A3 underlying25 rfl) ?_)))
  refine um (Aa ?_)
  refine Am (kW (kd (kd kr)) ?_)
  refine Bg (fun cd e1 F1 L1 => LA plots cd fun tl k => ∃ (ae : List Int) (ao : Option Addr) (RD : Nat) (aq : Nat) (ab : LH), EO l tl k ae = some out ∧ F5 = F1 ∧ L1 = (af ++ (ab ++ [])) ∧ e1.sub [(6, .slice a9 ca cb), (8, .slice ao RD aq), (21, .slice Bb plots.length Bc), (22, .int .i64 (plots.length : Int)), (23, .int .i64 k)] ∧ AT K.w0.heap.size 3 1 (iE .i64) F1 ao RD aq ae ab) _ (m0 (ka (ke kr)) ⟨_, _, rfl, BT.start _, [], none, 0, 0, [], cu, rfl, rfl, z5, AT.nil _ _ _ _ _⟩) ?_
  rintro cd e1 _ _ ⟨tl, k, ar, ai, ae, ao, RD, aq, ab, ax, rfl, rfl, bc, al⟩
  refine AD _ bc (AP (uv (A8 rfl rfl) ?_))
  refine Aa (Aq ?_)
  refine cQ (fun au => ?_) fun au => ?_
  ·obtain ⟨x, dr, rfl, bg, cf, av⟩ := BT.succ ai au
   rw [EO] at ax
   refine An (Aq ?_)
   refine Am ?_
   refine AP (um ?_)
   obtain ⟨dt, du, dv, cv, bh, bj, cg, rfl, cw, bk⟩ := AF.at (Ab _) aa (af ++ (ab ++ [])) cf.1 bg
   refine uv (AI underlying25 sizeOf34 rfl bh rfl cf) (uv (Al isAgg34 rfl bj (bk 0 (by decide))) ?_)
   refine ua (ua (Aa ?_))
   obtain ⟨k2, cj, bl⟩ := AO ax
   refine jE ((af ++ (ab ++ []))) [(6, .slice a9 ca cb), (8, .slice ao RD aq), (9, .int .i64 k), (21, .slice Bb plots.length Bc), (22, .int .i64 (plots.length : Int)), (23, .int .i64 k), (37, .bool k2)] ?_ ?_
   ·clear bl
    refine Ak (um ?_)
    refine uv (DY rfl rfl) (um ?_)
    by_cases ad : x = 1
    ·have cx := A2 cj ad
     refine nT ad (um (nT ad (um (nT ad ?_))))
     obtain ⟨x2, cn, bm, cy⟩ := BH cx
     obtain ⟨dw, dx, dy, cz, bn, bo, aj, ⟨rfl, da⟩, bp, bq⟩ := AT.at (Cz (n := 30) (sz := 1) DE) ah (L := af ++ (ab ++ [])) fP cn.1 bm
     refine uv (AI underlying85 sizeOf92 rfl bn rfl (AT.idx ah cn)) (nT ad (uv (AM isAgg92 sizeOf92 rfl bo aj (Bh aj bp bq)) (nT ad ?_)))
     refine uv (BC (v := .agg (arr cB (List.replicate 30 false))) rfl (by intro w; kernel_rfl)) ?_
     refine nT ad (uv (OG (QG _ _ _ _) (S2 da List.length_replicate) rfl rfl) (uv (AQ (Bd rfl ad) rfl) (Aa ?_)))
     obtain rfl := AR cy
     exact mi kr ⟨rfl, rfl, z7⟩
    have db := A1 cj ad
    refine fF ad (fF ad (fF ad (fF ad (fF ad (fF ad ?_)))))
    refine uv (AL (A4 rfl ad) rfl) (Aa ?_)
    obtain rfl := AR db
    exact mi kr ⟨rfl, rfl, z7⟩
   refine AY rfl (fun br => ?_) (fun br => ?_)
   ·have dd := bt bl br
    refine Ak (um (um ?_))
    refine bA (cs := #[.int .i64 k]) BX [.int .i64 k] ?_; intro dz de
    obtain ⟨aw, df, dg, dh⟩ := FQ dd
    refine EA (xs := ae) (ys := [k]) (zs := aw) rfl BX rfl rfl (Nat.le_refl _) (fun _ => .c (.s .h)) al (Gk.box (vss := [[.int .i64 k]]) (ys := [k]) 0 rfl (Ab _) (.cons rfl .nil) rfl rfl) df dg (by decide) ?_; intro di dk dm bu bw
    refine kO (kd kr) ?_
    refine ua (Aa (Az (id := 1) (Ak ?_)))
    refine uv (A5 rfl rfl (BT.El ai au (AF.lt aa))) ?_
    refine um (Aa ?_)
    subst ar; exact le kr ⟨_, _, rfl, av, aw, di, dk, dm, bu, dh, rfl, rfl, z5, bw⟩
   have dn := bf bl br
   refine An (Az (id := 1) (Ak ?_))
   refine uv (A5 rfl rfl (BT.El ai au (AF.lt aa))) ?_
   refine um (Aa ?_)
   subst ar; exact le kr ⟨_, _, rfl, av, ae, ao, RD, aq, ab, dn, rfl, rfl, z5, al⟩
  obtain rfl := BT.zero ai au
  rw [EO] at ax
  refine AS (Ae (Ae ?_))
  refine AA ?_
  obtain rfl := AR ax
  exact mi (kx kr) ⟨ao, RD, aq, ab, rfl, rfl, z1, al⟩
 rintro e1 _ _ ⟨az, ba, bb, ak, rfl, rfl, bx, bz⟩
 refine AD _ bx ?_
 refine AP (um (ua (ua (Aa (Ap ?_)))))
 refine BU results14 (AH rfl) (AH rfl) (sr) ?_
 obtain ⟨rfl, rfl⟩ := CP cc
 exact ⟨_, _, _, _, rfl, rfl, bz.any⟩
set_option maxHeartbeats 1000000 in
theorem Qx {walks : List (List Int)} {Au : Option Addr} {Av : Nat} {Ao : List (List Int)} {Af start : Int} {Ai : Option Addr} {Ah : Nat} {Ac : List ((List Int) × Int × Int)} (ak : AF 1 (CD 1 (iE .i64)) F As Ar walks) (al : AF 1 (CD 1 (iE .i64)) F Au Av Ao) (aa : AF 3 (B4 (CD 1 (iE .i64)) (B4 (iE .i64) (iE .i64))) F Ai Ah Ac) {r : List (Int × Int)} {r2 : Int} (hr : Ji walks Ao Af start Ac = some (r, r2)) :
    SH.Spec Tryz.prog 16 #[.agg #[.slice As walks.length Ar, .slice Au Ao.length Av, .int .i64 Af, .int .i64 start, .slice Ai Ac.length Ah]] F [] fun F' L' v => ∃ (ra : Option Addr) (rn : Nat) (rc : Nat) (rL : LH), v = .tuple #[.slice ra rn rc, .int .i64 r2] ∧ L' = rL ++ [] ∧ AT 0 59 2 (B4 (iE .i64) (iE .i64)) F' ra rn rc r rL := by
 refine sp func16 ntmps16 fun K _ _ => ?_
 rw [Ji] at hr
 refine AP ?_
 refine BK rfl rfl ?_; intro b1 fh
 refine ua (ua (Cj ?_))
 refine uv (AM isAgg39 sizeOf39 rfl (Has.own 0 rfl) (CE rfl) rfl) ?_
 obtain ⟨d, n, h2, r3⟩ := CQ hr
 refine c0 call41 (D0 ak al aa h2) ?_; rintro _ F4 _ da fi ⟨v8, rfl, rfl, db⟩
 replace aa := aa.mono (At (Ax (Ab _)) (At (Ab _) (Ab _))) da
 refine AK (ln rfl) ?_
 refine um (ox rfl rfl rfl (ox rfl rfl rfl (ua (ua (Aa (Aq (AP (um ?_))))))))
 refine uv (B6 rfl rfl) (Aa ?_)
 refine cQ (fun bk => ?_) fun bk => ?_
 ·have dd := A2 r3 bk
  refine AP (um (ua (ua (Aa ?_))))
  refine kW kn ?_
  refine Ap (Aj ?_)
  refine BU results16 (AH rfl) (AH rfl) (sr) ?_
  obtain ⟨rfl, rfl⟩ := CP dd
  exact ⟨_, _, _, [], rfl, rfl, AT.nil _ _ _ _ _⟩
 have de := A1 r3 bk
 refine An (AP (ua (Aa ?_)))
 obtain ⟨out, df, cn⟩ := AO de
 refine AX (fun e1 F1 L1 => ∃ (bl : Option Addr) (bm : Nat) (bn : Nat) (au : LH), F4 = F1 ∧ L1 = (au ++ []) ∧ e1.sub [(6, .slice bl bm bn)] ∧ AT K.w0.heap.size 59 2 (B4 (iE .i64) (iE .i64)) F1 bl bm bn out au) ?_ ?_
 ·clear cn
  refine AP (um ?_)
  obtain ⟨AG, af, ae, ah, ab, ai, AN, hit, dg, dh⟩ := MT df
  have cp := db; rw [dg] at cp; obtain ⟨cq, fj, di, bo, ao, ⟨_, _, rfl, ⟨dk, dm, rfl, dn⟩, ⟨_, _, rfl, ⟨dp, dq, rfl, dr⟩, ⟨_, _, rfl, rfl, ⟨_, _, rfl, rfl, ⟨_, _, rfl, ⟨dt, du, rfl, dv⟩, ⟨_, _, rfl, ⟨rfl, cr⟩, ⟨_, _, rfl, ⟨ct, cu, rfl, bh⟩, ⟨rfl, dw⟩⟩⟩⟩⟩⟩⟩⟩⟩ := cp; subst bo
  have ao : F4 cq = some (.cells ((([.slice dk AG.length dm] : List Value) ++ (([.slice dp af.length dq] : List Value) ++ (([.int .i64 ae] : List Value) ++ (([.int .i64 ah] : List Value) ++ (([.slice dt ab.length du] : List Value) ++ (ai.flatMap (cI .i64) ++ (([.slice ct AN.length cu] : List Value) ++ (hit.flatMap (cI .i64))))))))).toArray) 113 di) := ao
  refine uv (AU rfl) (uv (Ad GA rfl) (uv (Al isAgg54 rfl (Has.frozen ao) (Ed (Ay (k := 1) (o := 29) rfl (Ay (k := 1) (o := 28) rfl (Ay (k := 1) (o := 27) rfl (Ay (k := 1) (o := 26) rfl (Ay (k := 1) (o := 25) rfl (Ay (k := 25) (o := 0) (IG (Bj .i64) cr) (Ck rfl))))))))) (uv (A3 underlying54 rfl) ?_)))
  refine um (Aa ?_)
  refine Am ?_
  refine Bg (fun cv e1 F1 L1 => LA AN cv fun tl k => ∃ (aj : List (Int × Int)) (aw : Option Addr) (ax : Nat) (ay : Nat) (ad : LH), Ep Ac AG af ae ah ab ai AN hit tl aj = some out ∧ F4 = F1 ∧ L1 = ((b1, ce #[.slice As walks.length Ar, .slice Au Ao.length Av, .int .i64 Af, .int .i64 start, .slice Ai Ac.length Ah] 39) :: (ad ++ [])) ∧ e1.sub [(1, .pointer (some ⟨b1, 0, none⟩)), (4, .pointer (some ⟨cq, 0, none⟩)), (6, .slice aw ax ay), (20, .slice ct AN.length cu), (21, .int .i64 (AN.length : Int)), (22, .int .i64 k)] ∧ AT K.w0.heap.size 59 2 (B4 (iE .i64) (iE .i64)) F1 aw ax ay aj ad) _ (m0 (kc (ke kr)) ⟨_, _, rfl, BT.start _, [], none, 0, 0, [], dh, rfl, rfl, z6, AT.nil _ _ _ _ _⟩) ?_
  rintro cv e1 _ _ ⟨tl, k, az, aq, aj, aw, ax, ay, ad, bj, rfl, rfl, bp, av⟩
  refine AD _ bp (AP (uv (A8 rfl rfl) ?_))
  refine Aa (Aq ?_)
  refine cQ (fun ba => ?_) fun ba => ?_
  ·obtain ⟨x, fk, rfl, bq, cw, bb⟩ := BT.succ aq ba
   rw [Ep] at bj
   refine An (Aq ?_)
   refine Am (AP ?_)
   obtain ⟨fl, fm, fo, dx, br, bu, ar, ⟨_, _, rfl, rfl, rfl⟩, bw, bx⟩ := AF.at (At (Ab _) (Ab _)) bh ((b1, ce #[.slice As walks.length Ar, .slice Au Ao.length Av, .int .i64 Af, .int .i64 start, .slice Ai Ac.length Ah] 39) :: (ad ++ [])) cw.1 bq
   refine uv (AI underlying54 sizeOf59 rfl br rfl cw) (uv (AM isAgg59 sizeOf59 rfl bu ar (Bh ar bw bx)) ?_)
   refine Br rfl zeroValue59 ?_; intro dy dz
   refine By (i := 0) sizeOf59 rfl rfl rfl (by simp [Value.oneCell']) rfl (CE rfl) (AK rfl (dN (wm (wv (AM isAgg59 sizeOf59 rfl (Has.own 0 rfl) (CE rfl) rfl) ?_))))
   obtain ⟨n2, e9, eg⟩ := AO bj
   refine GS rfl call46 rfl rfl rfl (IK ao dn dr dv cr bh dw e9) (wv (Ad Fj rfl) (wv (Al isAgg37 rfl (Has.own 1 rfl) rfl) (wv (Ad Nc rfl) (wv (Al isAgg3 rfl (Has.own 0 rfl) rfl) ?_))))
   obtain ⟨x2, cx, bz, eh⟩ := BH eg
   obtain ⟨fp, fq, fs, ej, ca, cb, cy, ⟨_, _, rfl, ⟨ft, fv, rfl, fw⟩, ⟨_, _, rfl, rfl, rfl⟩⟩, eo, cc⟩ := AF.at (At (Ax (Ab _)) (At (Ab _) (Ab _))) aa ((dy, ce #[.int .i64 x.1, .int .i64 x.2] 59) :: ((b1, ce #[.slice As walks.length Ar, .slice Au Ao.length Av, .int .i64 Af, .int .i64 start, .slice Ai Ac.length Ah] 39) :: (ad ++ []))) cx.1 bz
   refine wv (AI underlying37 sizeOf48 rfl ca rfl cx) (wv (Ad LB rfl) (wv (Al isAgg3 rfl cb (cc 2 (by decide))) ?_))
   obtain ⟨ok, er, cz⟩ := AO eh
   refine GS rfl call45 rfl rfl rfl (EG er) (wv (CI rfl) (Df ?_))
   refine AY rfl (fun cd => ?_) (fun cd => ?_)
   ·have et := bt cz cd
    refine Ak (um ?_)
    refine uv (AM isAgg59 sizeOf59 rfl (Has.own 0 rfl) (CE rfl) rfl) ?_
    refine bA (cs := #[.int .i64 x.1, .int .i64 x.2]) Kx [.agg #[.int .i64 x.1, .int .i64 x.2]] ?_; intro fx eu
    obtain ⟨bc, ew, ey, fa⟩ := FQ et
    refine EA (xs := aj) (ys := [(x.1, x.2)]) (zs := bc) rfl Kx rfl rfl (Nat.le_refl _) (fun _ => .c (.c (.c .h))) av (Gk.box (vss := [[.int .i64 x.1, .int .i64 x.2]]) (ys := [(x.1, x.2)]) 0 rfl (At (Ab _) (Ab _)) (.cons ⟨_, _, rfl, rfl, rfl⟩ .nil) rfl rfl) ew ey (by decide) ?_; intro fb fe ff cf cg
    refine kO (kd kr) ?_
    refine ua (Aa (Az (id := 1) (Ak ?_)))
    refine uv (A5 rfl rfl (BT.El aq ba (AF.lt bh))) ?_
    refine um (Aa ?_)
    subst az; exact le (kd kr) ⟨_, _, rfl, bb, bc, fb, fe, ff, cf, fa, rfl, rfl, z6, cg⟩
   have fg := bf cz cd
   refine An (Az (id := 1) (Ak ?_))
   refine uv (A5 rfl rfl (BT.El aq ba (AF.lt bh))) ?_
   refine um (Aa ?_)
   subst az; exact le (kd kr) ⟨_, _, rfl, bb, aj, aw, ax, ay, ad, fg, rfl, rfl, z6, av⟩
  obtain rfl := BT.zero aq ba
  rw [Ep] at bj
  refine AS (Ae (Ae ?_))
  refine AA ?_
  obtain rfl := AR bj
  exact mi (kd kr) ⟨aw, ax, ay, ad, rfl, rfl, z1, av⟩
 rintro e1 _ _ ⟨bl, bm, bn, au, rfl, rfl, bg, cj⟩
 refine AD _ bg ?_
 refine AP (um (ua (ua (Aa (Ap ?_)))))
 refine BU results16 (AH rfl) (AH rfl) (sr) ?_
 obtain ⟨rfl, rfl⟩ := CP cn
 exact ⟨_, _, _, _, rfl, rfl, cj.any⟩
set_option maxHeartbeats 1000000 in
theorem G1 {s_ : List (Int × Int)} (ab : AF 2 (B4 (iE .i64) (iE .i64)) F CG Cq s_) {r : Int} (hr : CZ s_ Bx Co = some r) :
    BG Tryz.prog 47 #[.slice CG s_.length Cq, .agg #[.int .i64 Bx, .int .i64 Co]] F (.int .i64 r) := by
 refine sp func47 ntmps47 fun K _ _ => ?_
 rw [CZ] at hr
 refine AP ?_
 refine BK rfl rfl ?_; intro b1 ba
 refine ua (Aa ?_)
 refine AX (fun e1 F1 L1 => Dt = some r ∧ F = F1 ∧ L1 = [] ∧ e1.sub []) ?_ ?_
 ·refine AP (um ?_)
  refine uv (A3 underlying54 rfl) ?_
  refine um (Aa ?_)
  refine Am ?_
  refine Bg (fun al e1 F1 L1 => LA s_ al fun tl k => Bm Bx Co tl k = some r ∧ F = F1 ∧ L1 = [(b1, ce #[.int .i64 Bx, .int .i64 Co] 59)] ∧ e1.sub [(0, .slice CG s_.length Cq), (3, .pointer (some ⟨b1, 0, none⟩)), (7, .int .i64 (s_.length : Int)), (8, .int .i64 k)]) _ (m0 kr ⟨_, _, rfl, BT.start _, hr, rfl, rfl, z4⟩) ?_
  rintro al e1 _ _ ⟨tl, k, ar, ad, r4, rfl, rfl, au⟩
  refine AD _ au (AP (uv (A8 rfl rfl) ?_))
  refine Aa (Aq ?_)
  refine cQ (fun c7 => ?_) fun c7 => ?_
  ·obtain ⟨x, bb, rfl, av, ao, aw⟩ := BT.succ ad c7
   rw [Bm] at r4
   refine An (Aq ?_)
   refine Am ?_
   refine AP (um (ua ?_))
   refine dN (wv (AM isAgg59 sizeOf59 rfl (Has.own 0 rfl) (CE rfl) rfl) ?_)
   refine wm (wm ?_)
   obtain ⟨N9, bc, bg, ax, ae, af, aa, ⟨_, _, rfl, rfl, rfl⟩, ah, ai⟩ := AF.at (At (Ab _) (Ab _)) ab ([(b1, ce #[.int .i64 Bx, .int .i64 Co] 59)]) ao.1 av
   refine wv (AI underlying54 sizeOf59 rfl ae rfl ao) (wv (AM isAgg59 sizeOf59 rfl af aa (Bh aa ah ai)) (wv (OG (UL _ _ _ _) (Vw _ _ _ _) rfl rfl) (Df ?_)))
   refine cQ (fun aj => ?_) fun aj => ?_
   ·have ay := A2 r4 aj
    refine AP (um (ua (Aa ?_)))
    refine kW kn ?_
    refine Ap (AE (Aj (Aj (AE (Aj ?_)))))
    refine C9 results47 ?_
    obtain rfl := AR ay
    exact rfl
   have az := A1 r4 aj
   refine An (Az (id := 1) (Ak ?_))
   refine uv (A5 rfl rfl (BT.El ad c7 (AF.lt ab))) ?_
   refine um (Aa ?_)
   subst ar; exact le kr ⟨_, _, rfl, aw, az, rfl, rfl, z4⟩
  obtain rfl := BT.zero ad c7
  rw [Bm] at r4
  refine AS (Ae (Ae ?_))
  refine AA ?_
  exact mi kn ⟨r4, rfl, rfl, (sn _)⟩
 rintro e1 _ _ ⟨aq, rfl, rfl, ak⟩
 refine AD _ ak ?_
 rw [Dt] at aq
 refine AP (ua (Aa (Ap ?_)))
 refine C9 results47 ?_
 obtain rfl := AR aq
 exact rfl
theorem Gx {s_ : List (Int × Int)} (aa : AF 2 (B4 (iE .i64) (iE .i64)) F CG Cq s_) {r : Bool} (hr : BZ s_ Bx Co = some r) :
    BG Tryz.prog 17 #[.slice CG s_.length Cq, .agg #[.int .i64 Bx, .int .i64 Co]] F (.bool r) := by
 refine sp func17 ntmps17 fun K _ _ => ?_
 rw [BZ] at hr
 refine AP ?_
 refine BK rfl rfl ?_; intro b1 ab
 refine ua (Cj (um ?_))
 refine uv (AM isAgg59 sizeOf59 rfl (Has.own 0 rfl) (CE rfl) rfl) ?_
 obtain ⟨n, h2, r3⟩ := AO hr
 refine cV call47 (G1 aa h2) (uv (Il rfl rfl) ?_)
 refine ua (Aa ?_)
 refine kW kn (Ap (C9 results17 ?_))
 obtain rfl := AR r3
 exact rfl
set_option maxHeartbeats 1000000 in
theorem NB {x : List Bool} (ba : x.length = 30) {r : List Int} (hr : GB x = some r) :
    SH.Spec Tryz.prog 49 #[.agg (arr cB x)] F [] fun F' L' v => ∃ (ra : Option Addr) (rn : Nat) (rc : Nat) (rL : LH), v = .slice ra rn rc ∧ L' = rL ++ [] ∧ AT 0 3 1 (iE .i64) F' ra rn rc r rL := by
 refine sp func49 ntmps49 fun K _ _ => ?_
 rw [GB] at hr
 refine AP ?_
 refine BK rfl rfl ?_; intro b1 bw
 refine ua (Cj (ua (Aa ?_)))
 obtain ⟨out, h8, r9⟩ := AO hr
 refine AX (fun e1 F1 L1 => ∃ (a2 : Option Addr) (n6 : Nat) (c3 : Nat) (ar : LH), F = F1 ∧ L1 = (ar ++ []) ∧ e1.sub [(3, .slice a2 n6 c3)] ∧ AT K.w0.heap.size 3 1 (iE .i64) F1 a2 n6 c3 out ar) ?_ ?_
 ·clear r9
  refine AP (uv (I3 isAgg92 sizeOf92 rfl (Has.own 0 rfl) (ES DE ba)) ?_)
  refine um (Aa ?_)
  refine Am (kW kn ?_)
  obtain ⟨bb, bg⟩ := AV h8
  refine Bg (fun ao e1 F1 L1 => ∃ (k : Int), Es 0 30 k ao ∧ ∃ (aa : List Int) (af : Option Addr) (ah : Nat) (ai : Nat) (ab : LH), Db x ao k aa = some out ∧ F = F1 ∧ L1 = (ab ++ []) ∧ e1.sub [(3, .slice af ah ai), (6, .agg (arr cB x)), (7, .int .i64 k)] ∧ AT K.w0.heap.size 3 1 (iE .i64) F1 af ah ai aa ab) _ (m0 (ke kr) ⟨_, Es.start _ _, [], none, 0, 0, [], bg, rfl, rfl, z3, AT.nil _ _ _ _ _⟩) ?_
  rintro ao e1 _ _ ⟨k, ad, aa, af, ah, ai, ab, aq, rfl, rfl, au, ae⟩
  refine AD _ au (AP (uv (A8 rfl rfl) ?_))
  refine Aa (Aq ?_)
  refine cQ (fun aj => ?_) fun aj => ?_
  ·obtain ⟨ao, rfl, ak⟩ := Es.succ ad aj
   rw [Db] at aq
   refine An (Aq ?_)
   refine Am ?_
   refine AP (um ?_)
   obtain ⟨x2, bh, av, bc⟩ := BH aq
   refine uv (TD (XF ba bh av) rfl rfl) ?_
   refine ua (ua (Cj (um (Aa ?_))))
   refine AY rfl (fun aw => ?_) (fun aw => ?_)
   ·have bj := bt bc aw
    refine Ak (um (um ?_))
    refine bA (cs := #[.int .i64 k]) BX [.int .i64 k] ?_; intro bx bk
    obtain ⟨al, bl, bm, bn⟩ := FQ bj
    refine EA (xs := aa) (ys := [k]) (zs := al) rfl BX rfl rfl (Nat.le_refl _) (fun _ => .c .h) ae (Gk.box (vss := [[.int .i64 k]]) (ys := [k]) 0 rfl (Ab _) (.cons rfl .nil) rfl rfl) bl bm (by decide) ?_; intro bo bp bq ax ay
    refine kO (kd kr) ?_
    refine ua (Aa (Az (id := 1) (Ak ?_)))
    refine uv (A5 rfl rfl (Es.El ad aj bb)) ?_
    refine um (Aa ?_)
    exact le kr ⟨_, ak, al, bo, bp, bq, ax, bn, rfl, rfl, z3, ay⟩
   have br := bf bc aw
   refine An (Az (id := 1) (Ak ?_))
   refine uv (A5 rfl rfl (Es.El ad aj bb)) ?_
   refine um (Aa ?_)
   exact le kr ⟨_, ak, aa, af, ah, ai, ab, br, rfl, rfl, z3, ae⟩
  obtain rfl := Es.zero ad aj
  rw [Db] at aq
  refine AS (Ae (Ae ?_))
  refine AA ?_
  obtain rfl := AR aq
  exact mi kr ⟨af, ah, ai, ab, rfl, rfl, z1, ae⟩
 rintro e1 _ _ ⟨a2, n6, c3, ar, rfl, rfl, az, bu⟩
 refine AD _ az ?_
 refine AP (um (ua (Aa (Ap ?_))))
 refine C9 results49 ?_
 obtain rfl := AR r9
 exact ⟨_, _, _, _, rfl, rfl, bu.any⟩
set_option maxHeartbeats 1000000 in
theorem PQ (aa : AF 1 (iE .i64) F Bb Bc plots) {r : List Int} {r2 : Int} (hr : Iu wide plots DI Cf Co = some (r, r2)) :
    SH.Spec Tryz.prog 18 #[.agg #[.int .i64 wide, .slice Bb plots.length Bc], .agg #[.int .i64 DI, .int .i64 Cf], .int .i64 Co] F [] fun F' L' v => ∃ (ra : Option Addr) (rn : Nat) (rc : Nat) (rL : LH), v = .tuple #[.slice ra rn rc, .int .i64 r2] ∧ L' = rL ++ [] ∧ AT 0 3 1 (iE .i64) F' ra rn rc r rL := by
 refine sp func18 ntmps18 fun K _ _ => ?_
 rw [Iu] at hr
 refine AP ?_
 refine BK rfl rfl ?_; intro b1 bo
 refine BK rfl rfl ?_; intro b2 bp
 refine ua (ua (Cj ?_))
 refine uv (AM isAgg27 sizeOf27 rfl (Has.own 1 rfl) (CE rfl) rfl) (uv (AM isAgg31 sizeOf31 rfl (Has.own 0 rfl) (CE rfl) rfl) ?_)
 obtain ⟨l, n, h3, r4⟩ := CQ hr
 refine c0 call40 (Km aa h3) ?_; rintro _ F5 _ aw ax ⟨a9, bq, br, af, rfl, rfl, ab⟩
 replace aa := aa.mono (Ab _) aw
 replace ab := ab.new fun p hp => ax p (by simp [hp])
 refine AK (lp (ln rfl)) (kO (kf (fS fO) (kf (fS fO) kr)) ?_)
 refine um (ox rfl rfl rfl (ox rfl rfl rfl (ua (ua (Aa (Aq (AP (um ?_))))))))
 refine uv (B6 rfl rfl) (Aa ?_)
 refine cQ (fun ah => ?_) fun ah => ?_
 ·have ay := A2 r4 ah
  refine AP (um (ua (ua (Aa ?_))))
  refine kW kn ?_
  refine Ap (Aj ?_)
  refine BU results18 (AH rfl) (AH rfl) (sr) ?_
  obtain ⟨rfl, rfl⟩ := CP ay
  exact ⟨_, _, _, [], rfl, rfl, AT.nil _ _ _ _ _⟩
 have az := A1 r4 ah
 refine An (Aq (AP ?_))
 refine uv (AM isAgg27 sizeOf27 rfl (Has.own 1 rfl) (CE rfl) rfl) (um ?_)
 obtain ⟨n2, ba, au⟩ := AO az
 refine cV call48 (Je aa ba) ?_
 refine ua (Cj (um ?_))
 refine uv (B6 rfl rfl) (Aa ?_)
 refine cQ (fun ai => ?_) fun ai => ?_
 ·have bb := A2 au ai
  refine AP (um (ua (ua (Aa ?_))))
  refine kW kn ?_
  refine Ap (Aj ?_)
  refine BU results18 (AH rfl) (AH rfl) (sr) ?_
  obtain ⟨rfl, rfl⟩ := CP bb
  exact ⟨_, _, _, [], rfl, rfl, AT.nil _ _ _ _ _⟩
 have bc := A1 au ai
 refine An (AP (um (um ?_)))
 obtain ⟨x, av, aj, bg⟩ := BH bc
 obtain ⟨bu, bw, bx, bh, ak, al, ad, ⟨rfl, bj⟩, ao, aq⟩ := AT.at (Cz (n := 30) (sz := 1) DE) ab (L := (b2, ce #[.int .i64 DI, .int .i64 Cf] 31) :: ((b1, ce #[.int .i64 wide, .slice Bb plots.length Bc] 27) :: (af ++ []))) (fC (fC fP)) av.1 aj
 refine uv (AI underlying85 sizeOf92 rfl ak rfl (AT.idx ab av)) (uv (AM isAgg92 sizeOf92 rfl al ad (Bh ad ao aq)) ?_)
 obtain ⟨l2, bk, bl⟩ := AO bg
 refine c0 call49 (NB bj bk) ?_; rintro _ bz _ bm ar ⟨ca, cb, cc, bn, rfl, rfl, ae⟩
 replace ae := ae.new fun p hp => ar p (by simp [hp])
 refine AK (lp (ln rfl)) (kO (kf (fS fO) (kf (fS fO) kr)) ?_)
 refine ua (ua (Aa ?_))
 refine kW (kd (kd (ka kn))) (Ap (BU results18 (AH rfl) (AH rfl) (sr) ?_))
 obtain ⟨rfl, rfl⟩ := CP bl
 exact ⟨_, _, _, _, rfl, rfl, ae.any⟩
set_option maxHeartbeats 1000000 in
theorem IU {s_ : List Int} (aa : AF 1 (iE .i64) F CG Cq s_) (aj : KM Tryz.prog F PW P9 PZ (iE .i64) Value.bool f) {r : Int} (hr : Ee s_ f = some r) :
    BG Tryz.prog 50 #[.slice CG s_.length Cq, .func (.func PW) P9 PZ] F (.int .i64 r) := by
 refine sp func50 ntmps50 fun K _ _ => ?_
 rw [Ee] at hr
 refine AP (ua (Aa ?_))
 refine AX (fun e1 F1 L1 => EH = some r ∧ F = F1 ∧ L1 = [] ∧ e1.sub []) ?_ ?_
 ·refine AP (um ?_)
  refine uv (A3 underlying33 rfl) ?_
  refine um (Aa ?_)
  refine Am ?_
  refine Bg (fun ak e1 F1 L1 => LA s_ ak fun tl k => Bw f tl k = some r ∧ F = F1 ∧ L1 = [] ∧ e1.sub [(0, .slice CG s_.length Cq), (1, .func (.func PW) P9 PZ), (7, .int .i64 (s_.length : Int)), (8, .int .i64 k)]) _ (m0 kr ⟨_, _, rfl, BT.start _, hr, rfl, rfl, z4⟩) ?_
  rintro ak e1 _ _ ⟨tl, k, ar, ab, r3, rfl, rfl, au⟩
  refine AD _ au (AP (uv (A8 rfl rfl) ?_))
  refine Aa (Aq ?_)
  refine cQ (fun c6 => ?_) fun c6 => ?_
  ·obtain ⟨x, bc, rfl, av, g9, aw⟩ := BT.succ ab c6
   rw [Bw] at r3
   refine An (Aq ?_)
   refine Am ?_
   refine AP (um (ua (Cj (um (um (um ?_))))))
   obtain ⟨HI, bg, bh, ax, ad, ae, al, rfl, ay, af⟩ := AF.at (Ab _) aa ([]) g9.1 av
   refine uv (AI underlying33 sizeOf3 rfl ad rfl g9) (uv (Al isAgg3 rfl ae (af 0 (by decide))) ?_)
   obtain ⟨ok, az, ao⟩ := AO r3
   refine I1 rfl aj.1 rfl rfl rfl (aj.2 _ (AW.refl _) _ _ _ rfl az) (Aa ?_)
   refine AY rfl (fun ah => ?_) (fun ah => ?_)
   ·have ba := bt ao ah
    refine AP (um (ua (Aa (Ap (AE (Aj (Aj (AE (Aj ?_)))))))))
    refine C9 results50 ?_
    obtain rfl := AR ba
    exact rfl
   have bb := bf ao ah
   refine An (Az (id := 1) (Ak ?_))
   refine uv (A5 rfl rfl (BT.El ab c6 (AF.lt aa))) ?_
   refine um (Aa ?_)
   subst ar; exact le kr ⟨_, _, rfl, aw, bb, rfl, rfl, z4⟩
  obtain rfl := BT.zero ab c6
  rw [Bw] at r3
  refine AS (Ae (Ae ?_))
  refine AA ?_
  exact mi kr ⟨r3, rfl, rfl, (sn _)⟩
 rintro e1 _ _ ⟨aq, rfl, rfl, ai⟩
 refine AD _ ai ?_
 rw [EH] at aq
 refine AP (ua (Aa (Ap ?_)))
 refine C9 results50 ?_
 obtain rfl := AR aq
 exact rfl
theorem Im {s_ : List Int} (aa : AF 1 (iE .i64) F CG Cq s_) (ab : KM Tryz.prog F PW P9 PZ (iE .i64) Value.bool f) {r : Bool} (hr : C0 s_ f = some r) :
    BG Tryz.prog 19 #[.slice CG s_.length Cq, .func (.func PW) P9 PZ] F (.bool r) := by
 refine sp func19 ntmps19 fun K _ _ => ?_
 rw [C0] at hr
 refine AP (ua (Cj (um (um ?_))))
 obtain ⟨n, h1, r2⟩ := AO hr
 refine cV call50 (IU aa ab h1) (uv (Il rfl rfl) ?_)
 refine ua (Aa (Ap ?_))
 refine C9 results19 ?_
 obtain rfl := AR r2
 exact rfl
theorem IH {x : Int} {ab ad : Nat} {aa : Array MapEntry} {af : Nat} {ae : List (Int × Bool)} {ah : Nat × Nat} (ai : F ab = some (.cells #[.map (some ad)] 60 ah)) (aj : F ad = some (.map aa af)) (ak : Eb (Value.int .i64) Value.bool aa ae) {r : Bool} (hr : Dj x ae = some r) :
    BG Tryz.prog 20 #[.int .i64 x, .pointer (some ⟨ab, 0, none⟩)] F (.bool r) := by
 refine sp func20 ntmps20 fun K _ _ => ?_
 rw [Dj] at hr
 refine AP (ua (Cj ?_))
 refine uv (Al isAgg60 rfl (Has.frozen ai) rfl) (um (uv (E7.eq (v' := .bool ((AZ ae x).getD false)) (RY (k := x) (z0 := false) rfl underlying60 (Ih underlying3) zeroValue4 rfl rfl (Kw.frozen aj) (show Eb (Value.int .i64) Value.bool aa (ae : List (Int × Bool)) from ak)) rfl) ?_))
 refine ua (Aa (Ap ?_))
 refine C9 results20 ?_
 obtain rfl := AR hr
 exact rfl
set_option maxHeartbeats 1000000 in
theorem Jl {ft : Option Addr} {fv : Nat} {numbers walks : List Int} (jk : AF 1 (iE .u8) F ft fv numbers) (gv : AF 1 (iE .u8) F As Ar walks) {r : Bool} (hr : DA numbers walks = some r) :
    BG Tryz.prog 3 #[.slice ft numbers.length fv, .slice As walks.length Ar] F (.bool r) := by
 refine sp func3 ntmps3 fun K _ _ => ?_
 rw [DA] at hr
 refine AP (ua (Cj (um ?_)))
 obtain ⟨metal, at_, Fv, h1, r2⟩ := EZ hr
 refine c0 call4 (Lq jk h1) ?_; rintro _ F3 _ hF4 hn5 ⟨b7, a8, c9, rfl, rfl, pr⟩
 replace gv := gv.mono (Ab _) hF4
 refine AK (lb (ln rfl)) (um ?_)
 obtain ⟨aa, fj, cg, h11, r12⟩ := EZ r2
 refine c0 call4 (Lq gv h11) ?_; rintro _ F13 _ hF14 hn15 ⟨bp, di, dk, rfl, rfl, fw⟩
 replace pr := pr.mono (Ab _) hF14
 refine AK (lb (ln rfl)) ?_
 refine ua (ua (Cj (um ?_)))
 obtain ⟨n, l, pt, nq, h21, r22⟩ := Xd r12
 refine Fy (Lb := [(b7, ce #[.slice a8 metal.length c9, .int .i64 at_, .int .u32 Fv] 68)]) (Lr := [(bp, ce #[.slice di aa.length dk, .int .i64 fj, .int .u32 cg] 68)]) rfl call5 rfl rfl rfl (((fC fO).trans (pC pR))) (Nr pr h21) ?_; rintro _ F23 _ pv hd26 hn25 ⟨ay, az, ba, pw, rfl, rfl, jl⟩
 replace pr := pr.mono (Ab _) pv
 replace fw := fw.mono (Ab _) pv
 have hn33 := MR (Lb' := [(b7, ce #[.slice a8 metal.length c9, .int .i64 pt, .int .u32 nq] 68)]) (by rfl) hd26 hn25
 replace jl := jl.new fun p hp => hn33 p (by simp [hp])
 refine AK (lb (lp (ln rfl))) (kO (kc (kf (fS fO) kr)) ?_)
 refine Br rfl zeroValue27 ?_; intro ak hb34
 refine By (i := 0) sizeOf27 rfl rfl rfl (by simp [Value.oneCell']) rfl (CE rfl) (AK rfl ?_)
 refine Cj (um ?_)
 obtain ⟨n2, n3, at_4, turn4, h35, r36⟩ := Xd r22
 refine Fy (Lb := [(b7, ce #[.slice a8 metal.length c9, .int .i64 pt, .int .u32 nq] 68)]) (Lr := (ak, ce #[.int .i64 n, .slice ay az ba] 27) :: ((bp, ce #[.slice di aa.length dk, .int .i64 fj, .int .u32 cg] 68) :: (pw ++ []))) rfl call6 rfl rfl rfl (((fC fO).trans (pC pR))) (Nb pr h35) ?_; rintro _ F37 _ px hd40 hn39 ⟨rfl, rfl⟩
 replace fw := fw.mono (Ab _) px
 replace jl := jl.mono (Ab _) px
 refine AK (lb (ln rfl)) ?_
 refine Br rfl zeroValue31 ?_; intro al hb41
 refine By (i := 0) sizeOf31 rfl rfl rfl (by simp [Value.oneCell']) rfl (CE rfl) (AK rfl ?_)
 refine Cj (ua (ua (Aa ?_)))
 obtain ⟨ae, ad, Af, h56, r57⟩ := EZ r36
 refine AX (fun e1 F1 L1 => ∃ (ab : LH) (ej : Option Addr) (eo : Nat) (er : Nat) (af : LH) (iz : Option Addr) (j0 : Nat) (j3 : Nat) (ao : LH), F37 = F1 ∧ L1 = ((al, ce #[.int .i64 n2, .int .i64 n3] 31) :: ((ak, ce #[.int .i64 n, .slice ay az ba] 27) :: ((bp, ce #[.slice di aa.length dk, .int .i64 fj, .int .u32 cg] 68) :: (ab ++ (af ++ (ao ++ [])))))) ∧ e1.sub [(6, .pointer (some ⟨bp, 0, none⟩)), (7, .pointer (some ⟨ak, 0, none⟩)), (8, .pointer (some ⟨al, 0, none⟩)), (9, .slice ej eo er), (10, .slice iz j0 j3)] ∧ AT K.w0.heap.size 34 1 (iE .i64) F1 ay az ba ae ab ∧ AT K.w0.heap.size 3 1 (iE .i64) F1 ej eo er ad af ∧ AT K.w0.heap.size 3 1 (iE .i64) F1 iz j0 j3 Af ao) ?_ ?_
 ·clear r57
  refine AP (uv (Ad Em rfl) (uv (Al isAgg25 rfl (Has.own 2 rfl) rfl) (uv ((A3 underlying25 rfl).i (AT.Hc jl)) ?_)))
  refine um (Aa ?_)
  refine Am (kW (kc (kd kr)) ?_)
  obtain ⟨py, r73⟩ := AV h56
  refine Bg (fun fu1 e1 F1 L1 => ∃ (k : Int), Es 0 (l.length : Int) k fu1 ∧ ∃ (ax : List Int) (bg : List Int) (bl : List Int) (dy : LH) (ku : Option Addr) (kv : Nat) (kz : Nat) (dm : LH) (l0 : Option Addr) (la : Nat) (ld : Nat) (dn : LH), A9 fu1 k ax bg bl = some (ae, ad, Af) ∧ F37 = F1 ∧ L1 = ((al, ce #[.int .i64 n2, .int .i64 n3] 31) :: ((ak, ce #[.int .i64 n, .slice ay az ba] 27) :: ((bp, ce #[.slice di aa.length dk, .int .i64 fj, .int .u32 cg] 68) :: (dy ++ (dm ++ (dn ++ [])))))) ∧ e1.sub [(6, .pointer (some ⟨bp, 0, none⟩)), (7, .pointer (some ⟨ak, 0, none⟩)), (8, .pointer (some ⟨al, 0, none⟩)), (9, .slice ku kv kz), (10, .slice l0 la ld), (54, .slice ay az ba), (55, .int .i64 (l.length : Int)), (56, .int .i64 k)] ∧ AT K.w0.heap.size 34 1 (iE .i64) F1 ay az ba ax dy ∧ AT K.w0.heap.size 3 1 (iE .i64) F1 ku kv kz bg dm ∧ AT K.w0.heap.size 3 1 (iE .i64) F1 l0 la ld bl dn) _ (m0 (kc (kc (kc (ka (ke (ke kr)))))) ⟨_, Es.start _ _, l, [], [], pw, none, 0, 0, [], none, 0, 0, [], r73, rfl, rfl, z8, jl, AT.nil _ _ _ _ _, AT.nil _ _ _ _ _⟩) ?_
  rintro fu1 e1 _ _ ⟨k, iv, ax, bg, bl, dy, ku, kv, kz, dm, l0, la, ld, dn, r76, rfl, rfl, he77, dz, iw, iy⟩
  refine AD _ he77 (AP (uv (A8 rfl rfl) ?_))
  refine Aa (Aq ?_)
  refine cQ (fun nr => ?_) fun nr => ?_
  ·obtain ⟨fu1, rfl, jr⟩ := Es.succ iv nr
   rw [A9] at r76
   refine An (Aq ?_)
   refine Am ?_
   refine AP (um ?_)
   obtain ⟨x, nt, oe, r83⟩ := BH r76
   obtain ⟨b84, o85, c86, vs87, ha88, hs89, hle90, rfl, hl91, hc92⟩ := AT.at (Ab _) dz (L := (al, ce #[.int .i64 n2, .int .i64 n3] 31) :: ((ak, ce #[.int .i64 n, .slice ay az ba] 27) :: ((bp, ce #[.slice di aa.length dk, .int .i64 fj, .int .u32 cg] 68) :: (dy ++ (dm ++ (dn ++ [])))))) (fC (fC (fC fP))) nt.1 oe
   refine uv (AI underlying25 sizeOf34 rfl ha88 rfl (AT.idx dz nt)) (uv (Al isAgg34 rfl hs89 (hc92 0 (by decide))) ?_)
   refine ua (ua (Aa ?_))
   refine Am ?_
   obtain ⟨k2, h93, r94⟩ := AO r83
   refine jE (((al, ce #[.int .i64 n2, .int .i64 n3] 31) :: ((ak, ce #[.int .i64 n, .slice ay az ba] 27) :: ((bp, ce #[.slice di aa.length dk, .int .i64 fj, .int .u32 cg] 68) :: (dy ++ (dm ++ (dn ++ []))))))) [(6, .pointer (some ⟨bp, 0, none⟩)), (7, .pointer (some ⟨ak, 0, none⟩)), (8, .pointer (some ⟨al, 0, none⟩)), (9, .slice ku kv kz), (10, .slice l0 la ld), (11, .int .i64 k), (12, .int .i64 x), (54, .slice ay az ba), (55, .int .i64 (l.length : Int)), (56, .int .i64 k), (61, .bool k2)] ?_ ?_
   ·clear r94
    refine Ak (um ?_)
    refine uv (DY rfl rfl) (um ?_)
    by_cases lg : x = 0
    ·have r96 := A2 h93 lg
     refine nT lg (um (nT lg ?_))
     refine uv ((A3 underlying33 rfl).i (AT.Hc iw)) (nT lg (uv (A8 rfl rfl) (uv (AQ (Bd rfl lg) rfl) ?_)))
     refine ua (Aa ?_)
     obtain rfl := AR r96
     exact mi kr ⟨rfl, rfl, (sc rfl (sc rfl (sc rfl z8)))⟩
    have r97 := A1 h93 lg
    refine fF lg (fF lg (fF lg ?_))
    refine uv (AL (A4 rfl lg) rfl) ?_
    refine ua (Aa ?_)
    obtain rfl := AR r97
    exact mi kr ⟨rfl, rfl, (sc rfl (sc rfl (sc rfl z8)))⟩
   refine AY rfl (fun c99 => ?_) (fun c99 => ?_)
   ·have r100 := bt r94 c99
    refine Ak (um (um ?_))
    refine bA (cs := #[.int .i64 k]) BX [.int .i64 k] ?_; intro b101 hb101
    obtain ⟨ic, h102, g103, r104⟩ := FQ r100
    refine EA (xs := bg) (ys := [k]) (zs := ic) rfl BX rfl rfl (Nat.le_refl _) (fun _ => .c (.c (.c (.c (.s .h))))) iw (Gk.box (vss := [[.int .i64 k]]) (ys := [k]) 0 rfl (Ab _) (.cons rfl .nil) rfl rfl) h102 g103 (by decide) ?_; intro a105 n109 c106 pz q0
    refine kO (kd kr) ?_
    refine ua (Aa (Az (id := 2) (Az (id := 1) (Ak ?_))))
    refine uv (A5 rfl rfl (Es.El iv nr py)) ?_
    refine um (Aa ?_)
    exact le kr ⟨_, jr, ax, ic, bl, dy, a105, n109, c106, pz, l0, la, ld, dn, r104, rfl, rfl, z8, dz, q0, iy⟩
   have qb := bf r94 c99
   refine AP (um ?_)
   refine uv (DY rfl rfl) ?_
   refine ua (Aa ?_)
   refine cQ (fun og => ?_) fun og => ?_
   ·have r113 := A2 qb og
    refine Ak (uv (Ad Em rfl) (uv (Al isAgg25 rfl (Has.own 1 rfl) rfl) (um ?_)))
    obtain ⟨b114, o115, c116, vs117, nu, hs119, hle120, rfl, hl121, hc122⟩ := AT.at (Ab _) dz (L := (al, ce #[.int .i64 n2, .int .i64 n3] 31) :: ((ak, ce #[.int .i64 n, .slice ay az ba] 27) :: ((bp, ce #[.slice di aa.length dk, .int .i64 fj, .int .u32 cg] 68) :: (dy ++ (dm ++ (dn ++ [])))))) (fC (fC (fC fP))) nt.1 oe
    refine uv (AI underlying25 sizeOf34 rfl nu rfl (AT.idx dz nt)) ?_
    obtain ⟨town, h123, r124⟩ := CT r113
    refine E5 (u := 2) sizeOf34 (Ab _) rfl nu rfl rfl (fun _ => .c (.c (.c .h))) dz h123 nt ?_; intro qc qd
    refine Aa (Az (id := 2) (Az (id := 1) (Ak ?_)))
    refine uv (A5 rfl rfl (Es.El iv nr py)) ?_
    refine um (Aa ?_)
    exact le kr ⟨_, jr, town, bg, bl, qc, ku, kv, kz, dm, l0, la, ld, dn, r124, rfl, rfl, z8, qd, iw, iy⟩
   have r127 := A1 qb og
   obtain ⟨k3, qe, oh⟩ := AO r127
   refine jE (((al, ce #[.int .i64 n2, .int .i64 n3] 31) :: ((ak, ce #[.int .i64 n, .slice ay az ba] 27) :: ((bp, ce #[.slice di aa.length dk, .int .i64 fj, .int .u32 cg] 68) :: (dy ++ (dm ++ (dn ++ []))))))) [(6, .pointer (some ⟨bp, 0, none⟩)), (7, .pointer (some ⟨ak, 0, none⟩)), (8, .pointer (some ⟨al, 0, none⟩)), (9, .slice ku kv kz), (10, .slice l0 la ld), (11, .int .i64 k), (12, .int .i64 x), (54, .slice ay az ba), (55, .int .i64 (l.length : Int)), (56, .int .i64 k), (80, .bool k3)] ?_ ?_
   ·clear oh
    refine Ak (um ?_)
    refine uv (DY rfl rfl) (um ?_)
    by_cases fk : x = 1
    ·have r131 := A2 qe fk
     refine nT fk (um (nT fk ?_))
     refine uv ((A3 underlying33 rfl).i (AT.Hc iy)) (nT fk (uv (A8 rfl rfl) (uv (AQ (Bd rfl fk) rfl) ?_)))
     refine ua (Aa ?_)
     obtain rfl := AR r131
     exact mi kr ⟨rfl, rfl, (sc rfl (sc rfl (sc rfl z8)))⟩
    have r132 := A1 qe fk
    refine fF fk (fF fk (fF fk ?_))
    refine uv (AL (A4 rfl fk) rfl) ?_
    refine ua (Aa ?_)
    obtain rfl := AR r132
    exact mi kr ⟨rfl, rfl, (sc rfl (sc rfl (sc rfl z8)))⟩
   refine AY rfl (fun oi => ?_) (fun oi => ?_)
   ·have r135 := bt oh oi
    refine Ak (um (um ?_))
    refine bA (cs := #[.int .i64 k]) BX [.int .i64 k] ?_; intro b136 hb136
    obtain ⟨j4, h137, g138, r139⟩ := FQ r135
    refine EA (xs := bl) (ys := [k]) (zs := j4) rfl BX rfl rfl (Nat.le_refl _) (fun _ => .c (.c (.c (.c (.s (.s .h)))))) iy (Gk.box (vss := [[.int .i64 k]]) (ys := [k]) 0 rfl (Ab _) (.cons rfl .nil) rfl rfl) h137 g138 (by decide) ?_; intro a140 n144 c141 qf qg
    refine kO (kd kr) ?_
    refine ua (Aa (Az (id := 2) (Az (id := 1) (Ak ?_))))
    refine uv (A5 rfl rfl (Es.El iv nr py)) ?_
    refine um (Aa ?_)
    exact le kr ⟨_, jr, ax, bg, j4, dy, ku, kv, kz, dm, a140, n144, c141, qf, r139, rfl, rfl, z8, dz, iw, qg⟩
   have qh := bf oh oi
   refine AP (um ?_)
   refine uv (DY rfl rfl) ?_
   refine ua (Aa ?_)
   refine cQ (fun oj => ?_) fun oj => ?_
   ·have r148 := A2 qh oj
    refine Ak (uv (Ad Em rfl) (uv (Al isAgg25 rfl (Has.own 1 rfl) rfl) (um ?_)))
    obtain ⟨b149, o150, c151, vs152, nv, hs154, hle155, rfl, hl156, hc157⟩ := AT.at (Ab _) dz (L := (al, ce #[.int .i64 n2, .int .i64 n3] 31) :: ((ak, ce #[.int .i64 n, .slice ay az ba] 27) :: ((bp, ce #[.slice di aa.length dk, .int .i64 fj, .int .u32 cg] 68) :: (dy ++ (dm ++ (dn ++ [])))))) (fC (fC (fC fP))) nt.1 oe
    refine uv (AI underlying25 sizeOf34 rfl nv rfl (AT.idx dz nt)) ?_
    obtain ⟨qi, h158, r159⟩ := CT r148
    refine E5 (u := 2) sizeOf34 (Ab _) rfl nv rfl rfl (fun _ => .c (.c (.c .h))) dz h158 nt ?_; intro qj qk
    refine Aa (Az (id := 2) (Az (id := 1) (Ak ?_)))
    refine uv (A5 rfl rfl (Es.El iv nr py)) ?_
    refine um (Aa ?_)
    exact le kr ⟨_, jr, qi, bg, bl, qj, ku, kv, kz, dm, l0, la, ld, dn, r159, rfl, rfl, z8, qk, iw, iy⟩
   have r162 := A1 qh oj
   refine An (Az (id := 2) (Az (id := 1) (Ak ?_)))
   refine uv (A5 rfl rfl (Es.El iv nr py)) ?_
   refine um (Aa ?_)
   exact le kr ⟨_, jr, ax, bg, bl, dy, ku, kv, kz, dm, l0, la, ld, dn, r162, rfl, rfl, z8, dz, iw, iy⟩
  obtain rfl := Es.zero iv nr
  rw [A9] at r76
  refine AS (Ae (Ae ?_))
  refine AA ?_
  obtain ⟨rfl, rfl, rfl⟩ := Iz r76
  exact mi kr ⟨dy, ku, kv, kz, dm, l0, la, ld, dn, rfl, rfl, z5, dz, iw, iy⟩
 rintro e1 _ _ ⟨ab, ej, eo, er, af, iz, j0, j3, ao, rfl, rfl, ql, ar, aj, aw⟩
 refine AD _ ql ?_
 refine Aq (AP (um ?_))
 refine uv ((A3 underlying33 rfl).i (AT.Hc aw)) (uv (DY rfl rfl) (Aa ?_))
 refine cQ (fun oo => ?_) fun oo => ?_
 ·have r165 := A2 r57 oo
  refine AP ?_
  obtain ⟨ok, h166, r167⟩ := AO r165
  refine cV call7 (HT h166) ?_
  refine ua (Aa ?_)
  refine kW kn ?_
  refine Ap (Aj ?_)
  refine C9 results3 ?_
  obtain rfl := AR r167
  exact rfl
 have r168 := A1 r57 oo
 refine An (AP (um ?_))
 refine uv ((A3 underlying33 rfl).i (AT.Hc aw)) ?_
 refine uv (BC (v := .agg #[.slice none 0 0, .slice none 0 0, .int .i64 (Af.length : Int), .int .i64 0, .slice none 0 0]) rfl (by intro w; kernel_rfl)) ?_
 refine Br rfl zeroValue39 ?_; intro ah hb169
 refine By (i := 0) sizeOf39 rfl rfl rfl (by simp [Value.oneCell']) rfl (CE rfl) (AK rfl (Aa ?_))
 refine AX (fun e1 F1 L1 => ∃ (lh : Int) (gw : Int) (gz : List (List Int)) (ia : List (List Int)) (ct : Option Addr) (cu : Nat) (cv : Nat) (bm : LH) (cw : Option Addr) (cx : Nat) (cy : Nat) (bn : LH), CM aa n n2 n3 ae ad Af lh gw gz ia = some r ∧ AW F37 F1 ∧ L1 = ((ah, ce #[.slice ct cu cv, .slice cw cx cy, .int .i64 (Af.length : Int), .int .i64 0, .slice none 0 0] 39) :: ((al, ce #[.int .i64 n2, .int .i64 n3] 31) :: ((ak, ce #[.int .i64 n, .slice ay az ba] 27) :: ((bp, ce #[.slice di aa.length dk, .int .i64 lh, .int .u32 gw] 68) :: (ab ++ (af ++ (ao ++ (bm ++ (bn ++ []))))))))) ∧ e1.sub [(6, .pointer (some ⟨bp, 0, none⟩)), (7, .pointer (some ⟨ak, 0, none⟩)), (8, .pointer (some ⟨al, 0, none⟩)), (9, .slice ej eo er), (10, .slice iz j0 j3), (13, .pointer (some ⟨ah, 0, none⟩))] ∧ AT K.w0.heap.size 33 1 (CD 1 (iE .i64)) F1 ct cu cv gz bm ∧ AT K.w0.heap.size 33 1 (CD 1 (iE .i64)) F1 cw cx cy ia bn) ?_ ?_
 ·refine AP (um ?_)
  refine uv ((A3 underlying33 rfl).i (AT.Hc aj)) ?_
  refine um (Aa ?_)
  refine Am ?_
  refine Bg (fun fu3 e1 F1 L1 => LA ad fu3 fun tl k4 => ∃ (ca : Int) (av : Int) (cc : List (List Int)) (cd : List (List Int)) (bq : Option Addr) (br : Nat) (bu : Nat) (bh : LH) (bw : Option Addr) (bx : Nat) (bz : Nat) (bk : LH), BO aa n n2 n3 ae ad Af tl k4 ca av cc cd = some r ∧ AW F37 F1 ∧ L1 = ((ah, ce #[.slice bq br bu, .slice bw bx bz, .int .i64 (Af.length : Int), .int .i64 0, .slice none 0 0] 39) :: ((al, ce #[.int .i64 n2, .int .i64 n3] 31) :: ((ak, ce #[.int .i64 n, .slice ay az ba] 27) :: ((bp, ce #[.slice di aa.length dk, .int .i64 ca, .int .u32 av] 68) :: (ab ++ (af ++ (ao ++ (bh ++ (bk ++ []))))))))) ∧ e1.sub [(6, .pointer (some ⟨bp, 0, none⟩)), (7, .pointer (some ⟨ak, 0, none⟩)), (8, .pointer (some ⟨al, 0, none⟩)), (9, .slice ej eo er), (10, .slice iz j0 j3), (13, .pointer (some ⟨ah, 0, none⟩)), (107, .slice ej eo er), (108, .int .i64 (ad.length : Int)), (109, .int .i64 k4)] ∧ AT K.w0.heap.size 33 1 (CD 1 (iE .i64)) F1 bq br bu cc bh ∧ AT K.w0.heap.size 33 1 (CD 1 (iE .i64)) F1 bw bx bz cd bk) _ (m0 (kc (kc (kc (kc (ka (ka (ka (ke (ke kr))))))))) ⟨_, _, rfl, BT.start _, fj, cg, [], [], none, 0, 0, [], none, 0, 0, [], r168, AW.refl _, rfl, (sc rfl z8), AT.nil _ _ _ _ _, AT.nil _ _ _ _ _⟩) ?_
  rintro fu3 e1 F198 _ ⟨tl, k4, qn, js, ca, av, cc, cd, bq, br, bu, bh, bw, bx, bz, bk, lj, fx, rfl, qo, cj, cn⟩
  refine AD _ qo ?_
  replace fw := fw.mono (Ab _) fx
  replace ar := ar.mono (Ab _) fx
  replace aj := aj.mono (Ab _) fx
  replace aw := aw.mono (Ab _) fx
  refine AP (uv (A8 rfl rfl) ?_)
  refine Aa (Aq ?_)
  refine cQ (fun lk => ?_) fun lk => ?_
  ·obtain ⟨x2, tl2, rfl, qp, qq, qs⟩ := BT.succ js lk
   rw [BO] at lj
   refine An ?_
   refine AX (fun e1 F1 L1 => ∃ (j5 : Int) (eg : Int) (cz : List (List Int)) (da : List (List Int)) (ll : Option Addr) (lq : Nat) (lr : Nat) (j6 : LH) (lu : Option Addr) (lv : Nat) (lx : Nat) (j7 : LH), DV k4 (BO aa n n2 n3 ae ad Af tl2) j5 eg cz da = some r ∧ AW F198 F1 ∧ L1 = ((ah, ce #[.slice ll lq lr, .slice lu lv lx, .int .i64 (Af.length : Int), .int .i64 0, .slice none 0 0] 39) :: ((al, ce #[.int .i64 n2, .int .i64 n3] 31) :: ((ak, ce #[.int .i64 n, .slice ay az ba] 27) :: ((bp, ce #[.slice di aa.length dk, .int .i64 j5, .int .u32 eg] 68) :: (ab ++ (af ++ (ao ++ (j6 ++ (j7 ++ []))))))))) ∧ e1.sub [(6, .pointer (some ⟨bp, 0, none⟩)), (7, .pointer (some ⟨ak, 0, none⟩)), (8, .pointer (some ⟨al, 0, none⟩)), (9, .slice ej eo er), (10, .slice iz j0 j3), (13, .pointer (some ⟨ah, 0, none⟩)), (107, .slice ej eo er), (108, .int .i64 (ad.length : Int)), (109, .int .i64 k4)] ∧ AT K.w0.heap.size 33 1 (CD 1 (iE .i64)) F1 ll lq lr cz j6 ∧ AT K.w0.heap.size 33 1 (CD 1 (iE .i64)) F1 lu lv lx da j7) ?_ ?_
   ·refine Am ?_
    refine AP (um ?_)
    obtain ⟨b217, o218, c219, vs220, qt, qu, hle223, rfl, hl224, qw⟩ := AT.at (Ab _) aj (L := (ah, ce #[.slice bq br bu, .slice bw bx bz, .int .i64 (Af.length : Int), .int .i64 0, .slice none 0 0] 39) :: ((al, ce #[.int .i64 n2, .int .i64 n3] 31) :: ((ak, ce #[.int .i64 n, .slice ay az ba] 27) :: ((bp, ce #[.slice di aa.length dk, .int .i64 ca, .int .u32 av] 68) :: (ab ++ (af ++ (ao ++ (bh ++ (bk ++ []))))))))) (fC (fC (fC (fC (fS fP))))) qq.1 qp
    refine uv (AI underlying33 sizeOf3 rfl qt rfl (AT.idx aj qq)) (uv (Al isAgg3 rfl qu (qw 0 (by decide))) ?_)
    refine ua (ua (Cj ?_))
    refine uv (AM isAgg27 sizeOf27 rfl (Has.own 2 rfl) (CE rfl) rfl) (uv (AM isAgg31 sizeOf31 rfl (Has.own 1 rfl) (CE rfl) rfl) (um ?_))
    obtain ⟨l2, n4, h226, qx⟩ := CQ lj
    refine Gb (Lb := []) (Lt := ab ++ []) (Lr := (ah, ce #[.slice bq br bu, .slice bw bx bz, .int .i64 (Af.length : Int), .int .i64 0, .slice none 0 0] 39) :: ((al, ce #[.int .i64 n2, .int .i64 n3] 31) :: ((ak, ce #[.int .i64 n, .slice ay az ba] 27) :: ((bp, ce #[.slice di aa.length dk, .int .i64 ca, .int .u32 av] 68) :: (af ++ (ao ++ (bh ++ (bk ++ [])))))))) rfl call8 rfl rfl rfl (pT ((fC (fC (fC (fC fP)))).trans (pA pR)) (ln (lp (ln rfl)))) (fun F2 h2 h3 => by rw [(AT.C4 ar).1]; exact PN (ar.row (Ab _) h2 (fun p hp => h3 p (List.mem_append_left _ hp))) h226) (fun _ _ _ _ hq => by obtain ⟨qy, qz, re, j8, rfl, rfl, dt⟩ := hq; exact ⟨_, _, _, _, rfl, rfl, dt.flat (fun _ _ h => h)⟩) ?_; rintro _ ly _ fy rf rh ⟨qy, qz, re, j8, rfl, rfl, dt⟩
    replace fw := fw.mono (Ab _) fy
    replace aj := aj.mono (Ab _) fy
    replace aw := aw.mono (Ab _) fy
    replace cj := cj.mono (Ax (Ab _)) fy
    replace cn := cn.mono (Ax (Ab _)) fy
    have ri := MR (Lb' := []) (by rfl) rf rh
    replace dt := dt.new fun p hp => ri p (by simp [hp])
    refine AK (lp (ln (lp (ln rfl)))) (kO (kf (fS (fS fO)) (kf (fS (fS fO)) (kf (fS (fS fO)) (kf (fS (fS fO)) kr)))) ?_)
    refine um (ox rfl rfl rfl (ox rfl rfl rfl (ua (ua (Aa (Aq (AP (um ?_))))))))
    refine uv (B6 rfl rfl) (Aa ?_)
    refine cQ (fun oq => ?_) fun oq => ?_
    ·have r240 := A2 qx oq
     refine AP (ua (Aa ?_))
     refine kW kn ?_
     refine Ap (Aj (AE (Aj (Aj (AE (Aj ?_))))))
     refine C9 results3 ?_
     obtain rfl := AR r240
     exact rfl
    have r241 := A1 qx oq
    refine An (AP (ua (ua (Aa ?_))))
    obtain ⟨own, h248, rj⟩ := AO r241
    refine AX (fun e1 F1 L1 => ∃ (fl : Option Addr) (jt : Nat) (fm : Nat) (et : LH), ly = F1 ∧ L1 = ((ah, ce #[.slice bq br bu, .slice bw bx bz, .int .i64 (Af.length : Int), .int .i64 0, .slice none 0 0] 39) :: ((al, ce #[.int .i64 n2, .int .i64 n3] 31) :: ((ak, ce #[.int .i64 n, .slice ay az ba] 27) :: ((bp, ce #[.slice di aa.length dk, .int .i64 ca, .int .u32 av] 68) :: (ab ++ (af ++ (ao ++ (bh ++ (bk ++ (et ++ [])))))))))) ∧ e1.sub [(6, .pointer (some ⟨bp, 0, none⟩)), (7, .pointer (some ⟨ak, 0, none⟩)), (8, .pointer (some ⟨al, 0, none⟩)), (9, .slice ej eo er), (10, .slice iz j0 j3), (13, .pointer (some ⟨ah, 0, none⟩)), (14, .int .i64 k4), (18, .slice fl jt fm), (19, .slice none 0 0), (107, .slice ej eo er), (108, .int .i64 (ad.length : Int)), (109, .int .i64 k4)] ∧ AT K.w0.heap.size 3 1 (iE .i64) F1 fl jt fm own et) ?_ ?_
    ·clear rj
     refine AP (um ?_)
     refine uv ((A3 underlying33 rfl).i (AT.Hc dt)) ?_
     refine um (Aa ?_)
     refine Am ?_
     refine Bg (fun fu5 e1 F1 L1 => LA l2 fu5 fun tl3 k5 => ∃ (ma : List Int) (mb : Option Addr) (mc : Nat) (me : Nat) (ga : LH), BM Af tl3 ma = some own ∧ ly = F1 ∧ L1 = ((ah, ce #[.slice bq br bu, .slice bw bx bz, .int .i64 (Af.length : Int), .int .i64 0, .slice none 0 0] 39) :: ((al, ce #[.int .i64 n2, .int .i64 n3] 31) :: ((ak, ce #[.int .i64 n, .slice ay az ba] 27) :: ((bp, ce #[.slice di aa.length dk, .int .i64 ca, .int .u32 av] 68) :: (ab ++ (af ++ (ao ++ (bh ++ (bk ++ (ga ++ (j8 ++ []))))))))))) ∧ e1.sub [(6, .pointer (some ⟨bp, 0, none⟩)), (7, .pointer (some ⟨ak, 0, none⟩)), (8, .pointer (some ⟨al, 0, none⟩)), (9, .slice ej eo er), (10, .slice iz j0 j3), (13, .pointer (some ⟨ah, 0, none⟩)), (14, .int .i64 k4), (18, .slice mb mc me), (19, .slice none 0 0), (107, .slice ej eo er), (108, .int .i64 (ad.length : Int)), (109, .int .i64 k4), (123, .slice qy qz re), (124, .int .i64 (l2.length : Int)), (125, .int .i64 k5)] ∧ AT K.w0.heap.size 3 1 (iE .i64) F1 mb mc me ma ga) _ (m0 (kc (kc (kc (kc (kg (fS fP) (kg (fS fP) (kg (fS fP) (kg (fS fP) (kg (fS fP) (ke kr)))))))))) ⟨_, _, rfl, BT.start _, [], none, 0, 0, [], h248, rfl, rfl, (sc rfl (sc rfl (sc rfl (sc rfl (sc rfl (sc rfl (sc rfl z8))))))), AT.nil _ _ _ _ _⟩) ?_
     rintro fu5 e1 _ _ ⟨tl3, k5, rk, ju, ma, mb, mc, me, ga, mg, rfl, rfl, rl, nw⟩
     refine AD _ rl (AP (uv (A8 rfl rfl) ?_))
     refine Aa (Aq ?_)
     refine cQ (fun mh => ?_) fun mh => ?_
     ·obtain ⟨x3, tl4, rfl, rm, rp, rq⟩ := BT.succ ju mh
      rw [BM] at mg
      refine An (Aq ?_)
      refine Am (AP ?_)
      obtain ⟨b265, o266, c267, vs268, rr, ru, hle271, rfl, hl272, ry⟩ := AT.at (Ab _) dt (L := (ah, ce #[.slice bq br bu, .slice bw bx bz, .int .i64 (Af.length : Int), .int .i64 0, .slice none 0 0] 39) :: ((al, ce #[.int .i64 n2, .int .i64 n3] 31) :: ((ak, ce #[.int .i64 n, .slice ay az ba] 27) :: ((bp, ce #[.slice di aa.length dk, .int .i64 ca, .int .u32 av] 68) :: (ab ++ (af ++ (ao ++ (bh ++ (bk ++ (ga ++ (j8 ++ []))))))))))) (fC (fC (fC (fC (fS (fS (fS (fS (fS (fS fP)))))))))) rp.1 rm
      refine uv (AI underlying33 sizeOf3 rfl rr rfl (AT.idx dt rp)) (uv (Al isAgg3 rfl ru (ry 0 (by decide))) ?_)
      refine ua (Aa (Ak (um (um (um ?_)))))
      obtain ⟨n5, h274, r275⟩ := AO mg
      refine GR (Lt := ao ++ []) (Lr := (ah, ce #[.slice bq br bu, .slice bw bx bz, .int .i64 (Af.length : Int), .int .i64 0, .slice none 0 0] 39) :: ((al, ce #[.int .i64 n2, .int .i64 n3] 31) :: ((ak, ce #[.int .i64 n, .slice ay az ba] 27) :: ((bp, ce #[.slice di aa.length dk, .int .i64 ca, .int .u32 av] 68) :: (ab ++ (af ++ (bh ++ (bk ++ (ga ++ (j8 ++ [])))))))))) rfl call9 rfl rfl rfl (pT ((fC (fC (fC (fC (fS (fS fP)))))).trans (pA pR)) (lp (ln rfl))) (fun F2 h2 h3 => by rw [(AT.C4 aw).1]; exact HQ (aw.row (Ab _) h2 (fun p hp => h3 p (List.mem_append_left _ hp))) h274) ?_
      refine bA (cs := #[.int .i64 n5]) BX [.int .i64 n5] ?_; intro b276 hb276
      obtain ⟨rz, h277, g278, r279⟩ := FQ r275
      refine EA (xs := ma) (ys := [n5]) (zs := rz) rfl BX rfl rfl (Nat.le_refl _) (fun _ => .c (.c (.c (.c (.c (.s (.s (.s (.s (.s .h)))))))))) nw (Gk.box (vss := [[.int .i64 n5]]) (ys := [n5]) 0 rfl (Ab _) (.cons rfl .nil) rfl rfl) h277 g278 (by decide) ?_; intro a280 n284 c281 s6 s7
      refine kO (kd kr) ?_
      refine ua (Aa (Az (id := 6) (Ak ?_)))
      refine uv (A5 rfl rfl (BT.El ju mh (AT.UD dt))) ?_
      refine um (Aa ?_)
      subst rk; exact le kr ⟨_, _, rfl, rq, rz, a280, n284, c281, s6, r279, rfl, rfl, (sc rfl (sc rfl (sc rfl (sc rfl (sc rfl (sc rfl (sc rfl z8))))))), s7⟩
     obtain rfl := BT.zero ju mh
     rw [BM] at mg
     refine AS (Ae (Ae ?_))
     refine AA ?_
     obtain rfl := AR mg
     exact mi (kc (kc (kc (kc (ka (ka (ka (ka (ka (ka kn)))))))))) ⟨mb, mc, me, ga, rfl, rfl, (sc rfl (sc rfl (sc rfl (sc rfl z8)))), nw⟩
    rintro e1 _ _ ⟨fl, jt, fm, et, rfl, rfl, s8, gb⟩
    refine AD _ s8 ?_
    refine Aq (AP (um ?_))
    obtain ⟨ok2, h287, s9⟩ := AO rj
    refine GR (Lt := et ++ []) (Lr := (ah, ce #[.slice bq br bu, .slice bw bx bz, .int .i64 (Af.length : Int), .int .i64 0, .slice none 0 0] 39) :: ((al, ce #[.int .i64 n2, .int .i64 n3] 31) :: ((ak, ce #[.int .i64 n, .slice ay az ba] 27) :: ((bp, ce #[.slice di aa.length dk, .int .i64 ca, .int .u32 av] 68) :: (ab ++ (af ++ (ao ++ (bh ++ (bk ++ []))))))))) rfl call10 rfl rfl rfl (pT ((fC (fC (fC (fC (fS (fS (fS (fS (fS fP))))))))).trans (pA pR)) (lp (ln rfl))) (fun F2 h2 h3 => by rw [(AT.C4 gb).1]; exact Cn (gb.row (Ab _) h2 (fun p hp => h3 p (List.mem_append_left _ hp))) h287) ?_
    refine Aa ?_
    refine AY rfl (fun ot => ?_) (fun ot => ?_)
    ·have r290 := bt s9 ot
     refine AP (ua (Aa ?_))
     refine kW kn ?_
     refine Ap (Aj (AE (Aj (Aj (AE (Aj ?_))))))
     refine C9 results3 ?_
     obtain rfl := AR r290
     exact rfl
    have r291 := bf s9 ot
    refine An ?_
    obtain ⟨ie, db, bj, h298, sa⟩ := EZ r291
    refine AX (fun e1 F1 L1 => ∃ (ig : Option Addr) (ou : Nat) (ij : Nat) (jv : LH), AW ly F1 ∧ L1 = ((ah, ce #[.slice bq br bu, .slice bw bx bz, .int .i64 (Af.length : Int), .int .i64 0, .slice none 0 0] 39) :: ((al, ce #[.int .i64 n2, .int .i64 n3] 31) :: ((ak, ce #[.int .i64 n, .slice ay az ba] 27) :: ((bp, ce #[.slice di aa.length dk, .int .i64 ie, .int .u32 db] 68) :: (ab ++ (af ++ (ao ++ (bh ++ (bk ++ (et ++ (jv ++ []))))))))))) ∧ e1.sub [(6, .pointer (some ⟨bp, 0, none⟩)), (7, .pointer (some ⟨ak, 0, none⟩)), (8, .pointer (some ⟨al, 0, none⟩)), (9, .slice ej eo er), (10, .slice iz j0 j3), (13, .pointer (some ⟨ah, 0, none⟩)), (18, .slice fl jt fm), (19, .slice ig ou ij), (107, .slice ej eo er), (108, .int .i64 (ad.length : Int)), (109, .int .i64 k4)] ∧ AT K.w0.heap.size 3 1 (iE .i64) F1 ig ou ij bj jv) ?_ ?_
    ·clear sa
     refine AP (um ?_)
     refine uv ((A3 underlying33 rfl).i (AT.Hc aj)) ?_
     refine um (Aa ?_)
     refine Am ?_
     refine Bg (fun fu6 e1 F1 L1 => LA ad fu6 fun tl5 k6 => ∃ (j9 : Int) (eh : Int) (dd : List Int) (mj : Option Addr) (ml : Nat) (mo : Nat) (ik : LH), BN aa k4 tl5 k6 j9 eh dd = some (ie, db, bj) ∧ AW ly F1 ∧ L1 = ((ah, ce #[.slice bq br bu, .slice bw bx bz, .int .i64 (Af.length : Int), .int .i64 0, .slice none 0 0] 39) :: ((al, ce #[.int .i64 n2, .int .i64 n3] 31) :: ((ak, ce #[.int .i64 n, .slice ay az ba] 27) :: ((bp, ce #[.slice di aa.length dk, .int .i64 j9, .int .u32 eh] 68) :: (ab ++ (af ++ (ao ++ (bh ++ (bk ++ (et ++ (ik ++ []))))))))))) ∧ e1.sub [(6, .pointer (some ⟨bp, 0, none⟩)), (7, .pointer (some ⟨ak, 0, none⟩)), (8, .pointer (some ⟨al, 0, none⟩)), (9, .slice ej eo er), (10, .slice iz j0 j3), (13, .pointer (some ⟨ah, 0, none⟩)), (14, .int .i64 k4), (18, .slice fl jt fm), (19, .slice mj ml mo), (107, .slice ej eo er), (108, .int .i64 (ad.length : Int)), (109, .int .i64 k4), (139, .int .i64 (ad.length : Int)), (140, .int .i64 k6)] ∧ AT K.w0.heap.size 3 1 (iE .i64) F1 mj ml mo dd ik) _ (m0 (kc (kc (kc (kc (ka (ka (ka (ka (ka (ka (ke kr))))))))))) ⟨_, _, rfl, BT.start _, ca, av, [], none, 0, 0, [], h298, AW.refl _, rfl, (sc rfl (sc rfl (sc rfl (sc rfl (sc rfl (sc rfl z8)))))), AT.nil _ _ _ _ _⟩) ?_
     rintro fu6 e1 F310 _ ⟨tl5, k6, sb, jw, j9, eh, dd, mj, ml, mo, ik, mq, ja, rfl, se, jb⟩
     refine AD _ se ?_
     replace fw := fw.mono (Ab _) ja
     replace aj := aj.mono (Ab _) ja
     refine AP (uv (A8 rfl rfl) ?_)
     refine Aa (Aq ?_)
     refine cQ (fun mr => ?_) fun mr => ?_
     ·obtain ⟨x4, tl6, rfl, hx315, g316, sf⟩ := BT.succ jw mr
      rw [BN] at mq
      refine An (Aq ?_)
      refine Am ?_
      refine AP (um (ua (Aa (Ak (um (um (um ?_)))))))
      obtain ⟨g317, r318⟩ := AV mq
      refine uv (FR rfl rfl g317) ?_
      refine um (um ?_)
      obtain ⟨g319, r320⟩ := AV r318
      refine uv (FR rfl rfl g319) (uv (Nt rfl rfl) (uv (SZ rfl rfl) (um ?_)))
      obtain ⟨n6, at_5, sg, h321, r322⟩ := EZ r320
      refine Fy (Lb := [(bp, ce #[.slice di aa.length dk, .int .i64 j9, .int .u32 eh] 68)]) (Lr := (ah, ce #[.slice bq br bu, .slice bw bx bz, .int .i64 (Af.length : Int), .int .i64 0, .slice none 0 0] 39) :: ((al, ce #[.int .i64 n2, .int .i64 n3] 31) :: ((ak, ce #[.int .i64 n, .slice ay az ba] 27) :: (ab ++ (af ++ (ao ++ (bh ++ (bk ++ (et ++ (ik ++ [])))))))))) rfl call11 rfl rfl rfl (((fC (fC (fC fO))).trans (pC pR))) (Dz fw h321) ?_; rintro _ F323 _ jx hd326 hn325 ⟨rfl, rfl⟩
      replace aj := aj.mono (Ab _) jx
      replace jb := jb.mono (Ab _) jx
      refine AK (lb (ln rfl)) ?_
      obtain ⟨g327, r328⟩ := AV r322
      refine uv (VU rfl rfl g327) ?_
      refine bA (cs := #[.int .i64 ((if (if k6 - k4 > k4 - k6 then k6 - k4 else k4 - k6) < 1 then (if k6 - k4 > k4 - k6 then k6 - k4 else k4 - k6) else 1) * n6)]) BX [.int .i64 ((if (if k6 - k4 > k4 - k6 then k6 - k4 else k4 - k6) < 1 then (if k6 - k4 > k4 - k6 then k6 - k4 else k4 - k6) else 1) * n6)] ?_; intro b329 hb329
      obtain ⟨il, h330, g331, r332⟩ := FQ r328
      refine EA (xs := dd) (ys := [(if (if k6 - k4 > k4 - k6 then k6 - k4 else k4 - k6) < 1 then (if k6 - k4 > k4 - k6 then k6 - k4 else k4 - k6) else 1) * n6]) (zs := il) rfl BX rfl rfl (Nat.le_refl _) (fun _ => .c (.c (.c (.c (.c (.s (.s (.s (.s (.s (.s .h))))))))))) jb (Gk.box (vss := [[.int .i64 ((if (if k6 - k4 > k4 - k6 then k6 - k4 else k4 - k6) < 1 then (if k6 - k4 > k4 - k6 then k6 - k4 else k4 - k6) else 1) * n6)]]) (ys := [(if (if k6 - k4 > k4 - k6 then k6 - k4 else k4 - k6) < 1 then (if k6 - k4 > k4 - k6 then k6 - k4 else k4 - k6) else 1) * n6]) 0 rfl (Ab _) (.cons rfl .nil) rfl rfl) h330 g331 (by decide) ?_; intro a333 n337 c334 sh si
      refine kO (kd kr) ?_
      refine ua (Aa (Az (id := 8) (Ak ?_)))
      refine uv (A5 rfl rfl (BT.El jw mr (AT.UD aj))) ?_
      refine um (Aa ?_)
      subst sb; exact le (kf (fC fO) (kf (fC fO) (kf (fC fO) kr))) ⟨_, _, rfl, sf, at_5, sg, il, a333, n337, c334, sh, r332, (ja.trans jx), rfl, (sc rfl (sc rfl (sc rfl (sc rfl (sc rfl (sc rfl z8)))))), si⟩
     obtain rfl := BT.zero jw mr
     rw [BN] at mq
     refine AS (Ae (Ae ?_))
     refine AA ?_
     obtain ⟨rfl, rfl, rfl⟩ := Iz mq
     exact mi kr ⟨mj, ml, mo, ik, ja, rfl, (sc rfl (sc rfl (sc rfl z8))), jb⟩
    rintro e1 F340 _ ⟨ig, ou, ij, jv, jc, rfl, sj, jd⟩
    refine AD _ sj ?_
    replace cj := cj.mono (Ax (Ab _)) jc
    replace cn := cn.mono (Ax (Ab _)) jc
    replace gb := gb.mono (Ab _) jc
    obtain rfl := (AT.C4 gb).1
    refine Lh (Nat.le_refl _) (Ab _) (fC (fC (fC (fC (fS (fS (fS (fS (fS fP))))))))) gb ?_; intro F342 je ow
    replace cj := cj.mono (Ax (Ab _)) je
    replace cn := cn.mono (Ax (Ab _)) je
    replace jd := jd.mono (Ab _) je
    obtain rfl := (AT.C4 jd).1
    refine Lh (Nat.le_refl _) (Ab _) (fC (fC (fC (fC (fS (fS (fS (fS (fS fP))))))))) jd ?_; intro F345 jf h347
    replace ow := ow.mono (Ab _) jf
    replace cj := cj.mono (Ax (Ab _)) jf
    replace cn := cn.mono (Ax (Ab _)) jf
    refine C5 [(.still, 0), (.still, 1), (.still, 2), (.pre, 3), (.still, 5), (.still, 6), (.still, 7), (.pre, 8), (.alloc (ce #[.slice fl own.length fm] 33) (fun b => .slice (some ⟨b, 0, none⟩) 1 1) [(160, .slice fl own.length fm)], 3), (.seq, 4), (.still, 10), (.alloc (ce #[.slice ig bj.length ij] 33) (fun b => .slice (some ⟨b, 0, none⟩) 1 1) [(165, .slice ig bj.length ij)], 8), (.seq, 9), (.seq, 11), (.still, 12), (.seq, 13)] (by kernel_rfl) (by kernel_rfl) (⟨⟨_, _, rfl, rfl, rfl, rfl, rfl, Rp rfl (H6 Lx [.slice fl own.length fm] rfl (by decide) (by simp [Value.cells]) (by decide))⟩, ⟨⟨_, _, rfl, rfl, rfl, rfl, rfl, Rp rfl (H6 Lx [.slice ig bj.length ij] rfl (by decide) (by simp [Value.cells]) (by decide))⟩, trivial⟩⟩) (by rfl) (by kernel_rfl) (mS [13] rfl (Ad H8 rfl) (mL [158] ([(ah, ce #[.slice bq br bu, .slice bw bx bz, .int .i64 (Af.length : Int), .int .i64 0, .slice none 0 0] 39)]) rfl (s0 (s2 (s1 (s1 (s1 (s3 (s3 (s3 (s3 (s3 sr)))))))))) (fun H F' L' mv mw => Al isAgg36 rfl ((Has.own 0 rfl).ext mv mw) rfl) (mS [18] rfl (Be rfl) ?_)))
    refine ⟨⟨_, rfl, z1, by kernel_rfl⟩, ?_⟩
    refine mS [13] rfl (Ad Jz rfl) (mL [163] ([(ah, ce #[.slice bq br bu, .slice bw bx bz, .int .i64 (Af.length : Int), .int .i64 0, .slice none 0 0] 39)]) rfl (s0 (s2 (s1 (s1 (s1 (s3 (s3 (s3 (s3 (s3 sr)))))))))) (fun H F' L' mv mw => Al isAgg36 rfl ((Has.own 0 rfl).ext mv mw) rfl) (mS [19] rfl (Be rfl) ?_))
    refine ⟨⟨_, rfl, z1, by kernel_rfl⟩, ?_⟩
    refine Vx rfl ?_; intro sk hb348
    refine Xh (L' := (sk, ce #[.slice fl own.length fm] 33) :: ((ah, ce #[.slice bq br bu, .slice bw bx bz, .int .i64 (Af.length : Int), .int .i64 0, .slice none 0 0] 39) :: ((al, ce #[.int .i64 n2, .int .i64 n3] 31) :: ((ak, ce #[.int .i64 n, .slice ay az ba] 27) :: ((bp, ce #[.slice di aa.length dk, .int .i64 ie, .int .u32 db] 68) :: (ab ++ (af ++ (ao ++ (bh ++ (bk ++ [])))))))))) rfl ?_
    refine ⟨_, [(159, .slice bw bx bz), (161, .slice (some ⟨sk, 0, none⟩) 1 1)], rfl, rfl, z2, by kernel_rfl, ?_⟩; intro H
    obtain ⟨l3, h349, g350, r351⟩ := FQ sa
    refine EA (xs := cd) (ys := [own]) (zs := l3) rfl Lx rfl rfl (Nat.le_refl _) (fun _ => .c (.c (.c (.c (.c (.s (.s (.s (.s .h))))))))) cn (Gk.box (vss := [[.slice fl own.length fm]]) (ys := [own]) 0 rfl (Ax (Ab _)) (.cons ⟨_, _, rfl, ow⟩ .nil) rfl rfl) h349 g350 (by decide) ?_; intro sq ss su ny sv
    refine kO (kd kr) ?_
    refine Aa ⟨_, rfl, AW.refl _, [7, 6, 5], by kernel_rfl, .inl (.inr (fun d h => by cases h; rfl)), (fc sm (fc (s0 (s2 (s1 (s1 (s1 (s3 (s3 (s3 (s3 (s3 sr)))))))))) (fc sm nm))), ?_⟩
    refine mS [13] rfl (Ad H8 rfl) ?_
    refine Vx rfl ?_; intro sw hb358
    refine Xh (L' := (sw, ce #[.slice ig bj.length ij] 33) :: ((ah, ce #[.slice bq br bu, .slice bw bx bz, .int .i64 (Af.length : Int), .int .i64 0, .slice none 0 0] 39) :: ((al, ce #[.int .i64 n2, .int .i64 n3] 31) :: ((ak, ce #[.int .i64 n, .slice ay az ba] 27) :: ((bp, ce #[.slice di aa.length dk, .int .i64 ie, .int .u32 db] 68) :: (ab ++ (af ++ (ao ++ (bh ++ (ny ++ [])))))))))) rfl ?_
    refine ⟨_, [(164, .slice bq br bu), (166, .slice (some ⟨sw, 0, none⟩) 1 1)], rfl, rfl, z2, by kernel_rfl, ?_⟩; intro H
    obtain ⟨l4, h359, g360, r361⟩ := FQ r351
    refine EA (xs := cc) (ys := [bj]) (zs := l4) rfl Lx rfl rfl (Nat.le_refl _) (fun _ => .c (.c (.c (.c (.c (.s (.s (.s .h)))))))) cj (Gk.box (vss := [[.slice ig bj.length ij]]) (ys := [bj]) 0 rfl (Ax (Ab _)) (.cons ⟨_, _, rfl, h347⟩ .nil) rfl rfl) h359 g360 (by decide) ?_; intro sx sy ta tc td
    refine kO (kd kr) ?_
    refine Aa ⟨_, rfl, AW.refl _, [10], by kernel_rfl, .inl (.inr (fun d h => by cases h; rfl)), (fc sm nm), ?_⟩
    refine ⟨_, [(162, .slice sq ss su), (168, .pointer (some ⟨ah, 1, none⟩))], rfl, rfl, z2, by kernel_rfl, ?_⟩; intro H
    refine CS (i := 0) sizeOf36 rfl rfl rfl rfl (CE rfl) (AK rfl ?_)
    refine Aa ⟨undef, rfl, AW.refl _, [], by kernel_rfl, .inl (.inl rfl), nm, ?_⟩
    refine mS [13] rfl (Ad Jz rfl) ?_
    refine ⟨_, [(167, .slice sx sy ta), (169, .pointer (some ⟨ah, 0, none⟩))], rfl, rfl, z2, by kernel_rfl, ?_⟩; intro H
    refine CS (i := 0) sizeOf36 rfl rfl rfl rfl (CE rfl) (AK rfl ?_)
    refine Aa ⟨undef, rfl, AW.refl _, [], by kernel_rfl, .inl (.inl rfl), nm, ?_⟩
    refine Ef (Az (id := 4) ?_)
    exact mi kr ⟨ie, db, l4, l3, sx, sy, ta, tc, sq, ss, su, ny, r361, (((fy.trans jc).trans je).trans jf), rfl, (sc rfl z8), td, sv⟩
   rintro e1 F370 _ ⟨j5, eg, cz, da, ll, lq, lr, j6, lu, lv, lx, j7, te, nz, rfl, tf, tg, th⟩
   refine AD _ tf ?_
   replace aj := aj.mono (Ab _) nz
   rw [DV] at te
   refine Ak (uv (A5 rfl rfl (BT.El js lk (AT.UD aj))) ?_)
   refine um (Aa ?_)
   subst qn; exact le kr ⟨_, _, rfl, qs, j5, eg, cz, da, ll, lq, lr, j6, lu, lv, lx, j7, te, (fx.trans nz), rfl, (sc rfl z8), tg, th⟩
  obtain rfl := BT.zero js lk
  rw [BO] at lj
  refine AS (Ae (Ae ?_))
  refine AA ?_
  exact mi kr ⟨ca, av, cc, cd, bq, br, bu, bh, bw, bx, bz, bk, lj, fx, rfl, z6, cj, cn⟩
 rintro e1 F374 _ ⟨lh, gw, gz, ia, ct, cu, cv, bm, cw, cx, cy, bn, ti, jg, rfl, tj, bb, bc⟩
 refine AD _ tj ?_
 replace fw := fw.mono (Ab _) jg
 replace ar := ar.mono (Ab _) jg
 replace aj := aj.mono (Ab _) jg
 replace aw := aw.mono (Ab _) jg
 rw [CM] at ti
 refine AP (um (um ?_))
 refine uv ((A3 underlying33 rfl).i (AT.Hc aw)) ?_
 obtain ⟨l5, at_6, tk, h376, r377⟩ := EZ ti
 refine Fy (Lb := [(bp, ce #[.slice di aa.length dk, .int .i64 lh, .int .u32 gw] 68)]) (Lr := (ah, ce #[.slice ct cu cv, .slice cw cx cy, .int .i64 (Af.length : Int), .int .i64 0, .slice none 0 0] 39) :: ((al, ce #[.int .i64 n2, .int .i64 n3] 31) :: ((ak, ce #[.int .i64 n, .slice ay az ba] 27) :: (ab ++ (af ++ (ao ++ (bm ++ (bn ++ [])))))))) rfl call12 rfl rfl rfl (((fC (fC (fC fO))).trans (pC pR))) (LP fw h376) ?_; rintro _ F378 _ gg tm tn ⟨a382, n386, c383, Lb384, rfl, rfl, gh⟩
 replace fw := fw.mono (Ab _) gg
 replace ar := ar.mono (Ab _) gg
 replace aj := aj.mono (Ab _) gg
 replace aw := aw.mono (Ab _) gg
 replace bb := bb.mono (Ax (Ab _)) gg
 replace bc := bc.mono (Ax (Ab _)) gg
 have tq := MR (Lb' := [(bp, ce #[.slice di aa.length dk, .int .i64 at_6, .int .u32 tk] 68)]) (by rfl) tm tn
 replace gh := gh.new fun p hp => tq p (by simp [hp])
 refine AK (lb (lp (ln rfl))) (kO (kc (kf (fS fO) (kf (fS fO) (kf (fS fO) kr)))) ?_)
 refine ua (Cj (um (um (um ?_))))
 refine uv ((A3 underlying33 rfl).i (AT.Hc gh)) ?_
 obtain ⟨n7, at_7, turn7, h389, r390⟩ := EZ r377
 refine cG call11 (Dz fw h389) ?_; rintro _ F391 _ eu hd394 hn393 ⟨rfl, rfl⟩
 replace fw := fw.mono (Ab _) eu
 replace ar := ar.mono (Ab _) eu
 replace aj := aj.mono (Ab _) eu
 replace aw := aw.mono (Ab _) eu
 replace bb := bb.mono (Ax (Ab _)) eu
 replace bc := bc.mono (Ax (Ab _)) eu
 replace gh := gh.mono (Ab _) eu
 refine AK (lb (ln rfl)) ?_
 obtain ⟨g395, r396⟩ := AV r390
 obtain ⟨quarter, h397, r398⟩ := CT r396
 refine OP (l := 0) (h := n7) (zs := quarter) rfl BX (Ab _) rfl (.inl ⟨rfl, rfl⟩) (.inr ⟨_, rfl, rfl⟩) (fun _ => .c (.c (.c (.c .h)))) gh g395 h397 ?_; intro ew oy ey Lb403 mx
 refine ua (Cj (um (um ?_)))
 obtain ⟨n8, tr, o3, h405, r406⟩ := EZ r398
 refine cG call11 (Dz fw h405) ?_; rintro _ F407 _ gk hd410 hn409 ⟨rfl, rfl⟩
 replace ar := ar.mono (Ab _) gk
 replace aj := aj.mono (Ab _) gk
 replace aw := aw.mono (Ab _) gk
 replace bb := bb.mono (Ax (Ab _)) gk
 replace bc := bc.mono (Ax (Ab _)) gk
 replace mx := mx.mono (Ab _) gk
 refine AK (lb (ln rfl)) ?_
 refine uv (BC (v := .agg #[.slice ew oy ey, .int .i64 n8, .int .i64 200]) rfl (by intro w; kernel_rfl)) ?_
 refine bA (cs := #[.slice ew oy ey, .int .i64 n8, .int .i64 200]) We [.agg #[.slice ew oy ey, .int .i64 n8, .int .i64 200]] ?_; intro fa tt
 refine uv (Ad Fj rfl) ?_
 obtain rfl := (AT.C4 mx).1
 refine RE (Nat.le_refl _) (Ab _) (fC (fC (fC (fC (fC fP))))) mx ?_; intro oz im dp
 replace ar := ar.mono (Ab _) im
 replace aj := aj.mono (Ab _) im
 replace aw := aw.mono (Ab _) im
 replace bb := bb.mono (Ax (Ab _)) im
 replace bc := bc.mono (Ax (Ab _)) im
 have cf : AT K.w0.heap.size 48 3 (B4 (CD 1 (iE .i64)) (B4 (iE .i64) (iE .i64))) oz (some ⟨fa, 0, none⟩) 1 1 [(quarter, n8, 200)] [(fa, ce #[.slice ew quarter.length ey, .int .i64 n8, .int .i64 200] 48)] := AT.CV (vss := [[.slice ew quarter.length ey, .int .i64 n8, .int .i64 200]]) (At (Ax (Ab _)) (At (Ab _) (Ab _))) tt (.cons ⟨_, _, rfl, ⟨_, _, rfl, dp⟩, ⟨_, _, rfl, rfl, rfl⟩⟩ .nil) rfl rfl (by simp [maxLen])
 generalize my : ([(fa, ce #[.slice ew quarter.length ey, .int .i64 n8, .int .i64 200] 48)] : LH) = Lb415 at cf
 refine Dl (L' := Lb415 ++ ((bp, ce #[.slice di aa.length dk, .int .i64 tr, .int .u32 o3] 68) :: ((ah, ce #[.slice ct cu cv, .slice cw cx cy, .int .i64 (Af.length : Int), .int .i64 0, .slice none 0 0] 39) :: ((al, ce #[.int .i64 n2, .int .i64 n3] 31) :: ((ak, ce #[.int .i64 n, .slice ay az ba] 27) :: (ab ++ (af ++ (ao ++ (bm ++ (bn ++ [])))))))))) (by rw [← my]; exact fO) ?_
 refine Dl (L' := (bp, ce #[.slice di aa.length dk, .int .i64 tr, .int .u32 o3] 68) :: ((ah, ce #[.slice ct cu cv, .slice cw cx cy, .int .i64 (Af.length : Int), .int .i64 0, .slice none 0 0] 39) :: ((al, ce #[.int .i64 n2, .int .i64 n3] 31) :: ((ak, ce #[.int .i64 n, .slice ay az ba] 27) :: (Lb415 ++ (ab ++ (af ++ (ao ++ (bm ++ (bn ++ [])))))))))) (List.Perm.symm (fC (fC (fC (fC fP))))) (CS (i := 1) sizeOf37 rfl rfl rfl rfl (CE rfl) (AK rfl ?_))
 refine Cj (ua (Aa ?_))
 obtain ⟨plots, h424, tu⟩ := AO r406
 refine AX (fun e1 F1 L1 => ∃ (fb : Option Addr) (fe : Nat) (ff : Nat) (ai : LH), oz = F1 ∧ L1 = ((ah, ce #[.slice ct cu cv, .slice cw cx cy, .int .i64 (Af.length : Int), .int .i64 0, .slice (some ⟨fa, 0, none⟩) 1 1] 39) :: ((al, ce #[.int .i64 n2, .int .i64 n3] 31) :: ((ak, ce #[.int .i64 n, .slice ay az ba] 27) :: (ab ++ (af ++ (ao ++ (bm ++ (bn ++ (Lb415 ++ (ai ++ [])))))))))) ∧ e1.sub [(7, .pointer (some ⟨ak, 0, none⟩)), (8, .pointer (some ⟨al, 0, none⟩)), (9, .slice ej eo er), (10, .slice iz j0 j3), (13, .pointer (some ⟨ah, 0, none⟩)), (23, .slice ew quarter.length ey), (24, .slice fb fe ff)] ∧ AT K.w0.heap.size 3 1 (iE .i64) F1 fb fe ff plots ai) ?_ ?_
 ·clear tu
  refine AP (um ?_)
  refine uv (A3 underlying33 rfl) ?_
  refine um (Aa ?_)
  refine Am (kW (kd kr) ?_)
  refine Bg (fun fu7 e1 F1 L1 => LA quarter fu7 fun tl7 k7 => ∃ (ib : List Int) (mz : Option Addr) (na : Nat) (nc : Nat) (gl : LH), Cc Af tl7 ib = some plots ∧ oz = F1 ∧ L1 = ((ah, ce #[.slice ct cu cv, .slice cw cx cy, .int .i64 (Af.length : Int), .int .i64 0, .slice (some ⟨fa, 0, none⟩) 1 1] 39) :: ((al, ce #[.int .i64 n2, .int .i64 n3] 31) :: ((ak, ce #[.int .i64 n, .slice ay az ba] 27) :: (ab ++ (af ++ (ao ++ (bm ++ (bn ++ (Lb415 ++ (gl ++ [])))))))))) ∧ e1.sub [(7, .pointer (some ⟨ak, 0, none⟩)), (8, .pointer (some ⟨al, 0, none⟩)), (9, .slice ej eo er), (10, .slice iz j0 j3), (13, .pointer (some ⟨ah, 0, none⟩)), (23, .slice ew quarter.length ey), (24, .slice mz na nc), (187, .slice ew quarter.length ey), (188, .int .i64 (quarter.length : Int)), (189, .int .i64 k7)] ∧ AT K.w0.heap.size 3 1 (iE .i64) F1 mz na nc ib gl) _ (m0 (kc (kc (kc (kg (fS fP) (kg (fS fP) (kg (fS fP) (kg (fS fP) (kg (fS fP) (ka (ke kr)))))))))) ⟨_, _, rfl, BT.start _, [], none, 0, 0, [], h424, rfl, rfl, (sc rfl (sc rfl z8)), AT.nil _ _ _ _ _⟩) ?_
  rintro fu7 e1 _ _ ⟨tl7, k7, tv, jz, ib, mz, na, nc, gl, nf, rfl, rfl, tw, o7⟩
  refine AD _ tw (AP (uv (A8 rfl rfl) ?_))
  refine Aa (Aq ?_)
  refine cQ (fun ng => ?_) fun ng => ?_
  ·obtain ⟨x5, tl8, rfl, tx, tz, u0⟩ := BT.succ jz ng
   rw [Cc] at nf
   refine An (Aq ?_)
   refine Am (AP ?_)
   obtain ⟨b441, o442, c443, vs444, u3, u4, hle447, rfl, hl448, u5⟩ := AF.at (Ab _) dp ((ah, ce #[.slice ct cu cv, .slice cw cx cy, .int .i64 (Af.length : Int), .int .i64 0, .slice (some ⟨fa, 0, none⟩) 1 1] 39) :: ((al, ce #[.int .i64 n2, .int .i64 n3] 31) :: ((ak, ce #[.int .i64 n, .slice ay az ba] 27) :: (ab ++ (af ++ (ao ++ (bm ++ (bn ++ (Lb415 ++ (gl ++ [])))))))))) tz.1 tx
   refine uv (AI underlying33 sizeOf3 rfl u3 rfl tz) (uv (Al isAgg3 rfl u4 (u5 0 (by decide))) ?_)
   refine ua (Aa (Ak (um (um (um ?_)))))
   obtain ⟨x6, u6, u7, r452⟩ := BH nf
   obtain ⟨b453, o454, c455, vs456, u9, ub, hle459, rfl, hl460, uc⟩ := AT.at (Ab _) aw (L := (ah, ce #[.slice ct cu cv, .slice cw cx cy, .int .i64 (Af.length : Int), .int .i64 0, .slice (some ⟨fa, 0, none⟩) 1 1] 39) :: ((al, ce #[.int .i64 n2, .int .i64 n3] 31) :: ((ak, ce #[.int .i64 n, .slice ay az ba] 27) :: (ab ++ (af ++ (ao ++ (bm ++ (bn ++ (Lb415 ++ (gl ++ [])))))))))) (fC (fC (fC (fS (fS fP))))) u6.1 u7
   refine uv (AI underlying33 sizeOf3 rfl u9 rfl (AT.idx aw u6)) (uv (Al isAgg3 rfl ub (uc 0 (by decide))) ?_)
   refine bA (cs := #[.int .i64 x6]) BX [.int .i64 x6] ?_; intro b462 hb462
   obtain ⟨kb, h463, g464, r465⟩ := FQ r452
   refine EA (xs := ib) (ys := [x6]) (zs := kb) rfl BX rfl rfl (Nat.le_refl _) (fun _ => .c (.c (.c (.c (.s (.s (.s (.s (.s (.s .h)))))))))) o7 (Gk.box (vss := [[.int .i64 x6]]) (ys := [x6]) 0 rfl (Ab _) (.cons rfl .nil) rfl rfl) h463 g464 (by decide) ?_; intro a466 n470 c467 ud ue
   refine kO (kd kr) ?_
   refine ua (Aa (Az (id := 10) (Ak ?_)))
   refine uv (A5 rfl rfl (BT.El jz ng (AF.lt dp))) ?_
   refine um (Aa ?_)
   subst tv; exact le kr ⟨_, _, rfl, u0, kb, a466, n470, c467, ud, r465, rfl, rfl, (sc rfl (sc rfl z8)), ue⟩
  obtain rfl := BT.zero jz ng
  rw [Cc] at nf
  refine AS (Ae (Ae ?_))
  refine AA ?_
  obtain rfl := AR nf
  exact mi kr ⟨mz, na, nc, gl, rfl, rfl, z7, o7⟩
 rintro e1 _ _ ⟨fb, fe, ff, ai, rfl, rfl, uf, au⟩
 refine AD _ uf (AP (uv (AM isAgg27 sizeOf27 rfl (Has.own 2 rfl) (CE rfl) rfl) (uv (AM isAgg31 sizeOf31 rfl (Has.own 1 rfl) (CE rfl) rfl) (um ?_))))
 obtain ⟨l6, n9, h473, r474⟩ := CQ tu
 refine Gb (Lb := []) (Lt := ab ++ (ai ++ [])) (Lr := (ah, ce #[.slice ct cu cv, .slice cw cx cy, .int .i64 (Af.length : Int), .int .i64 0, .slice (some ⟨fa, 0, none⟩) 1 1] 39) :: ((al, ce #[.int .i64 n2, .int .i64 n3] 31) :: ((ak, ce #[.int .i64 n, .slice ay az ba] 27) :: (af ++ (ao ++ (bm ++ (bn ++ (Lb415 ++ [])))))))) rfl call13 rfl rfl rfl (pT ((fC (fC (fC fP))).trans (pA ((fC (fC (fC (fS (fS (fS (fS (fS fP)))))))).trans (pA pR)))) (ln (lp (lp (ln rfl))))) (fun F2 h2 h3 => by rw [(AT.C4 ar).1]; rw [(AT.C4 au).1]; exact PA (ar.row (Ab _) h2 (fun p hp => h3 p (List.mem_append_left _ hp))) (au.row (Ab _) h2 (fun p hp => h3 p (List.mem_append_right _ (List.mem_append_left _ hp)))) h473) (fun _ _ _ _ hq => by obtain ⟨fo, fp, fq, aq, rfl, rfl, bo⟩ := hq; exact ⟨_, _, _, _, rfl, rfl, bo.flat (fun _ _ h => h)⟩) ?_; rintro _ F475 _ du ug uh ⟨fo, fp, fq, aq, rfl, rfl, bo⟩
 replace dp := dp.mono (Ab _) du
 replace ar := ar.mono (Ab _) du
 replace aj := aj.mono (Ab _) du
 replace aw := aw.mono (Ab _) du
 replace bb := bb.mono (Ax (Ab _)) du
 replace bc := bc.mono (Ax (Ab _)) du
 replace cf := cf.mono (At (Ax (Ab _)) (At (Ab _) (Ab _))) du
 replace au := au.mono (Ab _) du
 have ui := MR (Lb' := []) (by rfl) ug uh
 replace bo := bo.new fun p hp => ui p (by simp [hp])
 refine AK (lp (ln (lp (lp (ln rfl))))) (kO (kf (fS (fS (fS fO))) (kf (fS (fS (fS fO))) (kf (fS (fS (fS fO))) kr))) ?_)
 refine um (ox rfl rfl rfl (ox rfl rfl rfl (ua (ua (Cj ?_)))))
 refine uv (AM isAgg27 sizeOf27 rfl (Has.own 2 rfl) (CE rfl) rfl) (uv (AM isAgg31 sizeOf31 rfl (Has.own 1 rfl) (CE rfl) rfl) ?_)
 obtain ⟨l7, n10, h486, r487⟩ := CQ r474
 refine Gb (Lb := []) (Lt := ab ++ []) (Lr := (ah, ce #[.slice ct cu cv, .slice cw cx cy, .int .i64 (Af.length : Int), .int .i64 0, .slice (some ⟨fa, 0, none⟩) 1 1] 39) :: ((al, ce #[.int .i64 n2, .int .i64 n3] 31) :: ((ak, ce #[.int .i64 n, .slice ay az ba] 27) :: (aq ++ (ai ++ (af ++ (ao ++ (bm ++ (bn ++ (Lb415 ++ [])))))))))) rfl call14 rfl rfl rfl (pT ((fC (fC (fC (fS fP)))).trans (pA pR)) (ln (lp (ln rfl)))) (fun F2 h2 h3 => by rw [(AT.C4 ar).1]; exact Sj (ar.row (Ab _) h2 (fun p hp => h3 p (List.mem_append_left _ hp))) h486) (fun _ _ _ _ hq => by obtain ⟨p0, p6, p7, de, rfl, rfl, cp⟩ := hq; exact ⟨_, _, _, _, rfl, rfl, cp.flat (fun _ _ h => h)⟩) ?_; rintro _ F488 _ df uj uk ⟨p0, p6, p7, de, rfl, rfl, cp⟩
 replace dp := dp.mono (Ab _) df
 replace ar := ar.mono (Ab _) df
 replace aj := aj.mono (Ab _) df
 replace aw := aw.mono (Ab _) df
 replace bb := bb.mono (Ax (Ab _)) df
 replace bc := bc.mono (Ax (Ab _)) df
 replace cf := cf.mono (At (Ax (Ab _)) (At (Ab _) (Ab _))) df
 replace au := au.mono (Ab _) df
 replace bo := bo.mono (Ab _) df
 have uo := MR (Lb' := []) (by rfl) uj uk
 replace cp := cp.new fun p hp => uo p (by simp [hp])
 refine AK (lp (ln (lp (ln rfl)))) (kO (kf (fS (fS fO)) (kf (fS (fS fO)) (kf (fS (fS fO)) kr))) ?_)
 refine um (ox rfl rfl rfl (ox rfl rfl rfl (ua (ua (Cj ?_)))))
 refine uv (AM isAgg39 sizeOf39 rfl (Has.own 0 rfl) (CE rfl) rfl) ?_
 obtain ⟨l8, n11, n12, h499, r500⟩ := EZ r487
 refine Gb (Lb := []) (Lt := bm ++ (bn ++ (Lb415 ++ []))) (Lr := (ah, ce #[.slice ct cu cv, .slice cw cx cy, .int .i64 (Af.length : Int), .int .i64 0, .slice (some ⟨fa, 0, none⟩) 1 1] 39) :: ((al, ce #[.int .i64 n2, .int .i64 n3] 31) :: ((ak, ce #[.int .i64 n, .slice ay az ba] 27) :: (de ++ (ab ++ (aq ++ (ai ++ (af ++ (ao ++ []))))))))) rfl call15 rfl rfl rfl (pT ((fC (fC (fC (fS (fS (fS (fS (fS (fS fP))))))))).trans (pA ((fC (fC (fC (fS (fS (fS (fS (fS (fS fP))))))))).trans (pA ((fC (fC (fC (fS (fS (fS (fS (fS (fS fP))))))))).trans (pA pR)))))) (ln (lp (lp (lp (ln rfl)))))) (fun F2 h2 h3 => by have h0 := ML (bb.row (Ax (Ab _)) h2 (fun p hp => h3 p (List.mem_append_left _ hp))) (bc.row (Ax (Ab _)) h2 (fun p hp => h3 p (List.mem_append_right _ (List.mem_append_left _ hp)))) (cf.row (At (Ax (Ab _)) (At (Ab _) (Ab _))) h2 (fun p hp => h3 p (List.mem_append_right _ (List.mem_append_right _ (List.mem_append_left _ hp))))) h499; rw [← (AT.C4 bb).1] at h0; rw [← (AT.C4 bc).1] at h0; rw [← (AT.C4 cf).1] at h0; exact h0) (fun _ _ _ _ hq => by obtain ⟨jm, jn, jo, cb, rfl, rfl, cq⟩ := hq; exact ⟨_, _, _, _, rfl, rfl, cq.flat (fun _ _ h => h)⟩) ?_; rintro _ F501 _ cr uq ur ⟨jm, jn, jo, cb, rfl, rfl, cq⟩
 replace dp := dp.mono (Ab _) cr
 replace ar := ar.mono (Ab _) cr
 replace aj := aj.mono (Ab _) cr
 replace aw := aw.mono (Ab _) cr
 replace bb := bb.mono (Ax (Ab _)) cr
 replace bc := bc.mono (Ax (Ab _)) cr
 replace cf := cf.mono (At (Ax (Ab _)) (At (Ab _) (Ab _))) cr
 replace au := au.mono (Ab _) cr
 replace bo := bo.mono (Ab _) cr
 replace cp := cp.mono (Ab _) cr
 have uu := MR (Lb' := []) (by rfl) uq ur
 replace cq := cq.new fun p hp => uu p (by simp [hp])
 refine AK (lp (ln (lp (lp (lp (ln rfl)))))) (kO (kf (fS (fS (fS (fS fO)))) (kf (fS (fS (fS (fS fO)))) (kf (fS (fS (fS (fS fO)))) kr))) ?_)
 refine um (ox rfl rfl rfl (ox rfl rfl rfl (ox rfl rfl rfl (ua (ua (ua (Cj ?_)))))))
 refine uv (AM isAgg39 sizeOf39 rfl (Has.own 0 rfl) (CE rfl) rfl) ?_
 obtain ⟨l9, n13, h512, r513⟩ := CQ r500
 refine Gb (Lb := []) (Lt := bm ++ (bn ++ (Lb415 ++ []))) (Lr := (ah, ce #[.slice ct cu cv, .slice cw cx cy, .int .i64 (Af.length : Int), .int .i64 0, .slice (some ⟨fa, 0, none⟩) 1 1] 39) :: ((al, ce #[.int .i64 n2, .int .i64 n3] 31) :: ((ak, ce #[.int .i64 n, .slice ay az ba] 27) :: (cb ++ (de ++ (ab ++ (aq ++ (ai ++ (af ++ (ao ++ [])))))))))) rfl call16 rfl rfl rfl (pT ((fC (fC (fC (fS fP)))).trans (pA ((fC (fC (fC (fS fP)))).trans (pA ((fC (fC (fC (fS fP)))).trans (pA pR)))))) (ln (lp (lp (lp (ln rfl)))))) (fun F2 h2 h3 => by have h0 := Qx (bb.row (Ax (Ab _)) h2 (fun p hp => h3 p (List.mem_append_left _ hp))) (bc.row (Ax (Ab _)) h2 (fun p hp => h3 p (List.mem_append_right _ (List.mem_append_left _ hp)))) (cf.row (At (Ax (Ab _)) (At (Ab _) (Ab _))) h2 (fun p hp => h3 p (List.mem_append_right _ (List.mem_append_right _ (List.mem_append_left _ hp))))) h512; rw [← (AT.C4 bb).1] at h0; rw [← (AT.C4 bc).1] at h0; rw [← (AT.C4 cf).1] at h0; exact h0) (fun _ _ _ _ hq => by obtain ⟨p8, p9, pa, fg, rfl, rfl, gm⟩ := hq; exact ⟨_, _, _, _, rfl, rfl, gm.flat (fun _ _ h => h)⟩) ?_; rintro _ kh _ dv uw ux ⟨p8, p9, pa, fg, rfl, rfl, gm⟩
 replace dp := dp.mono (Ab _) dv
 replace ar := ar.mono (Ab _) dv
 replace aj := aj.mono (Ab _) dv
 replace aw := aw.mono (Ab _) dv
 replace au := au.mono (Ab _) dv
 replace bo := bo.mono (Ab _) dv
 replace cp := cp.mono (Ab _) dv
 replace cq := cq.mono (At (Ab _) (Ab _)) dv
 have uy := MR (Lb' := []) (by rfl) uw ux
 replace gm := gm.new fun p hp => uy p (by simp [hp])
 refine AK (lp (ln (lp (lp (lp (ln rfl)))))) (kO (kf (fS (fS (fS (fS fO)))) (kf (fS (fS (fS (fS fO)))) (kf (fS (fS (fS (fS fO)))) kr))) ?_)
 refine um (ox rfl rfl rfl (ox rfl rfl rfl (ua (ua (Aa (Aq ?_))))))
 obtain ⟨k8, uz, pb⟩ := AO r513
 refine jE (((al, ce #[.int .i64 n2, .int .i64 n3] 31) :: ((ak, ce #[.int .i64 n, .slice ay az ba] 27) :: (ab ++ (af ++ (ao ++ (ai ++ (aq ++ (de ++ (cb ++ (fg ++ []))))))))))) [(7, .pointer (some ⟨ak, 0, none⟩)), (8, .pointer (some ⟨al, 0, none⟩)), (9, .slice ej eo er), (10, .slice iz j0 j3), (23, .slice ew quarter.length ey), (24, .slice fb fe ff), (27, .slice fo fp fq), (28, .int .i64 n9), (29, .slice p0 p6 p7), (31, .slice jm jn jo), (34, .slice p8 p9 pa), (243, .bool k8)] ?_ ?_
 ·clear pb
  refine Ak (um ?_)
  refine uv (B6 rfl rfl) (um ?_)
  by_cases iq : n10 ≠ 0
  ·have r528 := A2 uz iq
   refine fT iq (fT iq ?_)
   refine uv (AQ (Bd rfl iq) rfl) ?_
   refine um (AB (b' := true) 231 rfl rfl rfl rfl (AB (b' := true) 231 rfl rfl rfl rfl (AB (b' := true) 231 rfl rfl rfl rfl (fU (fU (AB (b' := true) 231 rfl rfl rfl rfl ?_))))))
   refine uv (AQ rfl rfl) ?_
   refine um (AB (b' := true) 239 rfl rfl rfl rfl (AB (b' := true) 239 rfl rfl rfl rfl (AB (b' := true) 239 rfl rfl rfl rfl ?_)))
   refine uv (AQ rfl rfl) (Aa ?_)
   obtain rfl := AR r528
   exact mi (kd (kc (kc (kg (fS (fS (fS (fS (fS (fS fP)))))) (kg (fS (fS (fS (fS (fS (fS (fS (fS fP)))))))) (kg (fS (fS (fS (fS (fS (fS (fS (fS fP)))))))) (kg (fS (fS (fS (fS (fS (fS (fS fP))))))) (kg (fS (fS (fS (fS (fS (fS fP)))))) (kg (fS (fS (fS (fS (fS fP))))) (kg (fS (fS (fS (fS fP)))) (ka kn))))))))))) ⟨rfl, rfl, (sc rfl (sc rfl (sc rfl (sc rfl z8))))⟩
  have va := A1 uz iq
  refine nF iq (um (nF iq ?_))
  refine uv (B6 rfl rfl) (uv (AL (A4 rfl iq) rfl) (um ?_))
  by_cases dg : n13 ≠ 0
  ·have r531 := A2 va dg
   refine fT dg (fT dg (fT dg (fU (fU (fT dg ?_)))))
   refine uv (AQ (Bd rfl dg) rfl) ?_
   refine um (AB (b' := true) 239 rfl rfl rfl rfl (AB (b' := true) 239 rfl rfl rfl rfl (AB (b' := true) 239 rfl rfl rfl rfl ?_)))
   refine uv (AQ rfl rfl) (Aa ?_)
   obtain rfl := AR r531
   exact mi (kd (kc (kc (kg (fS (fS (fS (fS (fS (fS fP)))))) (kg (fS (fS (fS (fS (fS (fS (fS (fS fP)))))))) (kg (fS (fS (fS (fS (fS (fS (fS (fS fP)))))))) (kg (fS (fS (fS (fS (fS (fS (fS fP))))))) (kg (fS (fS (fS (fS (fS (fS fP)))))) (kg (fS (fS (fS (fS (fS fP))))) (kg (fS (fS (fS (fS fP)))) (ka kn))))))))))) ⟨rfl, rfl, (sc rfl (sc rfl (sc rfl (sc rfl z8))))⟩
  have vb := A1 va dg
  refine nF dg (um (nF dg ?_))
  refine uv (B6 rfl rfl) ?_
  refine nF dg (um ?_)
  by_cases ir : n9 ≠ 0
  ·have vc := A2 vb ir
   refine nT ir (um (nT ir ?_))
   refine uv (B6 rfl rfl) (nF dg (uv (AQ (Bd rfl ir) rfl) (uv (AL (A4 rfl dg) rfl) (um ?_))))
   by_cases fs : n9 ≠ 6
   ·have r536 := A2 vc fs
    refine fT fs (fT fs (fT fs ?_))
    refine uv (AQ (Bd rfl fs) rfl) (Aa ?_)
    obtain rfl := AR r536
    exact mi (kd (kc (kc (kg (fS (fS (fS (fS (fS (fS fP)))))) (kg (fS (fS (fS (fS (fS (fS (fS (fS fP)))))))) (kg (fS (fS (fS (fS (fS (fS (fS (fS fP)))))))) (kg (fS (fS (fS (fS (fS (fS (fS fP))))))) (kg (fS (fS (fS (fS (fS (fS fP)))))) (kg (fS (fS (fS (fS (fS fP))))) (kg (fS (fS (fS (fS fP)))) (ka kn))))))))))) ⟨rfl, rfl, (sc rfl (sc rfl (sc rfl (sc rfl z8))))⟩
   have r537 := A1 vc fs
   refine nF fs (um (nF fs (um (nF fs ?_))))
   refine uv (B6 rfl rfl) (uv (AL (A4 rfl fs) rfl) (Aa ?_))
   obtain rfl := AR r537
   exact mi (kd (kc (kc (kg (fS (fS (fS (fS (fS (fS fP)))))) (kg (fS (fS (fS (fS (fS (fS (fS (fS fP)))))))) (kg (fS (fS (fS (fS (fS (fS (fS (fS fP)))))))) (kg (fS (fS (fS (fS (fS (fS (fS fP))))))) (kg (fS (fS (fS (fS (fS (fS fP)))))) (kg (fS (fS (fS (fS (fS fP))))) (kg (fS (fS (fS (fS fP)))) (ka kn))))))))))) ⟨rfl, rfl, (sc rfl (sc rfl (sc rfl (sc rfl z8))))⟩
  have r538 := A1 vb ir
  refine fF ir (fF ir (nF dg ?_))
  refine uv (AL (A4 rfl ir) rfl) (uv (AL (A4 rfl dg) rfl) ?_)
  refine um (Ev (b := false) 239 rfl rfl (um (Ev (b := false) 239 rfl rfl (um (Ev (b := false) 239 rfl rfl ?_)))))
  refine uv (B6 rfl rfl) (uv (AL rfl rfl) (Aa ?_))
  obtain rfl := AR r538
  exact mi (kd (kc (kc (kg (fS (fS (fS (fS (fS (fS fP)))))) (kg (fS (fS (fS (fS (fS (fS (fS (fS fP)))))))) (kg (fS (fS (fS (fS (fS (fS (fS (fS fP)))))))) (kg (fS (fS (fS (fS (fS (fS (fS fP))))))) (kg (fS (fS (fS (fS (fS (fS fP)))))) (kg (fS (fS (fS (fS (fS fP))))) (kg (fS (fS (fS (fS fP)))) (ka kn))))))))))) ⟨rfl, rfl, (sc rfl (sc rfl (sc rfl (sc rfl z8))))⟩
 refine AY rfl (fun pc => ?_) (fun pc => ?_)
 ·have r541 := bt pb pc
  refine AP (ua (Aa ?_))
  refine kW kn ?_
  refine Ap (Aj ?_)
  refine C9 results3 ?_
  obtain rfl := AR r541
  exact rfl
 have r542 := bf pb pc
 refine An ?_
 refine AX (fun e1 F1 L1 => CK n n2 n3 ae ad plots l6 n9 l8 = some r ∧ kh = F1 ∧ L1 = ((al, ce #[.int .i64 n2, .int .i64 n3] 31) :: ((ak, ce #[.int .i64 n, .slice ay az ba] 27) :: (ab ++ (af ++ (ai ++ (aq ++ (cb ++ []))))))) ∧ e1.sub [(7, .pointer (some ⟨ak, 0, none⟩)), (8, .pointer (some ⟨al, 0, none⟩)), (9, .slice ej eo er), (24, .slice fb fe ff), (27, .slice fo fp fq), (28, .int .i64 n9), (31, .slice jm jn jo)]) ?_ ?_
 ·refine AP (um ?_)
  refine uv (A3 underlying33 rfl) ?_
  refine um (Aa ?_)
  refine Am ?_
  refine Bg (fun fu9 e1 F1 L1 => LA quarter fu9 fun tl9 k9 => Cb n n2 n3 ae ad Af plots l6 n9 l7 l8 l9 tl9 = some r ∧ kh = F1 ∧ L1 = ((al, ce #[.int .i64 n2, .int .i64 n3] 31) :: ((ak, ce #[.int .i64 n, .slice ay az ba] 27) :: (ab ++ (af ++ (ao ++ (ai ++ (aq ++ (de ++ (cb ++ (fg ++ [])))))))))) ∧ e1.sub [(7, .pointer (some ⟨ak, 0, none⟩)), (8, .pointer (some ⟨al, 0, none⟩)), (9, .slice ej eo er), (10, .slice iz j0 j3), (24, .slice fb fe ff), (27, .slice fo fp fq), (28, .int .i64 n9), (29, .slice p0 p6 p7), (31, .slice jm jn jo), (34, .slice p8 p9 pa), (244, .slice ew quarter.length ey), (245, .int .i64 (quarter.length : Int)), (246, .int .i64 k9)]) _ (m0 kr ⟨_, _, rfl, BT.start _, r542, rfl, rfl, (sc rfl (sc rfl (sc rfl (sc rfl (sc rfl z8)))))⟩) ?_
  rintro fu9 e1 _ _ ⟨tl9, k9, vd, kj, nh, rfl, rfl, ve⟩
  refine AD _ ve (AP (uv (A8 rfl rfl) ?_))
  refine Aa (Aq ?_)
  refine cQ (fun ni => ?_) fun ni => ?_
  ·obtain ⟨x7, tl10, rfl, vf, vg, vh⟩ := BT.succ kj ni
   rw [Cb] at nh
   refine An (Aq ?_)
   refine Am (AP ?_)
   obtain ⟨b552, o553, c554, vs555, vi, vj, hle558, rfl, hl559, vk⟩ := AF.at (Ab _) dp ((al, ce #[.int .i64 n2, .int .i64 n3] 31) :: ((ak, ce #[.int .i64 n, .slice ay az ba] 27) :: (ab ++ (af ++ (ao ++ (ai ++ (aq ++ (de ++ (cb ++ (fg ++ [])))))))))) vg.1 vf
   refine uv (AI underlying33 sizeOf3 rfl vi rfl vg) (uv (Al isAgg3 rfl vj (vk 0 (by decide))) ?_)
   refine ua (Cj (um (um (um ?_))))
   obtain ⟨x8, vl, vm, r563⟩ := BH nh
   obtain ⟨b564, o565, c566, vs567, vn, vo, hle570, rfl, hl571, vp⟩ := AT.at (Ab _) aw (L := (al, ce #[.int .i64 n2, .int .i64 n3] 31) :: ((ak, ce #[.int .i64 n, .slice ay az ba] 27) :: (ab ++ (af ++ (ao ++ (ai ++ (aq ++ (de ++ (cb ++ (fg ++ [])))))))))) (fC (fC (fS (fS fP)))) vl.1 vm
   refine uv (AI underlying33 sizeOf3 rfl vn rfl (AT.idx aw vl)) (uv (Al isAgg3 rfl vo (vp 0 (by decide))) ?_)
   obtain ⟨ok3, h573, r574⟩ := AO r563
   refine GR (Lt := de ++ []) (Lr := (al, ce #[.int .i64 n2, .int .i64 n3] 31) :: ((ak, ce #[.int .i64 n, .slice ay az ba] 27) :: (ab ++ (af ++ (ao ++ (ai ++ (aq ++ (cb ++ (fg ++ []))))))))) rfl call10 rfl rfl rfl (pT ((fC (fC (fS (fS (fS (fS (fS fP))))))).trans (pA pR)) (lp (ln rfl))) (fun F2 h2 h3 => by rw [(AT.C4 cp).1]; exact Cn (cp.row (Ab _) h2 (fun p hp => h3 p (List.mem_append_left _ hp))) h573) ?_
   refine um (um ?_)
   refine uv (BC (v := .agg #[.int .i64 0, .int .i64 x7]) rfl (by intro w; kernel_rfl)) ?_
   obtain ⟨ok4, h575, vq⟩ := AO r574
   refine GR (Lt := fg ++ []) (Lr := (al, ce #[.int .i64 n2, .int .i64 n3] 31) :: ((ak, ce #[.int .i64 n, .slice ay az ba] 27) :: (ab ++ (af ++ (ao ++ (ai ++ (aq ++ (de ++ (cb ++ []))))))))) rfl call17 rfl rfl rfl (pT ((fC (fC (fS (fS (fS (fS (fS (fS (fS fP))))))))).trans (pA pR)) (lp (ln rfl))) (fun F2 h2 h3 => by rw [(AT.C4 gm).1]; exact Gx (gm.row (At (Ab _) (Ab _)) h2 (fun p hp => h3 p (List.mem_append_left _ hp))) h575) ?_
   refine uv (XG underlying4 rfl rfl) (Aa ?_)
   refine cQ (fun pd => ?_) fun pd => ?_
   ·have r578 := A2 vq pd
    refine AP (ua (Aa ?_))
    refine kW kn ?_
    refine Ap (AE (Aj (Aj (AE (Aj ?_)))))
    refine C9 results3 ?_
    obtain rfl := AR r578
    exact rfl
   have r579 := A1 vq pd
   refine An (Az (id := 12) (Ak ?_))
   refine uv (A5 rfl rfl (BT.El kj ni (AF.lt dp))) ?_
   refine um (Aa ?_)
   subst vd; exact le kr ⟨_, _, rfl, vh, r579, rfl, rfl, (sc rfl (sc rfl (sc rfl (sc rfl (sc rfl z8)))))⟩
  obtain rfl := BT.zero kj ni
  rw [Cb] at nh
  refine AS (Ae (Ae ?_))
  refine AA ?_
  exact mi (kc (kc (ka (ka (kx (ka (ka (kx (ka kn))))))))) ⟨nh, rfl, rfl, z7⟩
 rintro e1 _ _ ⟨pf, rfl, rfl, vr⟩
 refine AD _ vr ?_
 rw [CK] at pf
 refine Aq (AP (um ?_))
 refine uv (B6 rfl rfl) (Aa ?_)
 refine cQ (fun pg => ?_) fun pg => ?_
 ·have r583 := A2 pf pg
  refine AP ?_
  obtain ⟨ok5, h584, r585⟩ := AO r583
  refine cV call7 (HT h584) ?_
  refine ua (Aa ?_)
  refine kW kn ?_
  refine Ap (Aj ?_)
  refine C9 results3 ?_
  obtain rfl := AR r585
  exact rfl
 have r586 := A1 pf pg
 refine An (AP ?_)
 refine LC rfl ?_; intro dq vt
 refine Br rfl zeroValue60 ?_; intro dr vu
 refine CS (i := 0) sizeOf60 rfl rfl rfl rfl (CE rfl) (AK rfl (Aa ?_))
 refine AX (fun e1 F1 L1 => ∃ (dw : List (Int × Bool)) (gp : Array MapEntry) (jh : Nat), C2 n n2 n3 ae plots l6 dw = some r ∧ kh = F1 ∧ L1 = ((dr, ce #[.map (some dq)] 60) :: ((dq, .map gp jh) :: ((al, ce #[.int .i64 n2, .int .i64 n3] 31) :: ((ak, ce #[.int .i64 n, .slice ay az ba] 27) :: (ab ++ (ai ++ (aq ++ []))))))) ∧ e1.sub [(7, .pointer (some ⟨ak, 0, none⟩)), (8, .pointer (some ⟨al, 0, none⟩)), (24, .slice fb fe ff), (27, .slice fo fp fq), (38, .pointer (some ⟨dr, 0, none⟩))] ∧ Eb (Value.int .i64) Value.bool gp dw) ?_ ?_
 ·refine AP (um ?_)
  refine uv ((A3 underlying51 rfl).i (AT.Hc cq)) ?_
  refine um (Aa ?_)
  refine Am ?_
  refine Bg (fun vw e1 F1 L1 => LA l8 vw fun vx k10 => ∃ (fh : List (Int × Bool)) (fi : Array MapEntry) (iu : Nat), B5 n n2 n3 ae ad plots l6 vx fh = some r ∧ kh = F1 ∧ L1 = ((dr, ce #[.map (some dq)] 60) :: ((dq, .map fi iu) :: ((al, ce #[.int .i64 n2, .int .i64 n3] 31) :: ((ak, ce #[.int .i64 n, .slice ay az ba] 27) :: (ab ++ (af ++ (ai ++ (aq ++ (cb ++ []))))))))) ∧ e1.sub [(7, .pointer (some ⟨ak, 0, none⟩)), (8, .pointer (some ⟨al, 0, none⟩)), (9, .slice ej eo er), (24, .slice fb fe ff), (27, .slice fo fp fq), (38, .pointer (some ⟨dr, 0, none⟩)), (266, .slice jm jn jo), (267, .int .i64 (l8.length : Int)), (268, .int .i64 k10)] ∧ Eb (Value.int .i64) Value.bool fi fh) _ (m0 kr ⟨_, _, rfl, BT.start _, [], #[], 0, r586, rfl, rfl, (sc rfl z8), Eb.nil⟩) ?_
  rintro vw e1 _ _ ⟨vx, k10, vy, kl, fh, fi, iu, nj, rfl, rfl, vz, o8⟩
  refine AD _ vz (AP (uv (A8 rfl rfl) ?_))
  refine Aa (Aq ?_)
  refine cQ (fun nk => ?_) fun nk => ?_
  ·obtain ⟨x9, tl12, rfl, w4, w7, w8⟩ := BT.succ kl nk
   rw [B5] at nj
   refine An (Aq ?_)
   refine Am (AP ?_)
   obtain ⟨b604, o605, c606, vs607, w9, wb, km, ⟨_, _, rfl, rfl, rfl⟩, wc, we⟩ := AT.at (At (Ab _) (Ab _)) cq (L := (dr, ce #[.map (some dq)] 60) :: ((dq, .map fi iu) :: ((al, ce #[.int .i64 n2, .int .i64 n3] 31) :: ((ak, ce #[.int .i64 n, .slice ay az ba] 27) :: (ab ++ (af ++ (ai ++ (aq ++ (cb ++ []))))))))) (fC (fC (fC (fC (fS (fS (fS (fS fP)))))))) w7.1 w4
   refine uv (AI underlying51 sizeOf62 rfl w9 rfl (AT.idx cq w7)) (uv (AM isAgg62 sizeOf62 rfl wb km (Bh km wc we)) ?_)
   refine Br rfl zeroValue62 ?_; intro ph hb613
   refine By (i := 0) sizeOf62 rfl rfl rfl (by simp [Value.oneCell']) rfl (CE rfl) (AK rfl ?_)
   refine Aa (Aq ?_)
   obtain ⟨k11, wg, pj⟩ := AO nj
   refine jE (((ph, ce #[.int .i64 x9.1, .int .i64 x9.2] 62) :: ((dr, ce #[.map (some dq)] 60) :: ((dq, .map fi iu) :: ((al, ce #[.int .i64 n2, .int .i64 n3] 31) :: ((ak, ce #[.int .i64 n, .slice ay az ba] 27) :: (ab ++ (af ++ (ai ++ (aq ++ (cb ++ []))))))))))) [(7, .pointer (some ⟨ak, 0, none⟩)), (8, .pointer (some ⟨al, 0, none⟩)), (9, .slice ej eo er), (24, .slice fb fe ff), (27, .slice fo fp fq), (38, .pointer (some ⟨dr, 0, none⟩)), (40, .pointer (some ⟨ph, 0, none⟩)), (266, .slice jm jn jo), (267, .int .i64 (l8.length : Int)), (268, .int .i64 k10), (281, .bool k11)] ?_ ?_
   ·clear pj
    refine Ak (uv (Ad IV rfl) (uv (Al isAgg3 rfl (Has.own 0 rfl) rfl) (uv (A8 rfl rfl) (um ?_))))
    by_cases dh : x9.1 < 0
    ·have r617 := A2 wg dh
     refine fT dh (fT dh (fT dh (fT dh (fT dh ?_))))
     refine uv (AQ (Bd rfl dh) rfl) (Aa ?_)
     obtain rfl := AR r617
     exact mi kr ⟨rfl, rfl, (sc rfl (sc rfl (sc rfl z8)))⟩
    have r618 := A1 wg dh
    refine nF dh (uv (Ad IV rfl) (nF dh (uv (Al isAgg3 rfl (Has.own 0 rfl) rfl) ?_)))
    refine nF dh (um (nF dh ?_))
    refine uv ((A3 underlying33 rfl).i (AT.Hc aj)) (nF dh (uv (Il rfl rfl) (uv (AL (A4 rfl dh) rfl) (Aa ?_))))
    obtain rfl := AR r618
    exact mi kr ⟨rfl, rfl, (sc rfl (sc rfl (sc rfl z8)))⟩
   refine AY rfl (fun pk => ?_) (fun pk => ?_)
   ·have r621 := bt pj pk
    refine AP (ua (Aa ?_))
    refine kW kn ?_
    refine Ap (Aj (AE (Aj (Aj (AE (Aj ?_))))))
    refine C9 results3 ?_
    obtain rfl := AR r621
    exact rfl
   have r622 := bf pj pk
   refine An (C5 [(.still, 0), (.still, 1), (.still, 2), (.still, 3), (.still, 4), (.still, 5), (.seq, 6)] (by kernel_rfl) (by kernel_rfl) (trivial) (by rfl) (by kernel_rfl) (mL [38] ([(dr, ce #[.map (some dq)] 60)]) rfl (s0 (s1 (s2 (s1 (s1 (s1 (s3 (s3 (s3 (s3 (s3 sr))))))))))) (fun H F' L' mv mw => Al isAgg60 rfl ((Has.own 0 rfl).ext mv mw) rfl) (mS [9] rfl (Be rfl) (mS [40] rfl (Ad IV rfl) (mL [284] ([(ph, ce #[.int .i64 x9.1, .int .i64 x9.2] 62)]) rfl (s0 (s2 (s1 (s1 (s1 (s1 (s3 (s3 (s3 (s3 (s3 sr))))))))))) (fun H F' L' mv mw => Al isAgg3 rfl ((Has.own 0 rfl).ext mv mw) rfl) ?_)))))
   obtain ⟨x10, wh, wi, r625⟩ := BH r622
   obtain ⟨b626, o627, c628, vs629, wj, wo, hle632, rfl, hl633, wq⟩ := AT.at (Ab _) aj (L := af ++ []) fP wh.1 wi
   refine mS [283, 285] rfl (AI underlying33 sizeOf3 rfl wj rfl (AT.idx aj wh)) (mL [286] (af ++ []) rfl (s0 (s1 (s1 (s1 (s1 (s1 (s3 (s4 (s3 (s3 (s3 sr))))))))))) (fun H F' L' mv mw => Al isAgg3 rfl (wo.ext mv mw) (wq 0 (by decide))) ?_)
   refine ⟨_, [(282, .map (some dq)), (287, .int .i64 x10)], rfl, rfl, z2, by kernel_rfl, ?_⟩; intro H
   refine Lu (i := 2) (k := x10) (v := true) underlying60 (Ih underlying3) rfl rfl rfl rfl (show Eb (Value.int .i64) Value.bool fi (fh : List (Int × Bool)) from o8) ?_; intro wu wx o9
   obtain ⟨met, h638, r639⟩ := CT r625
   rw [← h638] at o9
   refine AK rfl ?_
   refine Aa ⟨undef, rfl, AW.refl _, [], by kernel_rfl, .inl (.inl rfl), nm, ?_⟩
   refine Ef ?_
   refine Az (id := 14) (Ak ?_)
   refine uv (A5 rfl rfl (BT.El kl nk (AT.UD cq))) ?_
   refine um (Aa ?_)
   subst vy; exact le (kd kr) ⟨_, _, rfl, w8, met, wu, wx, r639, rfl, rfl, (sc rfl z8), o9⟩
  obtain rfl := BT.zero kl nk
  rw [B5] at nj
  refine AS (Ae (Ae ?_))
  refine AA ?_
  exact mi (kc (kc (kc (kc (ka (kx (ka (ka kn)))))))) ⟨fh, fi, iu, nj, rfl, rfl, z5, o8⟩
 rintro e1 _ _ ⟨dw, gp, jh, wy, rfl, rfl, wz, oc⟩
 refine AD _ wz ?_
 rw [C2] at wy
 refine AX (fun e1 F1 L1 => C1 l6 dw = some r ∧ AW kh F1 ∧ L1 = (aq ++ []) ∧ e1.sub [(27, .slice fo fp fq), (38, .pointer (some ⟨dr, 0, none⟩))] ∧ F1 dq = some (.map gp jh) ∧ F1 dr = some (ce #[.map (some dq)] 60)) ?_ ?_
 ·refine AP (um ?_)
  refine uv ((A3 underlying33 rfl).i (AT.Hc au)) ?_
  refine um (Aa ?_)
  refine Am ?_
  refine DL 0 rfl vu ?_; intro F644 ko dx
  refine Gv (L' := (dq, .map gp jh) :: ((al, ce #[.int .i64 n2, .int .i64 n3] 31) :: ((ak, ce #[.int .i64 n, .slice ay az ba] 27) :: (ab ++ (ai ++ (aq ++ [])))))) rfl ?_
  replace ar := ar.mono (Ab _) ko
  replace au := au.mono (Ab _) ko
  refine DL 0 rfl vt ?_; intro F647 ji gq
  refine Gv (L' := (al, ce #[.int .i64 n2, .int .i64 n3] 31) :: ((ak, ce #[.int .i64 n, .slice ay az ba] 27) :: (ab ++ (ai ++ (aq ++ []))))) rfl ?_
  replace ar := ar.mono (Ab _) ji
  replace au := au.mono (Ab _) ji
  replace dx := ji _ _ dx
  refine Ty (fun xa e1 F1 L1 => LA plots xa fun xb k12 => B3 n n2 n3 ae l6 dw xb = some r ∧ AW F647 F1 ∧ L1 = ((al, ce #[.int .i64 n2, .int .i64 n3] 31) :: ((ak, ce #[.int .i64 n, .slice ay az ba] 27) :: (ab ++ (aq ++ (ai ++ []))))) ∧ e1.sub [(7, .pointer (some ⟨ak, 0, none⟩)), (8, .pointer (some ⟨al, 0, none⟩)), (27, .slice fo fp fq), (38, .pointer (some ⟨dr, 0, none⟩)), (289, .slice fb fe ff), (290, .int .i64 (plots.length : Int)), (291, .int .i64 k12)]) _ (m0 (kc (kc (ka (kg (fS fP) kr)))) ⟨_, _, rfl, BT.start _, wy, AW.refl _, rfl, z7⟩) ?_
  rintro xa e1 F654 _ ⟨xb, k12, xc, kt, nn, gr, rfl, xd⟩
  refine AD _ xd ?_
  replace ar := ar.mono (Ab _) gr
  replace au := au.mono (Ab _) gr
  replace dx := gr _ _ dx
  replace gq := gr _ _ gq
  refine AP (uv (A8 rfl rfl) ?_)
  refine Aa (Aq ?_)
  refine cQ (fun np => ?_) fun np => ?_
  ·obtain ⟨x11, tl14, rfl, xe, xf, xg⟩ := BT.succ kt np
   rw [B3] at nn
   refine An (Aq ?_)
   refine Am (AP ?_)
   obtain ⟨b661, o662, c663, vs664, xh, xi, hle667, rfl, hl668, hc669⟩ := AT.at (Ab _) au (L := (al, ce #[.int .i64 n2, .int .i64 n3] 31) :: ((ak, ce #[.int .i64 n, .slice ay az ba] 27) :: (ab ++ (aq ++ (ai ++ []))))) (fC (fC (fS (fS fP)))) xf.1 xe
   refine uv (AI underlying33 sizeOf3 rfl xh rfl (AT.idx au xf)) (uv (Al isAgg3 rfl xi (hc669 0 (by decide))) ?_)
   refine ua (Cj ?_)
   refine uv (AM isAgg27 sizeOf27 rfl (Has.own 1 rfl) (CE rfl) rfl) (uv (AM isAgg31 sizeOf31 rfl (Has.own 0 rfl) (CE rfl) rfl) (um ?_))
   obtain ⟨l10, n14, h670, r671⟩ := CQ nn
   refine Gb (Lb := []) (Lt := ab ++ []) (Lr := (al, ce #[.int .i64 n2, .int .i64 n3] 31) :: ((ak, ce #[.int .i64 n, .slice ay az ba] 27) :: (aq ++ (ai ++ [])))) rfl call18 rfl rfl rfl (pT ((fC (fC fP)).trans (pA pR)) (ln (lp (ln rfl)))) (fun F2 h2 h3 => by rw [(AT.C4 ar).1]; exact PQ (ar.row (Ab _) h2 (fun p hp => h3 p (List.mem_append_left _ hp))) h670) (fun _ _ _ _ hq => by obtain ⟨a676, n680, c677, od, rfl, rfl, gu⟩ := hq; exact ⟨_, _, _, _, rfl, rfl, gu.flat (fun _ _ h => h)⟩) ?_; rintro _ F672 _ jj hd675 hn674 ⟨a676, n680, c677, od, rfl, rfl, gu⟩
   replace au := au.mono (Ab _) jj
   replace dx := jj _ _ dx
   replace gq := jj _ _ gq
   have hn682 := MR (Lb' := []) (by rfl) hd675 hn674
   replace gu := gu.new fun p hp => hn682 p (by simp [hp])
   refine AK (lp (ln (lp (ln rfl)))) (kO (kf (fS (fS fO)) (kf (fS (fS fO)) kr)) ?_)
   refine um (ox rfl rfl rfl (ox rfl rfl rfl (ua (ua (Aa ?_)))))
   obtain ⟨k13, h683, pn⟩ := AO r671
   refine jE (((al, ce #[.int .i64 n2, .int .i64 n3] 31) :: ((ak, ce #[.int .i64 n, .slice ay az ba] 27) :: (ab ++ (aq ++ (ai ++ [])))))) [(7, .pointer (some ⟨ak, 0, none⟩)), (8, .pointer (some ⟨al, 0, none⟩)), (27, .slice fo fp fq), (38, .pointer (some ⟨dr, 0, none⟩)), (289, .slice fb fe ff), (290, .int .i64 (plots.length : Int)), (291, .int .i64 k12), (309, .bool k13)] ?_ ?_
   ·clear pn
    refine Ak (um ?_)
    refine uv (B6 rfl rfl) (um ?_)
    by_cases e9 : n14 ≠ 0
    ·have r686 := A2 h683 e9
     refine fT e9 (fT e9 (fT e9 (fT e9 ?_)))
     refine uv (AQ (Bd rfl e9) rfl) (Aa ?_)
     obtain rfl := AR r686
     exact mi (kc (kc (kx kr))) ⟨rfl, rfl, z8⟩
    have r687 := A1 h683 e9
    refine nF e9 (um (nF e9 ?_))
    refine uv (DO rfl rfl) (nF e9 ?_)
    have hn688 : KM Tryz.prog F672 20 #[] #[.pointer (some ⟨dr, 0, none⟩)] (iE .i64) Value.bool (fun xx_ : Int => Dj xx_ dw) := ⟨call20, fun F2 h2 vs xx_ r ha hr => by obtain rfl := ha; exact IH (h2 _ _ dx) (h2 _ _ gq) oc hr⟩
    obtain ⟨ok6, h689, r690⟩ := AO r687
    refine GR (Lt := od ++ []) (Lr := (al, ce #[.int .i64 n2, .int .i64 n3] 31) :: ((ak, ce #[.int .i64 n, .slice ay az ba] 27) :: (ab ++ (aq ++ (ai ++ []))))) rfl call19 rfl rfl rfl (pT ((fC (fC fP)).trans (pA pR)) (lp (ln rfl))) (fun F2 h2 h3 => by rw [(AT.C4 gu).1]; exact Im (gu.row (Ab _) h2 (fun p hp => h3 p (List.mem_append_left _ hp))) (hn688.mono h2) h689) ?_
    refine nF e9 (uv (CI rfl) (uv (AL (A4 rfl e9) rfl) (Aa ?_)))
    obtain rfl := AR r690
    exact mi (kc (kc (kx kr))) ⟨rfl, rfl, z8⟩
   refine AY rfl (fun po => ?_) (fun po => ?_)
   ·have r693 := bt pn po
    refine AP (ua (Aa ?_))
    refine kW kn ?_
    refine Ap (AE (Aj (Aj (AE (Aj ?_)))))
    refine C9 results3 ?_
    obtain rfl := AR r693
    exact rfl
   have r694 := bf pn po
   refine An (Az (id := 16) (Ak ?_))
   refine uv (A5 rfl rfl (BT.El kt np (AT.UD au))) ?_
   refine um (Aa ?_)
   subst xc; refine lf ?_
   exact mf kr ⟨_, _, rfl, xg, r694, (gr.trans jj), rfl, z7⟩
  obtain rfl := BT.zero kt np
  rw [B3] at nn
  refine AS (Ae (Ae ?_))
  refine AA ?_
  exact mi (kd (kd (kx (ka kn)))) ⟨nn, ((ko.trans ji).trans gr), rfl, z2, gq, dx⟩
 rintro e1 F697 _ ⟨pq, hF698, rfl, he696, hz642, hz643⟩
 refine AD _ he696 ?_
 replace bo := bo.mono (Ab _) hF698
 rw [C1] at pq
 refine AP (uv (Al isAgg60 rfl (Has.frozen hz643) rfl) (uv (Xz underlying60 rfl (Kw.frozen hz642) (show Eb (Value.int .i64) Value.bool gp (dw : List (Int × Bool)) from oc)) (um (uv ((A3 underlying33 rfl).i (AT.Hc bo)) (uv (Il rfl rfl) (um ?_))))))
 by_cases jq : (l6.length : Int) ≤ (dw.length : Int)
 ·have r700 := A2 pq jq
  refine nT jq ?_
  obtain ⟨ok7, h701, r702⟩ := AO r700
  refine cV call7 (HT h701) (uv (AQ (Bd rfl jq) rfl) ?_)
  refine ua (Aa ?_)
  refine kW kn (Ap (C9 results3 ?_))
  obtain rfl := AR r702
  exact rfl
 have r703 := A1 pq jq
 refine fF jq (uv (AL (A4 rfl jq) rfl) ?_)
 refine ua (Aa ?_)
 refine kW kn (Ap (C9 results3 ?_))
 obtain rfl := AR r703
 exact rfl
end Go.Proofs.YtfmapnhfamoecabGreat
