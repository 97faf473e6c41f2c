/- The walks that this claim needs, printed by a program of mine; part 3. -/
import Derived.Test.YtfmapnhfamoecaaGreatZLNL2
namespace Go.Proofs.YtfmapnhfamoecaaGreat
open Go.SH Go.PL
open Tryz 
variable {HJ : Array MapEntry} {KQ KW GH GF : Array Value} {heard : Bool} {F : FS} {La GI : FuncId} {EP DR Ad n Ba DK : Int} {C5 : List ((List Int) × Bool)} {Ce : List (Int × Int × Bool)} {Al : List (List (List Int))} {AZ : List (List Int)} {g : List Bool} {BQ last Ak : List Int} {JI Lv Yh V5 Ft AQ Ax Hl Ec Mf AY Ai AE BY AO VC : Nat} {Ox Pq Xy VA : Nat × Nat} {Fv AR Aw Hp AX Aj AF B0 AP Vz : Option Addr}
set_option maxHeartbeats 1000000 in
theorem PJ {Il : Nat} {B4 : Option Addr} {B3 : Nat} {metal : List Int} {at_ GB Ab : Int} {di av : Int} (aa : Av 1 (iE .u8) F B4 B3 metal) {r r2 : Int} {r3 : List (List (List Int))} {r4 : List Int} {r5 : List (Int × Int × Int)} {r6 : List Int} {r7 r8 : Int} (hr : FL metal at_ GB Ad Ab di av = some (r, r2, r3, r4, r5, r6, r7, r8)) :
    SH.Spec Tryz.prog 30 #[.pointer (some ⟨Il, 0, none⟩), .int .i64 Ad, .int .i64 Ab, .int .i64 di, .int .i64 av] F [(Il, ce #[.slice B4 metal.length B3, .int .i64 at_, .int .u32 GB] 137)] fun F' L' v => ∃ (pt : Option Addr) (pv : Nat) (pw : Nat) (px : LH) (py : Option Addr) (pz : Nat) (q0 : Nat) (qb : LH) (qc : Option Addr) (qd : Nat) (qe : Nat) (qf : LH) (qg : Option Addr) (qh : Nat) (qi : Nat) (qj : LH), v = .tuple #[.agg #[.int .i64 r, .int .i64 r2, .slice pt pv pw, .slice py pz q0, .slice qc qd qe], .slice qg qh qi] ∧ L' = (Il, ce #[.slice B4 metal.length B3, .int .i64 r7, .int .u32 r8] 137) :: (px ++ (qb ++ (qf ++ (qj ++ [])))) ∧ Be 0 36 1 (BK 1 (BK 1 (iE .i64))) F' pt pv pw r3 px ∧ Be 0 3 1 (iE .i64) F' py pz q0 r4 qb ∧ Be 0 132 3 (Br (iE .i64) (Br (iE .i64) (iE .i64))) F' qc qd qe r5 qf ∧ Be 0 3 1 (iE .i64) F' qg qh qi r6 qj := by
 refine sp func30 ntmps30 fun K _ _ => ?_
 rw [FL] at hr
 refine AN ?_
 refine Bo rfl zeroValue100 ?_; intro b1 ug
 refine ua (BX (um (um ?_)))
 obtain ⟨n, sh, qk, h2, r9⟩ := E5 hr
 refine Jw (Lb := [(Il, ce #[.slice B4 metal.length B3, .int .i64 at_, .int .u32 GB] 137)]) (Lr := [(b1, ce #[.int .i64 0, .int .i64 0, .slice none 0 0, .slice none 0 0, .slice none 0 0] 100)]) rfl call39 rfl rfl rfl (((fC fO).trans (pC pR))) (DZ aa h2) ?_; rintro _ uh _ l0 si sj ⟨rfl, rfl⟩
 replace aa := aa.mono (Ac _) l0
 refine AI (lb (ln rfl)) ?_
 refine um (um ?_)
 obtain ⟨n2, ld, gv, sk, sq⟩ := E5 r9
 refine cG call39 (DZ aa sk) ?_; rintro _ ss _ lg su sv ⟨rfl, rfl⟩
 replace aa := aa.mono (Ac _) lg
 refine AI (lb (ln rfl)) ?_
 refine uv (BH (v := .agg #[.int .i64 n, .int .i64 n2, .slice none 0 0, .slice none 0 0, .slice none 0 0]) rfl (by intro w; kernel_rfl)) ?_
 refine Bo rfl zeroValue100 ?_; intro ad sw
 refine B1 (i := 0) sizeOf100 rfl rfl rfl (by simp [Value.oneCell']) rfl (CK rfl) (AI rfl (Aa ?_))
 obtain ⟨gw, dk, ae, sx, ql⟩ := E5 sq
 refine A0 (fun e1 F1 L1 => ∃ (ca : Option Addr) (cb : Nat) (cd : Nat) (az : LH), A3 ss F1 ∧ L1 = ((Il, ce #[.slice B4 metal.length B3, .int .i64 gw, .int .u32 dk] 137) :: ((ad, ce #[.int .i64 n, .int .i64 n2, .slice ca cb cd, .slice none 0 0, .slice none 0 0] 100) :: ((b1, ce #[.int .i64 0, .int .i64 0, .slice none 0 0, .slice none 0 0, .slice none 0 0] 100) :: (az ++ [])))) ∧ e1.sub [(0, .pointer (some ⟨Il, 0, none⟩)), (4, .int .i64 av), (10, .pointer (some ⟨b1, 0, none⟩)), (12, .pointer (some ⟨ad, 0, none⟩))] ∧ Be K.w0.heap.size 36 1 (BK 1 (BK 1 (iE .i64))) F1 ca cb cd ae az) ?_ ?_
 ·clear ql
  refine AN (um (um ?_))
  obtain ⟨n3, lh, gz, sy, ta⟩ := E5 sx
  refine Jw (Lb := [(Il, ce #[.slice B4 metal.length B3, .int .i64 ld, .int .u32 gv] 137)]) (Lr := [(ad, ce #[.int .i64 n, .int .i64 n2, .slice none 0 0, .slice none 0 0, .slice none 0 0] 100), (b1, ce #[.int .i64 0, .int .i64 0, .slice none 0 0, .slice none 0 0, .slice none 0 0] 100)]) rfl call39 rfl rfl rfl (((fC fO).trans (pC pR))) (DZ aa sy) ?_; rintro _ tc _ ia td te ⟨rfl, rfl⟩
  replace aa := aa.mono (Ac _) ia
  refine AI (lb (ln rfl)) ?_
  refine um (Aa ?_)
  refine Ap ?_
  obtain ⟨tf, tg⟩ := A1 ta
  refine Bh (fun jv e1 F1 L1 => ∃ (k : Int), Dc 0 n3 k jv ∧ ∃ (cg : Int) (ar : Int) (af : List (List (List Int))) (gn : Option Addr) (gp : Nat) (gq : Nat) (db : LH), DY metal n jv cg ar af = some (gw, dk, ae) ∧ A3 tc F1 ∧ L1 = ((Il, ce #[.slice B4 metal.length B3, .int .i64 cg, .int .u32 ar] 137) :: ((ad, ce #[.int .i64 n, .int .i64 n2, .slice gn gp gq, .slice none 0 0, .slice none 0 0] 100) :: ((b1, ce #[.int .i64 0, .int .i64 0, .slice none 0 0, .slice none 0 0, .slice none 0 0] 100) :: (db ++ [])))) ∧ e1.sub [(0, .pointer (some ⟨Il, 0, none⟩)), (4, .int .i64 av), (10, .pointer (some ⟨b1, 0, none⟩)), (12, .pointer (some ⟨ad, 0, none⟩)), (27, .int .i64 n3), (28, .int .i64 k)] ∧ Be K.w0.heap.size 36 1 (BK 1 (BK 1 (iE .i64))) F1 gn gp gq af db) _ (m0 (kc (kc (kc (ke kr)))) ⟨_, Dc.start _ _, lh, gz, [], none, 0, 0, [], tg, A3.refl _, rfl, z6, Be.nil _ _ _ _ _⟩) ?_
  rintro jv e1 lj _ ⟨k, fq, cg, ar, af, gn, gp, gq, db, jw, ft, rfl, lk, dd⟩
  refine AB _ lk ?_
  replace aa := aa.mono (Ac _) ft
  refine AN (uv (Bb rfl rfl) ?_)
  refine Aa (As ?_)
  refine cQ (fun jx => ?_) fun jx => ?_
  ·obtain ⟨jv, rfl, ll⟩ := Dc.succ fq jx
   rw [DY] at jw
   refine Aq ?_
   obtain ⟨ey, cj, bn, th, qn⟩ := E5 jw
   refine A0 (fun e1 F1 L1 => ∃ (jz : Option Addr) (kb : Nat) (kh : Nat) (eh : LH), A3 lj F1 ∧ L1 = ((Il, ce #[.slice B4 metal.length B3, .int .i64 ey, .int .u32 cj] 137) :: ((ad, ce #[.int .i64 n, .int .i64 n2, .slice jz kb kh, .slice none 0 0, .slice none 0 0] 100) :: ((b1, ce #[.int .i64 0, .int .i64 0, .slice none 0 0, .slice none 0 0, .slice none 0 0] 100) :: (eh ++ [])))) ∧ e1.sub [(0, .pointer (some ⟨Il, 0, none⟩)), (4, .int .i64 av), (10, .pointer (some ⟨b1, 0, none⟩)), (12, .pointer (some ⟨ad, 0, none⟩)), (27, .int .i64 n3), (28, .int .i64 k)] ∧ Be K.w0.heap.size 36 1 (BK 1 (BK 1 (iE .i64))) F1 jz kb kh bn eh) ?_ ?_
   ·clear qn
    refine Ap ?_
    refine AN (ua (Aa ?_))
    obtain ⟨ez, ck, bo, ti, qo⟩ := E5 th
    refine A0 (fun e1 F1 L1 => ∃ (gr : Option Addr) (ib : Nat) (gu : Nat) (fv : LH), A3 lj F1 ∧ L1 = ((Il, ce #[.slice B4 metal.length B3, .int .i64 ez, .int .u32 ck] 137) :: ((ad, ce #[.int .i64 n, .int .i64 n2, .slice gn gp gq, .slice none 0 0, .slice none 0 0] 100) :: ((b1, ce #[.int .i64 0, .int .i64 0, .slice none 0 0, .slice none 0 0, .slice none 0 0] 100) :: (db ++ (fv ++ []))))) ∧ e1.sub [(0, .pointer (some ⟨Il, 0, none⟩)), (4, .int .i64 av), (10, .pointer (some ⟨b1, 0, none⟩)), (12, .pointer (some ⟨ad, 0, none⟩)), (13, .slice gr ib gu), (27, .int .i64 n3), (28, .int .i64 k)] ∧ Be K.w0.heap.size 33 1 (BK 1 (iE .i64)) F1 gr ib gu bo fv) ?_ ?_
    ·clear qo
     refine AN (um (Aa ?_))
     refine Ap ?_
     obtain ⟨tj, tk⟩ := A1 ti
     refine Bh (fun kj e1 F1 L1 => ∃ (k2 : Int), Dc 0 8 k2 kj ∧ ∃ (dm : Int) (bb : Int) (bc : List (List Int)) (kl : Option Addr) (km : Nat) (ko : Nat) (ei : LH), DS metal n kj dm bb bc = some (ez, ck, bo) ∧ A3 lj F1 ∧ L1 = ((Il, ce #[.slice B4 metal.length B3, .int .i64 dm, .int .u32 bb] 137) :: ((ad, ce #[.int .i64 n, .int .i64 n2, .slice gn gp gq, .slice none 0 0, .slice none 0 0] 100) :: ((b1, ce #[.int .i64 0, .int .i64 0, .slice none 0 0, .slice none 0 0, .slice none 0 0] 100) :: (db ++ (ei ++ []))))) ∧ e1.sub [(0, .pointer (some ⟨Il, 0, none⟩)), (4, .int .i64 av), (10, .pointer (some ⟨b1, 0, none⟩)), (12, .pointer (some ⟨ad, 0, none⟩)), (13, .slice kl km ko), (27, .int .i64 n3), (28, .int .i64 k), (30, .int .i64 k2)] ∧ Be K.w0.heap.size 33 1 (BK 1 (iE .i64)) F1 kl km ko bc ei) _ (m0 (kc (kc (kc (ka (ke kr))))) ⟨_, Dc.start _ _, cg, ar, [], none, 0, 0, [], tk, A3.refl _, rfl, z8, Be.nil _ _ _ _ _⟩) ?_
     rintro kj e1 ui _ ⟨k2, fw, dm, bb, bc, kl, km, ko, ei, kt, fx, rfl, lq, bp⟩
     refine AB _ lq ?_
     replace aa := aa.mono (Ac _) fx
     refine AN (uv (Bb rfl rfl) ?_)
     refine Aa (As ?_)
     refine cQ (fun ku => ?_) fun ku => ?_
     ·obtain ⟨kj, rfl, lr⟩ := Dc.succ fw ku
      rw [DS] at kt
      refine Aq (As ?_)
      refine Ap ?_
      refine AN (um ?_)
      refine uv (Ae Jz rfl) (uv (An isAgg3 rfl (Has.own 1 rfl) rfl) ?_)
      obtain ⟨l, lu, ic, tm, tn⟩ := E5 kt
      refine cG call87 (NW aa tm) ?_; rintro _ uj _ fy lv lx ⟨uk, uo, uq, tp, rfl, rfl, de⟩
      replace aa := aa.mono (Ac _) fy
      replace bp := bp.mono (Ar (Ac _)) fy
      have ly := XE (Lb' := [(Il, ce #[.slice B4 metal.length B3, .int .i64 lu, .int .u32 ic] 137)]) (by rfl) lv lx
      replace de := de.new fun p hp => ly p (by simp [hp])
      refine AI (lb (lp (ln rfl))) (kO (kc (kf (fS fO) (kf (fS fO) kr))) ?_)
      refine ua (Aa (Am (um (um (um (um ?_))))))
      refine uv ((A7 underlying33 rfl).i (Be.Kw de)) ?_
      obtain ⟨n4, ma, ie, tq, tr⟩ := E5 tn
      refine cG call40 (Cw aa tq) ?_; rintro _ tt _ dn qp qq ⟨rfl, rfl⟩
      replace bp := bp.mono (Ar (Ac _)) dn
      replace de := de.mono (Ac _) dn
      refine AI (lb (ln rfl)) ?_
      obtain ⟨mb, mc⟩ := A1 tr
      obtain ⟨l2, me, mg⟩ := CH mc
      refine Rl (l := 0) (h := n4) (zs := l2) rfl Cm (Ac _) rfl (.inl ⟨rfl, rfl⟩) (.inr ⟨_, rfl, rfl⟩) (fun _ => .c (.c (.c .h))) de mb me ?_; intro ga ig gb qs ij
      refine bA (cs := #[.slice ga ig gb]) LL [.slice ga ig gb] ?_; intro tu qt
      obtain rfl := (Be.Eu ij).1
      refine C1 (Nat.le_refl _) (Ac _) (fC (fC (fC (fC fP)))) ij ?_; intro tv fa mh
      replace bp := bp.mono (Ar (Ac _)) fa
      obtain ⟨dp, mj, ml, mn⟩ := GM mg
      refine Fm (xs := bc) (ys := [l2]) (zs := dp) rfl LL rfl rfl (Nat.le_refl _) (fun _ => .c (.c (.c (.c (.s .h))))) bp (H2.box (vss := [[.slice ga l2.length gb]]) (ys := [l2]) 0 rfl (Ar (Ac _)) (.cons ⟨_, _, rfl, mh⟩ .nil) rfl rfl) mj ml (by decide) ?_; intro mo mq mr ik il
      refine kO (kd kr) ?_
      refine ua (Aa (AD (id := 3) (Am ?_)))
      refine uv (Bd rfl rfl (Dc.Eg fw ku tj)) ?_
      refine um (Aa ?_)
      exact le kr ⟨_, lr, ma, ie, dp, mo, mq, mr, ik, mn, (((fx.trans fy).trans dn).trans fa), rfl, z8, il⟩
     obtain rfl := Dc.zero fw ku
     rw [DS] at kt
     refine AT (Af (Af ?_))
     refine Ay ?_
     obtain ⟨rfl, rfl, rfl⟩ := Kf kt
     exact mi kr ⟨kl, km, ko, ei, fx, rfl, z7, bp⟩
    rintro e1 tw _ ⟨gr, ib, gu, fv, fb, rfl, im, iq⟩
    refine AB _ im ?_
    replace dd := dd.mono (Ar (Ar (Ac _))) fb
    refine Am (uv (Ae G4 rfl) (uv (An isAgg97 rfl (Has.own 1 rfl) rfl) (um ?_)))
    refine bA (cs := #[.slice gr ib gu]) SO [.slice gr ib gu] ?_; intro tx qu
    obtain rfl := (Be.Eu iq).1
    refine C1 (Nat.le_refl _) (Ar (Ac _)) (fC (fC (fC (fC (fS fP))))) iq ?_; intro tz fe mu
    replace dd := dd.mono (Ar (Ar (Ac _))) fe
    obtain ⟨t, mv, mw, mx⟩ := GM qo
    refine Fm (xs := af) (ys := [bo]) (zs := t) rfl SO rfl rfl (Nat.le_refl _) (fun _ => .c (.c (.c (.c .h)))) dd (H2.box (vss := [[.slice gr bo.length gu]]) (ys := [bo]) 0 rfl (Ar (Ar (Ac _))) (.cons ⟨_, _, rfl, mu⟩ .nil) rfl rfl) mv mw (by decide) ?_; intro my mz na ir iu
    refine kO (kd kr) (uv (Ae G4 rfl) (Cv (i := 1) sizeOf97 rfl rfl rfl rfl (CK rfl) (AI rfl ?_)))
    refine Aa (AD (id := 1) ?_)
    obtain ⟨rfl, rfl, rfl⟩ := Kf mx
    exact mi kr ⟨my, mz, na, ir, (fb.trans fe), rfl, z6, iu⟩
   rintro e1 u0 _ ⟨jz, kb, kh, eh, iv, rfl, iw, nc⟩
   refine AB _ iw (Am (uv (Bd rfl rfl (Dc.Eg fq jx tf)) ?_))
   refine um (Aa ?_)
   exact le kr ⟨_, ll, ey, cj, bn, jz, kb, kh, eh, qn, (ft.trans iv), rfl, z6, nc⟩
  obtain rfl := Dc.zero fq jx
  rw [DY] at jw
  refine AT (Af (Af ?_))
  refine Ay ?_
  obtain ⟨rfl, rfl, rfl⟩ := Kf jw
  exact mi kr ⟨gn, gp, gq, db, (ia.trans ft), rfl, z4, dd⟩
 rintro e1 u1 _ ⟨ca, cb, cd, az, iy, rfl, iz, aq⟩
 refine AB _ iz ?_
 replace aa := aa.mono (Ac _) iy
 refine AN (um ?_)
 obtain ⟨n5, u2, qw, nd, nf⟩ := E5 ql
 refine cG call40 (Cw aa nd) ?_; rintro _ ng _ ff qx qy ⟨rfl, rfl⟩
 replace aa := aa.mono (Ac _) ff
 replace aq := aq.mono (Ar (Ar (Ac _))) ff
 refine AI (lb (ln rfl)) ?_
 refine ua (BX (ua (Aa ?_)))
 obtain ⟨fg, cn, aw, real, nh, j0⟩ := XR nf
 refine A0 (fun e1 F1 L1 => ∃ (bd : Option Addr) (bg : Nat) (bh : Nat) (bq : LH) (dq : Option Addr) (dr : Nat) (dt : Nat) (br : LH), A3 ng F1 ∧ L1 = ((Il, ce #[.slice B4 metal.length B3, .int .i64 fg, .int .u32 cn] 137) :: ((ad, ce #[.int .i64 n, .int .i64 n2, .slice ca cb cd, .slice bd bg bh, .slice none 0 0] 100) :: ((b1, ce #[.int .i64 0, .int .i64 0, .slice none 0 0, .slice none 0 0, .slice none 0 0] 100) :: (az ++ (bq ++ (br ++ [])))))) ∧ e1.sub [(0, .pointer (some ⟨Il, 0, none⟩)), (10, .pointer (some ⟨b1, 0, none⟩)), (12, .pointer (some ⟨ad, 0, none⟩)), (16, .slice dq dr dt)] ∧ Be K.w0.heap.size 3 1 (iE .i64) F1 bd bg bh aw bq ∧ Be K.w0.heap.size 3 1 (iE .i64) F1 dq dr dt real br) ?_ ?_
 ·clear j0
  refine AN (um (um ?_))
  obtain ⟨n6, ni, j1, nj, nk⟩ := E5 nh
  refine cG call39 (DZ aa nj) ?_; rintro _ np _ fh qz re ⟨rfl, rfl⟩
  replace aa := aa.mono (Ac _) fh
  refine AI (lb (ln rfl)) ?_
  refine um (Aa ?_)
  refine Ap ?_
  obtain ⟨nq, nr⟩ := A1 nk
  refine Bh (fun kv e1 F1 L1 => ∃ (k3 : Int), Dc 0 n6 k3 kv ∧ ∃ (du : Int) (bj : Int) (ab : List Int) (Cf : Int) (cp : List Int) (bk : Option Addr) (bl : Nat) (bm : Nat) (ax : LH) (df : Option Addr) (dg : Nat) (dh : Nat) (ba : LH), Di metal kv du bj ab Cf cp = some (fg, cn, aw, real) ∧ A3 np F1 ∧ L1 = ((Il, ce #[.slice B4 metal.length B3, .int .i64 du, .int .u32 bj] 137) :: ((ad, ce #[.int .i64 n, .int .i64 n2, .slice ca cb cd, .slice bk bl bm, .slice none 0 0] 100) :: ((b1, ce #[.int .i64 0, .int .i64 0, .slice none 0 0, .slice none 0 0, .slice none 0 0] 100) :: (az ++ (ax ++ (ba ++ [])))))) ∧ e1.sub [(0, .pointer (some ⟨Il, 0, none⟩)), (10, .pointer (some ⟨b1, 0, none⟩)), (12, .pointer (some ⟨ad, 0, none⟩)), (15, .int .i64 Cf), (16, .slice df dg dh), (57, .int .i64 n6), (58, .int .i64 k3)] ∧ Be K.w0.heap.size 3 1 (iE .i64) F1 bk bl bm ab ax ∧ Be K.w0.heap.size 3 1 (iE .i64) F1 df dg dh cp ba) _ (m0 (kc (kc (kc (ka (ke (ke kr)))))) ⟨_, Dc.start _ _, ni, j1, [], n5, [], none, 0, 0, [], none, 0, 0, [], nr, A3.refl _, rfl, z7, Be.nil _ _ _ _ _, Be.nil _ _ _ _ _⟩) ?_
  rintro kv e1 u3 _ ⟨k3, dv, du, bj, ab, Cf, cp, bk, bl, bm, ax, df, dg, dh, ba, ej, dw, rfl, j2, ai, aj⟩
  refine AB _ j2 ?_
  replace aa := aa.mono (Ac _) dw
  refine AN (uv (Bb rfl rfl) ?_)
  refine Aa (As ?_)
  refine cQ (fun en => ?_) fun en => ?_
  ·obtain ⟨kv, rfl, j3⟩ := Dc.succ dv en
   rw [Di] at ej
   refine Aq (As ?_)
   refine Ap ?_
   refine AN (um (um ?_))
   obtain ⟨n7, u4, rf, ns, nt⟩ := E5 ej
   refine cG call39 (DZ aa ns) ?_; rintro _ u5 _ cq rh ri ⟨rfl, rfl⟩
   replace aa := aa.mono (Ac _) cq
   replace aj := aj.mono (Ac _) cq
   replace ai := ai.mono (Ac _) cq
   refine AI (lb (ln rfl)) ?_
   obtain ⟨nu, nv⟩ := A1 nt
   refine uv (Bd rfl rfl nu) ?_
   obtain ⟨n8, nw, ny⟩ := AG nv
   refine cV call88 (Nu nw) ?_
   refine ua (BX (um (um ?_)))
   obtain ⟨n9, rj, nz, o2, o3⟩ := E5 ny
   refine cG call39 (DZ aa o2) ?_; rintro _ u6 _ ct rk rl ⟨rfl, rfl⟩
   replace aa := aa.mono (Ac _) ct
   replace aj := aj.mono (Ac _) ct
   replace ai := ai.mono (Ac _) ct
   refine AI (lb (ln rfl)) ?_
   obtain ⟨o4, o7⟩ := A1 o3
   refine uv (Bd rfl rfl o4) ?_
   obtain ⟨ur, o8, o9⟩ := AG o7
   refine cV call88 (Nu o8) ?_
   refine ua (Aa ?_)
   obtain ⟨cu, au, ak, oc, j4⟩ := E5 o9
   refine jF (((Il, ce #[.slice B4 metal.length B3, .int .i64 cu, .int .u32 au] 137) :: ((ad, ce #[.int .i64 n, .int .i64 n2, .slice ca cb cd, .slice bk bl bm, .slice none 0 0] 100) :: ((b1, ce #[.int .i64 0, .int .i64 0, .slice none 0 0, .slice none 0 0, .slice none 0 0] 100) :: (az ++ (ax ++ (ba ++ []))))))) [(0, .pointer (some ⟨Il, 0, none⟩)), (10, .pointer (some ⟨b1, 0, none⟩)), (12, .pointer (some ⟨ad, 0, none⟩)), (15, .int .i64 n8), (16, .slice df dg dh), (17, .int .i64 ak), (57, .int .i64 n6), (58, .int .i64 k3)] ?_ fun u7 dx => ?_
   ·clear j4
    refine AN (um ?_)
    obtain ⟨ok, rm, od, oe, j5⟩ := E5 oc
    refine cG call66 (MT aa oe) ?_; rintro _ u9 _ fi rp rq ⟨rfl, rfl⟩
    refine AI (lb (ln rfl)) (Aa ?_)
    refine A5 rfl (fun gg => ?_) (fun gg => ?_)
    ·have og := bt j5 gg
     refine Am (ua (Aa ?_))
     obtain ⟨rfl, rfl, rfl⟩ := Kf og
     exact mi kr ⟨fi, rfl, z8⟩
    have oh := bf j5 gg
    refine Aq ?_
    obtain ⟨rfl, rfl, rfl⟩ := Kf oh
    exact mi kr ⟨fi, rfl, z8⟩
   replace ai := ai.mono (Ac _) dx
   replace aj := aj.mono (Ac _) dx
   refine Dp [(.still, 0), (.still, 1), (.pre, 2), (.still, 4), (.still, 5), (.still, 6), (.pre, 7), (.alloc (ce #[.int .i64 n8] 3) (fun b => .slice (some ⟨b, 0, none⟩) 1 1) [(73, .int .i64 n8)], 2), (.seq, 3), (.alloc (ce #[.int .i64 ak] 3) (fun b => .slice (some ⟨b, 0, none⟩) 1 1) [(78, .int .i64 ak)], 7), (.seq, 8), (.seq, 9), (.still, 10), (.seq, 11)] (by kernel_rfl) (by kernel_rfl) (⟨⟨_, _, rfl, rfl, rfl, rfl, rfl, Pk rfl (Ie Cm [.int .i64 n8] rfl (by decide) (by simp [Value.cells]) (by decide))⟩, ⟨⟨_, _, rfl, rfl, rfl, rfl, rfl, Pk rfl (Ie Cm [.int .i64 ak] rfl (by decide) (by simp [Value.cells]) (by decide))⟩, trivial⟩⟩) (by rfl) (by kernel_rfl) (mS [16] rfl (Bw rfl) (mS [15] rfl (Bw rfl) ?_))
   refine ⟨⟨_, rfl, z1, by kernel_rfl⟩, ?_⟩
   refine mS [12] rfl (Ae Hw rfl) (mL [76] ([(ad, ce #[.int .i64 n, .int .i64 n2, .slice ca cb cd, .slice bk bl bm, .slice none 0 0] 100)]) rfl (s0 (s1 (s2 (s1 (s3 (s3 (s3 sr))))))) (fun H F' L' gh gk => An isAgg33 rfl ((Has.own 0 rfl).ext gh gk) rfl) (mS [17] rfl (Bw rfl) ?_))
   refine ⟨⟨_, rfl, z1, by kernel_rfl⟩, ?_⟩
   refine SD rfl ?_; intro j6 ru
   refine U4 (L' := (j6, ce #[.int .i64 n8] 3) :: ((Il, ce #[.slice B4 metal.length B3, .int .i64 cu, .int .u32 au] 137) :: ((ad, ce #[.int .i64 n, .int .i64 n2, .slice ca cb cd, .slice bk bl bm, .slice none 0 0] 100) :: ((b1, ce #[.int .i64 0, .int .i64 0, .slice none 0 0, .slice none 0 0, .slice none 0 0] 100) :: (az ++ (ax ++ (ba ++ []))))))) rfl ?_
   refine ⟨_, [(72, .slice df dg dh), (74, .slice (some ⟨j6, 0, none⟩) 1 1)], rfl, rfl, z2, by kernel_rfl, ?_⟩; intro H
   obtain ⟨l3, oi, oj, oo⟩ := GM j4
   refine Fm (xs := cp) (ys := [n8]) (zs := l3) rfl Cm rfl rfl (Nat.le_refl _) (fun _ => .c (.c (.c (.c (.s (.s .h)))))) aj (H2.box (vss := [[.int .i64 n8]]) (ys := [n8]) 0 rfl (Ac _) (.cons rfl .nil) rfl rfl) oi oj (by decide) ?_; intro j7 j8 j9 fj ja
   refine kO (kd kr) ?_
   refine Aa ⟨_, rfl, A3.refl _, [6, 5, 4], by kernel_rfl, .inl (.inr (fun d h => by cases h; rfl)), (fc sm (fc (s0 (s1 (s2 (s1 (s3 (s3 (s3 sr))))))) (fc sm nm))), ?_⟩
   refine SD rfl ?_; intro jb ry
   refine U4 (L' := (jb, ce #[.int .i64 ak] 3) :: ((Il, ce #[.slice B4 metal.length B3, .int .i64 cu, .int .u32 au] 137) :: ((ad, ce #[.int .i64 n, .int .i64 n2, .slice ca cb cd, .slice bk bl bm, .slice none 0 0] 100) :: ((b1, ce #[.int .i64 0, .int .i64 0, .slice none 0 0, .slice none 0 0, .slice none 0 0] 100) :: (az ++ (ax ++ (fj ++ []))))))) rfl ?_
   refine ⟨_, [(77, .slice bk bl bm), (79, .slice (some ⟨jb, 0, none⟩) 1 1)], rfl, rfl, z2, by kernel_rfl, ?_⟩; intro H
   obtain ⟨l4, oq, ot, ou⟩ := GM oo
   refine Fm (xs := ab) (ys := [ak]) (zs := l4) rfl Cm rfl rfl (Nat.le_refl _) (fun _ => .c (.c (.c (.c (.s .h))))) ai (H2.box (vss := [[.int .i64 ak]]) (ys := [ak]) 0 rfl (Ac _) (.cons rfl .nil) rfl rfl) oq ot (by decide) ?_; intro jc jd je jf jg
   refine kO (kd kr) ?_
   refine Aa ⟨_, rfl, A3.refl _, [], by kernel_rfl, .inl (.inl rfl), nm, ?_⟩
   refine ⟨_, [(75, .slice j7 j8 j9)], rfl, rfl, z1, by kernel_rfl, ?_⟩; intro H
   refine ua ?_
   refine Aa ⟨_, rfl, A3.refl _, [], by kernel_rfl, .inl (.inl rfl), nm, ?_⟩
   refine mS [12] rfl (Ae Hw rfl) ?_
   refine ⟨_, [(80, .slice jc jd je), (81, .pointer (some ⟨ad, 3, none⟩))], rfl, rfl, z2, by kernel_rfl, ?_⟩; intro H
   refine Cv (i := 1) sizeOf33 rfl rfl rfl rfl (CK rfl) (AI rfl ?_)
   refine Aa ⟨undef, rfl, A3.refl _, [], by kernel_rfl, .inl (.inl rfl), nm, ?_⟩
   refine Ff ?_
   refine AD (id := 5) (Am ?_)
   refine uv (Bd rfl rfl (Dc.Eg dv en nq)) ?_
   refine um (Aa ?_)
   exact le kr ⟨_, j3, cu, au, l4, n8, l3, jc, jd, je, jf, j7, j8, j9, fj, ou, (((dw.trans cq).trans ct).trans dx), rfl, z7, jg, ja⟩
  obtain rfl := Dc.zero dv en
  rw [Di] at ej
  refine AT (Af (Af ?_))
  refine Ay ?_
  obtain ⟨rfl, rfl, rfl, rfl⟩ := ZC ej
  exact mi kr ⟨bk, bl, bm, ax, df, dg, dh, ba, (fh.trans dw), rfl, z4, ai, aj⟩
 rintro e1 ow _ ⟨bd, bg, bh, bq, dq, dr, dt, br, fk, rfl, jh, dy, al⟩
 refine AB _ jh ?_
 replace aa := aa.mono (Ac _) fk
 replace aq := aq.mono (Ar (Ar (Ac _))) fk
 obtain ⟨cv, fl, cw, oy, ji⟩ := E5 j0
 refine A0 (fun e1 F1 L1 => ∃ (eo : Option Addr) (ep : Nat) (er : Nat) (dz : LH), A3 ow F1 ∧ L1 = ((Il, ce #[.slice B4 metal.length B3, .int .i64 fl, .int .u32 cw] 137) :: ((ad, ce #[.int .i64 n, .int .i64 n2, .slice ca cb cd, .slice bd bg bh, .slice eo ep er] 100) :: ((b1, ce #[.int .i64 0, .int .i64 0, .slice none 0 0, .slice none 0 0, .slice none 0 0] 100) :: (az ++ (bq ++ (dz ++ (br ++ []))))))) ∧ e1.sub [(10, .pointer (some ⟨b1, 0, none⟩)), (12, .pointer (some ⟨ad, 0, none⟩)), (16, .slice dq dr dt)] ∧ Be K.w0.heap.size 132 3 (Br (iE .i64) (Br (iE .i64) (iE .i64))) F1 eo ep er cv dz) ?_ ?_
 ·clear ji
  refine AN (um ?_)
  obtain ⟨rz, jj, gl, oz, p0⟩ := E5 oy
  refine cG call40 (Cw aa oz) ?_; rintro _ p3 _ cx s5 s6 ⟨rfl, rfl⟩
  replace aa := aa.mono (Ac _) cx
  replace aq := aq.mono (Ar (Ar (Ac _))) cx
  replace al := al.mono (Ac _) cx
  refine AI (lb (ln rfl)) ?_
  refine um (Aa ?_)
  refine Ap ?_
  obtain ⟨p4, p5⟩ := A1 p0
  refine Bh (fun kz e1 F1 L1 => ∃ (k4 : Int), Dc 0 rz k4 kz ∧ ∃ (cf : Int) (ay : Int) (ah : List (Int × Int × Int)) (bu : Option Addr) (bw : Nat) (bx : Nat) (cy : LH), DV metal n2 ae real kz cf ay ah = some (cv, fl, cw) ∧ A3 p3 F1 ∧ L1 = ((Il, ce #[.slice B4 metal.length B3, .int .i64 cf, .int .u32 ay] 137) :: ((ad, ce #[.int .i64 n, .int .i64 n2, .slice ca cb cd, .slice bd bg bh, .slice bu bw bx] 100) :: ((b1, ce #[.int .i64 0, .int .i64 0, .slice none 0 0, .slice none 0 0, .slice none 0 0] 100) :: (az ++ (bq ++ (cy ++ (br ++ []))))))) ∧ e1.sub [(0, .pointer (some ⟨Il, 0, none⟩)), (10, .pointer (some ⟨b1, 0, none⟩)), (12, .pointer (some ⟨ad, 0, none⟩)), (16, .slice dq dr dt), (84, .int .i64 rz), (85, .int .i64 k4)] ∧ Be K.w0.heap.size 132 3 (Br (iE .i64) (Br (iE .i64) (iE .i64))) F1 bu bw bx ah cy) _ (m0 (kc (kc (kc (ka (ka (ke kr)))))) ⟨_, Dc.start _ _, jj, gl, [], none, 0, 0, [], p5, A3.refl _, rfl, z6, Be.nil _ _ _ _ _⟩) ?_
  rintro kz e1 ub _ ⟨k4, eb, cf, ay, ah, bu, bw, bx, cy, eu, bz, rfl, jk, ao⟩
  refine AB _ jk ?_
  replace aa := aa.mono (Ac _) bz
  replace aq := aq.mono (Ar (Ar (Ac _))) bz
  replace al := al.mono (Ac _) bz
  refine AN (uv (Bb rfl rfl) ?_)
  refine Aa (As ?_)
  refine cQ (fun ew => ?_) fun ew => ?_
  ·obtain ⟨kz, rfl, jl⟩ := Dc.succ eb ew
   rw [DV] at eu
   refine Aq (As ?_)
   refine Ap (Dp [(.still, 0), (.still, 1), (.still, 2), (.still, 3), (.still, 4), (.still, 5), (.still, 7), (.still, 8), (.still, 9), (.still, 10), (.still, 11), (.still, 13), (.still, 14), (.still, 15), (.still, 16), (.seq, 6), (.seq, 12), (.seq, 17), (.still, 18), (.seq, 19), (.seq, 20), (.still, 21), (.seq, 22)] (by kernel_rfl) (by kernel_rfl) (trivial) (by rfl) (by kernel_rfl) (mS [12] rfl (Ae GS rfl) (mL [87] ([(ad, ce #[.int .i64 n, .int .i64 n2, .slice ca cb cd, .slice bd bg bh, .slice bu bw bx] 100)]) rfl (s0 (s1 (s2 (s1 (s3 (s3 (s3 (s3 sr)))))))) (fun H F' L' gh gk => An isAgg98 rfl ((Has.own 0 rfl).ext gh gk) rfl) (mS [0] rfl (Bw rfl) (mS [16] rfl (Bw rfl) (mS [90] rfl ((A7 underlying33 rfl).i (Be.Kw al)) ?_))))))
   obtain ⟨p6, p7⟩ := A1 eu
   refine mS (v := .int .i64 ((real.length : Int) - 1)) [91] rfl (Fa rfl rfl p6) (mS [0] rfl (Bw rfl) (mS [12] rfl (Ae G4 rfl) (mL [95] ([(ad, ce #[.int .i64 n, .int .i64 n2, .slice ca cb cd, .slice bd bg bh, .slice bu bw bx] 100)]) rfl (s0 (s1 (s2 (s1 (s3 (s3 (s3 (s3 sr)))))))) (fun H F' L' gh gk => An isAgg97 rfl ((Has.own 0 rfl).ext gh gk) rfl) (mS [96] rfl ((A7 underlying97 rfl).i (Be.Kw aq)) ?_))))
   obtain ⟨p8, p9⟩ := A1 p7
   refine mS (v := .int .i64 ((ae.length : Int) - 1)) [97] rfl (Fa rfl rfl p8) (mS [0] rfl (Bw rfl) (mS [12] rfl (Ae LU rfl) (mL [101] ([(ad, ce #[.int .i64 n, .int .i64 n2, .slice ca cb cd, .slice bd bg bh, .slice bu bw bx] 100)]) rfl (s0 (s1 (s2 (s1 (s3 (s3 (s3 (s3 sr)))))))) (fun H F' L' gh gk => An isAgg3 rfl ((Has.own 0 rfl).ext gh gk) rfl) ?_)))
   obtain ⟨pa, pb⟩ := A1 p9
   refine mS (v := .int .i64 (n2 - 1)) [102] rfl (Fa rfl rfl pa) ?_
   refine ⟨_, [(89, .pointer (some ⟨Il, 0, none⟩)), (92, .int .i64 ((real.length : Int) - 1))], rfl, rfl, z2, by kernel_rfl, ?_⟩; intro H
   obtain ⟨fm, s7, pc, pd, pe⟩ := E5 pb
   refine cG call40 (Cw aa pd) ?_; rintro _ uc _ cz s8 s9 ⟨rfl, rfl⟩
   replace aa := aa.mono (Ac _) cz
   replace ao := ao.mono (Au (Ac _) (Au (Ac _) (Ac _))) cz
   refine AI (lb (ln rfl)) ?_
   refine Aa ⟨_, rfl, cz, [16, 15, 14, 13, 11, 10, 9, 8, 7, 1, 0], by kernel_rfl, .inl (.inr (fun d h => by cases h; rfl)), (fc sm (fc (s0 (s1 (s2 (s1 (s3 (s3 (s3 (s3 sr)))))))) (fc sm (fc sm (fc sm (fc sm (fc (s0 (s1 (s2 (s1 (s3 (s3 (s3 (s3 sr)))))))) (fc sm (fc sm (fc (s0 (s1 (s2 (s1 (s3 (s3 (s3 (s3 sr)))))))) (fc sm nm))))))))))), ?_⟩
   refine ⟨_, [(94, .pointer (some ⟨Il, 0, none⟩)), (98, .int .i64 ((ae.length : Int) - 1))], rfl, rfl, z2, by kernel_rfl, ?_⟩; intro H
   obtain ⟨fo, sa, pf, pg, ph⟩ := E5 pe
   refine cG call40 (Cw aa pg) ?_; rintro _ ud _ da sb sd ⟨rfl, rfl⟩
   replace aa := aa.mono (Ac _) da
   replace ao := ao.mono (Au (Ac _) (Au (Ac _) (Ac _))) da
   refine AI (lb (ln rfl)) ?_
   refine Aa ⟨_, rfl, da, [16, 15, 14, 13, 1, 0], by kernel_rfl, .inl (.inr (fun d h => by cases h; rfl)), (fc sm (fc (s0 (s1 (s2 (s1 (s3 (s3 (s3 (s3 sr)))))))) (fc sm (fc sm (fc (s0 (s1 (s2 (s1 (s3 (s3 (s3 (s3 sr)))))))) (fc sm nm)))))), ?_⟩
   refine ⟨_, [(100, .pointer (some ⟨Il, 0, none⟩)), (103, .int .i64 (n2 - 1))], rfl, rfl, z2, by kernel_rfl, ?_⟩; intro H
   obtain ⟨fp, jm, gm, pj, pk⟩ := E5 ph
   refine cG call40 (Cw aa pj) ?_; rintro _ ue _ ec se sf ⟨rfl, rfl⟩
   replace ao := ao.mono (Au (Ac _) (Au (Ac _) (Ac _))) ec
   refine AI (lb (ln rfl)) ?_
   refine Aa ⟨_, rfl, ec, [1, 0], by kernel_rfl, .inl (.inr (fun d h => by cases h; rfl)), (fc (s0 (s1 (s2 (s1 (s3 (s3 (s3 (s3 sr)))))))) (fc sm nm)), ?_⟩
   refine mS (v := .agg #[.int .i64 fm, .int .i64 fo, .int .i64 fp]) [93, 99, 104] rfl (BH (v := .agg #[.int .i64 fm, .int .i64 fo, .int .i64 fp]) rfl (by intro w; kernel_rfl)) ?_
   refine ⟨_, [(105, .agg #[.int .i64 fm, .int .i64 fo, .int .i64 fp])], rfl, rfl, z1, by kernel_rfl, ?_⟩; intro H
   refine bA (cs := #[.int .i64 fm, .int .i64 fo, .int .i64 fp]) KU [.agg #[.int .i64 fm, .int .i64 fo, .int .i64 fp]] ?_; intro pn sg
   refine Aa ⟨_, rfl, A3.refl _, [1, 0], by kernel_rfl, .inl (.inr (fun d h => by cases h; rfl)), (fc (s0 (s1 (s1 (s2 (s1 (s3 (s3 (s3 (s3 sr))))))))) (fc sm nm)), ?_⟩
   refine ⟨_, [(88, .slice bu bw bx), (106, .slice (some ⟨pn, 0, none⟩) 1 1)], rfl, rfl, z2, by kernel_rfl, ?_⟩; intro H
   obtain ⟨l5, po, pq, pr⟩ := GM pk
   refine Fm (xs := ah) (ys := [(fm, fo, fp)]) (zs := l5) rfl KU rfl rfl (Nat.le_refl _) (fun _ => .c (.c (.c (.c (.s (.s .h)))))) ao (H2.box (vss := [[.int .i64 fm, .int .i64 fo, .int .i64 fp]]) (ys := [(fm, fo, fp)]) 0 rfl (Au (Ac _) (Au (Ac _) (Ac _))) (.cons ⟨_, _, rfl, rfl, ⟨_, _, rfl, rfl, rfl⟩⟩ .nil) rfl rfl) po pq (by decide) ?_; intro jn jo jq jr js
   refine kO (kd kr) ?_
   refine Aa ⟨_, rfl, A3.refl _, [], by kernel_rfl, .inl (.inl rfl), nm, ?_⟩
   refine mS [12] rfl (Ae GS rfl) ?_
   refine ⟨_, [(107, .slice jn jo jq), (108, .pointer (some ⟨ad, 4, none⟩))], rfl, rfl, z2, by kernel_rfl, ?_⟩; intro H
   refine Cv (i := 1) sizeOf98 rfl rfl rfl rfl (CK rfl) (AI rfl ?_)
   refine Aa ⟨undef, rfl, A3.refl _, [], by kernel_rfl, .inl (.inl rfl), nm, ?_⟩
   refine Ff ?_
   refine AD (id := 7) (Am ?_)
   refine uv (Bd rfl rfl (Dc.Eg eb ew p4)) ?_
   refine um (Aa ?_)
   exact le kr ⟨_, jl, jm, gm, l5, jn, jo, jq, jr, pr, (((bz.trans cz).trans da).trans ec), rfl, z6, js⟩
  obtain rfl := Dc.zero eb ew
  rw [DV] at eu
  refine AT (Af (Af ?_))
  refine Ay ?_
  obtain ⟨rfl, rfl, rfl⟩ := Kf eu
  exact mi kr ⟨bu, bw, bx, cy, (cx.trans bz), rfl, z3, ao⟩
 rintro e1 uf _ ⟨eo, ep, er, dz, eg, rfl, jt, ju⟩
 refine AB _ jt ?_
 replace aq := aq.mono (Ar (Ar (Ac _))) eg
 replace dy := dy.mono (Ac _) eg
 replace al := al.mono (Ac _) eg
 refine AN (uv (AS isAgg100 sizeOf100 rfl (Has.own 1 rfl) (CK rfl) rfl) (um (B1 (i := 2) sizeOf100 rfl rfl rfl (by simp [Value.oneCell']) rfl (CK rfl) (AI rfl ?_))))
 refine ua (Aa ?_)
 refine kW (kf (fC (fC fO)) (kc (kd kr))) (Ao (CT results30 (Fg (cs := #[.int .i64 n, .int .i64 n2, .slice ca cb cd, .slice bd bg bh, .slice eo ep er]) isAgg100 sizeOf100 rfl (Has.own 0 rfl) (CK rfl) rfl) (A6 rfl) (s1 (s2 (s4 (s4 (s4 (s4 sr)))))) ?_))
 obtain ⟨rfl, rfl, rfl, rfl, rfl, rfl, rfl, rfl⟩ := Zv ji
 exact ⟨_, _, _, _, _, _, _, _, _, _, _, _, _, _, _, _, rfl, rfl, aq.any, dy.any, ju.any, al.any⟩
theorem Qo {w : Int} {r : Bool} (hr : IL w = some r) :
    Bl Tryz.prog 158 #[.int .i64 w] F (.bool r) := by
 refine sp func158 ntmps158 fun K _ _ => ?_
 rw [IL] at hr
 refine AN (ua (BX (um ?_)))
 obtain ⟨ok, h1, r2⟩ := AG hr
 refine cV call159 (HL h1) ?_
 refine ua (Aa (Ao ?_))
 refine BU results158 ?_
 obtain rfl := AL r2
 exact rfl
set_option maxHeartbeats 1000000 in
theorem RH {Ab : Int} {Az : List (Int × Int × Int)} {l : List Int} (ab : Av 1 (BK 1 (BK 1 (iE .i64))) F Aw Ax Al) (aa : Av 1 (iE .i64) F AF AE Ak) (ad : Av 3 (Br (iE .i64) (Br (iE .i64) (iE .i64))) F AR AQ Az) (ae : Av 1 (iE .i64) F Hp Hl l) {r : Option (Int × Int × (List (List (List Int))) × (List Int) × (List (Int × Int × Int)))} {r2 : Int} (hr : J8 Ad Ab Al Ak Az l = some (r, r2)) :
    SH.Spec Tryz.prog 90 #[.agg #[.int .i64 Ad, .int .i64 Ab, .slice Aw Al.length Ax, .slice AF Ak.length AE, .slice AR Az.length AQ], .slice Hp l.length Hl] F [] fun F' L' v => ∃ (rv : Value), v = .tuple #[rv, .int .i64 r2] ∧ L' = [] ∧ PU 247 (Br (iE .i64) (Br (iE .i64) (Br (BK 1 (BK 1 (BK 1 (iE .i64)))) (Br (BK 1 (iE .i64)) (BK 3 (Br (iE .i64) (Br (iE .i64) (iE .i64)))))))) F' rv r := by
 refine sp func90 ntmps90 fun K _ _ => ?_
 rw [J8] at hr
 refine AN ?_
 refine Bt rfl rfl ?_; intro b1 ba
 refine ua (ua (BX ?_))
 refine uv (AS isAgg100 sizeOf100 rfl (Has.own 0 rfl) (CK rfl) rfl) ?_
 obtain ⟨d, n, h2, r3⟩ := Es hr
 refine c0 call157 (N1 ab aa ad h2) ?_; rintro _ F4 _ aq bb ⟨v8, rfl, rfl, ar⟩
 replace ae := ae.mono (Ac _) aq
 refine AI (ln rfl) ?_
 refine um (ox rfl rfl rfl (ox rfl rfl rfl (ua (ua (Aa (As ?_))))))
 refine Ap ?_
 refine AN (um ?_)
 refine uv (B7 rfl rfl) ?_
 refine ua (Aa ?_)
 refine cQ (fun af => ?_) fun af => ?_
 ·have au := Bf r3 af
  refine AN (um (ua (ua (Aa ?_))))
  refine kW kn ?_
  refine Ao (AA (Ah ?_))
  refine CT results90 (A6 rfl) (A6 rfl) (sr) ?_
  obtain ⟨rfl, rfl⟩ := D2 au
  exact ⟨_, rfl, rfl, rfl⟩
 have ak := Bg r3 af
 refine AN (um ?_)
 refine uv (A7 underlying33 rfl) (uv (Ae Hw rfl) (uv (An isAgg33 rfl (Has.own 0 rfl) rfl) (uv (A7 underlying33 rfl) (uv (B7 rfl rfl) ?_))))
 refine ua (Aa ?_)
 refine cQ (fun ah => ?_) fun ah => ?_
 ·have av := Bf ak ah
  refine AN (ua (ua (Aa ?_)))
  refine kW kn ?_
  refine Ao (AA (Ah ?_))
  refine CT results90 (A6 rfl) (A6 rfl) (sr) ?_
  obtain ⟨rfl, rfl⟩ := D2 av
  exact ⟨_, rfl, rfl, rfl⟩
 have aw := Bg ak ah
 refine AN (um ?_)
 have ai : HG Tryz.prog F4 158 #[] #[] (iE .i64) Value.bool (fun al : Int => IL al) := ⟨call158, fun F2 h2 vs al r ha hr => by obtain rfl := ha; exact Qo hr⟩
 obtain ⟨ok, ax, ao⟩ := AG aw
 refine cV call107 (JX ae ai ax) (uv (BC rfl) ?_)
 refine ua (Aa ?_)
 refine A5 rfl (fun aj => ?_) (fun aj => ?_)
 ·have ay := bt ao aj
  refine AN (ua (ua (Aa ?_)))
  refine kW kn ?_
  refine Ao (AA (Ah ?_))
  refine CT results90 (A6 rfl) (A6 rfl) (sr) ?_
  obtain ⟨rfl, rfl⟩ := D2 ay
  exact ⟨_, rfl, rfl, rfl⟩
 have az := bf ao aj
 refine Aq (AD (id := 0) (AN (um (ua (ua (Aa ?_))))))
 refine kW kn (Ao (CT results90 (A6 rfl) (A6 rfl) (sr) ?_))
 obtain ⟨rfl, rfl⟩ := D2 az
 exact ⟨_, rfl, rfl, ar⟩
set_option maxHeartbeats 1000000 in
theorem OL {Ab : Int} {Az : List (Int × Int × Int)} {FJ : Option Addr} {FI : Nat} {Fk : List Int} (ah : F JI = some (.cells #[.int .i64 Ad, .int .i64 Ab, .slice Aw Al.length Ax, .slice AF Ak.length AE, .slice AR Az.length AQ] 247 Ox)) (ad : Av 1 (BK 1 (BK 1 (iE .i64))) F Aw Ax Al) (ab : Av 1 (iE .i64) F AF AE Ak) (ae : Av 3 (Br (iE .i64) (Br (iE .i64) (iE .i64))) F AR AQ Az) (aa : Av 1 (iE .i64) F FJ FI Fk) {r : List Bool} (hr : Hy Ad Ab Al Ak Az Fk = some r) :
    SH.Spec Tryz.prog 91 #[.pointer (some ⟨JI, 0, none⟩), .slice FJ Fk.length FI] F [] fun _ L' v => v = .agg (arr cB r) ∧ L' = [] ∧ r.length = 24 := by
 refine sp func91 ntmps91 fun K _ _ => ?_
 rw [Hy] at hr
 refine AN ?_
 refine Bo rfl zeroValue221 ?_; intro b1 bl
 refine AI rfl (BX ?_)
 refine Bo rfl zeroValue221 ?_; intro b2 bm
 refine AI rfl (Aa ?_)
 obtain ⟨g, h4, r5⟩ := AG hr
 refine A0 (fun e1 F1 L1 => A3 F F1 ∧ L1 = [(b2, ce (arr cB g) 221), (b1, ce (arr cB (List.replicate 24 false)) 221)] ∧ e1.sub [(4, .pointer (some ⟨b1, 0, none⟩)), (5, .pointer (some ⟨b2, 0, none⟩))] ∧ g.length = 24) ?_ ?_
 ·clear r5
  refine AN (um ?_)
  refine uv (A7 underlying33 rfl) ?_
  refine um (Aa ?_)
  refine Ap ?_
  refine Bh (fun ax e1 F1 L1 => LA Fk ax fun tl k => ∃ (g2 : List Bool), Dw Ad Ab Al Ak Az tl k g2 = some g ∧ A3 F F1 ∧ L1 = [(b2, ce (arr cB g2) 221), (b1, ce (arr cB (List.replicate 24 false)) 221)] ∧ e1.sub [(0, .pointer (some ⟨JI, 0, none⟩)), (4, .pointer (some ⟨b1, 0, none⟩)), (5, .pointer (some ⟨b2, 0, none⟩)), (8, .slice FJ Fk.length FI), (9, .int .i64 (Fk.length : Int)), (10, .int .i64 k)] ∧ g2.length = 24) _ (m0 kr ⟨_, _, rfl, BL.start _, List.replicate 24 false, h4, A3.refl _, rfl, z6, List.length_replicate⟩) ?_
  rintro ax e1 bn _ ⟨tl, k, bb, ak, g2, r9, af, rfl, al, h6⟩
  refine AB _ al ?_
  replace ad := ad.mono (Ar (Ar (Ac _))) af
  replace ab := ab.mono (Ac _) af
  replace ae := ae.mono (Au (Ac _) (Au (Ac _) (Ac _))) af
  replace aa := aa.mono (Ac _) af
  replace ah := af _ _ ah
  refine AN (uv (Bb rfl rfl) ?_)
  refine Aa (As ?_)
  refine cQ (fun aj => ?_) fun aj => ?_
  ·obtain ⟨x, bo, rfl, ao, ay, aq⟩ := BL.succ ak aj
   rw [Dw] at r9
   refine Aq (As ?_)
   refine Ap ?_
   refine AN (um ?_)
   obtain ⟨bp, bq, br, bc, ar, au, az, rfl, bd, av⟩ := Av.at (Ac _) aa ([(b2, ce (arr cB g2) 221), (b1, ce (arr cB (List.replicate 24 false)) 221)]) ay.1 ao
   refine uv (AK underlying33 sizeOf3 rfl ar rfl ay) (uv (An isAgg3 rfl au (av 0 (by decide))) ?_)
   refine ua (ua (Aa (Am (um ?_))))
   refine uv (Gq isAgg221 sizeOf221 rfl (Has.own 0 rfl) (Ci Bq h6)) ?_
   refine um (um ?_)
   obtain ⟨a, bg, bh⟩ := AG r9
   refine c0 call160 (Mj ah ad ab ae h6 bg) ?_; rintro _ bu _ ai bj ⟨rfl, rfl, ba⟩
   replace aa := aa.mono (Ac _) ai
   refine AI (ln rfl) (Ef (i := 0) sizeOf221 rfl rfl rfl (Ci Bq h6) (Ci Bq ba) (Hc Bq) (AI rfl ?_))
   refine Aa (AD (id := 1) (Am ?_))
   refine uv (Bd rfl rfl (BL.Eg ak aj (Av.lt aa))) ?_
   refine um (Aa ?_)
   subst bb; exact le kr ⟨_, _, rfl, aq, a, bh, (af.trans ai), rfl, z6, ba⟩
  obtain rfl := BL.zero ak aj
  rw [Dw] at r9
  refine AT (Af (Af ?_))
  refine Ay ?_
  obtain rfl := AL r9
  exact mi kr ⟨af, rfl, z2, h6⟩
 rintro e1 bw _ ⟨bk, rfl, aw, h3⟩
 refine AB _ aw (AN (uv (Gq isAgg221 sizeOf221 rfl (Has.own 0 rfl) (Ci Bq h3)) (Ef (i := 1) sizeOf221 rfl rfl rfl (Ci Bq List.length_replicate) (Ci Bq h3) (Hc Bq) (AI rfl (Aa (kW (kd kr) (Ao ?_)))))))
 refine Jv results91 (Fg (cs := arr cB g) isAgg221 sizeOf221 rfl (Has.own 0 rfl) (Eb (Cd (DM Bq h3))) (G9 (DM Bq h3) (Cd (DM Bq h3)))) (s1 sr) ?_
 obtain rfl := AL r5
 exact ⟨rfl, rfl, h3⟩
set_option maxHeartbeats 1000000 in
theorem Sb {Ab : Int} {Az : List (Int × Int × Int)} {l : List Int} (ao : Av 1 (BK 1 (BK 1 (iE .i64))) F Aw Ax Al) (ab : Av 1 (iE .i64) F AF AE Ak) (aq : Av 3 (Br (iE .i64) (Br (iE .i64) (iE .i64))) F AR AQ Az) (cv : Av 1 (iE .i64) F Hp Hl l) {r : List (List Int)} {r2 : Int} (hr : Hf Ad Ab Al Ak Az l = some (r, r2)) :
    SH.Spec Tryz.prog 32 #[.agg #[.int .i64 Ad, .int .i64 Ab, .slice Aw Al.length Ax, .slice AF Ak.length AE, .slice AR Az.length AQ], .slice Hp l.length Hl] F [] fun F' L' v => ∃ (ra : Option Addr) (rc : Nat), v = .tuple #[.slice ra r.length rc, .int .i64 r2] ∧ L' = [] ∧ Av 1 (BK 1 (iE .i64)) F' ra rc r := by
 refine sp func32 ntmps32 fun K _ _ => ?_
 rw [Hf] at hr
 refine AN ?_
 refine Bt rfl rfl ?_; intro b1 iz
 refine ua (ua (BX ?_))
 refine uv (AS isAgg100 sizeOf100 rfl (Has.own 0 rfl) (CK rfl) rfl) (um ?_)
 obtain ⟨d, n, h2, r3⟩ := Es hr
 refine c0 call90 (RH ao ab aq cv h2) ?_; rintro _ F4 _ fi j0 ⟨v8, rfl, rfl, fj⟩
 replace cv := cv.mono (Ac _) fi
 refine AI (ln rfl) ?_
 refine um (ox rfl rfl rfl (ox rfl rfl rfl (ua (ua (Aa (As (AN (um ?_))))))))
 refine uv (B7 rfl rfl) (Aa ?_)
 refine cQ (fun dd => ?_) fun dd => ?_
 ·have fk := Bf r3 dd
  refine AN (um (ua (ua (Aa ?_))))
  refine kW kn ?_
  refine Ao (Ah ?_)
  refine CT results32 (A6 rfl) (A6 rfl) (sr) ?_
  obtain ⟨rfl, rfl⟩ := D2 fk
  exact ⟨_, _, rfl, rfl, Av.nil _ _ _⟩
 have fl := Bg r3 dd
 refine Aq (AN (um (um ?_)))
 obtain ⟨Bp, af, ay, ae, az, fm, fo⟩ := Rd fl
 have ei := fj; rw [fm] at ei; obtain ⟨fp, j1, fq, de, ba, ⟨_, _, rfl, rfl, ⟨_, _, rfl, rfl, ⟨_, _, rfl, ⟨ft, fv, rfl, fw⟩, ⟨_, _, rfl, ⟨fx, fy, rfl, ga⟩, ⟨gb, gg, rfl, gh⟩⟩⟩⟩⟩⟩ := ei; subst de
 have ba : F4 fp = some (.cells #[.int .i64 Bp, .int .i64 af, .slice ft ay.length fv, .slice fx ae.length fy, .slice gb az.length gg] 247 fq) := ba
 obtain ⟨a, gk, gl⟩ := AG fo
 refine c0 call91 (OL ba fw ga gh cv gk) ?_; rintro _ bg _ gm gn ⟨rfl, rfl, cw⟩
 refine AI (ln rfl) ?_
 refine Bo rfl zeroValue221 ?_; intro ak gp
 refine AI (L' := [(ak, ce (arr cB (List.replicate 24 false)) 221), (b1, ce #[.int .i64 Ad, .int .i64 Ab, .slice Aw Al.length Ax, .slice AF Ak.length AE, .slice AR Az.length AQ] 100)]) rfl (Ef (i := 0) sizeOf221 rfl rfl rfl (Ci Bq List.length_replicate) (Ci Bq cw) (Hc Bq) (AI (L' := [(ak, ce (arr cB a) 221), (b1, ce #[.int .i64 Ad, .int .i64 Ab, .slice Aw Al.length Ax, .slice AF Ak.length AE, .slice AR Az.length AQ] 100)]) rfl (BX (uv (Ae Jz rfl) (uv (An isAgg3 rfl (Has.own 1 rfl) rfl) ?_)))))
 obtain ⟨gq, gr⟩ := A1 gl
 obtain ⟨l2, gu, gv⟩ := CH gr
 refine Mx (R := Tz) (z0 := (none, 0, 0)) (zs := List.replicate (Ad : Int).toNat (none, 0, 0)) rfl LL (by decide) Jl (fun _ => rfl) rfl gq rfl (fun _ => .c (.c .n)) ?_; intro al aa bh df
 have bj : JF K.w0.heap.size 33 3 1 (iE .i64) bg al aa aa l2 bh := JF.made df gu
 refine ua (Aa ?_)
 obtain ⟨out, gw, ej⟩ := AG gv
 refine A0 (fun e1 F1 L1 => ∃ (bb : LH), bg = F1 ∧ L1 = (bb ++ []) ∧ e1.sub [(9, .slice al aa aa)] ∧ JF K.w0.heap.size 33 3 1 (iE .i64) F1 al aa aa out bb) ?_ ?_
 ·clear ej
  refine AN (um ?_)
  refine uv ((A7 underlying36 rfl).i (JF.Kw bj)) ?_
  refine um (Aa ?_)
  refine Ap ?_
  obtain ⟨gz, ia⟩ := A1 gw
  refine Bh (fun cx e1 F1 L1 => ∃ (k : Int), Dc 0 (l2.length : Int) k cx ∧ ∃ (BD : List (List Int)) (ah : LH), D1 Ab a cx k BD = some out ∧ bg = F1 ∧ L1 = ((ak, ce (arr cB a) 221) :: ((b1, ce #[.int .i64 Ad, .int .i64 Ab, .slice Aw Al.length Ax, .slice AF Ak.length AE, .slice AR Az.length AQ] 100) :: (ah ++ []))) ∧ e1.sub [(2, .pointer (some ⟨b1, 0, none⟩)), (8, .pointer (some ⟨ak, 0, none⟩)), (9, .slice al aa aa), (28, .int .i64 (l2.length : Int)), (29, .int .i64 k)] ∧ JF K.w0.heap.size 33 3 1 (iE .i64) F1 al aa aa BD ah) _ (m0 kr ⟨_, Dc.start _ _, l2, bh, ia, rfl, rfl, z5, bj⟩) ?_
  rintro cx e1 _ _ ⟨k, bc, BD, ah, cy, rfl, rfl, dg, bk⟩
  refine AB _ dg (AN (uv (Bb rfl rfl) ?_))
  refine Aa (As ?_)
  refine cQ (fun cz => ?_) fun cz => ?_
  ·obtain ⟨cx, rfl, dh⟩ := Dc.succ bc cz
   rw [D1] at cy
   refine Aq ?_
   obtain ⟨bd, ib, en⟩ := AG cy
   refine A0 (fun e1 F1 L1 => ∃ (ar : LH), bg = F1 ∧ L1 = ((ak, ce (arr cB a) 221) :: ((b1, ce #[.int .i64 Ad, .int .i64 Ab, .slice Aw Al.length Ax, .slice AF Ak.length AE, .slice AR Az.length AQ] 100) :: (ar ++ []))) ∧ e1.sub [(2, .pointer (some ⟨b1, 0, none⟩)), (8, .pointer (some ⟨ak, 0, none⟩)), (9, .slice al aa aa), (28, .int .i64 (l2.length : Int)), (29, .int .i64 k)] ∧ JF K.w0.heap.size 33 3 1 (iE .i64) F1 al aa aa bd ar) ?_ ?_
   ·clear en
    refine Ap ?_
    refine AN (um (ua (BX ?_)))
    refine uv (Ae LU rfl) (uv (An isAgg3 rfl (Has.own 1 rfl) rfl) ?_)
    refine um (Aa ?_)
    refine Ap ?_
    obtain ⟨eo, ic⟩ := A1 ib
    refine Bh (fun da e1 F1 L1 => ∃ (k2 : Int), Dc 0 Ab k2 da ∧ ∃ (au : List (List Int)) (ai : LH), Dd a k da k2 au = some bd ∧ bg = F1 ∧ L1 = ((ak, ce (arr cB a) 221) :: ((b1, ce #[.int .i64 Ad, .int .i64 Ab, .slice Aw Al.length Ax, .slice AF Ak.length AE, .slice AR Az.length AQ] 100) :: (ai ++ []))) ∧ e1.sub [(2, .pointer (some ⟨b1, 0, none⟩)), (8, .pointer (some ⟨ak, 0, none⟩)), (9, .slice al aa aa), (10, .int .i64 k), (28, .int .i64 (l2.length : Int)), (29, .int .i64 k), (33, .int .i64 Ab), (34, .int .i64 k2)] ∧ JF K.w0.heap.size 33 3 1 (iE .i64) F1 al aa aa au ai) _ (m0 kr ⟨_, Dc.start _ _, BD, ah, ic, rfl, rfl, z8, bk⟩) ?_
    rintro da e1 _ _ ⟨k2, av, au, ai, db, rfl, rfl, di, aw⟩
    refine AB _ di (AN (uv (Bb rfl rfl) ?_))
    refine Aa (As ?_)
    refine cQ (fun bl => ?_) fun bl => ?_
    ·obtain ⟨da, rfl, bm⟩ := Dc.succ av bl
     rw [Dd] at db
     refine Aq (As ?_)
     refine Ap ?_
     refine AN (um (ua (BX (um (um ?_)))))
     obtain ⟨ep, ie⟩ := A1 db
     refine uv (Bj underlying221 sizeOf219 rfl rfl ep) ?_
     obtain ⟨er, ig⟩ := A1 ie
     obtain ⟨x, j2, dk, eu⟩ := Bx ig
     have dm : (k * 4 + k2 : Int).toNat = (k : Int).toNat * 4 + (k2 : Int).toNat := by have := ep; have := er; omega
     have dn := Jh Bq cw dm dk (FY (Cd (DM Bq cw))) (Eb (Cd (DM Bq cw)))
     refine uv (Bj underlying219 sizeOf4 rfl rfl er) (uv (An isAgg4 rfl (Has.own 0 rfl) ((dn).2.2 0 (by decide))) (Aa ?_))
     refine A5 rfl (fun dp => ?_) (fun dp => ?_)
     ·have ij := bt eu dp
      refine Am (um (um (um (um ?_))))
      obtain ⟨x2, bn, dq, ik⟩ := Bx ij
      have aj := (JF.Eu aw).1
      refine Re (fC (fC fP)) aw dq ?_; intro dr bo bp j3 j4 j5 dt bq ad br bu
      refine kO (kf (fS (fS (fS fO))) (kf (fS (fS (fS fO))) kr)) ?_
      obtain ⟨il, im, iq, ew, bw, bx, du, rfl, ey, bz⟩ := Be.at Jl ad (L := (ak, ce (arr cB a) 221) :: ((b1, ce #[.int .i64 Ad, .int .i64 Ab, .slice Aw Al.length Ax, .slice AF Ak.length AE, .slice AR Az.length AQ] 100) :: (bo ++ (dt ++ (bp ++ []))))) (fC (fC fP)) bn.1 bq
      refine uv (AK underlying36 sizeOf33 rfl bw rfl (V8 aj bn)) (uv (An isAgg33 rfl bx (bz 0 (by decide))) (um ?_))
      refine bA (cs := #[.int .i64 k2]) Cm [.int .i64 k2] ?_; intro ir ez
      obtain ⟨l3, dv, dw, dx⟩ := GM ik
      refine Fm (xs := x2) (ys := [k2]) (zs := l3) rfl Cm rfl rfl (Nat.le_refl _) (fun _ => .c (.c (.c (.s .h)))) br (H2.box (vss := [[.int .i64 k2]]) (ys := [k2]) 0 rfl (Ac _) (.cons rfl .nil) rfl rfl) dv dw (by decide) ?_; intro ca cb cd cf cg
      refine kO (kd kr) ?_
      obtain ⟨iu, iv, iw, fa, ax, fb, dy, rfl, fe, ff⟩ := Be.at Jl ad (L := (ak, ce (arr cB a) 221) :: ((b1, ce #[.int .i64 Ad, .int .i64 Ab, .slice Aw Al.length Ax, .slice AF Ak.length AE, .slice AR Az.length AQ] 100) :: (bo ++ (cf ++ (bp ++ []))))) (fC (fC fP)) bn.1 bq
      refine uv (AK underlying36 sizeOf33 rfl ax rfl (V8 aj bn)) ?_
      refine Gp (zs := dr.set (k : Int).toNat (ca, cb, cd)) (u := (ca, cb, cd)) sizeOf33 Jl rfl ax rfl rfl (fun _ => .c (.c .h)) ad rfl (Yn aj ad bn) ?_; intro fg cj
      obtain ⟨ck, dz, eb⟩ := CH dx
      refine QN (p := fun X => JF K.w0.heap.size 33 3 1 (iE .i64) bg al aa aa ck X) (S5.back bu cj cg dz) (pT ((fC (fC fP)).trans (pA ((fC (fC fP)).trans (pA ((fC (fC fP)).trans (pA pR)))))) (lp (lp (lp (ln rfl))))) ?_; intro cn cp
      refine kO (kf (fS fO) (kf (fS fO) kr)) ?_
      refine Aa (AD (id := 3) (Am ?_))
      refine uv (Bd rfl rfl (Dc.Eg av bl eo)) ?_
      refine um (Aa ?_)
      exact le kr ⟨_, bm, ck, cn, eb, rfl, rfl, z8, cp⟩
     have ec := bf eu dp
     refine Aq (AD (id := 3) (Am ?_))
     refine uv (Bd rfl rfl (Dc.Eg av bl eo)) ?_
     refine um (Aa ?_)
     exact le kr ⟨_, bm, au, ai, ec, rfl, rfl, z8, aw⟩
    obtain rfl := Dc.zero av bl
    rw [Dd] at db
    refine AT (Af (Af ?_))
    refine Ay (AD (id := 1) ?_)
    obtain rfl := AL db
    exact mi kr ⟨ai, rfl, rfl, z5, aw⟩
   rintro e1 _ _ ⟨ar, rfl, rfl, cq, eg⟩
   refine AB _ cq (Am (uv (Bd rfl rfl (Dc.Eg bc cz gz)) ?_))
   refine um (Aa ?_)
   exact le kr ⟨_, dh, bd, ar, en, rfl, rfl, z5, eg⟩
  obtain rfl := Dc.zero bc cz
  rw [D1] at cy
  refine AT (Af (Af ?_))
  refine Ay ?_
  obtain rfl := AL cy
  exact mi (kd (kd kr)) ⟨ah, rfl, rfl, z1, bk⟩
 rintro e1 _ _ ⟨bb, rfl, rfl, ct, cu⟩
 refine AB _ ct ?_
 refine AN (um (ua (ua (Aa ?_))))
 obtain rfl := (JF.Eu cu).1
 refine Qa (Nat.le_refl _) (Ac _) fP cu ?_; intro iy fh eh
 refine Ao (CT results32 (A6 rfl) (A6 rfl) (sr) ?_)
 obtain ⟨rfl, rfl⟩ := D2 ej
 exact ⟨_, _, rfl, rfl, eh⟩
theorem OI {l : List Int} (ah : Av 1 (iE .i64) F Hp Hl l) {r : Int} (hr : K1 n l = some r) :
    Bl Tryz.prog 212 #[.int .i64 n, .slice Hp l.length Hl] F (.int .i64 r) := by
 refine sp func212 ntmps212 fun K _ _ => ?_
 rw [K1] at hr
 refine AN (ua (Aa ?_))
 obtain ⟨n2, h1, r2⟩ := AG hr
 refine jE ([]) [(0, .int .i64 n2)] ?_ ?_
 ·clear r2
  refine AN (um ?_)
  refine uv (A7 underlying33 rfl) ?_
  refine um (Aa ?_)
  refine Ap ?_
  refine Bh (fun ai e1 F1 L1 => LA l ai fun tl k => ∃ (n3 : Int), IH tl n3 = some n2 ∧ F = F1 ∧ L1 = [] ∧ e1.sub [(0, .int .i64 n3), (7, .slice Hp l.length Hl), (8, .int .i64 (l.length : Int)), (9, .int .i64 k)]) _ (m0 kr ⟨_, _, rfl, BL.start _, n, h1, rfl, rfl, z4⟩) ?_
  rintro ai e1 _ _ ⟨tl, k, al, aa, n3, r5, rfl, rfl, ao⟩
  refine AB _ ao (AN (uv (Bb rfl rfl) ?_))
  refine Aa (As ?_)
  refine cQ (fun c8 => ?_) fun c8 => ?_
  ·obtain ⟨x, av, rfl, ab, aj, aq⟩ := BL.succ aa c8
   rw [IH] at r5
   refine Aq (As ?_)
   refine Ap (AN ?_)
   obtain ⟨Ud, aw, ax, ar, ad, ae, ak, rfl, au, af⟩ := Av.at (Ac _) ah ([]) aj.1 ab
   refine uv (AK underlying33 sizeOf3 rfl ad rfl aj) (uv (An isAgg3 rfl ae (af 0 (by decide))) ?_)
   refine ua (Aa (Am (um (um ?_))))
   refine uv (Sy rfl rfl) ?_
   refine ua (Aa (AD (id := 1) (Am ?_)))
   refine uv (Bd rfl rfl (BL.Eg aa c8 (Av.lt ah))) ?_
   refine um (Aa ?_)
   subst al; exact le kr ⟨_, _, rfl, aq, if x > n3 then x else n3, r5, rfl, rfl, z4⟩
  obtain rfl := BL.zero aa c8
  rw [IH] at r5
  refine AT (Af (Af ?_))
  refine Ay ?_
  obtain rfl := AL r5
  exact mi kr ⟨rfl, rfl, z1⟩
 refine AN (um (ua (Aa (Ao ?_))))
 refine BU results212 ?_
 obtain rfl := AL r2
 exact rfl
theorem Jb {lo hi : Int} {r : Bool} (hr : IY n lo hi = some r) :
    Bl Tryz.prog 162 #[.int .i64 n, .int .i64 lo, .int .i64 hi] F (.bool r) := by
 refine sp func162 ntmps162 fun K _ _ => ?_
 rw [IY] at hr
 refine AN (ua (BX (um (um ?_))))
 refine uv (HQ rfl rfl) (um ?_)
 by_cases c1 : lo ≤ n
 ·have r2 := Bf hr c1
  refine nT c1 (um (nT c1 (um (nT c1 ?_))))
  refine uv (My rfl rfl) (uv (AW (Bn rfl c1) rfl) ?_)
  refine ua (Aa (Ao ?_))
  refine BU results162 ?_
  obtain rfl := AL r2
  exact rfl
 have r3 := Bg hr c1
 refine fF c1 (fF c1 (fF c1 ?_))
 refine uv (AH (A8 rfl c1) rfl) ?_
 refine ua (Aa (Ao ?_))
 refine BU results162 ?_
 obtain rfl := AL r3
 exact rfl
set_option maxHeartbeats 1000000 in
theorem Nw {l : List Int} (aa : l.length = 2) {r : List Int} (hr : LR l = some r) :
    SH.Spec Tryz.prog 239 #[.agg (arr (cI .i64) l)] F [] fun _ L' v => v = .agg (arr (cI .i64) r) ∧ L' = [] ∧ r.length = 2 := by
 refine sp func239 ntmps239 fun K _ _ => ?_
 rw [LR] at hr
 refine AN ?_
 refine Bt rfl rfl ?_; intro b1 aj
 refine Bo rfl zeroValue355 ?_; intro b2 ak
 refine AI (L' := [(b2, ce (arr (cI .i64) (List.replicate 2 0)) 355), (b1, ce (arr (cI .i64) l) 355)]) rfl (BX ?_)
 obtain ⟨x, g3, af, r5⟩ := Bx hr
 have ai := Na (A4 .i64) aa af
 refine uv (Bj underlying355 sizeOf3 rfl rfl (Gx aa g3)) (uv (An isAgg3 rfl (Has.own 1 rfl) ((ai).2.2 0 (by decide))) ?_)
 obtain ⟨x2, g7, ah, r9⟩ := Bx r5
 have ab := Na (A4 .i64) aa ah
 refine uv (Bj underlying355 sizeOf3 rfl rfl (Gx aa g7)) (uv (An isAgg3 rfl (Has.own 1 rfl) ((ab).2.2 0 (by decide))) (uv (Ul rfl rfl) ?_))
 have ad := Na (A4 .i64) aa af
 refine uv (Bj underlying355 sizeOf3 rfl rfl (Gx aa g3)) (uv (An isAgg3 rfl (Has.own 1 rfl) ((ad).2.2 0 (by decide))) ?_)
 have ae := Na (A4 .i64) aa ah
 refine uv (Bj underlying355 sizeOf3 rfl rfl (Gx aa g7)) (uv (An isAgg3 rfl (Has.own 1 rfl) ((ae).2.2 0 (by decide))) (uv (Sy rfl rfl) ?_))
 refine uv (BH (v := .agg (arr (cI .i64) [if x2 < x then x2 else x, if x2 > x then x2 else x])) rfl (by intro w; kernel_rfl)) ?_
 refine Ef (i := 0) sizeOf355 rfl rfl rfl (Ci (A4 .i64) List.length_replicate) (Ci (A4 .i64) (rfl : [(if x2 < x then x2 else x), (if x2 > x then x2 else x)].length = 2)) (Hc (A4 .i64)) (AI (L' := [(b2, ce (arr (cI .i64) [if x2 < x then x2 else x, if x2 > x then x2 else x]) 355), (b1, ce (arr (cI .i64) l) 355)]) rfl (Aa (kW (kc kn) (Ao (Jv results239 (Fg (cs := arr (cI .i64) [if x2 < x then x2 else x, if x2 > x then x2 else x]) isAgg355 sizeOf355 rfl (Has.own 0 rfl) (Eb (Cd (DM (A4 .i64) (rfl : [(if x2 < x then x2 else x), (if x2 > x then x2 else x)].length = 2)))) (G9 (DM (A4 .i64) (rfl : [(if x2 < x then x2 else x), (if x2 > x then x2 else x)].length = 2)) (Cd (DM (A4 .i64) (rfl : [(if x2 < x then x2 else x), (if x2 > x then x2 else x)].length = 2))))) (s1 sr) ?_)))))
 obtain rfl := AL r9
 exact ⟨rfl, rfl, (rfl : [(if x2 < x then x2 else x), (if x2 > x then x2 else x)].length = 2)⟩
set_option maxHeartbeats 1000000 in
theorem Kg {s_ : List (List Int)} {f : (List Int) → Option Bool} (ab : Av 2 (IZ 2 (cI .i64)) F B0 BY s_) (al : HG Tryz.prog F La KQ KW (Pu (IZ 2 (cI .i64))) Value.bool f) {r : Int} (hr : FH s_ f = some r) :
    Bl Tryz.prog 291 #[.slice B0 s_.length BY, .func (.func La) KQ KW] F (.int .i64 r) := by
 refine sp func291 ntmps291 fun K _ _ => ?_
 rw [FH] at hr
 refine AN (ua (Aa ?_))
 refine A0 (fun e1 F1 L1 => EX = some r ∧ F = F1 ∧ L1 = [] ∧ e1.sub []) ?_ ?_
 ·refine AN (um ?_)
  refine uv (A7 underlying111 rfl) ?_
  refine um (Aa ?_)
  refine Ap ?_
  refine Bh (fun ao e1 F1 L1 => LA s_ ao fun tl k => C0 f tl k = some r ∧ F = F1 ∧ L1 = [] ∧ e1.sub [(0, .slice B0 s_.length BY), (1, .func (.func La) KQ KW), (7, .int .i64 (s_.length : Int)), (8, .int .i64 k)]) _ (m0 kr ⟨_, _, rfl, BL.start _, hr, rfl, rfl, z4⟩) ?_
  rintro ao e1 _ _ ⟨tl, k, MM, ad, r3, rfl, rfl, au⟩
  refine AB _ au (AN (uv (Bb rfl rfl) ?_))
  refine Aa (As ?_)
  refine cQ (fun c6 => ?_) fun c6 => ?_
  ·obtain ⟨x, bc, rfl, av, g9, aw⟩ := BL.succ ad c6
   rw [C0] at r3
   refine Aq (As ?_)
   refine Ap ?_
   refine AN (um (ua (BX (um (um (um ?_))))))
   obtain ⟨J4, bd, bg, ax, ae, af, aa, ⟨rfl, ay⟩, ah, ai⟩ := Av.at (CD (n := 2) (sz := 1) (A4 .i64)) ab ([]) g9.1 av
   refine uv (AK underlying111 sizeOf355 rfl ae rfl g9) (uv (AS isAgg355 sizeOf355 rfl af aa (BB aa ah ai)) ?_)
   obtain ⟨ok, az, aq⟩ := AG r3
   refine Em rfl al.1 rfl rfl rfl (al.2 _ (A3.refl _) _ _ _ ⟨_, rfl, ⟨rfl, ay⟩⟩ az) (Aa ?_)
   refine A5 rfl (fun aj => ?_) (fun aj => ?_)
   ·have ba := bt aq aj
    refine AN (um (ua (Aa (Ao (AA (Ah (Ah (AA (Ah ?_)))))))))
    refine BU results291 ?_
    obtain rfl := AL ba
    exact rfl
   have bb := bf aq aj
   refine Aq (AD (id := 1) (Am ?_))
   refine uv (Bd rfl rfl (BL.Eg ad c6 (Av.lt ab))) ?_
   refine um (Aa ?_)
   subst MM; exact le kr ⟨_, _, rfl, aw, bb, rfl, rfl, z4⟩
  obtain rfl := BL.zero ad c6
  rw [C0] at r3
  refine AT (Af (Af ?_))
  refine Ay ?_
  exact mi kr ⟨r3, rfl, rfl, (sn _)⟩
 rintro e1 _ _ ⟨ar, rfl, rfl, ak⟩
 refine AB _ ak ?_
 rw [EX] at ar
 refine AN (ua (Aa (Ao ?_)))
 refine BU results291 ?_
 obtain rfl := AL ar
 exact rfl
theorem JG {s_ : List (List Int)} {f : (List Int) → Option Bool} (aa : Av 2 (IZ 2 (cI .i64)) F B0 BY s_) (ab : HG Tryz.prog F La KQ KW (Pu (IZ 2 (cI .i64))) Value.bool f) {r : Bool} (hr : EY s_ f = some r) :
    Bl Tryz.prog 288 #[.slice B0 s_.length BY, .func (.func La) KQ KW] F (.bool r) := by
 refine sp func288 ntmps288 fun K _ _ => ?_
 rw [EY] at hr
 refine AN (ua (BX (um (um ?_))))
 obtain ⟨n, h1, r2⟩ := AG hr
 refine cV call291 (Kg aa ab h1) (uv (HQ rfl rfl) ?_)
 refine ua (Aa (Ao ?_))
 refine BU results288 ?_
 obtain rfl := AL r2
 exact rfl
theorem NU {x : List Int} {holds : (List Int) → Option Bool} (ad : x.length = 2) (ab : F Lv = some (.cells #[.func (.func GI) GH GF] 379 Pq)) (aa : HG Tryz.prog F GI GH GF (Pu (IZ 2 (cI .i64))) Value.bool holds) {r : Bool} (hr : HY x holds = some r) :
    Bl Tryz.prog 289 #[.agg (arr (cI .i64) x), .pointer (some ⟨Lv, 0, none⟩)] F (.bool r) := by
 refine sp func289 ntmps289 fun K _ _ => ?_
 rw [HY] at hr
 refine AN ?_
 refine Bt rfl rfl ?_; intro b1 ae
 refine ua (BX ?_)
 refine uv (An isAgg379 rfl (Has.frozen ab) rfl) (uv (Gq isAgg355 sizeOf355 rfl (Has.own 0 rfl) (Ci (A4 .i64) ad)) ?_)
 obtain ⟨ok, h2, r3⟩ := AG hr
 refine Em rfl aa.1 rfl rfl rfl (aa.2 _ (A3.refl _) _ _ _ ⟨_, rfl, ⟨rfl, ad⟩⟩ h2) (uv (BC rfl) ?_)
 refine ua (Aa ?_)
 refine kW kn (Ao (BU results289 ?_))
 obtain rfl := AL r3
 exact rfl
theorem Lu {l : List (List Int)} {holds : (List Int) → Option Bool} (ab : Av 2 (IZ 2 (cI .i64)) F Hp Hl l) (aa : HG Tryz.prog F GI GH GF (Pu (IZ 2 (cI .i64))) Value.bool holds) {r : Bool} (hr : IV l holds = some r) :
    Bl Tryz.prog 280 #[.slice Hp l.length Hl, .func (.func GI) GH GF] F (.bool r) := by
 refine sp func280 ntmps280 fun K _ _ => ?_
 rw [IV] at hr
 refine AN ?_
 refine Bt rfl rfl ?_; intro b1 af
 refine ua (BX (um ?_))
 refine uv (BP rfl rfl) ?_
 refine Bi 0 rfl af ?_; intro F2 ad ah
 refine AI rfl ?_
 replace ab := ab.mono (CD (n := 2) (sz := 1) (A4 .i64)) ad
 replace aa := aa.mono ad
 have ai : HG Tryz.prog F2 289 #[] #[.pointer (some ⟨b1, 0, none⟩)] (Pu (IZ 2 (cI .i64))) Value.bool (fun ae : (List Int) => HY ae holds) := ⟨call289, fun F2 h2 vs ae r ha hr => by obtain ⟨_, rfl, ⟨rfl, h5⟩⟩ := ha; exact NU h5 (h2 _ _ ah) (aa.mono h2) hr⟩
 obtain ⟨ok, h7, r8⟩ := AG hr
 refine cV call288 (JG ab ai h7) (uv (BC rfl) ?_)
 refine ua (Aa (Ao ?_))
 refine BU results280 ?_
 obtain rfl := AL r8
 exact rfl
theorem JB {Ab : List (Int × Bool)} {aa : List (List Int)} {x : Int} (_h_links : Av 2 (IZ 2 (cI .i64)) F AX AY AZ) (_h_notices : Av 2 (Br (iE .i64) bE) F Aj Ai Ab) (_h_stands : Av 1 (BK 1 (iE .i64)) F AP AO aa) {r : Bool} (hr : Ey Ad AZ Ab aa x = some r) :
    Bl Tryz.prog 268 #[.agg #[.int .i64 Ad, .slice AX AZ.length AY, .slice Aj Ab.length Ai, .slice AP aa.length AO], .int .i64 x] F (.bool r) := by
 refine sp func268 ntmps268 fun K _ _ => ?_
 rw [Ey] at hr
 refine AN ?_
 refine Bt rfl rfl ?_; intro b1 ab
 refine ua (BX (um ?_))
 refine uv (Ae Po rfl) (uv (An isAgg3 rfl (Has.own 0 rfl) rfl) ?_)
 obtain ⟨g2, r3⟩ := A1 hr
 refine uv (Fa rfl rfl g2) ?_
 obtain ⟨ok, h4, r5⟩ := AG r3
 refine cV call162 (Jb h4) ?_
 refine ua (Aa ?_)
 refine kW kn (Ao (BU results268 ?_))
 obtain rfl := AL r5
 exact rfl
theorem Nk {l : List Int} (aa : l.length = 2) {r : Bool} (hr : Hm l = some r) :
    Bl Tryz.prog 282 #[.agg (arr (cI .i64) l)] F (.bool r) := by
 refine sp func282 ntmps282 fun K _ _ => ?_
 rw [Hm] at hr
 refine AN ?_
 refine Bt rfl rfl ?_; intro b1 ah
 refine ua (BX ?_)
 obtain ⟨x, g2, ab, r4⟩ := Bx hr
 have ad := Na (A4 .i64) aa ab
 refine uv (Bj underlying355 sizeOf3 rfl rfl (Gx aa g2)) (uv (An isAgg3 rfl (Has.own 0 rfl) ((ad).2.2 0 (by decide))) ?_)
 obtain ⟨x2, g6, ae, r8⟩ := Bx r4
 have af := Na (A4 .i64) aa ae
 refine uv (Bj underlying355 sizeOf3 rfl rfl (Gx aa g6)) (uv (An isAgg3 rfl (Has.own 0 rfl) ((af).2.2 0 (by decide))) (uv (B7 rfl rfl) ?_))
 refine ua (Aa ?_)
 refine kW kn (Ao (BU results282 ?_))
 obtain rfl := AL r8
 exact rfl
theorem MZ {l : List Int} {Ab : List (Int × Bool)} {ad : List (List Int)} (ah : l.length = 2) (af : F Yh = some (.cells #[.int .i64 Ad, .slice AX AZ.length AY, .slice Aj Ab.length Ai, .slice AP ad.length AO] 113 Xy)) (ae : Av 2 (IZ 2 (cI .i64)) F AX AY AZ) (aa : Av 2 (Br (iE .i64) bE) F Aj Ai Ab) (ab : Av 1 (BK 1 (iE .i64)) F AP AO ad) {r : Bool} (hr : Hn l Ad AZ Ab ad = some r) :
    Bl Tryz.prog 281 #[.agg (arr (cI .i64) l), .pointer (some ⟨Yh, 0, none⟩)] F (.bool r) := by
 refine sp func281 ntmps281 fun K _ _ => ?_
 rw [Hn] at hr
 refine AN ?_
 refine Bt rfl rfl ?_; intro b1 aw
 refine ua (BX ?_)
 refine uv (AS isAgg113 sizeOf113 rfl (Has.frozen af) (CK rfl) rfl) ?_
 obtain ⟨x, g2, ak, r4⟩ := Bx hr
 have al := Na (A4 .i64) ah ak
 refine uv (Bj underlying355 sizeOf3 rfl rfl (Gx ah g2)) (uv (An isAgg3 rfl (Has.own 0 rfl) ((al).2.2 0 (by decide))) ?_)
 obtain ⟨ok, h6, r7⟩ := AG r4
 refine cV call268 (JB ae aa ab h6) (um ?_)
 rcases Co ok with c8 | c8
 ·have r9 := bt r7 c8
  refine nB c8 (uv (AS isAgg113 sizeOf113 rfl (Has.frozen af) (CK rfl) rfl) (nB c8 ?_))
  obtain ⟨x2, ao, ai, aq⟩ := Bx r9
  have aj := Na (A4 .i64) ah ai
  refine uv (Bj underlying355 sizeOf3 rfl rfl (Gx ah ao)) (nB c8 (uv (An isAgg3 rfl (Has.own 0 rfl) ((aj).2.2 0 (by decide))) (nB c8 ?_)))
  obtain ⟨ax, ar, au⟩ := AG aq
  refine cV call268 (JB ae aa ab ar) (uv (AW (Iy rfl c8) rfl) ?_)
  refine ua (Aa ?_)
  refine kW kn (Ao (BU results281 ?_))
  obtain rfl := AL au
  exact rfl
 have av := bf r7 c8
 refine fB c8 (fB c8 (fB c8 (fB c8 ?_)))
 refine uv (AH (Iy rfl c8) rfl) ?_
 refine ua (Aa ?_)
 refine kW kn (Ao (BU results281 ?_))
 obtain rfl := AL av
 exact rfl
set_option maxHeartbeats 1000000 in
theorem Od {Ab : List (Int × Bool)} {ae : List (List Int)} (aa : Av 2 (IZ 2 (cI .i64)) F AX AY AZ) (ab : Av 2 (Br (iE .i64) bE) F Aj Ai Ab) (ad : Av 1 (BK 1 (iE .i64)) F AP AO ae) {r : Int} (hr : Iu Ad AZ Ab ae = some r) :
    Bl Tryz.prog 263 #[.agg #[.int .i64 Ad, .slice AX AZ.length AY, .slice Aj Ab.length Ai, .slice AP ae.length AO]] F (.int .i64 r) := by
 refine sp func263 ntmps263 fun K _ _ => ?_
 rw [Iu] at hr
 refine AN ?_
 refine Bt rfl rfl ?_; intro b1 cf
 refine ua (Aa (As ?_))
 refine Ap (AN (uv (Ae Ny rfl) (uv (An isAgg111 rfl (Has.own 0 rfl) rfl) (uv (BP rfl rfl) ?_))))
 refine Bi 0 rfl cf ?_; intro F2 bb bc
 refine AI rfl ?_
 replace aa := aa.mono (CD (n := 2) (sz := 1) (A4 .i64)) bb
 replace ab := ab.mono (Au (Ac _) EL) bb
 replace ad := ad.mono (Ar (Ac _)) bb
 have cg : HG Tryz.prog F2 281 #[] #[.pointer (some ⟨b1, 0, none⟩)] (Pu (IZ 2 (cI .i64))) Value.bool (fun ao : (List Int) => Hn ao Ad AZ Ab ae) := ⟨call281, fun F2 h2 vs ao r ha hr => by obtain ⟨_, rfl, ⟨rfl, h5⟩⟩ := ha; exact MZ h5 (h2 _ _ bc) (aa.mono (CD (n := 2) (sz := 1) (A4 .i64)) h2) (ab.mono (Au (Ac _) EL) h2) (ad.mono (Ar (Ac _)) h2) hr⟩
 obtain ⟨ok, h7, r8⟩ := AG hr
 refine cV call280 (Lu aa cg h7) (uv (BC rfl) ?_)
 refine ua (Aa ?_)
 refine A5 rfl (fun c9 => ?_) (fun c9 => ?_)
 ·have cj := bt r8 c9
  refine AN (ua (Aa (Ao (AA (Ah ?_)))))
  refine BU results263 ?_
  obtain rfl := AL cj
  exact rfl
 have ck := bf r8 c9
 refine AN (uv (Ae Ny rfl) (uv (An isAgg111 rfl (Has.frozen bc) rfl) ?_))
 have bd : HG Tryz.prog F2 282 #[] #[] (Pu (IZ 2 (cI .i64))) Value.bool (fun ao : (List Int) => Hm ao) := ⟨call282, fun F2 h2 vs ao r ha hr => by obtain ⟨_, rfl, ⟨rfl, cn⟩⟩ := ha; exact Nk cn hr⟩
 obtain ⟨dr, cp, bx⟩ := AG ck
 refine cV call280 (Lu aa bd cp) (uv (BC rfl) ?_)
 refine ua (Aa ?_)
 refine A5 rfl (fun bg => ?_) (fun bg => ?_)
 ·have cq := bt bx bg
  refine AN (ua (Aa (Ao (AA (Ah ?_)))))
  refine BU results263 ?_
  obtain rfl := AL cq
  exact rfl
 have ct := bf bx bg
 refine Aq (AD (id := 0) (AN ?_))
 refine LX rfl ?_; intro al cu
 refine ua (Aa ?_)
 refine A0 (fun e1 F1 L1 => IC = some r ∧ A3 F2 F1 ∧ L1 = [] ∧ e1.sub []) ?_ ?_
 ·refine AN (uv (Ae Ny rfl) (uv (An isAgg111 rfl (Has.frozen bc) rfl) (uv (A7 underlying111 rfl) ?_)))
  refine um (Aa ?_)
  refine Ap ?_
  refine Bh (fun bz e1 F1 L1 => LA AZ bz fun tl k => ∃ (met : List ((List Int) × Bool)) (af : Array MapEntry) (ah : Nat), Fo tl met = some r ∧ A3 F2 F1 ∧ L1 = [(al, .map af ah)] ∧ e1.sub [(3, .map (some al)), (19, .slice AX AZ.length AY), (20, .int .i64 (AZ.length : Int)), (21, .int .i64 k)] ∧ FK Gz (vA (cA (cI .i64))) Value.bool af met) _ (m0 kr ⟨_, _, rfl, BL.start _, [], #[], 0, ct, A3.refl _, rfl, z4, FK.nil⟩) ?_
  rintro bz e1 dt _ ⟨tl, k, bh, aj, met, af, ah, az, ak, rfl, bj, aq⟩
  refine AB _ bj ?_
  replace aa := aa.mono (CD (n := 2) (sz := 1) (A4 .i64)) ak
  refine AN (uv (Bb rfl rfl) ?_)
  refine Aa (As ?_)
  refine cQ (fun ba => ?_) fun ba => ?_
  ·obtain ⟨x, du, rfl, bk, ca, bl⟩ := BL.succ aj ba
   rw [Fo] at az
   refine Aq (As ?_)
   refine Ap (AN ?_)
   obtain ⟨dv, dw, dx, cv, bm, bn, ai, ⟨rfl, ar⟩, bo, bp⟩ := Av.at (CD (n := 2) (sz := 1) (A4 .i64)) aa ([(al, .map af ah)]) ca.1 bk
   refine uv (AK underlying111 sizeOf355 rfl bm rfl ca) (uv (AS isAgg355 sizeOf355 rfl bn ai (BB ai bo bp)) ?_)
   refine Bo rfl zeroValue355 ?_; intro bq cw
   refine AI (L' := [(bq, ce (arr (cI .i64) (List.replicate 2 0)) 355), (al, .map af ah)]) rfl (Ef (i := 0) sizeOf355 rfl rfl rfl (Ci (A4 .i64) List.length_replicate) (Ci (A4 .i64) ar) (Hc (A4 .i64)) (AI (L' := [(bq, ce (arr (cI .i64) x) 355), (al, .map af ah)]) rfl ?_))
   refine Aa (As (AN (um ?_)))
   refine uv (Gq isAgg355 sizeOf355 rfl (Has.own 0 rfl) (Ci (A4 .i64) ar)) ?_
   obtain ⟨a, cx, cy⟩ := AG az
   refine c0 call239 (Nw ar cx) ?_; rintro _ dy _ au cz ⟨rfl, rfl, da⟩
   replace aa := aa.mono (CD (n := 2) (sz := 1) (A4 .i64)) au
   refine AI (ln rfl) ?_
   obtain ⟨db, cb⟩ := A1 cy
   refine uv (Gs.eq (v' := .bool ((Bz met a).getD false)) (R2 (k := a) (z0 := false) rfl underlying302 Ss zeroValue4 rfl rfl (MR.own 1 rfl) (show FK Gz (vA (cA (cI .i64))) Value.bool af (met : List ((List Int) × Bool)) from aq) ⟨da, db⟩) rfl) (Aa ?_)
   refine A5 rfl (fun br => ?_) (fun br => ?_)
   ·have dd := bt cb br
    refine AN (ua (Aa ?_))
    refine kW kn ?_
    refine Ao (Ah (AA (Ah (Ah (AA (Ah ?_))))))
    refine BU results263 ?_
    obtain rfl := AL dd
    exact rfl
   have de := bf cb br
   refine Aq (Am (um ?_))
   refine uv (Gq isAgg355 sizeOf355 rfl (Has.own 0 rfl) (Ci (A4 .i64) ar)) ?_
   obtain ⟨a2, df, dg⟩ := AG de
   refine c0 call239 (Nw ar df) ?_; rintro _ dz _ av dh ⟨rfl, rfl, di⟩
   replace aa := aa.mono (CD (n := 2) (sz := 1) (A4 .i64)) av
   refine AI (ln rfl) ?_
   obtain ⟨dk, dm⟩ := A1 dg
   refine MA (i := 1) (k := a2) (v := true) underlying302 Ss rfl rfl rfl rfl (show FK Gz (vA (cA (cI .i64))) Value.bool af (met : List ((List Int) × Bool)) from aq) ⟨di, dk⟩ ?_; intro aw ax ay
   obtain ⟨bu, dn, dp⟩ := CH dm
   rw [← dn] at ay
   refine AI (L' := [(bq, ce (arr (cI .i64) x) 355), (al, .map aw ax)]) rfl ?_
   refine Aa (AD (id := 2) (Am ?_))
   refine uv (Bd rfl rfl (BL.Eg aj ba (Av.lt aa))) ?_
   refine um (Aa ?_)
   subst bh; exact le (kd kr) ⟨_, _, rfl, bl, bu, aw, ax, dp, ((ak.trans au).trans av), rfl, z4, ay⟩
  obtain rfl := BL.zero aj ba
  rw [Fo] at az
  refine AT (Af (Af ?_))
  refine Ay ?_
  exact mi kn ⟨az, ak, rfl, (sn _)⟩
 rintro e1 eb _ ⟨cd, dq, rfl, bw⟩
 refine AB _ bw ?_
 rw [IC] at cd
 refine AN (ua (Aa (Ao ?_)))
 refine BU results263 ?_
 obtain rfl := AL cd
 exact rfl
set_option maxHeartbeats 1000000 in
theorem Hh {s_ : List (Int × Bool)} {f : (Int × Bool) → Option Bool} (ab : Av 2 (Br (iE .i64) bE) F B0 BY s_) (al : HG Tryz.prog F La KQ KW (Pu (Br (iE .i64) bE)) Value.bool f) {r : Int} (hr : Df s_ f = some r) :
    Bl Tryz.prog 290 #[.slice B0 s_.length BY, .func (.func La) KQ KW] F (.int .i64 r) := by
 refine sp func290 ntmps290 fun K _ _ => ?_
 rw [Df] at hr
 refine AN (ua (Aa ?_))
 refine A0 (fun e1 F1 L1 => CU = some r ∧ F = F1 ∧ L1 = [] ∧ e1.sub []) ?_ ?_
 ·refine AN (um ?_)
  refine uv (A7 underlying110 rfl) ?_
  refine um (Aa ?_)
  refine Ap ?_
  refine Bh (fun ao e1 F1 L1 => LA s_ ao fun tl k => BR f tl k = some r ∧ F = F1 ∧ L1 = [] ∧ e1.sub [(0, .slice B0 s_.length BY), (1, .func (.func La) KQ KW), (7, .int .i64 (s_.length : Int)), (8, .int .i64 k)]) _ (m0 kr ⟨_, _, rfl, BL.start _, hr, rfl, rfl, z4⟩) ?_
  rintro ao e1 _ _ ⟨tl, k, MM, ad, r3, rfl, rfl, au⟩
  refine AB _ au (AN (uv (Bb rfl rfl) ?_))
  refine Aa (As ?_)
  refine cQ (fun c6 => ?_) fun c6 => ?_
  ·obtain ⟨x, bb, rfl, av, g9, aw⟩ := BL.succ ad c6
   rw [BR] at r3
   refine Aq (As ?_)
   refine Ap ?_
   refine AN (um (ua (BX (um (um (um ?_))))))
   obtain ⟨J4, bc, bd, ax, ae, af, aa, ⟨_, _, rfl, rfl, rfl⟩, ah, ai⟩ := Av.at (Au (Ac _) EL) ab ([]) g9.1 av
   refine uv (AK underlying110 sizeOf109 rfl ae rfl g9) (uv (AS isAgg109 sizeOf109 rfl af aa (BB aa ah ai)) ?_)
   obtain ⟨ok, ay, aq⟩ := AG r3
   refine Em rfl al.1 rfl rfl rfl (al.2 _ (A3.refl _) _ _ _ ⟨_, rfl, ⟨_, _, rfl, rfl, rfl⟩⟩ ay) (Aa ?_)
   refine A5 rfl (fun aj => ?_) (fun aj => ?_)
   ·have az := bt aq aj
    refine AN (um (ua (Aa (Ao (AA (Ah (Ah (AA (Ah ?_)))))))))
    refine BU results290 ?_
    obtain rfl := AL az
    exact rfl
   have ba := bf aq aj
   refine Aq (AD (id := 1) (Am ?_))
   refine uv (Bd rfl rfl (BL.Eg ad c6 (Av.lt ab))) ?_
   refine um (Aa ?_)
   subst MM; exact le kr ⟨_, _, rfl, aw, ba, rfl, rfl, z4⟩
  obtain rfl := BL.zero ad c6
  rw [BR] at r3
  refine AT (Af (Af ?_))
  refine Ay ?_
  exact mi kr ⟨r3, rfl, rfl, (sn _)⟩
 rintro e1 _ _ ⟨ar, rfl, rfl, ak⟩
 refine AB _ ak ?_
 rw [CU] at ar
 refine AN (ua (Aa (Ao ?_)))
 refine BU results290 ?_
 obtain rfl := AL ar
 exact rfl
theorem GA {s_ : List (Int × Bool)} {f : (Int × Bool) → Option Bool} (aa : Av 2 (Br (iE .i64) bE) F B0 BY s_) (ab : HG Tryz.prog F La KQ KW (Pu (Br (iE .i64) bE)) Value.bool f) {r : Bool} (hr : CV s_ f = some r) :
    Bl Tryz.prog 283 #[.slice B0 s_.length BY, .func (.func La) KQ KW] F (.bool r) := by
 refine sp func283 ntmps283 fun K _ _ => ?_
 rw [CV] at hr
 refine AN (ua (BX (um (um ?_))))
 obtain ⟨n, h1, r2⟩ := AG hr
 refine cV call290 (Hh aa ab h1) (uv (HQ rfl rfl) ?_)
 refine ua (Aa (Ao ?_))
 refine BU results283 ?_
 obtain rfl := AL r2
 exact rfl
theorem MU {after : Int} {back : Bool} {aa : Int} {ab : Bool} (ad : F V5 = some (.cells #[.int .i64 aa, .bool ab] 109 VA)) {r : Bool} (hr : GG after back aa ab = some r) :
    Bl Tryz.prog 284 #[.agg #[.int .i64 after, .bool back], .pointer (some ⟨V5, 0, none⟩)] F (.bool r) := by
 refine sp func284 ntmps284 fun K _ _ => ?_
 rw [GG] at hr
 refine AN ?_
 refine Bt rfl rfl ?_; intro b1 ae
 refine ua (BX ?_)
 refine uv (Ae Me rfl) (uv (An isAgg3 rfl (Has.own 0 rfl) rfl) (uv (Ae Me rfl) (uv (An isAgg3 rfl (Has.frozen ad) rfl) (uv (CR rfl rfl) ?_))))
 refine ua (Aa ?_)
 refine kW kn (Ao (BU results284 ?_))
 obtain rfl := AL hr
 exact rfl
set_option maxHeartbeats 1000000 in
theorem NP {Ab : List (Int × Bool)} {ab : List (List Int)} (_ar : Av 2 (IZ 2 (cI .i64)) F AX AY AZ) (aa : Av 2 (Br (iE .i64) bE) F Aj Ai Ab) (_ak : Av 1 (BK 1 (iE .i64)) F AP AO ab) {r : Int} (hr : HT Ad AZ Ab ab = some r) :
    Bl Tryz.prog 264 #[.agg #[.int .i64 Ad, .slice AX AZ.length AY, .slice Aj Ab.length Ai, .slice AP ab.length AO]] F (.int .i64 r) := by
 refine sp func264 ntmps264 fun K _ _ => ?_
 rw [HT] at hr
 refine AN ?_
 refine Bt rfl rfl ?_; intro b1 dw
 refine ua (Aa ?_)
 refine A0 (fun e1 F1 L1 => Ii Ab = some r ∧ F = F1 ∧ L1 = [(b1, ce #[.int .i64 Ad, .slice AX AZ.length AY, .slice Aj Ab.length Ai, .slice AP ab.length AO] 113)] ∧ e1.sub [(1, .pointer (some ⟨b1, 0, none⟩))]) ?_ ?_
 ·refine AN (uv (Ae Js rfl) (uv (An isAgg110 rfl (Has.own 0 rfl) rfl) (uv (A7 underlying110 rfl) ?_)))
  refine um (Aa ?_)
  refine Ap ?_
  refine Bh (fun ca e1 F1 L1 => LA Ab ca fun tl k => D9 Ab tl k = some r ∧ F = F1 ∧ L1 = [(b1, ce #[.int .i64 Ad, .slice AX AZ.length AY, .slice Aj Ab.length Ai, .slice AP ab.length AO] 113)] ∧ e1.sub [(1, .pointer (some ⟨b1, 0, none⟩)), (8, .slice Aj Ab.length Ai), (9, .int .i64 (Ab.length : Int)), (10, .int .i64 k)]) _ (m0 kr ⟨_, _, rfl, BL.start _, hr, rfl, rfl, z4⟩) ?_
  rintro ca e1 _ _ ⟨tl, k, cq, aw, r4, rfl, rfl, ct⟩
  refine AB _ ct (AN (uv (Bb rfl rfl) ?_))
  refine Aa (As ?_)
  refine cQ (fun c7 => ?_) fun c7 => ?_
  ·obtain ⟨x, dx, rfl, cu, cb, cv⟩ := BL.succ aw c7
   rw [D9] at r4
   refine Aq (As ?_)
   refine Ap ?_
   refine AN (um ?_)
   obtain ⟨Rf, dy, dz, cw, ax, ay, ae, ⟨_, _, rfl, rfl, rfl⟩, az, ba⟩ := Av.at (Au (Ac _) EL) aa ([(b1, ce #[.int .i64 Ad, .slice AX AZ.length AY, .slice Aj Ab.length Ai, .slice AP ab.length AO] 113)]) cb.1 cu
   refine uv (AK underlying110 sizeOf109 rfl ax rfl cb) (uv (AS isAgg109 sizeOf109 rfl ay ae (BB ae az ba)) ?_)
   refine Bo rfl zeroValue109 ?_; intro eb cx
   refine ua (B1 (i := 0) sizeOf109 rfl rfl rfl (by simp [Value.oneCell']) rfl (CK rfl) (AI rfl (BX (uv (Ae Me rfl) (uv (An isAgg3 rfl (Has.own 0 rfl) rfl) (um ?_))))))
   obtain ⟨cy, cz⟩ := A1 r4
   refine uv (Fa rfl rfl cy) ?_
   obtain ⟨ok, da, cd⟩ := AG cz
   refine cV call162 (Jb da) (uv (BC rfl) (Aa ?_))
   refine A5 rfl (fun bb => ?_) (fun bb => ?_)
   ·have db := bt cd bb
    refine AN (ua (Aa ?_))
    refine kW kn ?_
    refine Ao (AA (Ah (Ah (AA (Ah ?_)))))
    refine BU results264 ?_
    obtain rfl := AL db
    exact rfl
   have dd := bf cd bb
   refine Aq (AD (id := 1) (Am ?_))
   refine uv (Bd rfl rfl (BL.Eg aw c7 (Av.lt aa))) ?_
   refine um (Aa ?_)
   subst cq; exact le (kd kr) ⟨_, _, rfl, cv, dd, rfl, rfl, z4⟩
  obtain rfl := BL.zero aw c7
  rw [D9] at r4
  refine AT (Af (Af ?_))
  refine Ay ?_
  exact mi kr ⟨r4, rfl, rfl, z1⟩
 rintro e1 _ _ ⟨cf, rfl, rfl, bc⟩
 refine AB _ bc ?_
 rw [Ii] at cf
 refine A0 (fun e1 F1 L1 => Ia = some r ∧ A3 F F1 ∧ L1 = [] ∧ e1.sub []) ?_ ?_
 ·refine AN (uv (Ae Js rfl) (uv (An isAgg110 rfl (Has.own 0 rfl) rfl) (uv (A7 underlying110 rfl) ?_)))
  refine um (Aa ?_)
  refine Ap ?_
  refine Bh (fun cg e1 F1 L1 => LA Ab cg fun cj k2 => EV Ab cj k2 = some r ∧ A3 F F1 ∧ L1 = [(b1, ce #[.int .i64 Ad, .slice AX AZ.length AY, .slice Aj Ab.length Ai, .slice AP ab.length AO] 113)] ∧ e1.sub [(1, .pointer (some ⟨b1, 0, none⟩)), (23, .slice Aj Ab.length Ai), (24, .int .i64 (Ab.length : Int)), (25, .int .i64 k2)]) _ (m0 kr ⟨_, _, rfl, BL.start _, cf, A3.refl _, rfl, z4⟩) ?_
  rintro cg e1 ec _ ⟨cj, k2, bd, ai, au, aj, rfl, bg⟩
  refine AB _ bg ?_
  replace aa := aa.mono (Au (Ac _) EL) aj
  refine AN (uv (Bb rfl rfl) ?_)
  refine Aa (As ?_)
  refine cQ (fun av => ?_) fun av => ?_
  ·obtain ⟨x2, eg, rfl, bh, ck, bj⟩ := BL.succ ai av
   rw [EV] at au
   refine Aq (As ?_)
   refine Ap ?_
   refine AN (um ?_)
   obtain ⟨eh, ei, ej, de, bk, bl, af, ⟨_, _, rfl, rfl, rfl⟩, bm, bn⟩ := Av.at (Au (Ac _) EL) aa ([(b1, ce #[.int .i64 Ad, .slice AX AZ.length AY, .slice Aj Ab.length Ai, .slice AP ab.length AO] 113)]) ck.1 bh
   refine uv (AK underlying110 sizeOf109 rfl bk rfl ck) (uv (AS isAgg109 sizeOf109 rfl bl af (BB af bm bn)) ?_)
   refine Bo rfl zeroValue109 ?_; intro df bo
   refine ua (B1 (i := 0) sizeOf109 rfl rfl rfl (by simp [Value.oneCell']) rfl (CK rfl) (AI rfl (Aa ?_)))
   obtain ⟨k3, cn, bp⟩ := AG au
   refine jF ([(b1, ce #[.int .i64 Ad, .slice AX AZ.length AY, .slice Aj Ab.length Ai, .slice AP ab.length AO] 113)]) [(1, .pointer (some ⟨b1, 0, none⟩)), (23, .slice Aj Ab.length Ai), (24, .int .i64 (Ab.length : Int)), (25, .int .i64 k2), (40, .bool k3)] ?_ fun en al => ?_
   ·clear bp
    refine Am (uv (Ae Me rfl) (uv (An isAgg3 rfl (Has.own 0 rfl) rfl) (uv (B7 rfl rfl) (um ?_))))
    by_cases ad : x2.1 ≠ (-1)
    ·have dg := Bf cn ad
     refine nT ad (uv (Ae Js rfl) (nT ad (uv (An isAgg110 rfl (Has.own 1 rfl) rfl) ?_)))
     refine nT ad (um (nT ad ?_))
     obtain ⟨dh, di⟩ := A1 dg
     obtain ⟨ao, dk, dm⟩ := CH di
     obtain ⟨eo, ep, bq, ah⟩ := Av.slice (Au (Ac _) EL) aa dh dk
     refine uv ((NK (l := 0) (h := k2) underlying110 sizeOf109 rfl (.inl ⟨rfl, rfl⟩) (.inr ⟨_, rfl, rfl⟩) ah.1).eq ah.2) (nT ad (uv (BP rfl rfl) (nT ad ?_)))
     refine Bi 0 rfl bo ?_; intro dn aq br
     refine AI rfl ?_
     replace bq := bq.mono (Au (Ac _) EL) aq
     have bu : HG Tryz.prog dn 284 #[] #[.pointer (some ⟨df, 0, none⟩)] (Pu (Br (iE .i64) bE)) Value.bool (fun bw : (Int × Bool) => GG bw.1 bw.2 x2.1 x2.2) := ⟨call284, fun F2 h2 vs bw r ha hr => by obtain ⟨_, rfl, ⟨_, _, rfl, rfl, rfl⟩⟩ := ha; exact MU (h2 _ _ br) hr⟩
     obtain ⟨er, dp, dq⟩ := AG dm
     refine cV call283 (GA bq bu dp) (uv (AW (Bn rfl ad) rfl) (Aa ?_))
     obtain rfl := AL dq
     exact mi kr ⟨aq, rfl, z5⟩
    have dr := Bg cn ad
    refine fF ad (fF ad (fF ad (fF ad (fF ad (fF ad ?_)))))
    refine uv (AH (A8 rfl ad) rfl) (Aa ?_)
    obtain rfl := AL dr
    exact mi (kd kr) ⟨A3.refl _, rfl, z5⟩
   replace aa := aa.mono (Au (Ac _) EL) al
   refine A5 rfl (fun bx => ?_) (fun bx => ?_)
   ·have dt := bt bp bx
    refine AN (ua (Aa ?_))
    refine kW kn ?_
    refine Ao (AA (Ah (Ah (AA (Ah ?_)))))
    refine BU results264 ?_
    obtain rfl := AL dt
    exact rfl
   have du := bf bp bx
   refine Aq (AD (id := 3) (Am ?_))
   refine uv (Bd rfl rfl (BL.Eg ai av (Av.lt aa))) ?_
   refine um (Aa ?_)
   subst bd; exact le kr ⟨_, _, rfl, bj, du, (aj.trans al), rfl, z4⟩
  obtain rfl := BL.zero ai av
  rw [EV] at au
  refine AT (Af (Af ?_))
  refine Ay ?_
  exact mi kn ⟨au, aj, rfl, (sn _)⟩
 rintro e1 eu _ ⟨cp, dv, rfl, bz⟩
 refine AB _ bz ?_
 rw [Ia] at cp
 refine AN (ua (Aa (Ao ?_)))
 refine BU results264 ?_
 obtain rfl := AL cp
 exact rfl
theorem Om {x : List Int} {holds : (List Int) → Option Bool} (ad : Av 1 (iE .i64) F Vz VC x) (ab : F Lv = some (.cells #[.func (.func GI) GH GF] 335 Pq)) (aa : HG Tryz.prog F GI GH GF (BK 1 (iE .i64)) Value.bool holds) {r : Bool} (hr : G1 x holds = some r) :
    Bl Tryz.prog 285 #[.slice Vz x.length VC, .pointer (some ⟨Lv, 0, none⟩)] F (.bool r) := by
 refine sp func285 ntmps285 fun K _ _ => ?_
 rw [G1] at hr
 refine AN (ua (BX ?_))
 refine uv (An isAgg335 rfl (Has.frozen ab) rfl) (um ?_)
 obtain ⟨ok, h1, r2⟩ := AG hr
 refine Em rfl aa.1 rfl rfl rfl (aa.2 _ (A3.refl _) _ _ _ ⟨_, _, rfl, ad⟩ h1) (uv (BC rfl) ?_)
 refine ua (Aa (Ao ?_))
 refine BU results285 ?_
 obtain rfl := AL r2
 exact rfl
theorem L4 {l : List (List Int)} {holds : (List Int) → Option Bool} (ab : Av 1 (BK 1 (iE .i64)) F Hp Hl l) (aa : HG Tryz.prog F GI GH GF (BK 1 (iE .i64)) Value.bool holds) {r : Bool} (hr : E3 l holds = some r) :
    Bl Tryz.prog 265 #[.slice Hp l.length Hl, .func (.func GI) GH GF] F (.bool r) := by
 refine sp func265 ntmps265 fun K _ _ => ?_
 rw [E3] at hr
 refine AN ?_
 refine Bt rfl rfl ?_; intro b1 af
 refine ua (BX (um ?_))
 refine uv (BP rfl rfl) ?_
 refine Bi 0 rfl af ?_; intro F2 ad ah
 refine AI rfl ?_
 replace ab := ab.mono (Ar (Ac _)) ad
 replace aa := aa.mono ad
 have ai : HG Tryz.prog F2 285 #[] #[.pointer (some ⟨b1, 0, none⟩)] (BK 1 (iE .i64)) Value.bool (fun ae : (List Int) => G1 ae holds) := ⟨call285, fun F2 h2 vs ae r ha hr => by obtain ⟨a5, c6, rfl, h7⟩ := ha; exact Om h7 (h2 _ _ ah) (aa.mono h2) hr⟩
 obtain ⟨ok, h9, aj⟩ := AG hr
 refine cV call233 (G7 ab ai h9) (uv (BC rfl) ?_)
 refine ua (Aa (Ao ?_))
 refine BU results265 ?_
 obtain rfl := AL aj
 exact rfl
theorem NX {x : Int} {holds : Int → Option Bool} (ab : F Lv = some (.cells #[.func (.func GI) GH GF] 89 Pq)) (aa : HG Tryz.prog F GI GH GF (iE .i64) Value.bool holds) {r : Bool} (hr : Gl x holds = some r) :
    Bl Tryz.prog 286 #[.int .i64 x, .pointer (some ⟨Lv, 0, none⟩)] F (.bool r) := by
 refine sp func286 ntmps286 fun K _ _ => ?_
 rw [Gl] at hr
 refine AN (ua (BX ?_))
 refine uv (An isAgg89 rfl (Has.frozen ab) rfl) (um ?_)
 obtain ⟨ok, h1, r2⟩ := AG hr
 refine Em rfl aa.1 rfl rfl rfl (aa.2 _ (A3.refl _) _ _ _ rfl h1) (uv (BC rfl) ?_)
 refine ua (Aa (Ao ?_))
 refine BU results286 ?_
 obtain rfl := AL r2
 exact rfl
theorem Pe {l : List Int} {holds : Int → Option Bool} (ab : Av 1 (iE .i64) F Hp Hl l) (aa : HG Tryz.prog F GI GH GF (iE .i64) Value.bool holds) {r : Bool} (hr : HA l holds = some r) :
    Bl Tryz.prog 267 #[.slice Hp l.length Hl, .func (.func GI) GH GF] F (.bool r) := by
 refine sp func267 ntmps267 fun K _ _ => ?_
 rw [HA] at hr
 refine AN ?_
 refine Bt rfl rfl ?_; intro b1 af
 refine ua (BX (um ?_))
 refine uv (BP rfl rfl) ?_
 refine Bi 0 rfl af ?_; intro F2 ad ah
 refine AI rfl ?_
 replace ab := ab.mono (Ac _) ad
 replace aa := aa.mono ad
 have ai : HG Tryz.prog F2 286 #[] #[.pointer (some ⟨b1, 0, none⟩)] (iE .i64) Value.bool (fun ae : Int => Gl ae holds) := ⟨call286, fun F2 h2 vs ae r ha hr => by obtain rfl := ha; exact NX (h2 _ _ ah) (aa.mono h2) hr⟩
 obtain ⟨ok, h6, r7⟩ := AG hr
 refine cV call26 (GQ ab ai h6) (uv (BC rfl) ?_)
 refine ua (Aa (Ao ?_))
 refine BU results267 ?_
 obtain rfl := AL r7
 exact rfl
set_option maxHeartbeats 1000000 in
theorem Lp {x : List Int} (aq : Av 1 (iE .i64) F Vz VC x) {r : Bool} (hr : Dm x = some r) :
    Bl Tryz.prog 270 #[.slice Vz x.length VC] F (.bool r) := by
 refine sp func270 ntmps270 fun K _ _ => ?_
 rw [Dm] at hr
 refine AN (ua (Aa ?_))
 refine A0 (fun e1 F1 L1 => FG = some r ∧ F = F1 ∧ L1 = [] ∧ e1.sub []) ?_ ?_
 ·refine AN (um ?_)
  refine uv (A7 underlying33 rfl) ?_
  obtain ⟨g1, r2⟩ := A1 hr
  refine uv (Fa rfl rfl g1) ?_
  refine ua (Aa ?_)
  refine Ap ?_
  refine Bh (fun aa e1 F1 L1 => ∃ (i : Int), BI x aa i = some r ∧ F = F1 ∧ L1 = [] ∧ e1.sub [(0, .slice Vz x.length VC), (3, .int .i64 i)]) FU (m0 kr ⟨(x.length : Int) - 1, r2, rfl, rfl, z2⟩) ?_
  rintro aa e1 _ _ ⟨i, r5, rfl, rfl, ay⟩
  refine AB _ ay ?_
  rcases aa with _ | aa
  ·rw [BI] at r5; cases r5
  rw [BI] at r5
  refine As (AN (um ?_))
  refine uv (KS rfl rfl) (Aa ?_)
  refine cQ (fun c7 => ?_) fun c7 => ?_
  ·have r8 := Bf r5 c7
   refine Aq (As ?_)
   refine Ap (dW ?_)
   refine wm (wm ?_)
   obtain ⟨x2, g9, ab, az⟩ := Bx r8
   obtain ⟨Ud, bq, br, ba, ad, ae, ar, rfl, bb, af⟩ := Av.at (Ac _) aq ([]) g9.1 ab
   refine wv (AK underlying33 sizeOf3 rfl ad rfl g9) (wv (An isAgg3 rfl ae (af 0 (by decide))) ?_)
   refine wm (wm ?_)
   obtain ⟨bc, bd⟩ := A1 az
   refine wv (Fa rfl rfl bc) ?_
   obtain ⟨x3, au, ah, bg⟩ := Bx bd
   obtain ⟨bu, bw, bx, bh, ai, aj, av, rfl, bj, ak⟩ := Av.at (Ac _) aq ([]) au.1 ah
   refine wv (AK underlying33 sizeOf3 rfl ai rfl au) (wv (An isAgg3 rfl aj (ak 0 (by decide))) ?_)
   obtain ⟨ok, bk, aw⟩ := AG bg
   refine I8 rfl call257 rfl rfl rfl (M9 bk) (CQ ?_)
   refine A5 rfl (fun al => ?_) (fun al => ?_)
   ·have bl := bt aw al
    refine AN (ua (Aa (Ao (AA (Ah (Ah (AA (Ah ?_))))))))
    refine BU results270 ?_
    obtain rfl := AL bl
    exact rfl
   have bm := bf aw al
   refine Aq (AD (id := 1) (Am (um ?_)))
   obtain ⟨bn, bo⟩ := A1 bm
   refine uv (Fa rfl rfl bn) ?_
   refine ua (Aa ?_)
   exact le kr ⟨i - 1, bo, rfl, rfl, z2⟩
  have bp := Bg r5 c7
  refine AT (Af (Af ?_))
  refine Ay ?_
  exact mi kr ⟨bp, rfl, rfl, (sn _)⟩
 rintro e1 _ _ ⟨ax, rfl, rfl, ao⟩
 refine AB _ ao ?_
 rw [FG] at ax
 refine AN (ua (Aa (Ao ?_)))
 refine BU results270 ?_
 obtain rfl := AL ax
 exact rfl
set_option maxHeartbeats 1000000 in
theorem LF {FB : Nat} {HP : LH} {s_ : List Int} {H6 : Nat} (ab : Be H6 3 1 (iE .i64) F B0 FB BY s_ HP) {r : List Int} (hr : Ep s_ = some r) :
    SH.Spec Tryz.prog 271 #[.slice B0 FB BY] F (HP ++ []) fun F' L' v => ∃ (ra : Option Addr) (rn : Nat) (rc : Nat) (rL : LH), v = .slice ra rn rc ∧ L' = rL ++ [] ∧ Be H6 3 1 (iE .i64) F' ra rn rc r rL := by
 refine sp func271 ntmps271 fun K _ _ => ?_
 rw [Ep] at hr
 refine E7 (L' := HP ++ []) (by simp) ?_
 refine AN (ua (Aa (As (AN (um ?_)))))
 refine uv ((A7 underlying33 rfl).i (Be.Kw ab)) (uv (Bb rfl rfl) (Aa ?_))
 refine cQ (fun c1 => ?_) fun c1 => ?_
 ·have r2 := Bf hr c1
  refine AN (um (ua (Aa (Ao (Ah ?_)))))
  refine BU results271 ?_
  obtain rfl := AL r2
  exact ⟨_, _, _, _, rfl, rfl, ab⟩
 have r3 := Bg hr c1
 refine Aq ?_
 refine A0 (fun e1 F1 L1 => Ga s_ = some r ∧ F = F1 ∧ L1 = (HP ++ []) ∧ e1.sub [(0, .slice B0 FB BY)]) ?_ ?_
 ·refine AN (ua (Aa ?_))
  refine Ap ?_
  obtain ⟨g4, r5⟩ := A1 r3
  refine Bh (fun al e1 F1 L1 => ∃ (k : Int), Dc 1 (s_.length : Int) k al ∧ C3 s_ al k = some r ∧ F = F1 ∧ L1 = (HP ++ []) ∧ e1.sub [(0, .slice B0 FB BY), (3, .int .i64 k)]) _ (m0 kr ⟨_, Dc.start _ _, r5, rfl, rfl, z2⟩) ?_
  rintro al e1 _ _ ⟨k, bh, r8, rfl, rfl, ey⟩
  refine AB _ ey ?_
  refine As (AN (um (um ?_)))
  refine uv ((A7 underlying33 rfl).i (Be.Kw ab)) (uv (Bb rfl rfl) (Aa ?_))
  refine cQ (fun bb => ?_) fun bb => ?_
  ·obtain ⟨al, rfl, bj⟩ := Dc.succ bh bb
   rw [C3] at r8
   refine Aq ?_
   refine A0 (fun e1 F1 L1 => FZ k (C3 s_ al) = some r ∧ F = F1 ∧ L1 = (HP ++ []) ∧ e1.sub [(0, .slice B0 FB BY), (3, .int .i64 k)]) ?_ ?_
   ·refine Ap (dW ?_)
    refine wm (wm ?_)
    obtain ⟨x, dv, bk, ez⟩ := Bx r8
    obtain ⟨gr, gu, gv, fa, bl, bm, dw, rfl, fb, bn⟩ := Be.at (Ac _) ab (L := HP ++ []) fP dv.1 bk
    refine wv (AK underlying33 sizeOf3 rfl bl rfl (Be.idx ab dv)) (wv (An isAgg3 rfl bm (bn 0 (by decide))) ?_)
    refine wm (wm ?_)
    obtain ⟨fe, ff⟩ := A1 ez
    refine wv (Fa rfl rfl fe) ?_
    obtain ⟨x2, dx, bo, dy⟩ := Bx ff
    obtain ⟨gw, gz, ia, fg, bp, bq, dz, rfl, fh, br⟩ := Be.at (Ac _) ab (L := HP ++ []) fP dx.1 bo
    refine wv (AK underlying33 sizeOf3 rfl bp rfl (Be.idx ab dx)) (wv (An isAgg3 rfl bq (br 0 (by decide))) (wv (CR rfl rfl) (CQ ?_)))
    refine cQ (fun bu => ?_) fun bu => ?_
    ·have fi := Bf dy bu
     refine AN (um (um ?_))
     obtain ⟨fj, fk⟩ := A1 fi
     have af := Be.gV ab fj
     refine uv (Gs.eq (v' := .slice (XQ B0 BY (Int.toNat k) 1) (FB - Int.toNat k) (BY - Int.toNat k)) (NK (l := k) (h := (FB : Nat)) underlying33 sizeOf3 rfl (.inr ⟨_, rfl, rfl⟩) (.inl ⟨rfl, rfl⟩) (Be.Y7 ab af)) rfl) ?_
     refine ua (Aa ?_)
     obtain ⟨eb, k2, fl, ec⟩ := Es fk
     refine A0 (fun e1 F1 L1 => ∃ (aj : LH), F = F1 ∧ L1 = (aj ++ []) ∧ e1.sub [(0, .slice B0 FB BY), (3, .int .i64 k2)] ∧ Be H6 3 1 (iE .i64) F1 B0 FB BY eb aj) ?_ ?_
     ·clear ec
      refine AN (ua (Aa ?_))
      refine Ap ?_
      refine Bh (fun bc e1 F1 L1 => ∃ (bd : List Int) (k3 : Int) (ae : Int) (ad : LH), C4 k bc bd k3 ae = some (eb, k2) ∧ F = F1 ∧ L1 = (ad ++ []) ∧ e1.sub [(0, .slice B0 FB BY), (3, .int .i64 k3), (4, .slice (XQ B0 BY (Int.toNat k) 1) (FB - Int.toNat k) (BY - Int.toNat k)), (5, .int .i64 ae)] ∧ Be H6 3 1 (iE .i64) F1 B0 FB BY bd ad) FU (m0 kr ⟨s_, k, 1, HP, fl, rfl, rfl, z4, ab⟩) ?_
      rintro bc e1 _ _ ⟨bd, k3, ae, ad, ao, rfl, rfl, bw, aa⟩
      refine AB _ bw ?_
      rcases bc with _ | bc
      ·rw [C4] at ao; cases ao
      rw [C4] at ao
      refine As (AN (um (um ?_)))
      refine uv ((A7 underlying33 rfl).i (Be.Zu aa).symm) (uv (Bb rfl rfl) (Aa ?_))
      refine cQ (fun bx => ?_) fun bx => ?_
      ·have fm := Bf ao bx
       refine Aq (As ?_)
       refine Ap (dW ?_)
       refine wm (wm ?_)
       obtain ⟨x3, bg, aq, fo⟩ := Bx fm
       obtain ⟨ib, ic, ie, fp, bz, ca, eg, rfl, fq, cb⟩ := Be.Zx (Ac _) aa (L := ad ++ []) fP af bg.1 aq
       refine wv (AK underlying33 sizeOf3 rfl bz rfl (Be.YF aa bg)) (wv (An isAgg3 rfl ca (cb 0 (by decide))) ?_)
       refine wm (wm ?_)
       obtain ⟨ft, fv⟩ := A1 fo
       refine wv (Fa rfl rfl ft) ?_
       obtain ⟨x4, eh, cd, ei⟩ := Bx fv
       obtain ⟨ig, ij, ik, fw, cf, cg, ej, rfl, fx, cj⟩ := Be.Zx (Ac _) aa (L := ad ++ []) fP af eh.1 cd
       refine wv (AK underlying33 sizeOf3 rfl cf rfl (Be.YF aa eh)) (wv (An isAgg3 rfl cg (cj 0 (by decide))) (wv (B7 rfl rfl) (CQ ?_)))
       refine cQ (fun ck => ?_) fun ck => ?_
       ·have fy := Bf ei ck
        refine AN (um (um (um (um ?_))))
        obtain ⟨il, im, iq, ga, cn, cp, en, rfl, gb, cq⟩ := Be.Zx (Ac _) aa (L := ad ++ []) fP af bg.1 aq
        refine uv (AK underlying33 sizeOf3 rfl cn rfl (Be.YF aa bg)) (uv (An isAgg3 rfl cp (cq 0 (by decide))) ?_)
        obtain ⟨x5, ct, cu, gg⟩ := Bx fy
        obtain ⟨ir, iu, iv, gh, ah, eo, cv, rfl, ep, er⟩ := Be.at (Ac _) aa (L := ad ++ []) fP ct.1 cu
        refine uv (AK underlying33 sizeOf3 rfl ah rfl (Be.idx aa ct)) ?_
        obtain ⟨gk, cw, cx⟩ := CH gg
        refine Gp (u := x3) sizeOf3 (Ac _) rfl ah rfl rfl (fun _ => .h) aa cw ct ?_; intro ar au
        refine Aa (Am (um ?_))
        obtain ⟨cy, cz⟩ := A1 cx
        refine uv (Bd rfl rfl cy) ?_
        refine ua (Aa (AD (id := 3) (Am (um ?_))))
        obtain ⟨da, db⟩ := A1 cz
        refine uv (Bd rfl rfl da) ?_
        refine ua (Aa ?_)
        exact le kr ⟨gk, k3 + 1, ae + 1, ar, db, rfl, rfl, z4, au⟩
       have dd := Bg ei ck
       refine Aq (AD (id := 3) (Am (um ?_)))
       obtain ⟨de, df⟩ := A1 dd
       refine uv (Bd rfl rfl de) ?_
       refine ua (Aa ?_)
       exact le kr ⟨bd, k3, ae + 1, ad, df, rfl, rfl, z4, aa⟩
      have dg := Bg ao bx
      refine AT (Af (Af ?_))
      refine Ay ?_
      obtain ⟨rfl, rfl⟩ := D2 dg
      exact mi kr ⟨ad, rfl, rfl, z2, aa⟩
     rintro e1 _ _ ⟨aj, rfl, rfl, av, ak⟩
     refine AB _ av ?_
     refine AN (um (um ?_))
     obtain ⟨dh, di⟩ := A1 ec
     have ai := Be.gV ak dh
     refine uv (Gs.eq (v' := .slice (XQ B0 BY (Int.toNat k2) 1) (FB - Int.toNat k2) (BY - Int.toNat k2)) (NK (l := k2) (h := (FB : Nat)) underlying33 sizeOf3 rfl (.inr ⟨_, rfl, rfl⟩) (.inl ⟨rfl, rfl⟩) (Be.Y7 ak ai)) rfl) ?_
     obtain ⟨gl, dk, dm⟩ := CH di
     refine V9 (z0 := 0) (zs := gl) (l := k2) rfl Cm (by decide) (Ac _) (fun _ => rfl) rfl (fun _ => .h) ak ai dk ?_; intro eu aw
     refine BX (um (um ?_))
     obtain ⟨dn, dp⟩ := A1 dm
     obtain ⟨gm, dq, dr⟩ := CH dp
     refine Rl (l := 0) (h := k2) (zs := gm) rfl Cm (Ac _) rfl (.inl ⟨rfl, rfl⟩) (.inr ⟨_, rfl, rfl⟩) (fun _ => .h) aw dn dq ?_; intro gn gp gq ew dt
     refine ua (Aa (Ao (AA (Ah (Ah (AA (Ah ?_)))))))
     refine BU results271 ?_
     obtain rfl := AL dr
     exact ⟨_, _, _, _, rfl, rfl, dt⟩
    have du := Bg dy bu
    refine Aq (AD (id := 1) ?_)
    exact mi kr ⟨du, rfl, rfl, z2⟩
   rintro e1 _ _ ⟨ax, rfl, rfl, ay⟩
   refine AB _ ay ?_
   rw [FZ] at ax
   refine Am (um ?_)
   refine uv (Bd rfl rfl (Dc.Eg bh bb g4)) ?_
   refine ua (Aa ?_)
   exact le kr ⟨_, bj, ax, rfl, rfl, z2⟩
  obtain rfl := Dc.zero bh bb
  rw [C3] at r8
  refine AT (Af (Af ?_))
  refine Ay ?_
  exact mi kr ⟨r8, rfl, rfl, z1⟩
 rintro e1 _ _ ⟨az, rfl, rfl, ba⟩
 refine AB _ ba ?_
 rw [Ga] at az
 refine AN (um (ua (Aa (Ao ?_))))
 refine BU results271 ?_
 obtain rfl := AL az
 exact ⟨_, _, _, _, rfl, rfl, ab⟩
theorem QI {l : List Int} (ae : Av 1 (iE .i64) F Hp Hl l) {r : Bool} (hr : Hr l = some r) :
    Bl Tryz.prog 269 #[.slice Hp l.length Hl] F (.bool r) := by
 refine sp func269 ntmps269 fun K _ _ => ?_
 rw [Hr] at hr
 refine AN (ua (BX (um ?_)))
 obtain ⟨ok, h1, r2⟩ := AG hr
 refine cV call270 (Lp ae h1) (um ?_)
 rcases Co ok with c3 | c3
 ·have r4 := bt r2 c3
  refine nB c3 (um (nB c3 ?_))
  obtain ⟨l2, h5, r6⟩ := AG r4
  refine c0 call110 (He ae h5) ?_; rintro _ F7 _ ar af ⟨au, av, aw, ab, rfl, rfl, aa⟩
  replace aa := aa.new fun p hp => af p (by simp [hp])
  refine AI (lp (ln rfl)) (nB c3 ?_)
  obtain ⟨l3, ah, ai⟩ := AG r6
  refine Jw (Lb := ab ++ []) (Lr := []) rfl call271 rfl rfl rfl (pT pR (lp (ln rfl))) (LF aa ah) ?_; rintro _ ax _ aj ak al ⟨ay, az, ba, ao, rfl, rfl, ad⟩
  refine AI (lp (ln rfl)) (nB c3 (uv ((A7 underlying33 rfl).i (Be.Kw ad)) ?_))
  refine nB c3 (um (nB c3 ?_))
  refine uv (A7 underlying33 rfl) (nB c3 (uv (CR rfl rfl) (uv (AW (Iy rfl c3) rfl) ?_)))
  refine ua (Aa ?_)
  refine kW kn (Ao (BU results269 ?_))
  obtain rfl := AL ai
  exact rfl
 have aq := bf r2 c3
 refine fB c3 (fB c3 (fB c3 (fB c3 (fB c3 (fB c3 (fB c3 ?_))))))
 refine uv (AH (Iy rfl c3) rfl) ?_
 refine ua (Aa (Ao ?_))
 refine BU results269 ?_
 obtain rfl := AL aq
 exact rfl
theorem QX {l : List Int} {Ab : List (Int × Bool)} {aa : List (List Int)} (ai : Av 1 (iE .i64) F Hp Hl l) (af : F Yh = some (.cells #[.int .i64 Ad, .slice AX AZ.length AY, .slice Aj Ab.length Ai, .slice AP aa.length AO] 113 Xy)) (ae : Av 2 (IZ 2 (cI .i64)) F AX AY AZ) (ab : Av 2 (Br (iE .i64) bE) F Aj Ai Ab) (ad : Av 1 (BK 1 (iE .i64)) F AP AO aa) {r : Bool} (hr : Iq l Ad AZ Ab aa = some r) :
    Bl Tryz.prog 266 #[.slice Hp l.length Hl, .pointer (some ⟨Yh, 0, none⟩)] F (.bool r) := by
 refine sp func266 ntmps266 fun K _ _ => ?_
 rw [Iq] at hr
 refine AN (ua (BX (um ?_)))
 refine uv (AS isAgg113 sizeOf113 rfl (Has.frozen af) (CK rfl) rfl) (uv (BP rfl rfl) ?_)
 have aj : HG Tryz.prog F 268 #[.agg #[.int .i64 Ad, .slice AX AZ.length AY, .slice Aj Ab.length Ai, .slice AP aa.length AO]] #[] (iE .i64) Value.bool (fun ah : Int => Ey Ad AZ Ab aa ah) := ⟨call268, fun F2 h2 vs ah r ha hr => by obtain rfl := ha; exact JB (ae.mono (CD (n := 2) (sz := 1) (A4 .i64)) h2) (ab.mono (Au (Ac _) EL) h2) (ad.mono (Ar (Ac _)) h2) hr⟩
 obtain ⟨ok, h2, r3⟩ := AG hr
 refine cV call267 (Pe ai aj h2) ?_
 refine ua (Aa (Ao ?_))
 refine BU results266 ?_
 obtain rfl := AL r3
 exact rfl
set_option maxHeartbeats 1000000 in
theorem SL {Ab : List (Int × Bool)} {ae : List (List Int)} (ad : Av 2 (IZ 2 (cI .i64)) F AX AY AZ) (ab : Av 2 (Br (iE .i64) bE) F Aj Ai Ab) (aa : Av 1 (BK 1 (iE .i64)) F AP AO ae) {r : Int} (hr : KJ Ad AZ Ab ae = some r) :
    Bl Tryz.prog 238 #[.agg #[.int .i64 Ad, .slice AX AZ.length AY, .slice Aj Ab.length Ai, .slice AP ae.length AO]] F (.int .i64 r) := by
 refine sp func238 ntmps238 fun K _ _ => ?_
 rw [KJ] at hr
 refine AN ?_
 refine Bt rfl rfl ?_; intro b1 bc
 refine ua (Aa (As ?_))
 obtain ⟨k, h2, r3⟩ := AG hr
 refine jE ([(b1, ce #[.int .i64 Ad, .slice AX AZ.length AY, .slice Aj Ab.length Ai, .slice AP ae.length AO] 113)]) [(1, .pointer (some ⟨b1, 0, none⟩)), (28, .bool k)] ?_ ?_
 ·clear r3
  refine Am (uv (Ae Po rfl) (uv (An isAgg3 rfl (Has.own 0 rfl) rfl) ?_))
  obtain ⟨ok, h4, r5⟩ := AG h2
  refine cV call162 (Jb h4) (uv (BC rfl) (um ?_))
  rcases Co (!ok) with c6 | c6
  ·have r7 := bt r5 c6
   refine fB c6 (fB c6 (fB c6 (fB c6 ?_)))
   refine uv (AW (Iy rfl c6) rfl) ?_
   refine um (AM (b' := true) 15 rfl rfl rfl rfl (AM (b' := true) 15 rfl rfl rfl rfl (AM (b' := true) 15 rfl rfl rfl rfl (AM (b' := true) 15 rfl rfl rfl rfl (AM (b' := true) 15 rfl rfl rfl rfl ?_)))))
   refine uv (AW rfl rfl) ?_
   refine um (AM (b' := true) 22 rfl rfl rfl rfl (AM (b' := true) 22 rfl rfl rfl rfl (AM (b' := true) 22 rfl rfl rfl rfl (AM (b' := true) 22 rfl rfl rfl rfl (AM (b' := true) 22 rfl rfl rfl rfl ?_)))))
   refine uv (AW rfl rfl) (Aa ?_)
   obtain rfl := AL r7
   exact mi kr ⟨rfl, rfl, z2⟩
  have r8 := bf r5 c6
  refine nB c6 (uv (Ae Ny rfl) (nB c6 (uv (An isAgg111 rfl (Has.own 0 rfl) rfl) (nB c6 (uv (A7 underlying111 rfl) (nB c6 (uv (KS rfl rfl) ?_)))))))
  refine uv (AH (Iy rfl c6) rfl) (um ?_)
  by_cases c9 : 15 < (AZ.length : Int)
  ·have bd := Bf r8 c9
   refine fT c9 (fT c9 (fT c9 (fT c9 (fT c9 ?_))))
   refine uv (AW (Bn rfl c9) rfl) ?_
   refine um (AM (b' := true) 22 rfl rfl rfl rfl (AM (b' := true) 22 rfl rfl rfl rfl (AM (b' := true) 22 rfl rfl rfl rfl (AM (b' := true) 22 rfl rfl rfl rfl (AM (b' := true) 22 rfl rfl rfl rfl ?_)))))
   refine uv (AW rfl rfl) (Aa ?_)
   obtain rfl := AL bd
   exact mi kr ⟨rfl, rfl, z2⟩
  have bg := Bg r8 c9
  refine nF c9 (uv (Ae Js rfl) (nF c9 (uv (An isAgg110 rfl (Has.own 0 rfl) rfl) (nF c9 (uv (A7 underlying110 rfl) (nF c9 ?_))))))
  obtain ⟨bh, bj, aw⟩ := AG bg
  refine cV call162 (Jb bj) (nF c9 (uv (BC rfl) (uv (AH (A8 rfl c9) rfl) (um ?_))))
  rcases Co (!bh) with af | af
  ·have bk := bt aw af
   refine fB af (fB af (fB af (fB af (fB af ?_))))
   refine uv (AW (Iy rfl af) rfl) (Aa ?_)
   obtain rfl := AL bk
   exact mi kr ⟨rfl, rfl, z2⟩
  have bl := bf aw af
  refine nB af (uv (Ae IQ rfl) (nB af (uv (An isAgg36 rfl (Has.own 0 rfl) rfl) (nB af (uv (A7 underlying36 rfl) (nB af ?_))))))
  obtain ⟨cp, bm, bn⟩ := AG bl
  refine cV call162 (Jb bm) (nB af (uv (BC rfl) (uv (AH (Iy rfl af) rfl) (Aa ?_))))
  obtain rfl := AL bn
  exact mi kr ⟨rfl, rfl, z2⟩
 refine A5 rfl (fun ak => ?_) (fun ak => ?_)
 ·have bo := bt r3 ak
  refine AN (ua (Aa ?_))
  refine kW kn ?_
  refine Ao (Ah ?_)
  refine BU results238 ?_
  obtain rfl := AL bo
  exact rfl
 have bp := bf r3 ak
 refine Aq (As (AN ?_))
 refine uv (AS isAgg113 sizeOf113 rfl (Has.own 0 rfl) (CK rfl) rfl) ?_
 obtain ⟨n, bq, ax⟩ := AG bp
 refine cV call263 (Od ad ab aa bq) ?_
 refine ua (BX (um ?_))
 refine uv (B7 rfl rfl) (Aa ?_)
 refine cQ (fun al => ?_) fun al => ?_
 ·have br := Bf ax al
  refine AN (um (ua (Aa ?_)))
  refine kW kn ?_
  refine Ao (Ah ?_)
  refine BU results238 ?_
  obtain rfl := AL br
  exact rfl
 have bu := Bg ax al
 refine Aq (As (AN ?_))
 refine uv (AS isAgg113 sizeOf113 rfl (Has.own 0 rfl) (CK rfl) rfl) ?_
 obtain ⟨n2, bw, ay⟩ := AG bu
 refine cV call264 (NP ad ab aa bw) ?_
 refine ua (BX (um ?_))
 refine uv (B7 rfl rfl) (Aa ?_)
 refine cQ (fun ao => ?_) fun ao => ?_
 ·have bx := Bf ay ao
  refine AN (um (ua (Aa ?_)))
  refine kW kn ?_
  refine Ao (Ah ?_)
  refine BU results238 ?_
  obtain rfl := AL bx
  exact rfl
 have bz := Bg ay ao
 refine Aq (As ?_)
 refine Ap (AN (uv (Ae IQ rfl) (uv (An isAgg36 rfl (Has.own 0 rfl) rfl) (uv (BP rfl rfl) ?_))))
 refine Bi 0 rfl bc ?_; intro az ah ai
 refine AI rfl ?_
 replace ad := ad.mono (CD (n := 2) (sz := 1) (A4 .i64)) ah
 replace ab := ab.mono (Au (Ac _) EL) ah
 replace aa := aa.mono (Ar (Ac _)) ah
 have aq : HG Tryz.prog az 266 #[] #[.pointer (some ⟨b1, 0, none⟩)] (BK 1 (iE .i64)) Value.bool (fun aj : (List Int) => Iq aj Ad AZ Ab ae) := ⟨call266, fun F2 h2 vs aj r ha hr => by obtain ⟨cq, ct, rfl, ca⟩ := ha; exact QX ca (h2 _ _ ai) (ad.mono (CD (n := 2) (sz := 1) (A4 .i64)) h2) (ab.mono (Au (Ac _) EL) h2) (aa.mono (Ar (Ac _)) h2) hr⟩
 obtain ⟨cu, cb, ba⟩ := AG bz
 refine cV call265 (L4 aa aq cb) (uv (BC rfl) ?_)
 refine ua (Aa ?_)
 refine A5 rfl (fun ar => ?_) (fun ar => ?_)
 ·have cd := bt ba ar
  refine AN (ua (Aa (Ao (AA (Ah ?_)))))
  refine BU results238 ?_
  obtain rfl := AL cd
  exact rfl
 have cf := bf ba ar
 refine AN (uv (Ae IQ rfl) (uv (An isAgg36 rfl (Has.frozen ai) rfl) ?_))
 have au : HG Tryz.prog az 269 #[] #[] (BK 1 (iE .i64)) Value.bool (fun aj : (List Int) => Hr aj) := ⟨call269, fun F2 h2 vs aj r ha hr => by obtain ⟨cv, cw, rfl, cg⟩ := ha; exact QI cg hr⟩
 obtain ⟨cx, cj, bb⟩ := AG cf
 refine cV call265 (L4 aa au cj) (uv (BC rfl) ?_)
 refine ua (Aa ?_)
 refine A5 rfl (fun av => ?_) (fun av => ?_)
 ·have ck := bt bb av
  refine AN (ua (Aa (Ao (AA (Ah ?_)))))
  refine BU results238 ?_
  obtain rfl := AL ck
  exact rfl
 have cn := bf bb av
 refine Aq (AD (id := 0) (AN (ua (Aa (Ao ?_)))))
 refine BU results238 ?_
 obtain rfl := AL cn
 exact rfl
set_option maxHeartbeats 1000000 in
theorem RJ {Ab : List (Int × Bool)} {aa : List (List Int)} (ae : Av 2 (IZ 2 (cI .i64)) F AX AY AZ) (ab : Av 2 (Br (iE .i64) bE) F Aj Ai Ab) (ah : Av 1 (BK 1 (iE .i64)) F AP AO aa) {r : Int} {r2 : List (List Int)} {r3 : List (Int × Bool)} {r4 : List (List Int)} {r5 : List (Int × Int)} {r6 : List ((List Int) × Bool)} {r7 r8 : List Int} {r9 : Int} (hr : J1 Ad AZ Ab aa = some (r, r2, r3, r4, r5, r6, r7, r8, r9)) :
    SH.Spec Tryz.prog 208 #[.agg #[.int .i64 Ad, .slice AX AZ.length AY, .slice Aj Ab.length Ai, .slice AP aa.length AO]] F [] fun F' L' v => ∃ (rb : Nat) (ij : Option Addr) (ik : Nat) (il : Option Addr) (im : Nat) (iq : Option Addr) (ir : Nat) (iu : Option Addr) (iv : Nat) (iw : Nat) (ct : Array MapEntry) (eu : Nat), v = .tuple #[.pointer (some ⟨rb, 0, none⟩), .int .i64 r9] ∧ L' = [(rb, ce ((([.int .i64 r] : List Value) ++ (([.slice ij r2.length ik] : List Value) ++ (([.slice il r3.length im] : List Value) ++ (([.slice iq r4.length ir] : List Value) ++ (([.slice iu r5.length iv] : List Value) ++ (([.map (some iw)] : List Value) ++ (r7.flatMap (cI .i64) ++ (r8.flatMap (cI .i64))))))))).toArray) 304)] ∧ Av 2 (IZ 2 (cI .i64)) F' ij ik r2 ∧ Av 2 (Br (iE .i64) bE) F' il im r3 ∧ Av 1 (BK 1 (iE .i64)) F' iq ir r4 ∧ Av 2 (Br (iE .i64) (iE .i64)) F' iu iv r5 ∧ F' iw = some (.map ct eu) ∧ FK Gz (vA (cA (cI .i64))) Value.bool ct r6 ∧ r7.length = 8 ∧ r8.length = 8 := by
 refine sp func208 ntmps208 fun K _ _ => ?_
 rw [J1] at hr
 refine AN ?_
 refine Bt rfl rfl ?_; intro b1 lh
 refine ua (ua (Aa (As (AN ?_))))
 refine uv (AS (cs := #[.int .i64 Ad, .slice AX AZ.length AY, .slice Aj Ab.length Ai, .slice AP aa.length AO]) isAgg113 sizeOf113 rfl (Has.own 0 rfl) (CK rfl) rfl) ?_
 obtain ⟨n, h2, jh⟩ := AG hr
 refine cV call238 (SL ae ab ah h2) ?_
 refine ua (BX (um ?_))
 refine uv (B7 rfl rfl) (Aa ?_)
 obtain ⟨ji, jj⟩ := A1 jh
 refine Ja rfl (fun iy => absurd iy ji) (fun iy => ?_)
 refine Aq (AN ?_)
 refine uv (AS (cs := #[.int .i64 Ad, .slice AX AZ.length AY, .slice Aj Ab.length Ai, .slice AP aa.length AO]) isAgg113 sizeOf113 rfl (Has.own 0 rfl) (CK rfl) rfl) ?_
 refine LX rfl ?_; intro ai ew
 refine uv (BH (v := .agg ((([.int .i64 Ad] : List Value) ++ (([.slice AX AZ.length AY] : List Value) ++ (([.slice Aj Ab.length Ai] : List Value) ++ (([.slice AP aa.length AO] : List Value) ++ (([.slice none 0 0] : List Value) ++ (([.map (some ai)] : List Value) ++ ((List.replicate 8 0).flatMap (cI .i64) ++ ((List.replicate 8 0).flatMap (cI .i64))))))))).toArray)) rfl (by intro w; kernel_rfl)) ?_
 refine Bt rfl rfl ?_; intro ak jk
 refine ua (Aa ?_)
 obtain ⟨ay, jl, iz⟩ := AG jj
 refine A0 (fun e1 F1 L1 => ∃ (al : Array MapEntry) (ao : Nat), A3 F F1 ∧ L1 = [(ak, ce ((([.int .i64 Ad] : List Value) ++ (([.slice AX AZ.length AY] : List Value) ++ (([.slice Aj Ab.length Ai] : List Value) ++ (([.slice AP aa.length AO] : List Value) ++ (([.slice none 0 0] : List Value) ++ (([.map (some ai)] : List Value) ++ ((List.replicate 8 0).flatMap (cI .i64) ++ ((List.replicate 8 0).flatMap (cI .i64))))))))).toArray) 304), (ai, .map al ao), (b1, ce #[.int .i64 Ad, .slice AX AZ.length AY, .slice Aj Ab.length Ai, .slice AP aa.length AO] 113)] ∧ e1.sub [(1, .pointer (some ⟨b1, 0, none⟩)), (5, .pointer (some ⟨ak, 0, none⟩))] ∧ FK Gz (vA (cA (cI .i64))) Value.bool al ay) ?_ ?_
 ·clear iz
  refine AN (uv (Ae Ny rfl) (uv (An isAgg111 rfl (Has.own 2 rfl) rfl) (uv (A7 underlying111 rfl) ?_)))
  refine um (Aa ?_)
  refine Ap ?_
  refine Bh (fun j0 e1 F1 L1 => LA AZ j0 fun tl k => ∃ (aq : List ((List Int) × Bool)) (ax : Array MapEntry) (bc : Nat), GW tl aq = some ay ∧ A3 F F1 ∧ L1 = [(ak, ce ((([.int .i64 Ad] : List Value) ++ (([.slice AX AZ.length AY] : List Value) ++ (([.slice Aj Ab.length Ai] : List Value) ++ (([.slice AP aa.length AO] : List Value) ++ (([.slice none 0 0] : List Value) ++ (([.map (some ai)] : List Value) ++ ((List.replicate 8 0).flatMap (cI .i64) ++ ((List.replicate 8 0).flatMap (cI .i64))))))))).toArray) 304), (ai, .map ax bc), (b1, ce #[.int .i64 Ad, .slice AX AZ.length AY, .slice Aj Ab.length Ai, .slice AP aa.length AO] 113)] ∧ e1.sub [(1, .pointer (some ⟨b1, 0, none⟩)), (5, .pointer (some ⟨ak, 0, none⟩)), (22, .slice AX AZ.length AY), (23, .int .i64 (AZ.length : Int)), (24, .int .i64 k)] ∧ FK Gz (vA (cA (cI .i64))) Value.bool ax aq) _ (m0 kr ⟨_, _, rfl, BL.start _, [], #[], 0, jl, A3.refl _, rfl, z5, FK.nil⟩) ?_
  rintro j0 e1 lj _ ⟨tl, k, ey, cd, aq, ax, bc, ej, cf, rfl, ez, cu⟩
  refine AB _ ez ?_
  replace ae := ae.mono (CD (n := 2) (sz := 1) (A4 .i64)) cf
  refine AN (uv (Bb rfl rfl) ?_)
  refine Aa (As ?_)
  refine cQ (fun en => ?_) fun en => ?_
  ·obtain ⟨x, lk, rfl, fa, j1, fb⟩ := BL.succ cd en
   rw [GW] at ej
   refine Aq (As ?_)
   refine Ap (AN ?_)
   obtain ⟨ll, lq, lr, jm, fe, ff, bw, ⟨rfl, fg⟩, fh, fi⟩ := Av.at (CD (n := 2) (sz := 1) (A4 .i64)) ae ([(ak, ce ((([.int .i64 Ad] : List Value) ++ (([.slice AX AZ.length AY] : List Value) ++ (([.slice Aj Ab.length Ai] : List Value) ++ (([.slice AP aa.length AO] : List Value) ++ (([.slice none 0 0] : List Value) ++ (([.map (some ai)] : List Value) ++ ((List.replicate 8 0).flatMap (cI .i64) ++ ((List.replicate 8 0).flatMap (cI .i64))))))))).toArray) 304), (ai, .map ax bc), (b1, ce #[.int .i64 Ad, .slice AX AZ.length AY, .slice Aj Ab.length Ai, .slice AP aa.length AO] 113)]) j1.1 fa
   refine uv (AK underlying111 sizeOf355 rfl fe rfl j1) (uv (AS (cs := arr (cI .i64) x) isAgg355 sizeOf355 rfl ff bw (BB bw fh fi)) ?_)
   refine Bo rfl zeroValue355 ?_; intro eo jn
   refine AI (L' := [(eo, ce (arr (cI .i64) (List.replicate 2 0)) 355), (ak, ce ((([.int .i64 Ad] : List Value) ++ (([.slice AX AZ.length AY] : List Value) ++ (([.slice Aj Ab.length Ai] : List Value) ++ (([.slice AP aa.length AO] : List Value) ++ (([.slice none 0 0] : List Value) ++ (([.map (some ai)] : List Value) ++ ((List.replicate 8 0).flatMap (cI .i64) ++ ((List.replicate 8 0).flatMap (cI .i64))))))))).toArray) 304), (ai, .map ax bc), (b1, ce #[.int .i64 Ad, .slice AX AZ.length AY, .slice Aj Ab.length Ai, .slice AP aa.length AO] 113)]) rfl (Ef (i := 0) sizeOf355 rfl rfl rfl (Ci (A4 .i64) List.length_replicate) (Ci (A4 .i64) fg) (Hc (A4 .i64)) (AI (L' := [(eo, ce (arr (cI .i64) x) 355), (ak, ce ((([.int .i64 Ad] : List Value) ++ (([.slice AX AZ.length AY] : List Value) ++ (([.slice Aj Ab.length Ai] : List Value) ++ (([.slice AP aa.length AO] : List Value) ++ (([.slice none 0 0] : List Value) ++ (([.map (some ai)] : List Value) ++ ((List.replicate 8 0).flatMap (cI .i64) ++ ((List.replicate 8 0).flatMap (cI .i64))))))))).toArray) 304), (ai, .map ax bc), (b1, ce #[.int .i64 Ad, .slice AX AZ.length AY, .slice Aj Ab.length Ai, .slice AP aa.length AO] 113)]) rfl (Aa (Dp [(.still, 0), (.still, 1), (.still, 2), (.still, 3), (.still, 4), (.seq, 5), (.seq, 6)] (by kernel_rfl) (by kernel_rfl) (trivial) (by rfl) (by kernel_rfl) (mS [5] rfl (Bw rfl) (mS [28] rfl (A2 rfl) (mS [29] rfl (Ae WZ rfl) ?_)))))))
   refine mL [30] ([(ak, ce ((([.int .i64 Ad] : List Value) ++ (([.slice AX AZ.length AY] : List Value) ++ (([.slice Aj Ab.length Ai] : List Value) ++ (([.slice AP aa.length AO] : List Value) ++ (([.slice none 0 0] : List Value) ++ (([.map (some ai)] : List Value) ++ ((List.replicate 8 0).flatMap (cI .i64) ++ ((List.replicate 8 0).flatMap (cI .i64))))))))).toArray) 304)]) rfl (s0 (s1 (s2 (s1 (s1 sr))))) (fun H F' L' bn bo => An isAgg302 rfl ((Has.own 0 rfl).ext bn bo) (E8 (At (A := ([.int .i64 Ad] : List Value)) (k := 1) (o := 4) rfl (At (A := ([.slice AX AZ.length AY] : List Value)) (k := 1) (o := 3) rfl (At (A := ([.slice Aj Ab.length Ai] : List Value)) (k := 1) (o := 2) rfl (At (A := ([.slice AP aa.length AO] : List Value)) (k := 1) (o := 1) rfl (At (A := ([.slice none 0 0] : List Value)) (k := 1) (o := 0) rfl (Bm (B := (List.replicate 8 0).flatMap (cI .i64) ++ ((List.replicate 8 0).flatMap (cI .i64))) rfl)))))))) (mL [7] ([(eo, ce (arr (cI .i64) x) 355)]) rfl (s0 (s2 (s1 (s1 (s1 sr))))) (fun H F' L' bn bo => Gq isAgg355 sizeOf355 rfl ((Has.own 0 rfl).ext bn bo) (Ci (A4 .i64) fg)) ?_)
   refine ⟨_, [(32, .agg (arr (cI .i64) x))], rfl, rfl, z1, by kernel_rfl, ?_⟩; intro H
   obtain ⟨a, jo, jq⟩ := AG ej
   refine c0 call239 (Nw fg jo) ?_; rintro _ lu _ cg jr ⟨rfl, rfl, js⟩
   replace ae := ae.mono (CD (n := 2) (sz := 1) (A4 .i64)) cg
   refine AI (ln rfl) ?_
   refine Aa ⟨_, rfl, cg, [3, 2, 1, 0], by kernel_rfl, .inl (.inr (fun d h => by cases h; rfl)), (fc (s0 (s1 (s2 (s1 (s1 sr))))) (fc sm (fc sm (fc sm nm)))), ?_⟩
   refine ⟨_, [(31, .map (some ai)), (33, .agg (arr (cI .i64) a))], rfl, rfl, z2, by kernel_rfl, ?_⟩; intro H
   obtain ⟨jt, ju⟩ := A1 jq
   refine MA (i := 2) (k := a) (v := true) underlying302 Ss rfl rfl rfl rfl (show FK Gz (vA (cA (cI .i64))) Value.bool ax (aq : List ((List Int) × Bool)) from cu) ⟨js, jt⟩ ?_; intro cv cw cx
   obtain ⟨met, jv, jw⟩ := CH ju
   rw [← jv] at cx
   refine AI (L' := [(eo, ce (arr (cI .i64) x) 355), (ak, ce ((([.int .i64 Ad] : List Value) ++ (([.slice AX AZ.length AY] : List Value) ++ (([.slice Aj Ab.length Ai] : List Value) ++ (([.slice AP aa.length AO] : List Value) ++ (([.slice none 0 0] : List Value) ++ (([.map (some ai)] : List Value) ++ ((List.replicate 8 0).flatMap (cI .i64) ++ ((List.replicate 8 0).flatMap (cI .i64))))))))).toArray) 304), (ai, .map cv cw), (b1, ce #[.int .i64 Ad, .slice AX AZ.length AY, .slice Aj Ab.length Ai, .slice AP aa.length AO] 113)]) rfl ?_
   refine Aa ⟨undef, rfl, A3.refl _, [], by kernel_rfl, .inl (.inl rfl), nm, ?_⟩
   refine Ff ?_
   refine AD (id := 1) (Am ?_)
   refine uv (Bd rfl rfl (BL.Eg cd en (Av.lt ae))) ?_
   refine um (Aa ?_)
   subst ey; exact le (kd kr) ⟨_, _, rfl, fb, met, cv, cw, jw, (cf.trans cg), rfl, z5, cx⟩
  obtain rfl := BL.zero cd en
  rw [GW] at ej
  refine AT (Af (Af ?_))
  refine Ay ?_
  obtain rfl := AL ej
  exact mi kr ⟨ax, bc, cf, rfl, z2, cu⟩
 rintro e1 cp _ ⟨al, ao, cj, rfl, fj, fk⟩
 refine AB _ fj ?_
 replace ae := ae.mono (CD (n := 2) (sz := 1) (A4 .i64)) cj
 replace ab := ab.mono (Au (Ac _) EL) cj
 replace ah := ah.mono (Ar (Ac _)) cj
 obtain ⟨ad, jx, j2⟩ := AG iz
 refine A0 (fun e1 F1 L1 => cp = F1 ∧ L1 = [(ak, ce ((([.int .i64 Ad] : List Value) ++ (([.slice AX AZ.length AY] : List Value) ++ (([.slice Aj Ab.length Ai] : List Value) ++ (([.slice AP aa.length AO] : List Value) ++ (([.slice none 0 0] : List Value) ++ (([.map (some ai)] : List Value) ++ (ad.flatMap (cI .i64) ++ ((List.replicate 8 0).flatMap (cI .i64))))))))).toArray) 304), (ai, .map al ao), (b1, ce #[.int .i64 Ad, .slice AX AZ.length AY, .slice Aj Ab.length Ai, .slice AP aa.length AO] 113)] ∧ e1.sub [(1, .pointer (some ⟨b1, 0, none⟩)), (5, .pointer (some ⟨ak, 0, none⟩))] ∧ ad.length = 8) ?_ ?_
 ·clear j2
  refine AN (uv (Ae Js rfl) (uv (An isAgg110 rfl (Has.own 2 rfl) rfl) (uv (A7 underlying110 rfl) ?_)))
  refine um (Aa ?_)
  refine Ap ?_
  refine Bh (fun j3 e1 F1 L1 => LA Ab j3 fun j4 k2 => ∃ (aj : List Int), FE j4 k2 aj = some ad ∧ cp = F1 ∧ L1 = [(ak, ce ((([.int .i64 Ad] : List Value) ++ (([.slice AX AZ.length AY] : List Value) ++ (([.slice Aj Ab.length Ai] : List Value) ++ (([.slice AP aa.length AO] : List Value) ++ (([.slice none 0 0] : List Value) ++ (([.map (some ai)] : List Value) ++ (aj.flatMap (cI .i64) ++ ((List.replicate 8 0).flatMap (cI .i64))))))))).toArray) 304), (ai, .map al ao), (b1, ce #[.int .i64 Ad, .slice AX AZ.length AY, .slice Aj Ab.length Ai, .slice AP aa.length AO] 113)] ∧ e1.sub [(1, .pointer (some ⟨b1, 0, none⟩)), (5, .pointer (some ⟨ak, 0, none⟩)), (36, .slice Aj Ab.length Ai), (37, .int .i64 (Ab.length : Int)), (38, .int .i64 k2)] ∧ aj.length = 8) _ (m0 kr ⟨_, _, rfl, BL.start _, List.replicate 8 0, jx, rfl, rfl, z5, List.length_replicate⟩) ?_
  rintro j3 e1 _ _ ⟨j4, k2, cy, bp, aj, ep, rfl, rfl, fl, cq⟩
  refine AB _ fl (AN (uv (Bb rfl rfl) ?_))
  refine Aa (As ?_)
  refine cQ (fun cz => ?_) fun cz => ?_
  ·obtain ⟨x2, lv, rfl, fm, j5, da⟩ := BL.succ bp cz
   rw [FE] at ep
   refine Aq (As ?_)
   refine Ap ?_
   refine AN (um ?_)
   obtain ⟨lx, ly, ma, jz, fo, fp, bx, ⟨_, _, rfl, rfl, rfl⟩, fq, ft⟩ := Av.at (Au (Ac _) EL) ab ([(ak, ce ((([.int .i64 Ad] : List Value) ++ (([.slice AX AZ.length AY] : List Value) ++ (([.slice Aj Ab.length Ai] : List Value) ++ (([.slice AP aa.length AO] : List Value) ++ (([.slice none 0 0] : List Value) ++ (([.map (some ai)] : List Value) ++ (aj.flatMap (cI .i64) ++ ((List.replicate 8 0).flatMap (cI .i64))))))))).toArray) 304), (ai, .map al ao), (b1, ce #[.int .i64 Ad, .slice AX AZ.length AY, .slice Aj Ab.length Ai, .slice AP aa.length AO] 113)]) j5.1 fm
   refine uv (AK underlying110 sizeOf109 rfl fo rfl j5) (uv (AS (cs := #[.int .i64 x2.1, .bool x2.2]) isAgg109 sizeOf109 rfl fp bx (BB bx fq ft)) ?_)
   refine Bo rfl zeroValue109 ?_; intro er kb
   refine ua (B1 (i := 0) sizeOf109 rfl rfl rfl (by simp [Value.oneCell']) rfl (CK rfl) (AI (L' := [(er, ce #[.int .i64 x2.1, .bool x2.2] 109), (ak, ce ((([.int .i64 Ad] : List Value) ++ (([.slice AX AZ.length AY] : List Value) ++ (([.slice Aj Ab.length Ai] : List Value) ++ (([.slice AP aa.length AO] : List Value) ++ (([.slice none 0 0] : List Value) ++ (([.map (some ai)] : List Value) ++ (aj.flatMap (cI .i64) ++ ((List.replicate 8 0).flatMap (cI .i64))))))))).toArray) 304), (ai, .map al ao), (b1, ce #[.int .i64 Ad, .slice AX AZ.length AY, .slice Aj Ab.length Ai, .slice AP aa.length AO] 113)]) rfl ?_))
   refine BX (um (um (um ?_)))
   refine uv (A2 rfl) (uv (Ae KR rfl) ?_)
   obtain ⟨x3, j6, kh, kj⟩ := Bx ep
   refine uv (Bj underlying231 sizeOf3 rfl rfl (Gx cq j6)) ?_
   obtain ⟨ws, j7, j8⟩ := CH kj
   have bd : ws.length = 8 := by rw [j7, List.length_set]; exact cq
   refine H4 (i := 1) sizeOf3 rfl (by omega) rfl rfl rfl (BV (A := ([.int .i64 Ad] : List Value)) (k := 1) rfl (BV (A := ([.slice AX AZ.length AY] : List Value)) (k := 1) rfl (BV (A := ([.slice Aj Ab.length Ai] : List Value)) (k := 1) rfl (BV (A := ([.slice AP aa.length AO] : List Value)) (k := 1) rfl (BV (A := ([.slice none 0 0] : List Value)) (k := 1) rfl (BV (A := ([.map (some ai)] : List Value)) (k := 1) rfl (NC (B := (List.replicate 8 0).flatMap (cI .i64)) (Px (p := (k2 : Int).toNat) (A4 .i64) (u := k2) rfl cq (by have := (Gx cq j6); have := cq; omega) cp)))))))) ?_
   refine AI (L' := [(er, ce #[.int .i64 x2.1, .bool x2.2] 109), (ak, ce ((([.int .i64 Ad] : List Value) ++ (([.slice AX AZ.length AY] : List Value) ++ (([.slice Aj Ab.length Ai] : List Value) ++ (([.slice AP aa.length AO] : List Value) ++ (([.slice none 0 0] : List Value) ++ (([.map (some ai)] : List Value) ++ (ws.flatMap (cI .i64) ++ ((List.replicate 8 0).flatMap (cI .i64))))))))).toArray) 304), (ai, .map al ao), (b1, ce #[.int .i64 Ad, .slice AX AZ.length AY, .slice Aj Ab.length Ai, .slice AP aa.length AO] 113)]) (by rw [j7]; rfl) ?_
   refine BX (uv (Ae Me rfl) (uv (An isAgg3 rfl (Has.own 0 rfl) rfl) (uv (B7 rfl rfl) (Aa ?_))))
   refine cQ (fun fv => ?_) fun fv => ?_
   ·have kl := Bf j8 fv
    refine Dp [(.still, 0), (.still, 1), (.still, 2), (.still, 3), (.still, 4), (.still, 5), (.still, 6), (.still, 7), (.still, 8), (.still, 9), (.still, 10), (.still, 11), (.seq, 12)] (by kernel_rfl) (by kernel_rfl) (trivial) (by rfl) (by kernel_rfl) (mS [5] rfl (Bw rfl) (mS [8] rfl (Bw rfl) (mS [5] rfl (Bw rfl) (mS [9] rfl (Ae Me rfl) (mL [55] ([(er, ce #[.int .i64 x2.1, .bool x2.2] 109)]) rfl (s0 (s2 (s1 (s1 (s1 sr))))) (fun H F' L' bn bo => An isAgg3 rfl ((Has.own 0 rfl).ext bn bo) rfl) (mS [54] rfl (A2 rfl) (mS [57] rfl (Ae KR rfl) ?_)))))))
    obtain ⟨x4, km, fw, ko⟩ := Bx kl
    have fx := QE (A4 .i64) bd fw (FY (At (A := ([.int .i64 Ad] : List Value)) (k := 1) (o := 5) rfl (At (A := ([.slice AX AZ.length AY] : List Value)) (k := 1) (o := 4) rfl (At (A := ([.slice Aj Ab.length Ai] : List Value)) (k := 1) (o := 3) rfl (At (A := ([.slice AP aa.length AO] : List Value)) (k := 1) (o := 2) rfl (At (A := ([.slice none 0 0] : List Value)) (k := 1) (o := 1) rfl (At (A := ([.map (some ai)] : List Value)) (k := 1) (o := 0) rfl (Bm (B := (List.replicate 8 0).flatMap (cI .i64)) (DM (A4 .i64) bd))))))))) (Eb (At (A := ([.int .i64 Ad] : List Value)) (k := 1) (o := 5) rfl (At (A := ([.slice AX AZ.length AY] : List Value)) (k := 1) (o := 4) rfl (At (A := ([.slice Aj Ab.length Ai] : List Value)) (k := 1) (o := 3) rfl (At (A := ([.slice AP aa.length AO] : List Value)) (k := 1) (o := 2) rfl (At (A := ([.slice none 0 0] : List Value)) (k := 1) (o := 1) rfl (At (A := ([.map (some ai)] : List Value)) (k := 1) (o := 0) rfl (Bm (B := (List.replicate 8 0).flatMap (cI .i64)) (DM (A4 .i64) bd))))))))) (DM (A4 .i64) bd)
    refine mS [56, 58] rfl (Bj underlying231 sizeOf3 rfl rfl (Gx bd km)) (mL [59] ([(ak, ce ((([.int .i64 Ad] : List Value) ++ (([.slice AX AZ.length AY] : List Value) ++ (([.slice Aj Ab.length Ai] : List Value) ++ (([.slice AP aa.length AO] : List Value) ++ (([.slice none 0 0] : List Value) ++ (([.map (some ai)] : List Value) ++ (ws.flatMap (cI .i64) ++ ((List.replicate 8 0).flatMap (cI .i64))))))))).toArray) 304)]) rfl (s0 (s1 (s2 (s1 (s1 sr))))) (fun H F' L' bn bo => An isAgg3 rfl ((Has.own 0 rfl).ext bn bo) ((fx).2.2 0 (by decide))) (mS [52] rfl (A2 rfl) (mS [61] rfl (Ae KR rfl) ?_)))
    obtain ⟨x5, j9, ja, fy⟩ := Bx ko
    refine mS [53, 62] rfl (Bj underlying231 sizeOf3 rfl rfl (Gx bd j9)) ?_
    refine ⟨_, [(60, .int .i64 x4), (63, .pointer (some ⟨ak, 6 + (k2 : Int).toNat * 1, none⟩))], rfl, rfl, z2, by kernel_rfl, ?_⟩; intro H
    obtain ⟨ga, db, gb⟩ := CH fy
    have gg : ga.length = 8 := by rw [db, List.length_set]; exact bd
    refine H4 (i := 1) sizeOf3 rfl (by omega) rfl rfl rfl (BV (A := ([.int .i64 Ad] : List Value)) (k := 1) rfl (BV (A := ([.slice AX AZ.length AY] : List Value)) (k := 1) rfl (BV (A := ([.slice Aj Ab.length Ai] : List Value)) (k := 1) rfl (BV (A := ([.slice AP aa.length AO] : List Value)) (k := 1) rfl (BV (A := ([.slice none 0 0] : List Value)) (k := 1) rfl (BV (A := ([.map (some ai)] : List Value)) (k := 1) rfl (NC (B := (List.replicate 8 0).flatMap (cI .i64)) (Px (p := (k2 : Int).toNat) (A4 .i64) (u := x4) rfl bd (by have := (Gx bd j9); have := bd; omega) cp)))))))) ?_
    refine AI (L' := [(er, ce #[.int .i64 x2.1, .bool x2.2] 109), (ak, ce ((([.int .i64 Ad] : List Value) ++ (([.slice AX AZ.length AY] : List Value) ++ (([.slice Aj Ab.length Ai] : List Value) ++ (([.slice AP aa.length AO] : List Value) ++ (([.slice none 0 0] : List Value) ++ (([.map (some ai)] : List Value) ++ (ga.flatMap (cI .i64) ++ ((List.replicate 8 0).flatMap (cI .i64))))))))).toArray) 304), (ai, .map al ao), (b1, ce #[.int .i64 Ad, .slice AX AZ.length AY, .slice Aj Ab.length Ai, .slice AP aa.length AO] 113)]) (by rw [db]; rfl) ?_
    refine Aa ⟨undef, rfl, A3.refl _, [], by kernel_rfl, .inl (.inl rfl), nm, ?_⟩
    refine Ff ?_
    refine AD (id := 3) (Am ?_)
    refine uv (Bd rfl rfl (BL.Eg bp cz (Av.lt ab))) ?_
    refine um (Aa ?_)
    subst cy; exact le (kd kr) ⟨_, _, rfl, da, ga, gb, rfl, rfl, z5, gg⟩
   have gh := Bg j8 fv
   refine Aq (AD (id := 3) (Am ?_))
   refine uv (Bd rfl rfl (BL.Eg bp cz (Av.lt ab))) ?_
   refine um (Aa ?_)
   subst cy; exact le (kd kr) ⟨_, _, rfl, da, ws, gh, rfl, rfl, z5, bd⟩
  obtain rfl := BL.zero bp cz
  rw [FE] at ep
  refine AT (Af (Af ?_))
  refine Ay ?_
  obtain rfl := AL ep
  exact mi kr ⟨rfl, rfl, z2, cq⟩
 rintro e1 _ _ ⟨rfl, rfl, dd, az⟩
 refine AB _ dd ?_
 obtain ⟨aw, gk, de⟩ := AG j2
 refine A0 (fun e1 F1 L1 => A3 cp F1 ∧ L1 = [(ak, ce ((([.int .i64 Ad] : List Value) ++ (([.slice AX AZ.length AY] : List Value) ++ (([.slice Aj Ab.length Ai] : List Value) ++ (([.slice AP aa.length AO] : List Value) ++ (([.slice none 0 0] : List Value) ++ (([.map (some ai)] : List Value) ++ (ad.flatMap (cI .i64) ++ (aw.flatMap (cI .i64))))))))).toArray) 304), (ai, .map al ao)] ∧ e1.sub [(5, .pointer (some ⟨ak, 0, none⟩))] ∧ aw.length = 8) ?_ ?_
 ·clear de
  refine AN (uv (Ae Js rfl) (uv (An isAgg110 rfl (Has.own 2 rfl) rfl) (uv (A7 underlying110 rfl) ?_)))
  refine um (Aa ?_)
  refine Ap ?_
  refine Bh (fun jb e1 F1 L1 => LA Ab jb fun jc k3 => ∃ (ar : List Int), G5 Ab ad jc k3 ar = some aw ∧ A3 cp F1 ∧ L1 = [(ak, ce ((([.int .i64 Ad] : List Value) ++ (([.slice AX AZ.length AY] : List Value) ++ (([.slice Aj Ab.length Ai] : List Value) ++ (([.slice AP aa.length AO] : List Value) ++ (([.slice none 0 0] : List Value) ++ (([.map (some ai)] : List Value) ++ (ad.flatMap (cI .i64) ++ (ar.flatMap (cI .i64))))))))).toArray) 304), (ai, .map al ao), (b1, ce #[.int .i64 Ad, .slice AX AZ.length AY, .slice Aj Ab.length Ai, .slice AP aa.length AO] 113)] ∧ e1.sub [(1, .pointer (some ⟨b1, 0, none⟩)), (5, .pointer (some ⟨ak, 0, none⟩)), (67, .int .i64 (Ab.length : Int)), (68, .int .i64 k3)] ∧ ar.length = 8) _ (m0 kr ⟨_, _, rfl, BL.start _, List.replicate 8 0, gk, A3.refl _, rfl, z4, List.length_replicate⟩) ?_
  rintro jb e1 df _ ⟨jc, k3, dg, bg, ar, bq, bh, rfl, dh, di⟩
  refine AB _ dh ?_
  replace ab := ab.mono (Au (Ac _) EL) bh
  refine AN (uv (Bb rfl rfl) ?_)
  refine Aa (As ?_)
  refine cQ (fun br => ?_) fun br => ?_
  ·obtain ⟨x6, mb, rfl, jd, kt, dk⟩ := BL.succ bg br
   rw [G5] at bq
   refine Aq ?_
   obtain ⟨av, gl, dm⟩ := AG bq
   refine A0 (fun e1 F1 L1 => A3 df F1 ∧ L1 = [(ak, ce ((([.int .i64 Ad] : List Value) ++ (([.slice AX AZ.length AY] : List Value) ++ (([.slice Aj Ab.length Ai] : List Value) ++ (([.slice AP aa.length AO] : List Value) ++ (([.slice none 0 0] : List Value) ++ (([.map (some ai)] : List Value) ++ (ad.flatMap (cI .i64) ++ (av.flatMap (cI .i64))))))))).toArray) 304), (ai, .map al ao), (b1, ce #[.int .i64 Ad, .slice AX AZ.length AY, .slice Aj Ab.length Ai, .slice AP aa.length AO] 113)] ∧ e1.sub [(1, .pointer (some ⟨b1, 0, none⟩)), (5, .pointer (some ⟨ak, 0, none⟩)), (67, .int .i64 (Ab.length : Int)), (68, .int .i64 k3)] ∧ av.length = 8) ?_ ?_
   ·clear dm
    refine Ap ?_
    refine AN (um (ua (BX ?_)))
    refine uv (Ae Js rfl) (uv (An isAgg110 rfl (Has.own 2 rfl) rfl) (uv (A7 underlying110 rfl) ?_))
    refine um (Aa ?_)
    refine Ap ?_
    refine Bh (fun je e1 F1 L1 => LA Ab je fun jf k4 => ∃ (af : List Int), GO ad k3 jf k4 af = some av ∧ A3 df F1 ∧ L1 = [(ak, ce ((([.int .i64 Ad] : List Value) ++ (([.slice AX AZ.length AY] : List Value) ++ (([.slice Aj Ab.length Ai] : List Value) ++ (([.slice AP aa.length AO] : List Value) ++ (([.slice none 0 0] : List Value) ++ (([.map (some ai)] : List Value) ++ (ad.flatMap (cI .i64) ++ (af.flatMap (cI .i64))))))))).toArray) 304), (ai, .map al ao), (b1, ce #[.int .i64 Ad, .slice AX AZ.length AY, .slice Aj Ab.length Ai, .slice AP aa.length AO] 113)] ∧ e1.sub [(1, .pointer (some ⟨b1, 0, none⟩)), (5, .pointer (some ⟨ak, 0, none⟩)), (10, .int .i64 k3), (67, .int .i64 (Ab.length : Int)), (68, .int .i64 k3), (73, .int .i64 (Ab.length : Int)), (74, .int .i64 k4)] ∧ af.length = 8) _ (m0 kr ⟨_, _, rfl, BL.start _, ar, gl, A3.refl _, rfl, z7, di⟩) ?_
    rintro je e1 ku _ ⟨jf, k4, bz, ba, af, bu, bb, rfl, dn, au⟩
    refine AB _ dn ?_
    replace ab := ab.mono (Au (Ac _) EL) bb
    refine AN (uv (Bb rfl rfl) ?_)
    refine Aa (As ?_)
    refine cQ (fun bj => ?_) fun bj => ?_
    ·obtain ⟨x7, mc, rfl, jg, kv, ca⟩ := BL.succ ba bj
     rw [GO] at bu
     refine Aq (As ?_)
     refine Ap ?_
     refine AN (um (ua ?_))
     refine dN ?_
     refine wm (wm ?_)
     refine wv (A2 rfl) (wv (Ae KR rfl) ?_)
     obtain ⟨x8, gm, dp, gn⟩ := Bx bu
     have dq := QE (A4 .i64) az dp (FY (At (A := ([.int .i64 Ad] : List Value)) (k := 1) (o := 5) rfl (At (A := ([.slice AX AZ.length AY] : List Value)) (k := 1) (o := 4) rfl (At (A := ([.slice Aj Ab.length Ai] : List Value)) (k := 1) (o := 3) rfl (At (A := ([.slice AP aa.length AO] : List Value)) (k := 1) (o := 2) rfl (At (A := ([.slice none 0 0] : List Value)) (k := 1) (o := 1) rfl (At (A := ([.map (some ai)] : List Value)) (k := 1) (o := 0) rfl (Bm (B := af.flatMap (cI .i64)) (DM (A4 .i64) az))))))))) (Eb (At (A := ([.int .i64 Ad] : List Value)) (k := 1) (o := 5) rfl (At (A := ([.slice AX AZ.length AY] : List Value)) (k := 1) (o := 4) rfl (At (A := ([.slice Aj Ab.length Ai] : List Value)) (k := 1) (o := 3) rfl (At (A := ([.slice AP aa.length AO] : List Value)) (k := 1) (o := 2) rfl (At (A := ([.slice none 0 0] : List Value)) (k := 1) (o := 1) rfl (At (A := ([.map (some ai)] : List Value)) (k := 1) (o := 0) rfl (Bm (B := af.flatMap (cI .i64)) (DM (A4 .i64) az))))))))) (DM (A4 .i64) az)
     refine wv (Bj underlying231 sizeOf3 rfl rfl (Gx az gm)) (wv (An isAgg3 rfl (Has.own 0 rfl) ((dq).2.2 0 (by decide))) ?_)
     refine wm (wm ?_)
     refine wv (A2 rfl) (wv (Ae KR rfl) ?_)
     obtain ⟨x9, gp, dr, dt⟩ := Bx gn
     have du := QE (A4 .i64) az dr (FY (At (A := ([.int .i64 Ad] : List Value)) (k := 1) (o := 5) rfl (At (A := ([.slice AX AZ.length AY] : List Value)) (k := 1) (o := 4) rfl (At (A := ([.slice Aj Ab.length Ai] : List Value)) (k := 1) (o := 3) rfl (At (A := ([.slice AP aa.length AO] : List Value)) (k := 1) (o := 2) rfl (At (A := ([.slice none 0 0] : List Value)) (k := 1) (o := 1) rfl (At (A := ([.map (some ai)] : List Value)) (k := 1) (o := 0) rfl (Bm (B := af.flatMap (cI .i64)) (DM (A4 .i64) az))))))))) (Eb (At (A := ([.int .i64 Ad] : List Value)) (k := 1) (o := 5) rfl (At (A := ([.slice AX AZ.length AY] : List Value)) (k := 1) (o := 4) rfl (At (A := ([.slice Aj Ab.length Ai] : List Value)) (k := 1) (o := 3) rfl (At (A := ([.slice AP aa.length AO] : List Value)) (k := 1) (o := 2) rfl (At (A := ([.slice none 0 0] : List Value)) (k := 1) (o := 1) rfl (At (A := ([.map (some ai)] : List Value)) (k := 1) (o := 0) rfl (Bm (B := af.flatMap (cI .i64)) (DM (A4 .i64) az))))))))) (DM (A4 .i64) az)
     refine wv (Bj underlying231 sizeOf3 rfl rfl (Gx az gp)) (wv (An isAgg3 rfl (Has.own 0 rfl) ((du).2.2 0 (by decide))) (wv (CR rfl rfl) (CQ ?_)))
     refine cQ (fun ck => ?_) fun ck => ?_
     ·have gq := Bf dt ck
      refine Dp [(.still, 0), (.still, 1), (.still, 2), (.still, 3), (.still, 4), (.still, 5), (.still, 6), (.still, 7), (.still, 8), (.still, 11), (.still, 12), (.seq, 9), (.seq, 10), (.still, 13), (.seq, 14)] (by kernel_rfl) (by kernel_rfl) (trivial) (by rfl) (by kernel_rfl) (mS [5] rfl (Bw rfl) (mS [10] rfl (Bw rfl) (mS [5] rfl (Bw rfl) (mS [10] rfl (Bw rfl) (mS [92] rfl (A2 rfl) (mS [94] rfl (Ae QR rfl) ?_))))))
      obtain ⟨kz, cn, dv, gr⟩ := Bx gq
      have dw := QE (A4 .i64) au dv (FY (At (A := ([.int .i64 Ad] : List Value)) (k := 1) (o := 13) rfl (At (A := ([.slice AX AZ.length AY] : List Value)) (k := 1) (o := 12) rfl (At (A := ([.slice Aj Ab.length Ai] : List Value)) (k := 1) (o := 11) rfl (At (A := ([.slice AP aa.length AO] : List Value)) (k := 1) (o := 10) rfl (At (A := ([.slice none 0 0] : List Value)) (k := 1) (o := 9) rfl (At (A := ([.map (some ai)] : List Value)) (k := 1) (o := 8) rfl (At (A := ad.flatMap (cI .i64)) (k := 8) (o := 0) (DM (A4 .i64) az) (Cd (DM (A4 .i64) au)))))))))) (Eb (At (A := ([.int .i64 Ad] : List Value)) (k := 1) (o := 13) rfl (At (A := ([.slice AX AZ.length AY] : List Value)) (k := 1) (o := 12) rfl (At (A := ([.slice Aj Ab.length Ai] : List Value)) (k := 1) (o := 11) rfl (At (A := ([.slice AP aa.length AO] : List Value)) (k := 1) (o := 10) rfl (At (A := ([.slice none 0 0] : List Value)) (k := 1) (o := 9) rfl (At (A := ([.map (some ai)] : List Value)) (k := 1) (o := 8) rfl (At (A := ad.flatMap (cI .i64)) (k := 8) (o := 0) (DM (A4 .i64) az) (Cd (DM (A4 .i64) au)))))))))) (DM (A4 .i64) au)
      refine mS [93, 95] rfl (Bj underlying231 sizeOf3 rfl rfl (Gx au cn)) (mL [96] ([(ak, ce ((([.int .i64 Ad] : List Value) ++ (([.slice AX AZ.length AY] : List Value) ++ (([.slice Aj Ab.length Ai] : List Value) ++ (([.slice AP aa.length AO] : List Value) ++ (([.slice none 0 0] : List Value) ++ (([.map (some ai)] : List Value) ++ (ad.flatMap (cI .i64) ++ (af.flatMap (cI .i64))))))))).toArray) 304)]) rfl (s0 (s2 (s1 (s1 sr)))) (fun H F' L' bn bo => An isAgg3 rfl ((Has.own 0 rfl).ext bn bo) ((dw).2.2 0 (by decide))) (mS [11] rfl (Bw rfl) (mS [90] rfl (A2 rfl) (mS [101] rfl (Ae QR rfl) ?_))))
      refine ⟨_, [(98, .int .i64 k4)], rfl, rfl, z1, by kernel_rfl, ?_⟩; intro H
      refine bA (cs := #[.int .i64 k4]) Cm [.int .i64 k4] ?_; intro dx dy
      refine Aa ⟨_, rfl, A3.refl _, [12, 11, 7, 6, 5, 4, 3, 2, 1, 0], by kernel_rfl, .inl (.inr (fun d h => by cases h; rfl)), (fc sm (fc sm (fc (s0 (s1 (s2 (s1 (s1 sr))))) (fc sm (fc sm (fc sm (fc sm (fc sm (fc sm (fc sm nm)))))))))), ?_⟩
      refine ⟨_, [(97, .int .i64 kz), (99, .slice (some ⟨dx, 0, none⟩) 1 1)], rfl, rfl, z2, by kernel_rfl, ?_⟩; intro H
      refine Bi 0 rfl dy ?_; intro dz bk eb
      refine AI (L' := [(ak, ce ((([.int .i64 Ad] : List Value) ++ (([.slice AX AZ.length AY] : List Value) ++ (([.slice Aj Ab.length Ai] : List Value) ++ (([.slice AP aa.length AO] : List Value) ++ (([.slice none 0 0] : List Value) ++ (([.map (some ai)] : List Value) ++ (ad.flatMap (cI .i64) ++ (af.flatMap (cI .i64))))))))).toArray) 304), (ai, .map al ao), (b1, ce #[.int .i64 Ad, .slice AX AZ.length AY, .slice Aj Ab.length Ai, .slice AP aa.length AO] 113)]) rfl ?_
      replace ab := ab.mono (Au (Ac _) EL) bk
      have gu : Av 1 (iE .i64) dz (some ⟨dx, 0, none⟩) 1 [k4] := Av.BM (Ac _) (vss := [[.int .i64 k4]]) (xs := [k4]) eb (.cons rfl .nil) rfl (by simp [maxLen])
      obtain ⟨n2, gv, gw⟩ := AG gr
      refine cV call212 (OI gu gv) ?_
      refine Aa ⟨_, rfl, bk, [12, 11, 1, 0], by kernel_rfl, .inl (.inr (fun d h => by cases h; rfl)), (fc sm (fc sm (fc sm (fc sm nm)))), ?_⟩
      refine mS [91, 102] rfl (Bj underlying231 sizeOf3 rfl rfl (Gx au cn)) ?_
      refine ⟨_, [(100, .int .i64 n2), (103, .pointer (some ⟨ak, 14 + (k3 : Int).toNat * 1, none⟩))], rfl, rfl, z2, by kernel_rfl, ?_⟩; intro H
      obtain ⟨gz, ec, ia⟩ := CH gw
      have ib : gz.length = 8 := by rw [ec, List.length_set]; exact au
      refine H4 (i := 0) sizeOf3 rfl (by omega) rfl rfl rfl (BV (A := ([.int .i64 Ad] : List Value)) (k := 1) rfl (BV (A := ([.slice AX AZ.length AY] : List Value)) (k := 1) rfl (BV (A := ([.slice Aj Ab.length Ai] : List Value)) (k := 1) rfl (BV (A := ([.slice AP aa.length AO] : List Value)) (k := 1) rfl (BV (A := ([.slice none 0 0] : List Value)) (k := 1) rfl (BV (A := ([.map (some ai)] : List Value)) (k := 1) rfl (BV (A := ad.flatMap (cI .i64)) (k := 8) (DM (A4 .i64) az) (Px (p := (k3 : Int).toNat) (A4 .i64) (u := n2) rfl au (by have := (Gx au cn); have := au; omega) dz)))))))) ?_
      refine AI (L' := [(ak, ce ((([.int .i64 Ad] : List Value) ++ (([.slice AX AZ.length AY] : List Value) ++ (([.slice Aj Ab.length Ai] : List Value) ++ (([.slice AP aa.length AO] : List Value) ++ (([.slice none 0 0] : List Value) ++ (([.map (some ai)] : List Value) ++ (ad.flatMap (cI .i64) ++ (gz.flatMap (cI .i64))))))))).toArray) 304), (ai, .map al ao), (b1, ce #[.int .i64 Ad, .slice AX AZ.length AY, .slice Aj Ab.length Ai, .slice AP aa.length AO] 113)]) (by rw [ec]; rfl) ?_
      refine Aa ⟨undef, rfl, A3.refl _, [], by kernel_rfl, .inl (.inl rfl), nm, ?_⟩
      refine Ff ?_
      refine AD (id := 7) (Am ?_)
      refine uv (Bd rfl rfl (BL.Eg ba bj (Av.lt ab))) ?_
      refine um (Aa ?_)
      subst bz; exact le kr ⟨_, _, rfl, ca, gz, ia, (bb.trans bk), rfl, z7, ib⟩
     have ic := Bg dt ck
     refine Aq (AD (id := 7) (Am ?_))
     refine uv (Bd rfl rfl (BL.Eg ba bj (Av.lt ab))) ?_
     refine um (Aa ?_)
     subst bz; exact le kr ⟨_, _, rfl, ca, af, ic, bb, rfl, z7, au⟩
    obtain rfl := BL.zero ba bj
    rw [GO] at bu
    refine AT (Af (Af ?_))
    refine Ay (AD (id := 5) ?_)
    obtain rfl := AL bu
    exact mi kr ⟨bb, rfl, z4, au⟩
   rintro e1 l0 _ ⟨cb, rfl, eg, ie⟩
   refine AB _ eg ?_
   replace ab := ab.mono (Au (Ac _) EL) cb
   refine Am (uv (Bd rfl rfl (BL.Eg bg br (Av.lt ab))) ?_)
   refine um (Aa ?_)
   subst dg; exact le kr ⟨_, _, rfl, dk, av, dm, (bh.trans cb), rfl, z4, ie⟩
  obtain rfl := BL.zero bg br
  rw [G5] at bq
  refine AT (Af (Af ?_))
  refine Ay ?_
  obtain rfl := AL bq
  exact mi (kc (kc kn)) ⟨bh, rfl, z1, di⟩
 rintro e1 ld _ ⟨bl, rfl, eh, ig⟩
 refine AB _ eh ?_
 replace ae := ae.mono (CD (n := 2) (sz := 1) (A4 .i64)) bl
 replace ab := ab.mono (Au (Ac _) EL) bl
 replace ah := ah.mono (Ar (Ac _)) bl
 refine AN (um (ua (ua (Aa ?_))))
 refine Cs 1 rfl ew ?_; intro lg bm ei
 refine E7 (L' := [(ak, ce ((([.int .i64 Ad] : List Value) ++ (([.slice AX AZ.length AY] : List Value) ++ (([.slice Aj Ab.length Ai] : List Value) ++ (([.slice AP aa.length AO] : List Value) ++ (([.slice none 0 0] : List Value) ++ (([.map (some ai)] : List Value) ++ (ad.flatMap (cI .i64) ++ (aw.flatMap (cI .i64))))))))).toArray) 304)]) rfl ?_
 replace ae := ae.mono (CD (n := 2) (sz := 1) (A4 .i64)) bm
 replace ab := ab.mono (Au (Ac _) EL) bm
 replace ah := ah.mono (Ar (Ac _)) bm
 refine Ao (CT results208 (A6 rfl) (A6 rfl) (sr) ?_)
 obtain ⟨rfl, rfl, rfl, rfl, rfl, rfl, rfl, rfl, rfl⟩ := Zt de
 exact ⟨_, _, _, _, _, _, _, _, _, _, _, _, rfl, rfl, ae, ab, ah, Av.nil _ _ _, ei, fk, az, ig⟩
set_option maxHeartbeats 1000000 in
theorem IF {s_ : List (Int × Int)} {f : (Int × Int) → Option Bool} (ab : Av 2 (Br (iE .i64) (iE .i64)) F B0 BY s_) (al : HG Tryz.prog F La KQ KW (Pu (Br (iE .i64) (iE .i64))) Value.bool f) {r : Int} (hr : C8 s_ f = some r) :
    Bl Tryz.prog 272 #[.slice B0 s_.length BY, .func (.func La) KQ KW] F (.int .i64 r) := by
 refine sp func272 ntmps272 fun K _ _ => ?_
 rw [C8] at hr
 refine AN (ua (Aa ?_))
 refine A0 (fun e1 F1 L1 => DG = some r ∧ F = F1 ∧ L1 = [] ∧ e1.sub []) ?_ ?_
 ·refine AN (um ?_)
  refine uv (A7 underlying114 rfl) ?_
  refine um (Aa ?_)
  refine Ap ?_
  refine Bh (fun ao e1 F1 L1 => LA s_ ao fun tl k => BF f tl k = some r ∧ F = F1 ∧ L1 = [] ∧ e1.sub [(0, .slice B0 s_.length BY), (1, .func (.func La) KQ KW), (7, .int .i64 (s_.length : Int)), (8, .int .i64 k)]) _ (m0 kr ⟨_, _, rfl, BL.start _, hr, rfl, rfl, z4⟩) ?_
  rintro ao e1 _ _ ⟨tl, k, MM, ad, r3, rfl, rfl, au⟩
  refine AB _ au (AN (uv (Bb rfl rfl) ?_))
  refine Aa (As ?_)
  refine cQ (fun c6 => ?_) fun c6 => ?_
  ·obtain ⟨x, bb, rfl, av, g9, aw⟩ := BL.succ ad c6
   rw [BF] at r3
   refine Aq (As ?_)
   refine Ap ?_
   refine AN (um (ua (BX (um (um (um ?_))))))
   obtain ⟨J4, bc, bd, ax, ae, af, aa, ⟨_, _, rfl, rfl, rfl⟩, ah, ai⟩ := Av.at (Au (Ac _) (Ac _)) ab ([]) g9.1 av
   refine uv (AK underlying114 sizeOf116 rfl ae rfl g9) (uv (AS isAgg116 sizeOf116 rfl af aa (BB aa ah ai)) ?_)
   obtain ⟨ok, ay, aq⟩ := AG r3
   refine Em rfl al.1 rfl rfl rfl (al.2 _ (A3.refl _) _ _ _ ⟨_, rfl, ⟨_, _, rfl, rfl, rfl⟩⟩ ay) (Aa ?_)
   refine A5 rfl (fun aj => ?_) (fun aj => ?_)
   ·have az := bt aq aj
    refine AN (um (ua (Aa (Ao (AA (Ah (Ah (AA (Ah ?_)))))))))
    refine BU results272 ?_
    obtain rfl := AL az
    exact rfl
   have ba := bf aq aj
   refine Aq (AD (id := 1) (Am ?_))
   refine uv (Bd rfl rfl (BL.Eg ad c6 (Av.lt ab))) ?_
   refine um (Aa ?_)
   subst MM; exact le kr ⟨_, _, rfl, aw, ba, rfl, rfl, z4⟩
  obtain rfl := BL.zero ad c6
  rw [BF] at r3
  refine AT (Af (Af ?_))
  refine Ay ?_
  exact mi kr ⟨r3, rfl, rfl, (sn _)⟩
 rintro e1 _ _ ⟨ar, rfl, rfl, ak⟩
 refine AB _ ak ?_
 rw [DG] at ar
 refine AN (ua (Aa (Ao ?_)))
 refine BU results272 ?_
 obtain rfl := AL ar
 exact rfl
theorem H3 {s_ : List (Int × Int)} {f : (Int × Int) → Option Bool} (aa : Av 2 (Br (iE .i64) (iE .i64)) F B0 BY s_) (ab : HG Tryz.prog F La KQ KW (Pu (Br (iE .i64) (iE .i64))) Value.bool f) {r : Bool} (hr : B8 s_ f = some r) :
    Bl Tryz.prog 240 #[.slice B0 s_.length BY, .func (.func La) KQ KW] F (.bool r) := by
 refine sp func240 ntmps240 fun K _ _ => ?_
 rw [B8] at hr
 refine AN (ua (BX (um (um ?_))))
 obtain ⟨n, h1, r2⟩ := AG hr
 refine cV call272 (IF aa ab h1) (uv (HQ rfl rfl) ?_)
 refine ua (Aa (Ao ?_))
 refine BU results240 ?_
 obtain rfl := AL r2
 exact rfl
theorem Oy {holds : (Int × Int) → Option Bool} (ab : F Lv = some (.cells #[.func (.func GI) GH GF] 341 Pq)) (aa : HG Tryz.prog F GI GH GF (Pu (Br (iE .i64) (iE .i64))) Value.bool holds) {r : Bool} (hr : GV Ba DK holds = some r) :
    Bl Tryz.prog 241 #[.agg #[.int .i64 Ba, .int .i64 DK], .pointer (some ⟨Lv, 0, none⟩)] F (.bool r) := by
 refine sp func241 ntmps241 fun K _ _ => ?_
 rw [GV] at hr
 refine AN ?_
 refine Bt rfl rfl ?_; intro b1 ad
 refine ua (BX ?_)
 refine uv (An isAgg341 rfl (Has.frozen ab) rfl) (uv (AS isAgg116 sizeOf116 rfl (Has.own 0 rfl) (CK rfl) rfl) ?_)
 obtain ⟨ok, h2, r3⟩ := AG hr
 refine Em rfl aa.1 rfl rfl rfl (aa.2 _ (A3.refl _) _ _ _ ⟨_, rfl, ⟨_, _, rfl, rfl, rfl⟩⟩ h2) (uv (BC rfl) ?_)
 refine ua (Aa ?_)
 refine kW kn (Ao (BU results241 ?_))
 obtain rfl := AL r3
 exact rfl
theorem Pz {l : List (Int × Int)} {holds : (Int × Int) → Option Bool} (ab : Av 2 (Br (iE .i64) (iE .i64)) F Hp Hl l) (aa : HG Tryz.prog F GI GH GF (Pu (Br (iE .i64) (iE .i64))) Value.bool holds) {r : Bool} (hr : GJ l holds = some r) :
    Bl Tryz.prog 209 #[.slice Hp l.length Hl, .func (.func GI) GH GF] F (.bool r) := by
 refine sp func209 ntmps209 fun K _ _ => ?_
 rw [GJ] at hr
 refine AN ?_
 refine Bt rfl rfl ?_; intro b1 af
 refine ua (BX (um ?_))
 refine uv (BP rfl rfl) ?_
 refine Bi 0 rfl af ?_; intro F2 ae ah
 refine AI rfl ?_
 replace ab := ab.mono (Au (Ac _) (Ac _)) ae
 replace aa := aa.mono ae
 have ai : HG Tryz.prog F2 241 #[] #[.pointer (some ⟨b1, 0, none⟩)] (Pu (Br (iE .i64) (iE .i64))) Value.bool (fun ad : (Int × Int) => GV ad.1 ad.2 holds) := ⟨call241, fun F2 h2 vs ad r ha hr => by obtain ⟨_, rfl, ⟨_, _, rfl, rfl, rfl⟩⟩ := ha; exact Oy (h2 _ _ ah) (aa.mono h2) hr⟩
 obtain ⟨ok, h6, r7⟩ := AG hr
 refine cV call240 (H3 ab ai h6) (uv (BC rfl) ?_)
 refine ua (Aa (Ao ?_))
 refine BU results209 ?_
 obtain rfl := AL r7
 exact rfl
theorem N6 {Ab : List (Int × Bool)} {aa : List (List Int)} {x : Int} (_h_links : Av 2 (IZ 2 (cI .i64)) F AX AY AZ) (_h_notices : Av 2 (Br (iE .i64) bE) F Aj Ai Ab) (_h_stands : Av 1 (BK 1 (iE .i64)) F AP AO aa) {r : Bool} (hr : Ip Ad AZ Ab aa x = some r) :
    Bl Tryz.prog 242 #[.agg #[.int .i64 Ad, .slice AX AZ.length AY, .slice Aj Ab.length Ai, .slice AP aa.length AO], .int .i64 x] F (.bool r) := by
 refine sp func242 ntmps242 fun K _ _ => ?_
 rw [Ip] at hr
 refine AN ?_
 refine Bt rfl rfl ?_; intro b1 ab
 refine ua (BX (um ?_))
 refine uv (Ae Js rfl) (uv (An isAgg110 rfl (Has.own 0 rfl) rfl) (uv (A7 underlying110 rfl) ?_))
 obtain ⟨g2, r3⟩ := A1 hr
 refine uv (Fa rfl rfl g2) ?_
 obtain ⟨ok, h4, r5⟩ := AG r3
 refine cV call162 (Jb h4) ?_
 refine ua (Aa ?_)
 refine kW kn (Ao (BU results242 ?_))
 obtain rfl := AL r5
 exact rfl
theorem OM {Ab : List (Int × Bool)} {aa : List (List Int)} {x : Int} (_h_links : Av 2 (IZ 2 (cI .i64)) F AX AY AZ) (_h_notices : Av 2 (Br (iE .i64) bE) F Aj Ai Ab) (_h_stands : Av 1 (BK 1 (iE .i64)) F AP AO aa) {r : Bool} (hr : IX Ad AZ Ab aa x = some r) :
    Bl Tryz.prog 243 #[.agg #[.int .i64 Ad, .slice AX AZ.length AY, .slice Aj Ab.length Ai, .slice AP aa.length AO], .int .i64 x] F (.bool r) := by
 refine sp func243 ntmps243 fun K _ _ => ?_
 rw [IX] at hr
 refine AN ?_
 refine Bt rfl rfl ?_; intro b1 ab
 refine ua (BX (um ?_))
 refine uv (Ae IQ rfl) (uv (An isAgg36 rfl (Has.own 0 rfl) rfl) (uv (A7 underlying36 rfl) ?_))
 obtain ⟨g2, r3⟩ := A1 hr
 refine uv (Fa rfl rfl g2) ?_
 obtain ⟨ok, h4, r5⟩ := AG r3
 refine cV call162 (Jb h4) ?_
 refine ua (Aa ?_)
 refine kW kn (Ao (BU results243 ?_))
 obtain rfl := AL r5
 exact rfl
set_option maxHeartbeats 1000000 in
theorem Qm {Ab : List (Int × Bool)} {aa : List (List Int)} {Az : List (Int × Int)} (af : F JI = some (.cells ((([.int .i64 Ad] : List Value) ++ (([.slice AX AZ.length AY] : List Value) ++ (([.slice Aj Ab.length Ai] : List Value) ++ (([.slice AP aa.length AO] : List Value) ++ (([.slice AR Az.length AQ] : List Value) ++ (([.map (some Ec)] : List Value) ++ (BQ.flatMap (cI .i64) ++ (last.flatMap (cI .i64))))))))).toArray) 304 Ox)) (ae : Av 2 (IZ 2 (cI .i64)) F AX AY AZ) (ab : Av 2 (Br (iE .i64) bE) F Aj Ai Ab) (ad : Av 1 (BK 1 (iE .i64)) F AP AO aa) (_h_cries : Av 2 (Br (iE .i64) (iE .i64)) F AR AQ Az) (_hz_links2 : F Ec = some (.map HJ Mf)) (_h_links2 : FK Gz (vA (cA (cI .i64))) Value.bool HJ C5) (_h_first_ : BQ.length = 8) (_h_last : last.length = 8) {r : Bool} (hr : HK Ad AZ Ab aa Az C5 BQ last Ba DK = some r) :
    Bl Tryz.prog 210 #[.pointer (some ⟨JI, 0, none⟩), .agg #[.int .i64 Ba, .int .i64 DK]] F (.bool r) := by
 refine sp func210 ntmps210 fun K _ _ => ?_
 rw [HK] at hr
 refine AN ?_
 refine Bt rfl rfl ?_; intro b1 ah
 refine ua (dN (wm (wv (A2 rfl) (wv (Ae LS rfl) (wv (Gs.eq (v' := .agg #[.int .i64 Ad, .slice AX AZ.length AY, .slice Aj Ab.length Ai, .slice AP aa.length AO]) (AS (cs := (([.int .i64 Ad] : List Value) ++ (([.slice AX AZ.length AY] : List Value) ++ (([.slice Aj Ab.length Ai] : List Value) ++ (([.slice AP aa.length AO] : List Value))))).toArray) isAgg113 sizeOf113 rfl (Has.frozen af) (Eb (FX rfl (Bm rfl) (FX rfl (At (A := ([.int .i64 Ad] : List Value)) (k := 1) (o := 0) rfl (Bm rfl)) (FX rfl (At (A := ([.int .i64 Ad] : List Value)) (k := 1) (o := 1) rfl (At (A := ([.slice AX AZ.length AY] : List Value)) (k := 1) (o := 0) rfl (Bm rfl))) (At (A := ([.int .i64 Ad] : List Value)) (k := 1) (o := 2) rfl (At (A := ([.slice AX AZ.length AY] : List Value)) (k := 1) (o := 1) rfl (At (A := ([.slice Aj Ab.length Ai] : List Value)) (k := 1) (o := 0) rfl (Bm rfl)))))))) (G9 (la rfl (la rfl (la rfl rfl))) (FX rfl (Bm rfl) (FX rfl (At (A := ([.int .i64 Ad] : List Value)) (k := 1) (o := 0) rfl (Bm rfl)) (FX rfl (At (A := ([.int .i64 Ad] : List Value)) (k := 1) (o := 1) rfl (At (A := ([.slice AX AZ.length AY] : List Value)) (k := 1) (o := 0) rfl (Bm rfl))) (At (A := ([.int .i64 Ad] : List Value)) (k := 1) (o := 2) rfl (At (A := ([.slice AX AZ.length AY] : List Value)) (k := 1) (o := 1) rfl (At (A := ([.slice Aj Ab.length Ai] : List Value)) (k := 1) (o := 0) rfl (Bm rfl))))))))) rfl) (wv (Ae QW rfl) (wv (An isAgg3 rfl (Has.own 0 rfl) rfl) ?_)))))))
 obtain ⟨ok, h2, r3⟩ := AG hr
 refine I8 rfl call242 rfl rfl rfl (N6 ae ab ad h2) (wm ?_)
 rcases Co ok with c4 | c4
 ·have r5 := bt r3 c4
  refine BN (b := true) 12 rfl (JS rfl c4) (wm (BN (b := true) 12 rfl (JS rfl c4) ?_))
  refine wv (A2 rfl) (BN (b := true) 12 rfl (JS rfl c4) (wv (Ae LS rfl) (BN (b := true) 12 rfl (JS rfl c4) (wv (Gs.eq (v' := .agg #[.int .i64 Ad, .slice AX AZ.length AY, .slice Aj Ab.length Ai, .slice AP aa.length AO]) (AS (cs := (([.int .i64 Ad] : List Value) ++ (([.slice AX AZ.length AY] : List Value) ++ (([.slice Aj Ab.length Ai] : List Value) ++ (([.slice AP aa.length AO] : List Value))))).toArray) isAgg113 sizeOf113 rfl (Has.frozen af) (Eb (FX rfl (Bm rfl) (FX rfl (At (A := ([.int .i64 Ad] : List Value)) (k := 1) (o := 0) rfl (Bm rfl)) (FX rfl (At (A := ([.int .i64 Ad] : List Value)) (k := 1) (o := 1) rfl (At (A := ([.slice AX AZ.length AY] : List Value)) (k := 1) (o := 0) rfl (Bm rfl))) (At (A := ([.int .i64 Ad] : List Value)) (k := 1) (o := 2) rfl (At (A := ([.slice AX AZ.length AY] : List Value)) (k := 1) (o := 1) rfl (At (A := ([.slice Aj Ab.length Ai] : List Value)) (k := 1) (o := 0) rfl (Bm rfl)))))))) (G9 (la rfl (la rfl (la rfl rfl))) (FX rfl (Bm rfl) (FX rfl (At (A := ([.int .i64 Ad] : List Value)) (k := 1) (o := 0) rfl (Bm rfl)) (FX rfl (At (A := ([.int .i64 Ad] : List Value)) (k := 1) (o := 1) rfl (At (A := ([.slice AX AZ.length AY] : List Value)) (k := 1) (o := 0) rfl (Bm rfl))) (At (A := ([.int .i64 Ad] : List Value)) (k := 1) (o := 2) rfl (At (A := ([.slice AX AZ.length AY] : List Value)) (k := 1) (o := 1) rfl (At (A := ([.slice Aj Ab.length Ai] : List Value)) (k := 1) (o := 0) rfl (Bm rfl))))))))) rfl) (BN (b := true) 12 rfl (JS rfl c4) (wv (Ae TD rfl) (BN (b := true) 12 rfl (JS rfl c4) ?_)))))))
  refine wv (An isAgg3 rfl (Has.own 0 rfl) rfl) (BN (b := true) 12 rfl (JS rfl c4) ?_)
  obtain ⟨ai, h6, r7⟩ := AG r5
  refine I8 rfl call243 rfl rfl rfl (OM ae ab ad h6) (wv (AW (Iy rfl c4) rfl) ?_)
  refine wa (CQ ?_)
  refine kW kn (Ao (BU results210 ?_))
  obtain rfl := AL r7
  exact rfl
 have r8 := bf r3 c4
 refine Bv (b' := false) 12 rfl (JS rfl c4) rfl rfl (Bv (b' := false) 12 rfl (JS rfl c4) rfl rfl (Bv (b' := false) 12 rfl (JS rfl c4) rfl rfl (Bv (b' := false) 12 rfl (JS rfl c4) rfl rfl (Bv (b' := false) 12 rfl (JS rfl c4) rfl rfl (Bv (b' := false) 12 rfl (JS rfl c4) rfl rfl (Bv (b' := false) 12 rfl (JS rfl c4) rfl rfl ?_))))))
 refine wv (AH (Iy rfl c4) rfl) ?_
 refine wa (CQ ?_)
 refine kW kn (Ao (BU results210 ?_))
 obtain rfl := AL r8
 exact rfl
set_option maxHeartbeats 1000000 in
theorem Sn {Ab : List (Int × Bool)} {ad : List (List Int)} {l : List (Int × Int)} (ai : Av 2 (IZ 2 (cI .i64)) F AX AY AZ) (ae : Av 2 (Br (iE .i64) bE) F Aj Ai Ab) (af : Av 1 (BK 1 (iE .i64)) F AP AO ad) (al : Av 2 (Br (iE .i64) (iE .i64)) F Hp Hl l) {r : Option (Int × (List (List Int)) × (List (Int × Bool)) × (List (List Int)) × (List (Int × Int)) × (List ((List Int) × Bool)) × (List Int) × (List Int))} {r2 : Int} (hr : KI Ad AZ Ab ad l = some (r, r2)) :
    SH.Spec Tryz.prog 161 #[.agg #[.int .i64 Ad, .slice AX AZ.length AY, .slice Aj Ab.length Ai, .slice AP ad.length AO], .slice Hp l.length Hl] F [] fun F' L' v => ∃ (rv : Value), v = .tuple #[rv, .int .i64 r2] ∧ L' = [] ∧ PU 304 (Br (iE .i64) (Br (BK 2 (IZ 2 (cI .i64))) (Br (BK 2 (Br (iE .i64) bE)) (Br (BK 1 (BK 1 (iE .i64))) (Br (BK 2 (Br (iE .i64) (iE .i64))) (Br (Za Gz (vA (cA (cI .i64))) Value.bool) (Br (IZ 8 (cI .i64)) (IZ 8 (cI .i64))))))))) F' rv r := by
 refine sp func161 ntmps161 fun K _ _ => ?_
 rw [KI] at hr
 refine AN ?_
 refine Bt rfl rfl ?_; intro b1 cj
 refine ua (ua (BX ?_))
 refine uv (AS isAgg113 sizeOf113 rfl (Has.own 0 rfl) (CK rfl) rfl) ?_
 obtain ⟨Bp, C5, aa, ab, Az, ak, BQ, last, n, h2, r3⟩ := Zc hr
 refine c0 call208 (RJ ai ae af h2) ?_; rintro _ F4 _ bn bo ⟨b8, a9, av, aw, ax, ay, az, bd, bg, ba, bp, bq, rfl, rfl, aq, ar, au, br, aj, ao, bh, bj⟩
 replace al := al.mono (Au (Ac _) (Ac _)) bn
 have bu := bo _ (List.mem_cons_self ..)
 refine AI (lb (ln rfl)) ?_
 refine um (ox rfl rfl rfl (ox rfl rfl rfl (ua (ua (Aa (As ?_))))))
 refine Ap ?_
 refine AN (um ?_)
 refine uv (B7 rfl rfl) ?_
 refine ua (Aa ?_)
 obtain ⟨bw, bx⟩ := A1 r3
 refine Ja rfl (fun bk => absurd bk bw) (fun bk => ?_)
 refine AN (um ?_)
 refine uv (A7 underlying114 rfl) (uv (KS rfl rfl) ?_)
 refine ua (Aa ?_)
 obtain ⟨bz, ca⟩ := A1 bx
 refine Ja rfl (fun bl => absurd bl bz) (fun bl => ?_)
 refine AN (um (um ?_))
 refine uv (BP rfl rfl) ?_
 obtain ⟨ok, cb, cd⟩ := AG ca
 refine OG (Lt := [(b8, ce ((([.int .i64 Bp] : List Value) ++ (([.slice a9 C5.length av] : List Value) ++ (([.slice aw aa.length ax] : List Value) ++ (([.slice ay ab.length az] : List Value) ++ (([.slice bd Az.length bg] : List Value) ++ (([.map (some ba)] : List Value) ++ (BQ.flatMap (cI .i64) ++ (last.flatMap (cI .i64))))))))).toArray) 304)]) (Lr := [(b1, ce #[.int .i64 Ad, .slice AX AZ.length AY, .slice Aj Ab.length Ai, .slice AP ad.length AO] 113)]) rfl call209 rfl rfl rfl (pR) (fun F2 h2 h3 => by exact Pz (al.mono (Au (Ac _) (Ac _)) h2) (show HG Tryz.prog F2 210 #[.pointer (some ⟨b8, 0, none⟩)] #[] (Pu (Br (iE .i64) (iE .i64))) Value.bool (fun bb : (Int × Int) => HK Bp C5 aa ab Az ak BQ last bb.1 bb.2) from ⟨call210, fun F3 h4 vs bb r ha hr => by obtain ⟨_, rfl, ⟨_, _, rfl, rfl, rfl⟩⟩ := ha; exact Qm (h4 _ _ (h3 (b8, ce ((([.int .i64 Bp] : List Value) ++ (([.slice a9 C5.length av] : List Value) ++ (([.slice aw aa.length ax] : List Value) ++ (([.slice ay ab.length az] : List Value) ++ (([.slice bd Az.length bg] : List Value) ++ (([.map (some ba)] : List Value) ++ (BQ.flatMap (cI .i64) ++ (last.flatMap (cI .i64))))))))).toArray) 304) (List.mem_cons_self ..))) (aq.mono (CD (n := 2) (sz := 1) (A4 .i64)) (h2.trans h4)) (ar.mono (Au (Ac _) EL) (h2.trans h4)) (au.mono (Ar (Ac _)) (h2.trans h4)) (br.mono (Au (Ac _) (Ac _)) (h2.trans h4)) ((h2.trans h4) _ _ aj) ao bh bj hr⟩) cb) ?_
 refine uv (BC rfl) ?_
 refine ua (Aa ?_)
 obtain ⟨cf, cg⟩ := A1 cd
 refine A5 rfl (fun bm => absurd (cf.symm.trans bm) (by decide)) (fun bm => ?_)
 refine Aq (AD (id := 0) (AN (um (um ?_))))
 refine uv (A2 rfl) (uv (Ae S3 rfl) (H4 (i := 0) sizeOf114 rfl rfl rfl rfl rfl (BV (A := ([.int .i64 Bp] : List Value)) (k := 1) (p := 3) rfl (BV (A := ([.slice a9 C5.length av] : List Value)) (k := 1) (p := 2) rfl (BV (A := ([.slice aw aa.length ax] : List Value)) (k := 1) (p := 1) rfl (BV (A := ([.slice ay ab.length az] : List Value)) (k := 1) (p := 0) rfl (NC (B := ([.map (some ba)] : List Value) ++ (BQ.flatMap (cI .i64) ++ (last.flatMap (cI .i64)))) WQ))))) (AI rfl ?_)))
 refine BX (um (ua (ua (Aa ?_))))
 refine Cs 0 rfl bu ?_; intro ck ah bc
 refine E7 (L' := [(b1, ce #[.int .i64 Ad, .slice AX AZ.length AY, .slice Aj Ab.length Ai, .slice AP ad.length AO] 113)]) rfl ?_
 replace al := al.mono (Au (Ac _) (Ac _)) ah
 replace aq := aq.mono (CD (n := 2) (sz := 1) (A4 .i64)) ah
 replace ar := ar.mono (Au (Ac _) EL) ah
 replace au := au.mono (Ar (Ac _)) ah
 replace aj := ah _ _ aj
 refine kW kn (Ao (CT results161 (A6 rfl) (A6 rfl) (sr) ?_))
 obtain ⟨rfl, rfl⟩ := D2 cg
 exact ⟨_, rfl, rfl, ⟨_, _, _, rfl, bc, ⟨_, _, rfl, rfl, ⟨_, _, rfl, ⟨_, _, rfl, aq⟩, ⟨_, _, rfl, ⟨_, _, rfl, ar⟩, ⟨_, _, rfl, ⟨_, _, rfl, au⟩, ⟨_, _, rfl, ⟨_, _, rfl, al⟩, ⟨_, _, rfl, ⟨_, _, _, rfl, aj, ao⟩, ⟨_, _, rfl, ⟨rfl, bh⟩, ⟨rfl, bj⟩⟩⟩⟩⟩⟩⟩⟩⟩⟩
set_option maxHeartbeats 1000000 in
theorem RU {Ab : List (Int × Bool)} {aa : List (List Int)} {l : List (Int × Int)} (af : Av 2 (IZ 2 (cI .i64)) F AX AY AZ) (ab : Av 2 (Br (iE .i64) bE) F Aj Ai Ab) (ad : Av 1 (BK 1 (iE .i64)) F AP AO aa) (ao : Av 2 (Br (iE .i64) (iE .i64)) F Hp Hl l) {r : Option (Int × (List (List Int)) × (List (Int × Bool)) × (List (List Int)) × (List (Int × Int)) × (List ((List Int) × Bool)) × (List Int) × (List Int))} {r2 : Int} (hr : J6 Ad AZ Ab aa l EP = some (r, r2)) :
    SH.Spec Tryz.prog 92 #[.agg #[.int .i64 Ad, .slice AX AZ.length AY, .slice Aj Ab.length Ai, .slice AP aa.length AO], .slice Hp l.length Hl, .int .i64 EP] F [] fun F' L' v => ∃ (rv : Value), v = .tuple #[rv, .int .i64 r2] ∧ L' = [] ∧ PU 304 (Br (iE .i64) (Br (BK 2 (IZ 2 (cI .i64))) (Br (BK 2 (Br (iE .i64) bE)) (Br (BK 1 (BK 1 (iE .i64))) (Br (BK 2 (Br (iE .i64) (iE .i64))) (Br (Za Gz (vA (cA (cI .i64))) Value.bool) (Br (IZ 8 (cI .i64)) (IZ 8 (cI .i64))))))))) F' rv r := by
 refine sp func92 ntmps92 fun K _ _ => ?_
 rw [J6] at hr
 refine AN ?_
 refine Bt rfl rfl ?_; intro b1 bc
 refine ua (ua (BX ?_))
 refine uv (AS isAgg113 sizeOf113 rfl (Has.own 0 rfl) (CK rfl) rfl) (um ?_)
 obtain ⟨d, n, h2, r3⟩ := Es hr
 refine c0 call161 (Sn af ab ad ao h2) ?_; rintro _ F4 _ bd bg ⟨v8, rfl, rfl, aq⟩
 refine AI (ln rfl) ?_
 refine um (ox rfl rfl rfl (ox rfl rfl rfl (ua (ua (Aa ?_)))))
 obtain ⟨e_, ar, aj⟩ := AG r3
 refine jE ([]) [(8, v8), (9, .int .i64 e_)] ?_ ?_
 ·clear aj
  obtain ⟨k, ak, ah⟩ := AG ar
  refine jE ([]) [(8, v8), (9, .int .i64 n), (22, .bool k)] ?_ ?_
  ·clear ah
   refine Am (um ?_)
   refine uv (CR rfl rfl) (um ?_)
   by_cases ae : n = 0
   ·have au := Bf ak ae
    refine nT ae (um (nT ae ?_))
    obtain ⟨ok, av, aw⟩ := AG au
    refine cV call162 (Jb av) (nT ae (uv (BC rfl) (uv (AW (Bn rfl ae) rfl) (Aa ?_))))
    obtain rfl := AL aw
    exact mi kn ⟨rfl, rfl, z3⟩
   have ax := Bg ak ae
   refine fF ae (fF ae (fF ae ?_))
   refine uv (AH (A8 rfl ae) rfl) (Aa ?_)
   obtain rfl := AL ax
   exact mi kn ⟨rfl, rfl, z3⟩
  refine A5 rfl (fun ai => ?_) (fun ai => ?_)
  ·have ay := bt ah ai
   refine Am (ua (Aa ?_))
   obtain rfl := AL ay
   exact mi kr ⟨rfl, rfl, z2⟩
  have az := bf ah ai
  refine Aq ?_
  obtain rfl := AL az
  exact mi kr ⟨rfl, rfl, z2⟩
 refine As (AN (um ?_))
 refine uv (B7 rfl rfl) (Aa ?_)
 obtain ⟨ba, bb⟩ := A1 aj
 refine Ja rfl (fun al => absurd al ba) (fun al => ?_)
 refine Aq (AN (um (ua (ua (Aa (Ao ?_))))))
 refine CT results92 (A6 rfl) (A6 rfl) (sr) ?_
 obtain ⟨rfl, rfl⟩ := D2 bb
 exact ⟨_, rfl, rfl, aq⟩
set_option maxHeartbeats 1000000 in
theorem PD {Ab : List (Int × Bool)} {ab : List (List Int)} {Az : List (Int × Int)} {now : List Int} (al : F JI = some (.cells ((([.int .i64 Ad] : List Value) ++ (([.slice AX AZ.length AY] : List Value) ++ (([.slice Aj Ab.length Ai] : List Value) ++ (([.slice AP ab.length AO] : List Value) ++ (([.slice AR Az.length AQ] : List Value) ++ (([.map (some Ec)] : List Value) ++ (BQ.flatMap (cI .i64) ++ (last.flatMap (cI .i64))))))))).toArray) 304 Ox)) (_h_links : Av 2 (IZ 2 (cI .i64)) F AX AY AZ) (ae : Av 2 (Br (iE .i64) bE) F Aj Ai Ab) (_h_stands : Av 1 (BK 1 (iE .i64)) F AP AO ab) (_h_cries : Av 2 (Br (iE .i64) (iE .i64)) F AR AQ Az) (_hz_links2 : F Ec = some (.map HJ Mf)) (_h_links2 : FK Gz (vA (cA (cI .i64))) Value.bool HJ C5) (aa : BQ.length = 8) (ad : last.length = 8) (ai : now.length = 80) {r : List (Int × Int)} (hr : JD Ad AZ Ab ab Az C5 BQ last now = some r) :
    SH.Spec Tryz.prog 93 #[.pointer (some ⟨JI, 0, none⟩), .agg (arr (cI .i64) now)] F [] fun F' L' v => ∃ (ra : Option Addr) (rn : Nat) (rc : Nat) (rL : LH), v = .slice ra rn rc ∧ L' = rL ++ [] ∧ Be 0 122 2 (Br (iE .i64) (iE .i64)) F' ra rn rc r rL := by
 refine sp func93 ntmps93 fun K _ _ => ?_
 rw [JD] at hr
 refine AN ?_
 refine Bt rfl rfl ?_; intro b1 eg
 refine ua (BX (ua (Aa ?_)))
 obtain ⟨out, h8, r9⟩ := AG hr
 refine A0 (fun e1 F1 L1 => ∃ (a2 : Option Addr) (n6 : Nat) (c3 : Nat) (br : LH), F = F1 ∧ L1 = (br ++ []) ∧ e1.sub [(5, .slice a2 n6 c3)] ∧ Be K.w0.heap.size 122 2 (Br (iE .i64) (iE .i64)) F1 a2 n6 c3 out br) ?_ ?_
 ·clear r9
  refine AN (um ?_)
  refine uv (A2 rfl) (uv (Ae LS rfl) (uv (Ae Po rfl) (uv (An isAgg3 rfl (Has.frozen al) (E8 (Bm (B := ([.slice AX AZ.length AY] : List Value) ++ (([.slice Aj Ab.length Ai] : List Value) ++ (([.slice AP ab.length AO] : List Value) ++ (([.slice AR Az.length AQ] : List Value) ++ (([.map (some Ec)] : List Value) ++ (BQ.flatMap (cI .i64) ++ (last.flatMap (cI .i64)))))))) rfl))) ?_)))
  refine um (Aa ?_)
  refine Ap ?_
  obtain ⟨db, dd⟩ := A1 h8
  refine Bh (fun bk e1 F1 L1 => ∃ (k : Int), Dc 0 Ad k bk ∧ ∃ (BD : List (Int × Int)) (az : Option Addr) (ba : Nat) (bb : Nat) (aj : LH), DT Ab BQ last now bk k BD = some out ∧ F = F1 ∧ L1 = ((b1, ce (arr (cI .i64) now) 233) :: (aj ++ [])) ∧ e1.sub [(0, .pointer (some ⟨JI, 0, none⟩)), (3, .pointer (some ⟨b1, 0, none⟩)), (5, .slice az ba bb), (12, .int .i64 Ad), (13, .int .i64 k)] ∧ Be K.w0.heap.size 122 2 (Br (iE .i64) (iE .i64)) F1 az ba bb BD aj) _ (m0 (kc (ke kr)) ⟨_, Dc.start _ _, [], none, 0, 0, [], dd, rfl, rfl, z5, Be.nil _ _ _ _ _⟩) ?_
  rintro bk e1 _ _ ⟨k, ar, BD, az, ba, bb, aj, bl, rfl, rfl, bu, bc⟩
  refine AB _ bu (AN (uv (Bb rfl rfl) ?_))
  refine Aa (As ?_)
  refine cQ (fun bm => ?_) fun bm => ?_
  ·obtain ⟨bk, rfl, bw⟩ := Dc.succ ar bm
   rw [DT] at bl
   refine Aq ?_
   obtain ⟨au, de, cw⟩ := AG bl
   refine A0 (fun e1 F1 L1 => ∃ (bn : Option Addr) (bo : Nat) (bp : Nat) (ao : LH), F = F1 ∧ L1 = ((b1, ce (arr (cI .i64) now) 233) :: (ao ++ [])) ∧ e1.sub [(0, .pointer (some ⟨JI, 0, none⟩)), (3, .pointer (some ⟨b1, 0, none⟩)), (5, .slice bn bo bp), (12, .int .i64 Ad), (13, .int .i64 k)] ∧ Be K.w0.heap.size 122 2 (Br (iE .i64) (iE .i64)) F1 bn bo bp au ao) ?_ ?_
   ·clear cw
    refine Ap ?_
    refine AN (um (ua (BX (um ?_))))
    refine uv (A2 rfl) (uv (Ae LS rfl) (uv (Ae Js rfl) (uv (An isAgg110 rfl (Has.frozen al) (E8 (At (A := ([.int .i64 Ad] : List Value)) (k := 1) (o := 1) rfl (At (A := ([.slice AX AZ.length AY] : List Value)) (k := 1) (o := 0) rfl (Bm (B := ([.slice AP ab.length AO] : List Value) ++ (([.slice AR Az.length AQ] : List Value) ++ (([.map (some Ec)] : List Value) ++ (BQ.flatMap (cI .i64) ++ (last.flatMap (cI .i64)))))) rfl))))) (uv (A7 underlying110 rfl) ?_))))
    refine um (Aa ?_)
    refine Ap ?_
    refine Bh (fun cx e1 F1 L1 => LA Ab cx fun tl k2 => ∃ (ak : List (Int × Int)) (aw : Option Addr) (ax : Nat) (ay : Nat) (ah : LH), CO BQ last now k tl k2 ak = some au ∧ F = F1 ∧ L1 = ((b1, ce (arr (cI .i64) now) 233) :: (ah ++ [])) ∧ e1.sub [(0, .pointer (some ⟨JI, 0, none⟩)), (3, .pointer (some ⟨b1, 0, none⟩)), (5, .slice aw ax ay), (6, .int .i64 k), (12, .int .i64 Ad), (13, .int .i64 k), (21, .int .i64 (Ab.length : Int)), (22, .int .i64 k2)] ∧ Be K.w0.heap.size 122 2 (Br (iE .i64) (iE .i64)) F1 aw ax ay ak ah) _ (m0 kr ⟨_, _, rfl, BL.start _, BD, az, ba, bb, aj, de, rfl, rfl, z8, bc⟩) ?_
    rintro cx e1 _ _ ⟨tl, k2, bd, aq, ak, aw, ax, ay, ah, bq, rfl, rfl, bx, av⟩
    refine AB _ bx (AN (uv (Bb rfl rfl) ?_))
    refine Aa (As ?_)
    refine cQ (fun bg => ?_) fun bg => ?_
    ·obtain ⟨x, eh, rfl, df, ei, bh⟩ := BL.succ aq bg
     rw [CO] at bq
     refine Aq (As ?_)
     refine Ap ?_
     refine AN (um (ua (Aa ?_)))
     obtain ⟨k3, dg, bz⟩ := AG bq
     refine jE (((b1, ce (arr (cI .i64) now) 233) :: (ah ++ []))) [(0, .pointer (some ⟨JI, 0, none⟩)), (3, .pointer (some ⟨b1, 0, none⟩)), (5, .slice aw ax ay), (6, .int .i64 k), (7, .int .i64 k2), (12, .int .i64 Ad), (13, .int .i64 k), (21, .int .i64 (Ab.length : Int)), (22, .int .i64 k2), (46, .bool k3)] ?_ ?_
     ·clear bz
      refine O6 (by kernel_rfl) (by kernel_rfl) (by kernel_rfl) ?_
      refine wm (wm (wm ?_))
      refine wv (A2 rfl) (wv (Ae KR rfl) ?_)
      obtain ⟨x2, dh, ca, di⟩ := Bx dg
      have cb := QE (A4 .i64) aa ca (FY (At (A := ([.int .i64 Ad] : List Value)) (k := 1) (o := 5) rfl (At (A := ([.slice AX AZ.length AY] : List Value)) (k := 1) (o := 4) rfl (At (A := ([.slice Aj Ab.length Ai] : List Value)) (k := 1) (o := 3) rfl (At (A := ([.slice AP ab.length AO] : List Value)) (k := 1) (o := 2) rfl (At (A := ([.slice AR Az.length AQ] : List Value)) (k := 1) (o := 1) rfl (At (A := ([.map (some Ec)] : List Value)) (k := 1) (o := 0) rfl (Bm (B := last.flatMap (cI .i64)) (DM (A4 .i64) aa))))))))) (Eb (At (A := ([.int .i64 Ad] : List Value)) (k := 1) (o := 5) rfl (At (A := ([.slice AX AZ.length AY] : List Value)) (k := 1) (o := 4) rfl (At (A := ([.slice Aj Ab.length Ai] : List Value)) (k := 1) (o := 3) rfl (At (A := ([.slice AP ab.length AO] : List Value)) (k := 1) (o := 2) rfl (At (A := ([.slice AR Az.length AQ] : List Value)) (k := 1) (o := 1) rfl (At (A := ([.map (some Ec)] : List Value)) (k := 1) (o := 0) rfl (Bm (B := last.flatMap (cI .i64)) (DM (A4 .i64) aa))))))))) (DM (A4 .i64) aa)
      refine wv (Bj underlying231 sizeOf3 rfl rfl (Gx aa dh)) (wv (An isAgg3 rfl (Has.frozen al) ((cb).2.2 0 (by decide))) ?_)
      obtain ⟨cy, dk⟩ := A1 di
      refine wv (Bj underlying233 sizeOf231 rfl rfl cy) ?_
      obtain ⟨cz, dm⟩ := A1 dk
      obtain ⟨x3, ej, cd, da⟩ := Bx dm
      have cf : (k * 8 + x2 : Int).toNat = (k : Int).toNat * 8 + (x2 : Int).toNat := by have := cy; have := cz; omega
      have cg := Jh (A4 .i64) ai cf cd (FY (Cd (DM (A4 .i64) ai))) (Eb (Cd (DM (A4 .i64) ai)))
      refine wv (Bj underlying231 sizeOf3 rfl rfl cz) (wv (An isAgg3 rfl (Has.own 0 rfl) ((cg).2.2 0 (by decide))) (wm (wv (CR rfl rfl) (wm ?_))))
      by_cases af : x3 = k2
      ·have Eg := Bf da af
       refine BN (b := true) 37 rfl (Env.Ky rfl af) (wm (BN (b := true) 37 rfl (Env.Ky rfl af) (wm (BN (b := true) 37 rfl (Env.Ky rfl af) ?_))))
       refine wv (A2 rfl) (BN (b := true) 37 rfl (Env.Ky rfl af) (wv (Ae QR rfl) (BN (b := true) 37 rfl (Env.Ky rfl af) ?_)))
       obtain ⟨x4, dn, cj, dp⟩ := Bx Eg
       have ck := QE (A4 .i64) ad cj (FY (At (A := ([.int .i64 Ad] : List Value)) (k := 1) (o := 13) rfl (At (A := ([.slice AX AZ.length AY] : List Value)) (k := 1) (o := 12) rfl (At (A := ([.slice Aj Ab.length Ai] : List Value)) (k := 1) (o := 11) rfl (At (A := ([.slice AP ab.length AO] : List Value)) (k := 1) (o := 10) rfl (At (A := ([.slice AR Az.length AQ] : List Value)) (k := 1) (o := 9) rfl (At (A := ([.map (some Ec)] : List Value)) (k := 1) (o := 8) rfl (At (A := BQ.flatMap (cI .i64)) (k := 8) (o := 0) (DM (A4 .i64) aa) (Cd (DM (A4 .i64) ad)))))))))) (Eb (At (A := ([.int .i64 Ad] : List Value)) (k := 1) (o := 13) rfl (At (A := ([.slice AX AZ.length AY] : List Value)) (k := 1) (o := 12) rfl (At (A := ([.slice Aj Ab.length Ai] : List Value)) (k := 1) (o := 11) rfl (At (A := ([.slice AP ab.length AO] : List Value)) (k := 1) (o := 10) rfl (At (A := ([.slice AR Az.length AQ] : List Value)) (k := 1) (o := 9) rfl (At (A := ([.map (some Ec)] : List Value)) (k := 1) (o := 8) rfl (At (A := BQ.flatMap (cI .i64)) (k := 8) (o := 0) (DM (A4 .i64) aa) (Cd (DM (A4 .i64) ad)))))))))) (DM (A4 .i64) ad)
       refine wv (Bj underlying231 sizeOf3 rfl rfl (Gx ad dn)) (BN (b := true) 37 rfl (Env.Ky rfl af) (wv (An isAgg3 rfl (Has.frozen al) ((ck).2.2 0 (by decide))) ?_))
       refine BN (b := true) 37 rfl (Env.Ky rfl af) (wm (BN (b := true) 37 rfl (Env.Ky rfl af) ?_))
       refine wv (B7 rfl rfl) (wv (AW (Bn rfl af) rfl) (CQ ?_))
       obtain rfl := AL dp
       exact mi kr ⟨rfl, rfl, (sc rfl (sc rfl z8))⟩
      have dq := Bg da af
      refine Bv (b' := false) 37 rfl (Env.Kt rfl af) rfl rfl (Bv (b' := false) 37 rfl (Env.Kt rfl af) rfl rfl (Bv (b' := false) 37 rfl (Env.Kt rfl af) rfl rfl (Bv (b' := false) 37 rfl (Env.Kt rfl af) rfl rfl (Bv (b' := false) 37 rfl (Env.Kt rfl af) rfl rfl (Bv (b' := false) 37 rfl (Env.Kt rfl af) rfl rfl (Bv (b' := false) 37 rfl (Env.Kt rfl af) rfl rfl (Bv (b' := false) 37 rfl (Env.Kt rfl af) rfl rfl ?_)))))))
      refine wv (AH (A8 rfl af) rfl) (CQ ?_)
      obtain rfl := AL dq
      exact mi kr ⟨rfl, rfl, (sc rfl (sc rfl z8))⟩
     refine A5 rfl (fun cn => ?_) (fun cn => ?_)
     ·have dr := bt bz cn
      refine Am (um (um (um ?_)))
      refine uv (BH (v := .agg #[.int .i64 k, .int .i64 k2]) rfl (by intro w; kernel_rfl)) ?_
      refine bA (cs := #[.int .i64 k, .int .i64 k2]) UO [.agg #[.int .i64 k, .int .i64 k2]] ?_; intro en dt
      obtain ⟨bj, du, dv, dw⟩ := GM dr
      refine Fm (xs := ak) (ys := [(k, k2)]) (zs := bj) rfl UO rfl rfl (Nat.le_refl _) (fun _ => .c (.c .h)) av (H2.box (vss := [[.int .i64 k, .int .i64 k2]]) (ys := [(k, k2)]) 0 rfl (Au (Ac _) (Ac _)) (.cons ⟨_, _, rfl, rfl, rfl⟩ .nil) rfl rfl) du dv (by decide) ?_; intro dx dy dz cp cq
      refine kO (kd kr) ?_
      refine ua (Aa (AD (id := 3) (Am ?_)))
      refine uv (Bd rfl rfl (BL.Eg aq bg (Av.lt ae))) ?_
      refine um (Aa ?_)
      subst bd; exact le kr ⟨_, _, rfl, bh, bj, dx, dy, dz, cp, dw, rfl, rfl, z8, cq⟩
     have eb := bf bz cn
     refine Aq (AD (id := 3) (Am ?_))
     refine uv (Bd rfl rfl (BL.Eg aq bg (Av.lt ae))) ?_
     refine um (Aa ?_)
     subst bd; exact le kr ⟨_, _, rfl, bh, ak, aw, ax, ay, ah, eb, rfl, rfl, z8, av⟩
    obtain rfl := BL.zero aq bg
    rw [CO] at bq
    refine AT (Af (Af ?_))
    refine Ay (AD (id := 1) ?_)
    obtain rfl := AL bq
    exact mi kr ⟨aw, ax, ay, ah, rfl, rfl, z5, av⟩
   rintro e1 _ _ ⟨bn, bo, bp, ao, rfl, rfl, ct, cu⟩
   refine AB _ ct (Am (uv (Bd rfl rfl (Dc.Eg ar bm db)) ?_))
   refine um (Aa ?_)
   exact le kr ⟨_, bw, au, bn, bo, bp, ao, cw, rfl, rfl, z5, cu⟩
  obtain rfl := Dc.zero ar bm
  rw [DT] at bl
  refine AT (Af (Af ?_))
  refine Ay ?_
  obtain rfl := AL bl
  exact mi (kd kr) ⟨az, ba, bb, aj, rfl, rfl, z1, bc⟩
 rintro e1 _ _ ⟨a2, n6, c3, br, rfl, rfl, cv, ec⟩
 refine AB _ cv ?_
 refine AN (um (ua (Aa (Ao ?_))))
 refine BU results93 ?_
 obtain rfl := AL r9
 exact ⟨_, _, _, _, rfl, rfl, ec.any⟩
theorem Pb {Ab : List (Int × Bool)} {aa : List (List Int)} {Az : List (Int × Int)} (ad : F JI = some (.cells ((([.int .i64 Ad] : List Value) ++ (([.slice AX AZ.length AY] : List Value) ++ (([.slice Aj Ab.length Ai] : List Value) ++ (([.slice AP aa.length AO] : List Value) ++ (([.slice AR Az.length AQ] : List Value) ++ (([.map (some Ec)] : List Value) ++ (BQ.flatMap (cI .i64) ++ (last.flatMap (cI .i64))))))))).toArray) 304 Ox)) (_h_links : Av 2 (IZ 2 (cI .i64)) F AX AY AZ) (_h_notices : Av 2 (Br (iE .i64) bE) F Aj Ai Ab) (ab : Av 1 (BK 1 (iE .i64)) F AP AO aa) (_h_cries : Av 2 (Br (iE .i64) (iE .i64)) F AR AQ Az) (_hz_links2 : F Ec = some (.map HJ Mf)) (_h_links2 : FK Gz (vA (cA (cI .i64))) Value.bool HJ C5) (_h_first_ : BQ.length = 8) (_h_last : last.length = 8) {r : Bool} (hr : Hx Ad AZ Ab aa Az C5 BQ last DR DK = some r) :
    Bl Tryz.prog 211 #[.pointer (some ⟨JI, 0, none⟩), .int .i64 DR, .int .i64 DK] F (.bool r) := by
 refine sp func211 ntmps211 fun K _ _ => ?_
 rw [Hx] at hr
 refine AN (ua (BX (um ?_)))
 refine uv (A2 rfl) (uv (Ae LS rfl) (uv (Ae IQ rfl) (uv (An isAgg36 rfl (Has.frozen ad) (E8 (At (k := 1) (o := 2) rfl (At (k := 1) (o := 1) rfl (At (k := 1) (o := 0) rfl (Bm rfl)))))) (um ?_))))
 obtain ⟨x, g1, ah, r3⟩ := Bx hr
 obtain ⟨b4, o5, c6, ar, ai, aj, af, ⟨au, av, rfl, ak⟩, al, ae⟩ := Av.at (Ar (Ac _)) ab ([]) g1.1 ah
 refine uv (AK underlying36 sizeOf33 rfl ai rfl g1) (uv (An isAgg33 rfl aj (ae 0 (by decide))) (um ?_))
 obtain ⟨ok, ao, aq⟩ := AG r3
 refine cV call18 (C2 ak ao) ?_
 refine ua (Aa (Ao ?_))
 refine BU results211 ?_
 obtain rfl := AL aq
 exact rfl
set_option maxHeartbeats 1000000 in
theorem OE {Ab : List (Int × Bool)} {af : List (List Int)} {Az : List (Int × Int)} (al : F JI = some (.cells ((([.int .i64 Ad] : List Value) ++ (([.slice AX AZ.length AY] : List Value) ++ (([.slice Aj Ab.length Ai] : List Value) ++ (([.slice AP af.length AO] : List Value) ++ (([.slice AR Az.length AQ] : List Value) ++ (([.map (some Ec)] : List Value) ++ (BQ.flatMap (cI .i64) ++ (last.flatMap (cI .i64))))))))).toArray) 304 Ox)) (ai : Av 2 (IZ 2 (cI .i64)) F AX AY AZ) (ab : Av 2 (Br (iE .i64) bE) F Aj Ai Ab) (ah : Av 1 (BK 1 (iE .i64)) F AP AO af) (aa : Av 2 (Br (iE .i64) (iE .i64)) F AR AQ Az) (ad : F Ec = some (.map HJ Mf)) (ar : FK Gz (vA (cA (cI .i64))) Value.bool HJ C5) (ae : BQ.length = 8) (bc : last.length = 8) {r : List Int} (hr : IW Ad AZ Ab af Az C5 BQ last = some r) :
    SH.Spec Tryz.prog 163 #[.pointer (some ⟨JI, 0, none⟩)] F [] fun _ L' v => v = .agg (arr (cI .i64) r) ∧ L' = [] ∧ r.length = 80 := by
 refine sp func163 ntmps163 fun K _ _ => ?_
 rw [IW] at hr
 refine AN ?_
 refine Bo rfl zeroValue233 ?_; intro b1 ib
 refine AI (L' := [(b1, ce (arr (cI .i64) (List.replicate 80 0)) 233)]) rfl (BX ?_)
 refine Bo rfl zeroValue233 ?_; intro b2 ic
 refine AI (L' := [(b2, ce (arr (cI .i64) (List.replicate 80 0)) 233), (b1, ce (arr (cI .i64) (List.replicate 80 0)) 233)]) rfl (Aa ?_)
 obtain ⟨out, h4, r5⟩ := AG hr
 refine A0 (fun e1 F1 L1 => F = F1 ∧ L1 = [(b2, ce (arr (cI .i64) out) 233), (b1, ce (arr (cI .i64) (List.replicate 80 0)) 233)] ∧ e1.sub [(0, .pointer (some ⟨JI, 0, none⟩)), (2, .pointer (some ⟨b1, 0, none⟩)), (3, .pointer (some ⟨b2, 0, none⟩))] ∧ out.length = 80) ?_ ?_
 ·clear r5
  refine AN (um (Aa ?_))
  refine Ap ?_
  obtain ⟨g7, r8⟩ := A1 h4
  refine Bh (fun cb e1 F1 L1 => ∃ (k : Int), Dc 0 10 k cb ∧ ∃ (BD : List Int), EI cb k BD = some out ∧ F = F1 ∧ L1 = [(b2, ce (arr (cI .i64) BD) 233), (b1, ce (arr (cI .i64) (List.replicate 80 0)) 233)] ∧ e1.sub [(0, .pointer (some ⟨JI, 0, none⟩)), (2, .pointer (some ⟨b1, 0, none⟩)), (3, .pointer (some ⟨b2, 0, none⟩)), (11, .int .i64 k)] ∧ BD.length = 80) _ (m0 kr ⟨_, Dc.start _ _, List.replicate 80 0, r8, rfl, rfl, z4, List.length_replicate⟩) ?_
  rintro cb e1 _ _ ⟨k, cv, BD, cd, rfl, rfl, cw, h6⟩
  refine AB _ cw (AN (uv (Bb rfl rfl) ?_))
  refine Aa (As ?_)
  refine cQ (fun cf => ?_) fun cf => ?_
  ·obtain ⟨cb, rfl, cx⟩ := Dc.succ cv cf
   rw [EI] at cd
   refine Aq ?_
   obtain ⟨aw, fj, eo⟩ := AG cd
   refine A0 (fun e1 F1 L1 => F = F1 ∧ L1 = [(b2, ce (arr (cI .i64) aw) 233), (b1, ce (arr (cI .i64) (List.replicate 80 0)) 233)] ∧ e1.sub [(0, .pointer (some ⟨JI, 0, none⟩)), (2, .pointer (some ⟨b1, 0, none⟩)), (3, .pointer (some ⟨b2, 0, none⟩)), (11, .int .i64 k)] ∧ aw.length = 80) ?_ ?_
   ·clear eo
    refine Ap ?_
    refine AN (um (ua (BX (um (Aa ?_)))))
    refine Ap ?_
    obtain ⟨fk, fl⟩ := A1 fj
    refine Bh (fun cg e1 F1 L1 => ∃ (k2 : Int), Dc 0 8 k2 cg ∧ ∃ (ax : List Int), FQ k cg k2 ax = some aw ∧ F = F1 ∧ L1 = [(b2, ce (arr (cI .i64) ax) 233), (b1, ce (arr (cI .i64) (List.replicate 80 0)) 233)] ∧ e1.sub [(0, .pointer (some ⟨JI, 0, none⟩)), (2, .pointer (some ⟨b1, 0, none⟩)), (3, .pointer (some ⟨b2, 0, none⟩)), (4, .int .i64 k), (11, .int .i64 k), (14, .int .i64 k2)] ∧ ax.length = 80) _ (m0 kr ⟨_, Dc.start _ _, BD, fl, rfl, rfl, z6, h6⟩) ?_
    rintro cg e1 _ _ ⟨k2, bd, ax, cj, rfl, rfl, cy, ck⟩
    refine AB _ cy (AN (uv (Bb rfl rfl) ?_))
    refine Aa (As ?_)
    refine cQ (fun cn => ?_) fun cn => ?_
    ·obtain ⟨cg, rfl, cz⟩ := Dc.succ bd cn
     rw [FQ] at cj
     refine Aq (As ?_)
     refine Ap ?_
     refine AN (um (ua (Aa (Am (um (um ?_))))))
     obtain ⟨ep, fm⟩ := A1 cj
     refine uv (Bj underlying233 sizeOf231 rfl rfl ep) ?_
     obtain ⟨er, fo⟩ := A1 fm
     obtain ⟨x, fp, fq, ft⟩ := Bx fo
     have da : (k * 8 + k2 : Int).toNat = (k : Int).toNat * 8 + (k2 : Int).toNat := by have := ep; have := er; omega
     refine uv (Bj underlying231 sizeOf3 rfl rfl er) ?_
     obtain ⟨bg, eu, fv⟩ := CH ft
     have fw : bg.length = 80 := by rw [eu, List.length_set]; exact ck
     refine Lw (i := 0) sizeOf3 (A4 .i64) rfl rfl rfl rfl da (by have := fp; have := ck; omega) ck ?_
     refine AI (L' := [(b2, ce (arr (cI .i64) bg) 233), (b1, ce (arr (cI .i64) (List.replicate 80 0)) 233)]) (by rw [eu]; rfl) ?_
     refine Aa (AD (id := 3) (Am ?_))
     refine uv (Bd rfl rfl (Dc.Eg bd cn fk)) ?_
     refine um (Aa ?_)
     exact le kr ⟨_, cz, bg, fv, rfl, rfl, z6, fw⟩
    obtain rfl := Dc.zero bd cn
    rw [FQ] at cj
    refine AT (Af (Af ?_))
    refine Ay (AD (id := 1) ?_)
    obtain rfl := AL cj
    exact mi kr ⟨rfl, rfl, z4, ck⟩
   rintro e1 _ _ ⟨rfl, rfl, db, fx⟩
   refine AB _ db (Am (uv (Bd rfl rfl (Dc.Eg cv cf g7)) ?_))
   refine um (Aa ?_)
   exact le kr ⟨_, cx, aw, eo, rfl, rfl, z4, fx⟩
  obtain rfl := Dc.zero cv cf
  rw [EI] at cd
  refine AT (Af (Af ?_))
  refine Ay ?_
  obtain rfl := AL cd
  exact mi kr ⟨rfl, rfl, z3, h6⟩
 rintro e1 _ _ ⟨rfl, rfl, dd, h3⟩
 refine AB _ dd ?_
 refine AN (um ?_)
 refine uv (BP rfl rfl) ?_
 refine ua (Aa ?_)
 obtain ⟨aq, fy, ew⟩ := AG r5
 refine A0 (fun e1 F1 L1 => A3 F F1 ∧ L1 = [(b2, ce (arr (cI .i64) aq) 233), (b1, ce (arr (cI .i64) (List.replicate 80 0)) 233)] ∧ e1.sub [(2, .pointer (some ⟨b1, 0, none⟩)), (3, .pointer (some ⟨b2, 0, none⟩))] ∧ aq.length = 80) ?_ ?_
 ·clear ew
  refine AN (um ?_)
  refine uv (A2 rfl) (uv (Ae LS rfl) (uv (Ae Po rfl) (uv (An isAgg3 rfl (Has.frozen al) (E8 (Bm (B := ([.slice AX AZ.length AY] : List Value) ++ (([.slice Aj Ab.length Ai] : List Value) ++ (([.slice AP af.length AO] : List Value) ++ (([.slice AR Az.length AQ] : List Value) ++ (([.map (some Ec)] : List Value) ++ (BQ.flatMap (cI .i64) ++ (last.flatMap (cI .i64)))))))) rfl))) ?_)))
  refine um (Aa ?_)
  refine Ap ?_
  obtain ⟨ga, gb⟩ := A1 fy
  refine Bh (fun cp e1 F1 L1 => ∃ (k3 : Int), Dc 0 Ad k3 cp ∧ ∃ (au : List Int), Dt Ad AZ Ab af Az C5 BQ last cp k3 au = some aq ∧ A3 F F1 ∧ L1 = [(b2, ce (arr (cI .i64) au) 233), (b1, ce (arr (cI .i64) (List.replicate 80 0)) 233)] ∧ e1.sub [(0, .pointer (some ⟨JI, 0, none⟩)), (2, .pointer (some ⟨b1, 0, none⟩)), (3, .pointer (some ⟨b2, 0, none⟩)), (6, .func (.func 211) #[.pointer (some ⟨JI, 0, none⟩)] #[]), (29, .int .i64 Ad), (30, .int .i64 k3)] ∧ au.length = 80) _ (m0 kr ⟨_, Dc.start _ _, out, gb, A3.refl _, rfl, z6, h3⟩) ?_
  rintro cp e1 ey _ ⟨k3, bh, au, cq, ao, rfl, de, ez⟩
  refine AB _ de ?_
  replace ai := ai.mono (CD (n := 2) (sz := 1) (A4 .i64)) ao
  replace ab := ab.mono (Au (Ac _) EL) ao
  replace ah := ah.mono (Ar (Ac _)) ao
  replace aa := aa.mono (Au (Ac _) (Ac _)) ao
  replace ad := ao _ _ ad
  replace al := ao _ _ al
  refine AN (uv (Bb rfl rfl) ?_)
  refine Aa (As ?_)
  refine cQ (fun ct => ?_) fun ct => ?_
  ·obtain ⟨cp, rfl, df⟩ := Dc.succ bh ct
   rw [Dt] at cq
   refine Aq ?_
   obtain ⟨ay, gg, fa⟩ := AG cq
   refine A0 (fun e1 F1 L1 => A3 ey F1 ∧ L1 = [(b2, ce (arr (cI .i64) ay) 233), (b1, ce (arr (cI .i64) (List.replicate 80 0)) 233)] ∧ e1.sub [(0, .pointer (some ⟨JI, 0, none⟩)), (2, .pointer (some ⟨b1, 0, none⟩)), (3, .pointer (some ⟨b2, 0, none⟩)), (6, .func (.func 211) #[.pointer (some ⟨JI, 0, none⟩)] #[]), (29, .int .i64 Ad), (30, .int .i64 k3)] ∧ ay.length = 80) ?_ ?_
   ·clear fa
    refine Ap ?_
    refine AN (um (ua (BX (um ?_))))
    refine uv (A2 rfl) (uv (Ae S3 rfl) (uv (An isAgg114 rfl (Has.frozen al) (E8 (At (A := ([.int .i64 Ad] : List Value)) (k := 1) (o := 3) rfl (At (A := ([.slice AX AZ.length AY] : List Value)) (k := 1) (o := 2) rfl (At (A := ([.slice Aj Ab.length Ai] : List Value)) (k := 1) (o := 1) rfl (At (A := ([.slice AP af.length AO] : List Value)) (k := 1) (o := 0) rfl (Bm (B := ([.map (some Ec)] : List Value) ++ (BQ.flatMap (cI .i64) ++ (last.flatMap (cI .i64)))) rfl))))))) (uv (A7 underlying114 rfl) ?_)))
    refine um (Aa ?_)
    refine Ap ?_
    refine Bh (fun fb e1 F1 L1 => LA Az fb fun tl k4 => ∃ (aj : List Int), Du Ad AZ Ab af Az C5 BQ last k3 tl aj = some ay ∧ A3 ey F1 ∧ L1 = [(b2, ce (arr (cI .i64) aj) 233), (b1, ce (arr (cI .i64) (List.replicate 80 0)) 233)] ∧ e1.sub [(0, .pointer (some ⟨JI, 0, none⟩)), (2, .pointer (some ⟨b1, 0, none⟩)), (3, .pointer (some ⟨b2, 0, none⟩)), (6, .func (.func 211) #[.pointer (some ⟨JI, 0, none⟩)] #[]), (7, .int .i64 k3), (29, .int .i64 Ad), (30, .int .i64 k3), (36, .slice AR Az.length AQ), (37, .int .i64 (Az.length : Int)), (38, .int .i64 k4)] ∧ aj.length = 80) _ (m0 kr ⟨_, _, rfl, BL.start _, au, gg, A3.refl _, rfl, (sc rfl (sc rfl z8)), ez⟩) ?_
    rintro fb e1 ie _ ⟨tl, k4, bk, az, aj, Eg, ak, rfl, dg, ba⟩
    refine AB _ dg ?_
    replace ai := ai.mono (CD (n := 2) (sz := 1) (A4 .i64)) ak
    replace ab := ab.mono (Au (Ac _) EL) ak
    replace ah := ah.mono (Ar (Ac _)) ak
    replace aa := aa.mono (Au (Ac _) (Ac _)) ak
    replace ad := ak _ _ ad
    replace al := ak _ _ al
    refine AN (uv (Bb rfl rfl) ?_)
    refine Aa (As ?_)
    refine cQ (fun bl => ?_) fun bl => ?_
    ·obtain ⟨x2, ig, rfl, dh, fe, bm⟩ := BL.succ az bl
     rw [Du] at Eg
     refine Aq (As ?_)
     refine Ap (AN ?_)
     obtain ⟨ij, ik, il, gh, di, dk, bb, ⟨_, _, rfl, rfl, rfl⟩, dm, dn⟩ := Av.at (Au (Ac _) (Ac _)) aa ([(b2, ce (arr (cI .i64) aj) 233), (b1, ce (arr (cI .i64) (List.replicate 80 0)) 233)]) fe.1 dh
     refine uv (AK underlying114 sizeOf116 rfl di rfl fe) (uv (AS (cs := #[.int .i64 x2.1, .int .i64 x2.2]) isAgg116 sizeOf116 rfl dk bb (BB bb dm dn)) ?_)
     refine Bo rfl zeroValue116 ?_; intro cu gk
     refine B1 (i := 0) sizeOf116 rfl rfl rfl (by simp [Value.oneCell']) rfl (CK rfl) (AI (L' := [(cu, ce #[.int .i64 x2.1, .int .i64 x2.2] 116), (b2, ce (arr (cI .i64) aj) 233), (b1, ce (arr (cI .i64) (List.replicate 80 0)) 233)]) rfl ?_)
     refine BX (um (um ?_))
     refine uv (Ae TD rfl) (uv (An isAgg3 rfl (Has.own 0 rfl) rfl) ?_)
     obtain ⟨ok, gl, ff⟩ := AG Eg
     refine cV call211 (Pb al ai ab ah aa ad ar ae bc gl) (Aa ?_)
     refine A5 rfl (fun dp => ?_) (fun dp => ?_)
     ·have gm := bt ff dp
      refine dW (wm (wv (Ae QW rfl) (wv (An isAgg3 rfl (Has.own 0 rfl) rfl) (wv (A2 rfl) (wv (Ae KR rfl) ?_)))))
      obtain ⟨x3, gn, dq, gp⟩ := Bx gm
      have dr := QE (A4 .i64) ae dq (FY (At (A := ([.int .i64 Ad] : List Value)) (k := 1) (o := 5) rfl (At (A := ([.slice AX AZ.length AY] : List Value)) (k := 1) (o := 4) rfl (At (A := ([.slice Aj Ab.length Ai] : List Value)) (k := 1) (o := 3) rfl (At (A := ([.slice AP af.length AO] : List Value)) (k := 1) (o := 2) rfl (At (A := ([.slice AR Az.length AQ] : List Value)) (k := 1) (o := 1) rfl (At (A := ([.map (some Ec)] : List Value)) (k := 1) (o := 0) rfl (Bm (B := last.flatMap (cI .i64)) (DM (A4 .i64) ae))))))))) (Eb (At (A := ([.int .i64 Ad] : List Value)) (k := 1) (o := 5) rfl (At (A := ([.slice AX AZ.length AY] : List Value)) (k := 1) (o := 4) rfl (At (A := ([.slice Aj Ab.length Ai] : List Value)) (k := 1) (o := 3) rfl (At (A := ([.slice AP af.length AO] : List Value)) (k := 1) (o := 2) rfl (At (A := ([.slice AR Az.length AQ] : List Value)) (k := 1) (o := 1) rfl (At (A := ([.map (some Ec)] : List Value)) (k := 1) (o := 0) rfl (Bm (B := last.flatMap (cI .i64)) (DM (A4 .i64) ae))))))))) (DM (A4 .i64) ae)
      refine wv (Bj underlying231 sizeOf3 rfl rfl (Gx ae gn)) (wv (An isAgg3 rfl (Has.frozen al) ((dr).2.2 0 (by decide))) ?_)
      refine wa (CQ ?_)
      refine Dp [(.still, 0), (.still, 1), (.still, 2), (.still, 3), (.still, 4), (.still, 5), (.still, 6), (.still, 7), (.still, 8), (.still, 11), (.seq, 9), (.seq, 10), (.still, 12), (.seq, 13)] (by kernel_rfl) (by kernel_rfl) (trivial) (by rfl) (by kernel_rfl) (mS [7] rfl (Bw rfl) (mS [10] rfl (Bw rfl) (mS [7] rfl (Bw rfl) (mS [10] rfl (Bw rfl) ?_))))
      obtain ⟨fg, gq⟩ := A1 gp
      refine mS [3, 56] rfl (Bj underlying233 sizeOf231 rfl rfl fg) ?_
      obtain ⟨fh, gr⟩ := A1 gq
      obtain ⟨x4, gu, dt, gv⟩ := Bx gr
      have du : (k3 * 8 + x3 : Int).toNat = (k3 : Int).toNat * 8 + (x3 : Int).toNat := by have := fg; have := fh; omega
      have dv := Jh (A4 .i64) ba du dt (FY (Cd (DM (A4 .i64) ba))) (Eb (Cd (DM (A4 .i64) ba)))
      refine mS [57, 58] rfl (Bj underlying231 sizeOf3 rfl rfl fh) (mL [59] ([(b2, ce (arr (cI .i64) aj) 233)]) rfl (s0 (s1 (s2 (s1 sr)))) (fun H F' L' dw dx => An isAgg3 rfl ((Has.own 0 rfl).ext dw dx) ((dv).2.2 0 (by decide))) (mS [9] rfl (Ae QW rfl) (mL [61] ([(cu, ce #[.int .i64 x2.1, .int .i64 x2.2] 116)]) rfl (s0 (s2 (s1 (s1 sr)))) (fun H F' L' dw dx => An isAgg3 rfl ((Has.own 0 rfl).ext dw dx) rfl) ?_)))
      obtain ⟨bn, dy⟩ := A1 gv
      refine mS [3, 54] rfl (Bj underlying233 sizeOf231 rfl rfl bn) ?_
      refine ⟨_, [(62, .int .i64 x2.1)], rfl, rfl, z1, by kernel_rfl, ?_⟩; intro H
      refine bA (cs := #[.int .i64 x2.1]) Cm [.int .i64 x2.1] ?_; intro bo bp
      refine Aa ⟨_, rfl, A3.refl _, [11, 6, 5, 4, 3, 2, 1, 0], by kernel_rfl, .inl (.inr (fun d h => by cases h; rfl)), (fc sm (fc (s0 (s1 (s1 (s2 (s1 sr))))) (fc sm (fc sm (fc sm (fc sm (fc sm (fc sm nm)))))))), ?_⟩
      refine ⟨_, [(60, .int .i64 x4), (63, .slice (some ⟨bo, 0, none⟩) 1 1)], rfl, rfl, z2, by kernel_rfl, ?_⟩; intro H
      refine Bi 0 rfl bp ?_; intro dz av bq
      refine AI (L' := [(cu, ce #[.int .i64 x2.1, .int .i64 x2.2] 116), (b2, ce (arr (cI .i64) aj) 233), (b1, ce (arr (cI .i64) (List.replicate 80 0)) 233)]) rfl ?_
      replace aa := aa.mono (Au (Ac _) (Ac _)) av
      have eb : Av 1 (iE .i64) dz (some ⟨bo, 0, none⟩) 1 [x2.1] := Av.BM (Ac _) (vss := [[.int .i64 x2.1]]) (xs := [x2.1]) bq (.cons rfl .nil) rfl (by simp [maxLen])
      obtain ⟨n, ec, eg⟩ := AG dy
      refine cV call212 (OI eb ec) ?_
      refine Aa ⟨_, rfl, av, [11, 1, 0], by kernel_rfl, .inl (.inr (fun d h => by cases h; rfl)), (fc sm (fc sm (fc sm nm))), ?_⟩
      obtain ⟨br, eh⟩ := A1 eg
      have bu : (k3 * 8 + x3 : Int).toNat = (k3 : Int).toNat * 8 + (x3 : Int).toNat := by have := bn; have := br; omega
      refine mS [55, 65] rfl (Bj underlying231 sizeOf3 rfl rfl br) ?_
      refine ⟨_, [(64, .int .i64 n), (66, .pointer (some ⟨b2, 0 + (k3 : Int).toNat * 8 + (x3 : Int).toNat * 1, none⟩))], rfl, rfl, z2, by kernel_rfl, ?_⟩; intro H
      obtain ⟨l, bw, ei⟩ := CH eh
      have ej : l.length = 80 := by rw [bw, List.length_set]; exact ba
      refine Lw (i := 1) sizeOf3 (A4 .i64) rfl rfl rfl rfl bu (by have := gu; have := ba; omega) ba ?_
      refine AI (L' := [(cu, ce #[.int .i64 x2.1, .int .i64 x2.2] 116), (b2, ce (arr (cI .i64) l) 233), (b1, ce (arr (cI .i64) (List.replicate 80 0)) 233)]) (by rw [bw]; rfl) ?_
      refine Aa ⟨undef, rfl, A3.refl _, [], by kernel_rfl, .inl (.inl rfl), nm, ?_⟩
      refine Ff ?_
      refine AD (id := 7) (Am ?_)
      refine uv (Bd rfl rfl (BL.Eg az bl (Av.lt aa))) ?_
      refine um (Aa ?_)
      subst bk; exact le (kd kr) ⟨_, _, rfl, bm, l, ei, (ak.trans av), rfl, (sc rfl (sc rfl z8)), ej⟩
     have en := bf ff dp
     refine Aq (AD (id := 7) (Am ?_))
     refine uv (Bd rfl rfl (BL.Eg az bl (Av.lt aa))) ?_
     refine um (Aa ?_)
     subst bk; exact le (kd kr) ⟨_, _, rfl, bm, aj, en, ak, rfl, (sc rfl (sc rfl z8)), ba⟩
    obtain rfl := BL.zero az bl
    rw [Du] at Eg
    refine AT (Af (Af ?_))
    refine Ay (AD (id := 5) ?_)
    obtain rfl := AL Eg
    exact mi kr ⟨ak, rfl, z6, ba⟩
   rintro e1 gw _ ⟨bx, rfl, bz, gz⟩
   refine AB _ bz (Am (uv (Bd rfl rfl (Dc.Eg bh ct ga)) ?_))
   refine um (Aa ?_)
   exact le kr ⟨_, df, ay, fa, (ao.trans bx), rfl, z6, gz⟩
  obtain rfl := Dc.zero bh ct
  rw [Dt] at cq
  refine AT (Af (Af ?_))
  refine Ay ?_
  obtain rfl := AL cq
  exact mi kr ⟨ao, rfl, z2, ez⟩
 rintro e1 ia _ ⟨fi, rfl, ca, bj⟩
 refine AB _ ca (AN (uv (Gq isAgg233 sizeOf233 rfl (Has.own 0 rfl) (Ci (A4 .i64) bj)) (Ef (i := 1) sizeOf233 rfl rfl rfl (Ci (A4 .i64) List.length_replicate) (Ci (A4 .i64) bj) (Hc (A4 .i64)) (AI (L' := [(b2, ce (arr (cI .i64) aq) 233), (b1, ce (arr (cI .i64) aq) 233)]) rfl (Aa (kW (kd kr) (Ao ?_)))))))
 refine Jv results163 (Fg (cs := arr (cI .i64) aq) isAgg233 sizeOf233 rfl (Has.own 0 rfl) (Eb (Cd (DM (A4 .i64) bj))) (G9 (DM (A4 .i64) bj) (Cd (DM (A4 .i64) bj)))) (s1 sr) ?_
 obtain rfl := AL ew
 exact ⟨rfl, rfl, bj⟩
set_option maxHeartbeats 1000000 in
theorem Pf {Ab : List (Int × Bool)} {aa : List (List Int)} {Az : List (Int × Int)} (aq : F JI = some (.cells ((([.int .i64 Ad] : List Value) ++ (([.slice AX AZ.length AY] : List Value) ++ (([.slice Aj Ab.length Ai] : List Value) ++ (([.slice AP aa.length AO] : List Value) ++ (([.slice AR Az.length AQ] : List Value) ++ (([.map (some Ec)] : List Value) ++ (BQ.flatMap (cI .i64) ++ (last.flatMap (cI .i64))))))))).toArray) 304 Ox)) (ai : Av 2 (IZ 2 (cI .i64)) F AX AY AZ) (ab : Av 2 (Br (iE .i64) bE) F Aj Ai Ab) (ae : Av 1 (BK 1 (iE .i64)) F AP AO aa) (aj : Av 2 (Br (iE .i64) (iE .i64)) F AR AQ Az) (ad : F Ec = some (.map HJ Mf)) (af : FK Gz (vA (cA (cI .i64))) Value.bool HJ C5) (ah : BQ.length = 8) (ak : last.length = 8) {r : List Int} (hr : Ht Ad AZ Ab aa Az C5 BQ last EP = some r) :
    SH.Spec Tryz.prog 94 #[.pointer (some ⟨JI, 0, none⟩), .int .i64 EP] F [] fun _ L' v => v = .agg (arr (cI .i64) r) ∧ L' = [] ∧ r.length = 80 := by
 refine sp func94 ntmps94 fun K _ _ => ?_
 rw [Ht] at hr
 refine AN ?_
 refine Bo rfl zeroValue233 ?_; intro b1 az
 refine AI (L' := [(b1, ce (arr (cI .i64) (List.replicate 80 0)) 233)]) rfl ?_
 refine BX (um ?_)
 obtain ⟨a, h2, r3⟩ := AG hr
 refine c0 call163 (OE aq ai ab ae aj ad af ah ak h2) ?_; rintro _ F4 _ ba bb ⟨rfl, rfl, h8⟩
 refine AI (ln rfl) ?_
 refine Bo rfl zeroValue233 ?_; intro b9 bc
 refine AI (L' := [(b9, ce (arr (cI .i64) (List.replicate 80 0)) 233), (b1, ce (arr (cI .i64) (List.replicate 80 0)) 233)]) rfl (Ef (i := 0) sizeOf233 rfl rfl rfl (Ci (A4 .i64) List.length_replicate) (Ci (A4 .i64) h8) (Hc (A4 .i64)) (AI (L' := [(b9, ce (arr (cI .i64) a) 233), (b1, ce (arr (cI .i64) (List.replicate 80 0)) 233)]) rfl (Aa ?_)))
 obtain ⟨aw, au⟩ := Y1 r3
 refine jE ([(b9, ce (arr (cI .i64) a) 233), (b1, ce (arr (cI .i64) (List.replicate 80 0)) 233)]) [(4, .pointer (some ⟨b1, 0, none⟩)), (5, .pointer (some ⟨b9, 0, none⟩))] ?_ ?_
 ·clear au
  refine AN (um (um (Aa ?_)))
  refine Ap ?_
  refine Bh (fun al e1 F1 L1 => FM EP al = some () ∧ F4 = F1 ∧ L1 = [(b9, ce (arr (cI .i64) a) 233), (b1, ce (arr (cI .i64) (List.replicate 80 0)) 233)] ∧ e1.sub [(0, .pointer (some ⟨JI, 0, none⟩)), (4, .pointer (some ⟨b1, 0, none⟩)), (5, .pointer (some ⟨b9, 0, none⟩)), (8, .int .i64 EP), (9, .int .i64 0)]) FU (m0 kr ⟨aw, rfl, rfl, z5⟩) ?_
  rintro al e1 _ _ ⟨ao, rfl, rfl, ar⟩
  refine AB _ ar ?_
  rcases al with _ | al
  ·rw [FM] at ao; cases ao
  rw [FM] at ao
  refine AN (uv (Bb rfl rfl) ?_)
  refine Aa (As ?_)
  obtain ⟨ax, ay⟩ := A1 ao
  refine Ja rfl (fun av => absurd av ax) (fun av => ?_)
  refine AT (Af (Af ?_))
  refine Ay ?_
  clear ay
  exact mi kr ⟨rfl, rfl, z2⟩
 refine AN (uv (Gq isAgg233 sizeOf233 rfl (Has.own 0 rfl) (Ci (A4 .i64) h8)) (Ef (i := 1) sizeOf233 rfl rfl rfl (Ci (A4 .i64) List.length_replicate) (Ci (A4 .i64) h8) (Hc (A4 .i64)) (AI (L' := [(b9, ce (arr (cI .i64) a) 233), (b1, ce (arr (cI .i64) a) 233)]) rfl (Aa (kW (kd kr) (Ao (Jv results94 (Fg (cs := arr (cI .i64) a) isAgg233 sizeOf233 rfl (Has.own 0 rfl) (Eb (Cd (DM (A4 .i64) h8))) (G9 (DM (A4 .i64) h8) (Cd (DM (A4 .i64) h8)))) (s1 sr) ?_)))))))
 obtain rfl := AL au
 exact ⟨rfl, rfl, h8⟩
set_option maxHeartbeats 1000000 in
theorem TU {Ab : List (Int × Bool)} {aa : List (List Int)} {Az : List (Int × Int)} (ai : Av 2 (IZ 2 (cI .i64)) F AX AY AZ) (ab : Av 2 (Br (iE .i64) bE) F Aj Ai Ab) (af : Av 1 (BK 1 (iE .i64)) F AP AO aa) (aj : Av 2 (Br (iE .i64) (iE .i64)) F AR AQ Az) {r : List (Int × Int)} {r2 : Int} (hr : JW Ad AZ Ab aa Az EP = some (r, r2)) :
    SH.Spec Tryz.prog 33 #[.agg #[.int .i64 Ad, .slice AX AZ.length AY, .slice Aj Ab.length Ai, .slice AP aa.length AO], .slice AR Az.length AQ, .int .i64 EP] F [] fun F' L' v => ∃ (ra : Option Addr) (rn : Nat) (rc : Nat) (rL : LH), v = .tuple #[.slice ra rn rc, .int .i64 r2] ∧ L' = rL ++ [] ∧ Be 0 122 2 (Br (iE .i64) (iE .i64)) F' ra rn rc r rL := by
 refine sp func33 ntmps33 fun K _ _ => ?_
 rw [JW] at hr
 refine AN ?_
 refine Bt rfl rfl ?_; intro b1 cv
 refine ua (ua (BX ?_))
 refine uv (AS isAgg113 sizeOf113 rfl (Has.own 0 rfl) (CK rfl) rfl) ?_
 refine um (um ?_)
 obtain ⟨d, n, h2, r3⟩ := Es hr
 refine c0 call92 (RU ai ab af aj h2) ?_; rintro _ F4 _ cw cx ⟨v8, rfl, rfl, bh⟩
 refine AI (ln rfl) ?_
 refine um (ox rfl rfl rfl (ox rfl rfl rfl (ua (ua (Aa (As (AN (um ?_))))))))
 refine uv (B7 rfl rfl) (Aa ?_)
 obtain ⟨bj, bk⟩ := A1 r3
 refine Ja rfl (fun bb => absurd bb bj) (fun bb => ?_)
 refine Aq (AN (um (um (um ?_))))
 obtain ⟨Bp, C5, ah, ak, ao, ay, BQ, last, bl, bm⟩ := Wo bk
 have bc := bh; rw [bl] at bc; obtain ⟨bn, cy, bo, az, ad, ⟨_, _, rfl, rfl, ⟨_, _, rfl, ⟨bp, bq, rfl, au⟩, ⟨_, _, rfl, ⟨br, bu, rfl, av⟩, ⟨_, _, rfl, ⟨bw, bx, rfl, aw⟩, ⟨_, _, rfl, ⟨bz, ca, rfl, ax⟩, ⟨_, _, rfl, ⟨cb, cd, cf, rfl, al, ar⟩, ⟨_, _, rfl, ⟨rfl, bd⟩, ⟨rfl, bg⟩⟩⟩⟩⟩⟩⟩⟩⟩ := bc; subst az
 have ad : F4 bn = some (.cells ((([.int .i64 Bp] : List Value) ++ (([.slice bp C5.length bq] : List Value) ++ (([.slice br ah.length bu] : List Value) ++ (([.slice bw ak.length bx] : List Value) ++ (([.slice bz ao.length ca] : List Value) ++ (([.map (some cb)] : List Value) ++ (BQ.flatMap (cI .i64) ++ (last.flatMap (cI .i64))))))))).toArray) 304 bo) := ad
 obtain ⟨a, cg, cj⟩ := AG bm
 refine c0 call94 (Pf ad au av aw ax al ar bd bg cg) ?_; rintro _ cz _ ae ck ⟨rfl, rfl, cn⟩
 replace au := au.mono (CD (n := 2) (sz := 1) (A4 .i64)) ae
 replace av := av.mono (Au (Ac _) EL) ae
 replace aw := aw.mono (Ar (Ac _)) ae
 replace ax := ax.mono (Au (Ac _) (Ac _)) ae
 replace al := ae _ _ al
 replace ad := ae _ _ ad
 refine AI (ln rfl) ?_
 obtain ⟨l, cp, cq⟩ := AG cj
 refine c0 call93 (PD ad au av aw ax al ar bd bg cn cp) ?_; rintro _ da _ ct ba ⟨db, dd, de, cu, rfl, rfl, aq⟩
 replace aq := aq.new fun p hp => ba p (by simp [hp])
 refine AI (lp (ln rfl)) (kO (kf (fS fO) kr) ?_)
 refine ua (ua (Aa ?_))
 refine kW (kd kr) (Ao (CT results33 (A6 rfl) (A6 rfl) (sr) ?_))
 obtain ⟨rfl, rfl⟩ := D2 cq
 exact ⟨_, _, _, _, rfl, rfl, aq.any⟩
set_option maxHeartbeats 1000000 in
theorem Jy {s_ : List (Int × Int)} (ab : Av 2 (Br (iE .i64) (iE .i64)) F B0 BY s_) {r : Int} (hr : DH s_ DR Ba = some r) :
    Bl Tryz.prog 95 #[.slice B0 s_.length BY, .agg #[.int .i64 DR, .int .i64 Ba]] F (.int .i64 r) := by
 refine sp func95 ntmps95 fun K _ _ => ?_
 rw [DH] at hr
 refine AN ?_
 refine Bt rfl rfl ?_; intro b1 ba
 refine ua (Aa ?_)
 refine A0 (fun e1 F1 L1 => Eh = some r ∧ F = F1 ∧ L1 = [] ∧ e1.sub []) ?_ ?_
 ·refine AN (um ?_)
  refine uv (A7 underlying117 rfl) ?_
  refine um (Aa ?_)
  refine Ap ?_
  refine Bh (fun al e1 F1 L1 => LA s_ al fun tl k => BO DR Ba tl k = some r ∧ F = F1 ∧ L1 = [(b1, ce #[.int .i64 DR, .int .i64 Ba] 122)] ∧ e1.sub [(0, .slice B0 s_.length BY), (3, .pointer (some ⟨b1, 0, none⟩)), (7, .int .i64 (s_.length : Int)), (8, .int .i64 k)]) _ (m0 kr ⟨_, _, rfl, BL.start _, hr, rfl, rfl, z4⟩) ?_
  rintro al e1 _ _ ⟨tl, k, ar, ad, r4, rfl, rfl, au⟩
  refine AB _ au (AN (uv (Bb rfl rfl) ?_))
  refine Aa (As ?_)
  refine cQ (fun c7 => ?_) fun c7 => ?_
  ·obtain ⟨x, bb, rfl, av, ao, aw⟩ := BL.succ ad c7
   rw [BO] at r4
   refine Aq (As ?_)
   refine Ap ?_
   refine AN (um (ua ?_))
   refine dN (wv (AS isAgg122 sizeOf122 rfl (Has.own 0 rfl) (CK rfl) rfl) ?_)
   refine wm (wm ?_)
   obtain ⟨Rf, bc, bd, ax, ae, af, aa, ⟨_, _, rfl, rfl, rfl⟩, ah, ai⟩ := Av.at (Au (Ac _) (Ac _)) ab ([(b1, ce #[.int .i64 DR, .int .i64 Ba] 122)]) ao.1 av
   refine wv (AK underlying117 sizeOf122 rfl ae rfl ao) (wv (AS isAgg122 sizeOf122 rfl af aa (BB aa ah ai)) (wv (UP (XK _ _ _ _) (YG _ _ _ _) rfl rfl) (CQ ?_)))
   refine cQ (fun aj => ?_) fun aj => ?_
   ·have ay := Bf r4 aj
    refine AN (um (ua (Aa ?_)))
    refine kW kn ?_
    refine Ao (AA (Ah (Ah (AA (Ah ?_)))))
    refine BU results95 ?_
    obtain rfl := AL ay
    exact rfl
   have az := Bg r4 aj
   refine Aq (AD (id := 1) (Am ?_))
   refine uv (Bd rfl rfl (BL.Eg ad c7 (Av.lt ab))) ?_
   refine um (Aa ?_)
   subst ar; exact le kr ⟨_, _, rfl, aw, az, rfl, rfl, z4⟩
  obtain rfl := BL.zero ad c7
  rw [BO] at r4
  refine AT (Af (Af ?_))
  refine Ay ?_
  exact mi kn ⟨r4, rfl, rfl, (sn _)⟩
 rintro e1 _ _ ⟨aq, rfl, rfl, ak⟩
 refine AB _ ak ?_
 rw [Eh] at aq
 refine AN (ua (Aa (Ao ?_)))
 refine BU results95 ?_
 obtain rfl := AL aq
 exact rfl
theorem IS {s_ : List (Int × Int)} (aa : Av 2 (Br (iE .i64) (iE .i64)) F B0 BY s_) {r : Bool} (hr : B5 s_ DR Ba = some r) :
    Bl Tryz.prog 34 #[.slice B0 s_.length BY, .agg #[.int .i64 DR, .int .i64 Ba]] F (.bool r) := by
 refine sp func34 ntmps34 fun K _ _ => ?_
 rw [B5] at hr
 refine AN ?_
 refine Bt rfl rfl ?_; intro b1 ab
 refine ua (BX (um ?_))
 refine uv (AS isAgg122 sizeOf122 rfl (Has.own 0 rfl) (CK rfl) rfl) ?_
 obtain ⟨n, h2, r3⟩ := AG hr
 refine cV call95 (Jy aa h2) (uv (HQ rfl rfl) ?_)
 refine ua (Aa ?_)
 refine kW kn (Ao (BU results34 ?_))
 obtain rfl := AL r3
 exact rfl
theorem ME {Ab : Int} {Az : List (Int × Int × Int)} (ab : Av 1 (BK 1 (BK 1 (iE .i64))) F Aw Ax Al) (aa : Av 1 (iE .i64) F AF AE Ak) (ad : Av 3 (Br (iE .i64) (Br (iE .i64) (iE .i64))) F AR AQ Az) {r : Int} (hr : Gn DR Ba heard Ad Ab Al Ak Az = some r) :
    Bl Tryz.prog 214 #[.agg #[.int .i64 DR, .int .i64 Ba, .bool heard], .agg #[.int .i64 Ad, .int .i64 Ab, .slice Aw Al.length Ax, .slice AF Ak.length AE, .slice AR Az.length AQ]] F (.int .i64 r) := by
 refine sp func214 ntmps214 fun K _ _ => ?_
 rw [Gn] at hr
 refine AN ?_
 refine Bt rfl rfl ?_; intro b1 ak
 refine Bt rfl rfl ?_; intro b2 al
 refine ua (Aa (As ?_))
 obtain ⟨k, h3, r4⟩ := AG hr
 refine jE ([]) [(16, .bool k)] ?_ ?_
 ·clear r4
  refine Am (uv (AS isAgg100 sizeOf100 rfl (Has.own 0 rfl) (CK rfl) rfl) (uv (Ae To rfl) (uv (An isAgg3 rfl (Has.own 1 rfl) rfl) ?_)))
  obtain ⟨ok, h5, r6⟩ := AG h3
  refine cV call171 (Lq ab aa ad h5) (uv (BC rfl) (um ?_))
  rcases Co (!ok) with c7 | c7
  ·have r8 := bt r6 c7
   refine fB c7 (fB c7 (fB c7 (fB c7 (fB c7 ?_))))
   refine uv (AW (Iy rfl c7) rfl) (Aa ?_)
   obtain rfl := AL r8
   exact mi kn ⟨rfl, rfl, z1⟩
  have r9 := bf r6 c7
  refine nB c7 (uv (AS isAgg100 sizeOf100 rfl (Has.own 0 rfl) (CK rfl) rfl) (nB c7 (uv (Ae Tl rfl) (nB c7 (uv (An isAgg3 rfl (Has.own 1 rfl) rfl) (nB c7 ?_))))))
  obtain ⟨ao, af, ah⟩ := AG r9
  refine cV call101 (I1 ab aa ad af) (nB c7 (uv (BC rfl) (uv (AH (Iy rfl c7) rfl) (Aa ?_))))
  obtain rfl := AL ah
  exact mi kn ⟨rfl, rfl, z1⟩
 refine A5 rfl (fun ae => ?_) (fun ae => ?_)
 ·have ai := bt r4 ae
  refine AN (ua (Aa (Ao (Ah ?_))))
  refine BU results214 ?_
  obtain rfl := AL ai
  exact rfl
 have aj := bf r4 ae
 refine Aq (AN (ua (Aa (Ao ?_))))
 refine BU results214 ?_
 obtain rfl := AL aj
 exact rfl
set_option maxHeartbeats 1000000 in
theorem OV {Ab : Int} {Az : List (Int × Int × Int)} {l : List (Int × Int × Bool)} (ab : Av 1 (BK 1 (BK 1 (iE .i64))) F Aw Ax Al) (aa : Av 1 (iE .i64) F AF AE Ak) (ad : Av 3 (Br (iE .i64) (Br (iE .i64) (iE .i64))) F AR AQ Az) (ay : Av 3 (Br (iE .i64) (Br (iE .i64) bE)) F Hp Hl l) {r : Int} (hr : HF Ad Ab Al Ak Az l = some r) :
    Bl Tryz.prog 165 #[.agg #[.int .i64 Ad, .int .i64 Ab, .slice Aw Al.length Ax, .slice AF Ak.length AE, .slice AR Az.length AQ], .slice Hp l.length Hl] F (.int .i64 r) := by
 refine sp func165 ntmps165 fun K _ _ => ?_
 rw [HF] at hr
 refine AN ?_
 refine Bt rfl rfl ?_; intro b1 bl
 refine ua (Aa (As (AN ?_)))
 refine uv (AS isAgg100 sizeOf100 rfl (Has.own 0 rfl) (CK rfl) rfl) ?_
 obtain ⟨n, h2, r3⟩ := AG hr
 refine cV call100 (Mp ab aa ad h2) ?_
 refine ua (BX (um ?_))
 refine uv (B7 rfl rfl) (Aa ?_)
 refine cQ (fun c4 => ?_) fun c4 => ?_
 ·have r5 := Bf r3 c4
  refine AN (um (ua (Aa ?_)))
  refine kW kn ?_
  refine Ao (Ah ?_)
  refine BU results165 ?_
  obtain rfl := AL r5
  exact rfl
 have r6 := Bg r3 c4
 refine Aq (As (AN (um ?_)))
 refine uv (A7 underlying128 rfl) (uv (KS rfl rfl) (Aa ?_))
 refine cQ (fun c7 => ?_) fun c7 => ?_
 ·have r8 := Bf r6 c7
  refine AN (ua (Aa ?_))
  refine kW kn ?_
  refine Ao (Ah ?_)
  refine BU results165 ?_
  obtain rfl := AL r8
  exact rfl
 have r9 := Bg r6 c7
 refine Aq ?_
 refine A0 (fun e1 F1 L1 => I5 = some r ∧ F = F1 ∧ L1 = [] ∧ e1.sub []) ?_ ?_
 ·refine AN (um ?_)
  refine uv (A7 underlying128 rfl) ?_
  refine um (Aa ?_)
  refine Ap ?_
  refine Bh (fun az e1 F1 L1 => LA l az fun tl k => D4 Ad Ab Al Ak Az tl = some r ∧ F = F1 ∧ L1 = [(b1, ce #[.int .i64 Ad, .int .i64 Ab, .slice Aw Al.length Ax, .slice AF Ak.length AE, .slice AR Az.length AQ] 100)] ∧ e1.sub [(2, .pointer (some ⟨b1, 0, none⟩)), (17, .slice Hp l.length Hl), (18, .int .i64 (l.length : Int)), (19, .int .i64 k)]) _ (m0 kr ⟨_, _, rfl, BL.start _, r9, rfl, rfl, z4⟩) ?_
  rintro az e1 _ _ ⟨tl, k, aj, af, ah, rfl, rfl, ak⟩
  refine AB _ ak (AN (uv (Bb rfl rfl) ?_))
  refine Aa (As ?_)
  refine cQ (fun ai => ?_) fun ai => ?_
  ·obtain ⟨x, bm, rfl, al, ba, ao⟩ := BL.succ af ai
   rw [D4] at ah
   refine Aq (As ?_)
   refine Ap (AN ?_)
   obtain ⟨bn, bo, bp, bd, aq, ar, ae, ⟨_, _, rfl, rfl, ⟨_, _, rfl, rfl, rfl⟩⟩, au, av⟩ := Av.at (Au (Ac _) (Au (Ac _) EL)) ay ([(b1, ce #[.int .i64 Ad, .int .i64 Ab, .slice Aw Al.length Ax, .slice AF Ak.length AE, .slice AR Az.length AQ] 100)]) ba.1 al
   refine uv (AK underlying128 sizeOf127 rfl aq rfl ba) (uv (AS isAgg127 sizeOf127 rfl ar ae (BB ae au av)) ?_)
   refine Bo rfl zeroValue127 ?_; intro bq bg
   refine B1 (i := 0) sizeOf127 rfl rfl rfl (by simp [Value.oneCell']) rfl (CK rfl) (AI rfl (BX (uv (AS isAgg127 sizeOf127 rfl (Has.own 0 rfl) (CK rfl) rfl) (uv (AS isAgg100 sizeOf100 rfl (Has.own 1 rfl) (CK rfl) rfl) ?_))))
   obtain ⟨n2, bh, bb⟩ := AG ah
   refine cV call214 (ME ab aa ad bh) ?_
   refine ua (BX (um ?_))
   refine uv (B7 rfl rfl) (Aa ?_)
   refine cQ (fun aw => ?_) fun aw => ?_
   ·have bj := Bf bb aw
    refine AN (um (ua (Aa ?_)))
    refine kW kn ?_
    refine Ao (AA (Ah (Ah (AA (Ah ?_)))))
    refine BU results165 ?_
    obtain rfl := AL bj
    exact rfl
   have bk := Bg bb aw
   refine Aq (AD (id := 1) (Am ?_))
   refine uv (Bd rfl rfl (BL.Eg af ai (Av.lt ay))) ?_
   refine um (Aa ?_)
   subst aj; exact le (kd kr) ⟨_, _, rfl, ao, bk, rfl, rfl, z4⟩
  obtain rfl := BL.zero af ai
  rw [D4] at ah
  refine AT (Af (Af ?_))
  refine Ay ?_
  exact mi kn ⟨ah, rfl, rfl, (sn _)⟩
 rintro e1 _ _ ⟨bc, rfl, rfl, ax⟩
 refine AB _ ax ?_
 rw [I5] at bc
 refine AN (ua (Aa (Ao ?_)))
 refine BU results165 ?_
 obtain rfl := AL bc
 exact rfl
theorem Sr {Ab : Int} {Az : List (Int × Int × Int)} (ad : Av 1 (BK 1 (BK 1 (iE .i64))) F Aw Ax Al) (aa : Av 1 (iE .i64) F AF AE Ak) (ae : Av 3 (Br (iE .i64) (Br (iE .i64) (iE .i64))) F AR AQ Az) (ab : Av 3 (Br (iE .i64) (Br (iE .i64) bE)) F Fv Ft Ce) {r : List ((List Bool) × (List Int))} {r2 : Int} (hr : Ll Ad Ab Al Ak Az Ce = some (r, r2)) :
    SH.Spec Tryz.prog 96 #[.agg #[.int .i64 Ad, .int .i64 Ab, .slice Aw Al.length Ax, .slice AF Ak.length AE, .slice AR Az.length AQ], .slice Fv Ce.length Ft] F [] fun F' L' v => ∃ (ra : Option Addr) (rn : Nat) (rc : Nat) (rL : LH), v = .tuple #[.slice ra rn rc, .int .i64 r2] ∧ L' = rL ++ [] ∧ Be 0 223 25 (Br (IZ 24 cB) (BK 1 (iE .i64))) F' ra rn rc r rL := by
 refine sp func96 ntmps96 fun K _ _ => ?_
 rw [Ll] at hr
 refine AN ?_
 refine Bt rfl rfl ?_; intro b1 al
 refine ua (ua (Aa (As (AN ?_))))
 refine uv (AS isAgg100 sizeOf100 rfl (Has.own 0 rfl) (CK rfl) rfl) (um ?_)
 obtain ⟨n, h2, r3⟩ := AG hr
 refine cV call165 (OV ad aa ae ab h2) ?_
 refine ua (BX (um ?_))
 refine uv (B7 rfl rfl) (Aa ?_)
 refine cQ (fun c4 => ?_) fun c4 => ?_
 ·have r5 := Bf r3 c4
  refine AN (um (ua (ua (Aa ?_))))
  refine kW kn ?_
  refine Ao (Ah ?_)
  refine CT results96 (A6 rfl) (A6 rfl) (sr) ?_
  obtain ⟨rfl, rfl⟩ := D2 r5
  exact ⟨_, _, _, [], rfl, rfl, Be.nil _ _ _ _ _⟩
 have r6 := Bg r3 c4
 refine Aq (AN ?_)
 refine uv (AS isAgg100 sizeOf100 rfl (Has.own 0 rfl) (CK rfl) rfl) ?_
 obtain ⟨d, l, n2, h7, r8⟩ := E5 r6
 refine c0 call89 (Nd ad aa ae h7) ?_; rintro _ F9 _ ai ah ⟨ao, aq, ar, au, aj, rfl, rfl, ak, af⟩
 replace af := af.new fun p hp => ah p (by simp [hp])
 refine AI (lp (ln rfl)) (kO (kf (fS fO) kr) ?_)
 refine um (ox rfl rfl rfl (ox rfl rfl rfl (ox rfl rfl rfl (ua (ua (ua (BX (um (um ?_)))))))))
 refine ua (ua (Aa ?_))
 refine kW (kd kr) (Ao (CT results96 (A6 rfl) (A6 rfl) (sr) ?_))
 obtain ⟨rfl, rfl⟩ := D2 r8
 exact ⟨_, _, _, _, rfl, rfl, af.any⟩
theorem NY (aa : g.length = 24) {r : Bool} (hr : Gm DR Ba heard g = some r) :
    Bl Tryz.prog 166 #[.agg #[.int .i64 DR, .int .i64 Ba, .bool heard], .agg (arr cB g)] F (.bool r) := by
 refine sp func166 ntmps166 fun K _ _ => ?_
 rw [Gm] at hr
 refine AN ?_
 refine Bt rfl rfl ?_; intro b1 af
 refine Bt rfl rfl ?_; intro b2 ah
 refine ua (dN (wv (Ae To rfl) (wv (An isAgg3 rfl (Has.own 1 rfl) rfl) (wv (Ae Tl rfl) (wv (An isAgg3 rfl (Has.own 1 rfl) rfl) ?_)))))
 obtain ⟨g3, r4⟩ := A1 hr
 refine wv (Bj underlying221 sizeOf219 rfl rfl g3) ?_
 obtain ⟨g5, r6⟩ := A1 r4
 obtain ⟨x, g7, ae, r9⟩ := Bx r6
 have ab : (DR * 4 + Ba : Int).toNat = (DR : Int).toNat * 4 + (Ba : Int).toNat := by have := g3; have := g5; omega
 have ad := Jh Bq aa ab ae (FY (Cd (DM Bq aa))) (Eb (Cd (DM Bq aa)))
 refine wv (Bj underlying219 sizeOf4 rfl rfl g5) (wv (An isAgg4 rfl (Has.own 0 rfl) ((ad).2.2 0 (by decide))) (wv (Ae V3 rfl) (wv (An isAgg4 rfl (Has.own 1 rfl) rfl) (wv (Yd underlying4 rfl rfl) ?_))))
 refine wa (CQ ?_)
 refine kW kn (Ao (BU results166 ?_))
 obtain rfl := AL r9
 exact rfl
set_option maxHeartbeats 1000000 in
theorem Sj (aa : Av 3 (Br (iE .i64) (Br (iE .i64) bE)) F Fv Ft Ce) (bh : g.length = 24) {r : List Int} (hr : Lg Ce g = some r) :
    SH.Spec Tryz.prog 98 #[.slice Fv Ce.length Ft, .agg (arr cB g)] F [] fun F' L' v => ∃ (ra : Option Addr) (rn : Nat) (rc : Nat) (rL : LH), v = .slice ra rn rc ∧ L' = rL ++ [] ∧ Be 0 3 1 (iE .i64) F' ra rn rc r rL := by
 refine sp func98 ntmps98 fun K _ _ => ?_
 rw [Lg] at hr
 refine AN ?_
 refine Bt rfl rfl ?_; intro b1 cf
 refine ua (BX (ua (Aa ?_)))
 obtain ⟨out, h8, r9⟩ := AG hr
 refine A0 (fun e1 F1 L1 => ∃ (a2 : Option Addr) (n6 : Nat) (c3 : Nat) (au : LH), F = F1 ∧ L1 = (au ++ []) ∧ e1.sub [(5, .slice a2 n6 c3)] ∧ Be K.w0.heap.size 3 1 (iE .i64) F1 a2 n6 c3 out au) ?_ ?_
 ·clear r9
  refine AN (um ?_)
  refine uv (A7 underlying128 rfl) ?_
  refine um (Aa ?_)
  refine Ap ?_
  refine Bh (fun bj e1 F1 L1 => LA Ce bj fun tl k => ∃ (BD : List Int) (ah : Option Addr) (ai : Nat) (aj : Nat) (ab : LH), EN g tl k BD = some out ∧ F = F1 ∧ L1 = ((b1, ce (arr cB g) 221) :: (ab ++ [])) ∧ e1.sub [(3, .pointer (some ⟨b1, 0, none⟩)), (5, .slice ah ai aj), (8, .slice Fv Ce.length Ft), (9, .int .i64 (Ce.length : Int)), (10, .int .i64 k)] ∧ Be K.w0.heap.size 3 1 (iE .i64) F1 ah ai aj BD ab) _ (m0 (kc (ke kr)) ⟨_, _, rfl, BL.start _, [], none, 0, 0, [], h8, rfl, rfl, z5, Be.nil _ _ _ _ _⟩) ?_
  rintro bj e1 _ _ ⟨tl, k, ak, ad, BD, ah, ai, aj, ab, ar, rfl, rfl, av, af⟩
  refine AB _ av (AN (uv (Bb rfl rfl) ?_))
  refine Aa (As ?_)
  refine cQ (fun al => ?_) fun al => ?_
  ·obtain ⟨x, cg, rfl, aw, bk, ao⟩ := BL.succ ad al
   rw [EN] at ar
   refine Aq (As ?_)
   refine Ap ?_
   refine AN (um ?_)
   obtain ⟨cj, ck, cn, bm, ax, ay, ae, ⟨_, _, rfl, rfl, ⟨_, _, rfl, rfl, rfl⟩⟩, az, ba⟩ := Av.at (Au (Ac _) (Au (Ac _) EL)) aa ((b1, ce (arr cB g) 221) :: (ab ++ [])) bk.1 aw
   refine uv (AK underlying128 sizeOf127 rfl ax rfl bk) (uv (AS isAgg127 sizeOf127 rfl ay ae (BB ae az ba)) ?_)
   refine Bo rfl zeroValue127 ?_; intro cp bn
   refine ua (B1 (i := 0) sizeOf127 rfl rfl rfl (by simp [Value.oneCell']) rfl (CK rfl) (AI rfl (BX (uv (AS isAgg127 sizeOf127 rfl (Has.own 0 rfl) (CK rfl) rfl) (uv (Gq isAgg221 sizeOf221 rfl (Has.own 1 rfl) (Ci Bq bh)) ?_)))))
   obtain ⟨ok, bo, bl⟩ := AG ar
   refine cV call166 (NY bh bo) (uv (BC rfl) (Aa ?_))
   refine A5 rfl (fun bb => ?_) (fun bb => ?_)
   ·have bp := bt bl bb
    refine Am (um (um ?_))
    refine bA (cs := #[.int .i64 k]) Cm [.int .i64 k] ?_; intro cq bq
    obtain ⟨aq, br, bu, bw⟩ := GM bp
    refine Fm (xs := BD) (ys := [k]) (zs := aq) rfl Cm rfl rfl (Nat.le_refl _) (fun _ => .c (.c (.c .h))) af (H2.box (vss := [[.int .i64 k]]) (ys := [k]) 0 rfl (Ac _) (.cons rfl .nil) rfl rfl) br bu (by decide) ?_; intro bx bz ca bc bd
    refine kO (kd kr) ?_
    refine ua (Aa (AD (id := 1) (Am ?_)))
    refine uv (Bd rfl rfl (BL.Eg ad al (Av.lt aa))) ?_
    refine um (Aa ?_)
    subst ak; exact le (kd kr) ⟨_, _, rfl, ao, aq, bx, bz, ca, bc, bw, rfl, rfl, z5, bd⟩
   have cb := bf bl bb
   refine Aq (AD (id := 1) (Am ?_))
   refine uv (Bd rfl rfl (BL.Eg ad al (Av.lt aa))) ?_
   refine um (Aa ?_)
   subst ak; exact le (kd kr) ⟨_, _, rfl, ao, BD, ah, ai, aj, ab, cb, rfl, rfl, z5, af⟩
  obtain rfl := BL.zero ad al
  rw [EN] at ar
  refine AT (Af (Af ?_))
  refine Ay ?_
  obtain rfl := AL ar
  exact mi (kd kr) ⟨ah, ai, aj, ab, rfl, rfl, z1, af⟩
 rintro e1 _ _ ⟨a2, n6, c3, au, rfl, rfl, bg, cd⟩
 refine AB _ bg ?_
 refine AN (um (ua (Aa (Ao ?_))))
 refine BU results98 ?_
 obtain rfl := AL r9
 exact ⟨_, _, _, _, rfl, rfl, cd.any⟩
set_option maxHeartbeats 1000000 in
theorem Mi {aa : FuncId} {ab ad : Array Value} {met : (List Bool) → Option Bool} {l : List ((List Bool) × (List Int))} (ae : HG Tryz.prog F aa ab ad (Pu (IZ 24 cB)) Value.bool met) (au : Av 25 (Br (IZ 24 cB) (BK 1 (iE .i64))) F Hp Hl l) {r : List Int} (hr : ET met l = some r) :
    SH.Spec Tryz.prog 99 #[.agg #[.func (.func aa) ab ad], .slice Hp l.length Hl] F [] fun F' L' v => ∃ (ra : Option Addr) (rc : Nat), v = .slice ra r.length rc ∧ L' = [] ∧ Av 1 (iE .i64) F' ra rc r ∧ (ra = none ↔ r = []) := by
 refine sp func99 ntmps99 fun K _ _ => ?_
 rw [ET] at hr
 refine AN ?_
 refine Bt rfl rfl ?_; intro b1 br
 refine ua (Aa ?_)
 refine A0 (fun e1 F1 L1 => JE = some r ∧ F = F1 ∧ L1 = [] ∧ e1.sub []) ?_ ?_
 ·refine AN (um ?_)
  refine uv (A7 underlying216 rfl) ?_
  refine um (Aa ?_)
  refine Ap ?_
  refine Bh (fun av e1 F1 L1 => LA l av fun tl k => DX met tl = some r ∧ F = F1 ∧ L1 = [(b1, ce #[.func (.func aa) ab ad] 241)] ∧ e1.sub [(2, .pointer (some ⟨b1, 0, none⟩)), (7, .slice Hp l.length Hl), (8, .int .i64 (l.length : Int)), (9, .int .i64 k)]) _ (m0 kr ⟨_, _, rfl, BL.start _, hr, rfl, rfl, z4⟩) ?_
  rintro av e1 _ _ ⟨tl, k, bb, ai, r4, rfl, rfl, bc⟩
  refine AB _ bc (AN (uv (Bb rfl rfl) ?_))
  refine Aa (As ?_)
  refine cQ (fun c7 => ?_) fun c7 => ?_
  ·obtain ⟨x, bu, rfl, bd, aw, bg⟩ := BL.succ ai c7
   rw [DX] at r4
   refine Aq (As ?_)
   refine Ap (AN ?_)
   obtain ⟨Rf, bw, bx, bh, aj, ak, af, ⟨_, _, rfl, ⟨rfl, ah⟩, ⟨bj, bk, rfl, ax⟩⟩, al, ao⟩ := Av.at (Au (CD (n := 24) (sz := 1) Bq) (Ar (Ac _))) au ([(b1, ce #[.func (.func aa) ab ad] 241)]) aw.1 bd
   refine uv (AK underlying216 sizeOf223 rfl aj rfl aw) (uv (AS isAgg223 sizeOf223 rfl ak af (BB af al ao)) ?_)
   refine Bo rfl zeroValue223 ?_; intro ay bl
   refine AI (L' := [(ay, ce (((List.replicate 24 false).flatMap cB ++ (([.slice none 0 0] : List Value))).toArray) 223), (b1, ce #[.func (.func aa) ab ad] 241)]) rfl (Ef (i := 0) sizeOf223 rfl rfl rfl (lz (la (DM Bq List.length_replicate) rfl)) (lz (la (DM Bq ah) rfl)) (N8 (J7 Bq _) (by simp [Value.oneCell'])) (AI (L' := [(ay, ce ((x.1.flatMap cB ++ (([.slice bj x.2.length bk] : List Value))).toArray) 223), (b1, ce #[.func (.func aa) ab ad] 241)]) rfl (BX (uv (Ae WR rfl) (uv (An isAgg239 rfl (Has.own 1 rfl) rfl) (uv (Ae QJ rfl) (uv (AS isAgg221 sizeOf221 rfl (Has.own 0 rfl) (Eb (Bm (DM Bq ah))) (G9 (DM Bq ah) (Bm (DM Bq ah)))) ?_)))))))
   obtain ⟨ok, bm, az⟩ := AG r4
   refine Em rfl ae.1 rfl rfl rfl (ae.2 _ (A3.refl _) _ _ _ ⟨_, rfl, ⟨rfl, ah⟩⟩ bm) (Aa ?_)
   refine A5 rfl (fun aq => ?_) (fun aq => ?_)
   ·have bn := bt az aq
    refine AN (uv (Ae W6 rfl) (uv (An isAgg33 rfl (Has.own 0 rfl) (E8 (At (k := 24) (o := 0) (DM Bq ah) (Cd rfl)))) ?_))
    refine ua (Aa ?_)
    obtain ⟨bo, bp⟩ := A1 bn
    refine kW kn ?_
    refine Ao (AA (Ah (Ah (AA (Ah ?_)))))
    refine BU results99 ?_
    obtain rfl := AL bp
    exact ⟨_, _, rfl, rfl, ax, Av.nn ax bo⟩
   have bq := bf az aq
   refine Aq (AD (id := 1) (Am ?_))
   refine uv (Bd rfl rfl (BL.Eg ai c7 (Av.lt au))) ?_
   refine um (Aa ?_)
   subst bb; exact le (kd kr) ⟨_, _, rfl, bg, bq, rfl, rfl, z4⟩
  obtain rfl := BL.zero ai c7
  rw [DX] at r4
  refine AT (Af (Af ?_))
  refine Ay ?_
  exact mi kn ⟨r4, rfl, rfl, (sn _)⟩
 rintro e1 _ _ ⟨ba, rfl, rfl, ar⟩
 refine AB _ ar ?_
 rw [JE] at ba
 refine AN (ua (Aa (Ao ?_)))
 refine BU results99 ?_
 obtain rfl := AL ba
 exact ⟨_, _, rfl, rfl, Av.nil _ _ _, WE⟩
theorem O3 {aa : Nat} {ab : Nat × Nat} (ah : g.length = 24) (ad : F aa = some (.cells #[.slice Fv Ce.length Ft] 128 ab)) (ae : Av 3 (Br (iE .i64) (Br (iE .i64) bE)) F Fv Ft Ce) {r : Bool} (hr : Ez g Ce = some r) :
    Bl Tryz.prog 97 #[.agg (arr cB g), .pointer (some ⟨aa, 0, none⟩)] F (.bool r) := by
 refine sp func97 ntmps97 fun K _ _ => ?_
 rw [Ez] at hr
 refine AN ?_
 refine Bt rfl rfl ?_; intro b1 ak
 refine ua (BX ?_)
 refine uv (An isAgg128 rfl (Has.frozen ad) rfl) (uv (Gq isAgg221 sizeOf221 rfl (Has.own 0 rfl) (Ci Bq ah)) ?_)
 obtain ⟨l, h2, r3⟩ := AG hr
 refine c0 call98 (Sj ae ah h2) ?_; rintro _ F4 _ al ai ⟨a8, ao, c9, aj, rfl, rfl, af⟩
 replace af := af.new fun p hp => ai p (by simp [hp])
 refine AI (lp (ln rfl)) (kO (kf (fS fO) kr) (uv ((A7 underlying33 rfl).i (Be.Kw af)) (uv (CR rfl rfl) ?_)))
 refine ua (Aa ?_)
 refine kW kn (Ao (BU results97 ?_))
 obtain rfl := AL r3
 exact rfl
set_option maxHeartbeats 1000000 in
theorem Kh {Ab : Int} {Az : List (Int × Int × Int)} (ae : Av 1 (BK 1 (BK 1 (iE .i64))) F Aw Ax Al) (ab : Av 1 (iE .i64) F AF AE Ak) (af : Av 3 (Br (iE .i64) (Br (iE .i64) (iE .i64))) F AR AQ Az) (aa : Av 3 (Br (iE .i64) (Br (iE .i64) bE)) F Fv Ft Ce) {r : List Int} {r2 : Int} (hr : EM Ad Ab Al Ak Az Ce = some (r, r2)) :
    SH.Spec Tryz.prog 35 #[.agg #[.int .i64 Ad, .int .i64 Ab, .slice Aw Al.length Ax, .slice AF Ak.length AE, .slice AR Az.length AQ], .slice Fv Ce.length Ft] F [] fun F' L' v => ∃ (ra : Option Addr) (rc : Nat), v = .tuple #[.slice ra r.length rc, .int .i64 r2] ∧ L' = [] ∧ Av 1 (iE .i64) F' ra rc r := by
 refine sp func35 ntmps35 fun K _ _ => ?_
 rw [EM] at hr
 refine AN ?_
 refine Bt rfl rfl ?_; intro b1 bn
 refine Bt rfl rfl ?_; intro b2 av
 refine ua (ua (BX ?_))
 refine uv (AS isAgg100 sizeOf100 rfl (Has.own 1 rfl) (CK rfl) rfl) (uv (An isAgg128 rfl (Has.own 0 rfl) rfl) ?_)
 obtain ⟨l, n, h3, r4⟩ := Es hr
 refine c0 call96 (Sr ae ab af aa h3) ?_; rintro _ F5 _ aw ax ⟨a9, bo, bp, ay, rfl, rfl, ad⟩
 replace aa := aa.mono (Au (Ac _) (Au (Ac _) EL)) aw
 replace ad := ad.new fun p hp => ax p (by simp [hp])
 refine AI (lp (ln rfl)) (kO (kf (fS fO) (kf (fS fO) kr)) ?_)
 refine um (ox rfl rfl rfl (ox rfl rfl rfl (ua (ua (Aa (As (AN (um ?_))))))))
 refine uv (B7 rfl rfl) (Aa ?_)
 refine cQ (fun aj => ?_) fun aj => ?_
 ·have az := Bf r4 aj
  refine AN (um (ua (ua (Aa ?_))))
  refine kW kn ?_
  refine Ao (Ah ?_)
  refine CT results35 (A6 rfl) (A6 rfl) (sr) ?_
  obtain ⟨rfl, rfl⟩ := D2 az
  exact ⟨_, _, rfl, rfl, Av.nil _ _ _⟩
 have ba := Bg r4 aj
 refine Aq (AN ?_)
 refine uv (BP rfl rfl) ?_
 refine uv (BH (v := .agg (#[.func (.func 97) #[] #[.pointer (some ⟨b2, 0, none⟩)]])) rfl (by intro w; kernel_rfl)) ?_
 refine um ?_
 refine Bi 0 rfl av ?_; intro bb ai ak
 refine AI rfl ?_
 replace aa := aa.mono (Au (Ac _) (Au (Ac _) EL)) ai
 replace ad := ad.mono (Au (CD (n := 24) (sz := 1) Bq) (Ar (Ac _))) ai
 have ah : HG Tryz.prog bb 97 #[] #[.pointer (some ⟨b2, 0, none⟩)] (Pu (IZ 24 cB)) Value.bool (fun ar : (List Bool) => Ez ar Ce) := ⟨call97, fun F2 h2 vs ar r ha hr => by obtain ⟨_, rfl, ⟨rfl, bc⟩⟩ := ha; exact O3 bc (h2 _ _ ak) (aa.mono (Au (Ac _) (Au (Ac _) EL)) h2) hr⟩
 obtain rfl := (Be.Eu ad).1
 refine C1 (Nat.le_refl _) (Au (CD (n := 24) (sz := 1) Bq) (Ar (Ac _))) (fC fP) ad ?_; intro bq al bd
 replace ah := ah.mono al
 obtain ⟨l2, bg, au⟩ := AG ba
 refine c0 call99 (Mi ah bd bg) ?_; rintro _ br _ bh bj ⟨bu, bw, rfl, rfl, bk, ao⟩
 refine AI (ln rfl) ?_
 refine ua (Aa (As (AN (um ?_))))
 refine uv ((Ph underlying33 rfl).b (TG ao)) (Aa ?_)
 refine cQ (fun aq => ?_) fun aq => ?_
 ·have bl := Bf au aq
  refine AN (ua (ua (Aa ?_)))
  refine kW kn ?_
  refine Ao (Ah ?_)
  refine CT results35 (A6 rfl) (A6 rfl) (sr) ?_
  obtain ⟨rfl, rfl⟩ := D2 bl
  exact ⟨_, _, rfl, rfl, Av.nil _ _ _⟩
 have bm := Bg au aq
 refine Aq (AN (um (ua (ua (Aa ?_)))))
 refine kW kn (Ao (CT results35 (A6 rfl) (A6 rfl) (sr) ?_))
 obtain ⟨rfl, rfl⟩ := D2 bm
 exact ⟨_, _, rfl, rfl, bk⟩
theorem Jm {s_ : List (Int × Int × Int)} (aa : Av 3 (Br (iE .i64) (Br (iE .i64) (iE .i64))) F B0 BY s_) {r : List (Int × Int × Int)} (hr : BZ s_ = some r) :
    SH.Spec Tryz.prog 105 #[.slice B0 s_.length BY] F [] fun F' L' v => ∃ (ra : Option Addr) (rn : Nat) (rc : Nat) (rL : LH), v = .slice ra rn rc ∧ L' = rL ++ [] ∧ Be 0 132 3 (Br (iE .i64) (Br (iE .i64) (iE .i64))) F' ra rn rc r rL := by
 refine sp func105 ntmps105 fun K _ _ => ?_
 rw [BZ] at hr
 refine AN (ua (Aa (As (AN (um ?_)))))
 refine uv (Ph underlying98 rfl) (Aa ?_)
 refine A5 rfl (fun c1 => ?_) (fun c1 => ?_)
 ·have r2 := UQ hr (Av.isNone aa c1)
  refine AN (ua (Aa (Ao (Ah ?_))))
  refine BU results105 ?_
  obtain rfl := AL r2
  exact ⟨_, _, _, [], rfl, rfl, Be.nil _ _ _ _ _⟩
 have r3 := Vi hr
 refine Aq (AN ?_)
 refine Jk (cs := #[]) rfl rfl (MK KU) ?_; intro b4 af
 refine um ?_
 have ae : Be K.w0.heap.size 132 3 (Br (iE .i64) (Br (iE .i64) (iE .i64))) F (some ⟨b4, 0, none⟩) 0 0 ([] : List (Int × Int × Int)) [(b4, ce #[] 132)] := Be.BM (vss := []) (Au (Ac _) (Au (Ac _) (Ac _))) af .nil rfl rfl (by simp [maxLen])
 generalize ab : ([(b4, ce #[] 132)] : LH) = ah at ae
 refine Cz (L' := ah ++ []) (by rw [← ab]; exact fO) ?_
 obtain ⟨l, h8, g9, ai⟩ := GM r3
 refine Fm (xs := ([] : List (Int × Int × Int))) (ys := s_) (zs := l) rfl KU rfl rfl (Nat.le_refl _) (fun _ => .h) ae (Av.src aa) h8 g9 (by decide) ?_; intro ak al ao aj ad
 refine ua (Aa (Ao ?_))
 refine BU results105 ?_
 obtain rfl := AL ai
 exact ⟨_, _, _, _, rfl, rfl, ad.any⟩
theorem Oo {h : Int} {af : Nat} {aa : Nat × Nat} {x : Int} (ab : F af = some (.cells (arr cB g) 221 aa)) (ad : g.length = 24) (ae : F V5 = some (.cells #[.int .i64 x] 3 VA)) {r : Bool} (hr : GX h g x = some r) :
    Bl Tryz.prog 108 #[.int .i64 h, .pointer (some ⟨af, 0, none⟩), .pointer (some ⟨V5, 0, none⟩)] F (.bool r) := by
 refine sp func108 ntmps108 fun K _ _ => ?_
 rw [GX] at hr
 refine AN (ua ?_)
 refine dN (wm (wv (An isAgg3 rfl (Has.frozen ae) rfl) ?_))
 obtain ⟨g1, r2⟩ := A1 hr
 refine wv (Bj underlying221 sizeOf219 rfl rfl g1) ?_
 obtain ⟨g3, r4⟩ := A1 r2
 obtain ⟨x2, g5, ah, r7⟩ := Bx r4
 have ai : (h * 4 + x : Int).toNat = (h : Int).toNat * 4 + (x : Int).toNat := by have := g1; have := g3; omega
 have aj := Jh Bq ad ai ah (FY (Cd (DM Bq ad))) (Eb (Cd (DM Bq ad)))
 refine wv (Bj underlying219 sizeOf4 rfl rfl g3) (wv (An isAgg4 rfl (Has.frozen ab) ((aj).2.2 0 (by decide))) ?_)
 refine wa (CQ (Ao ?_))
 refine BU results108 ?_
 obtain rfl := AL r7
 exact rfl
theorem PQ {x : List Int} {ab : Nat} {x2 : Int} {ad : Nat × Nat} (aj : g.length = 24) (ae : F V5 = some (.cells #[.slice Vz x.length VC] 33 VA)) (af : Av 1 (iE .i64) F Vz VC x) (aa : F ab = some (.cells #[.int .i64 x2] 3 ad)) {r : Bool} (hr : D0 g x x2 = some r) :
    Bl Tryz.prog 106 #[.agg (arr cB g), .pointer (some ⟨V5, 0, none⟩), .pointer (some ⟨ab, 0, none⟩)] F (.bool r) := by
 refine sp func106 ntmps106 fun K _ _ => ?_
 rw [D0] at hr
 refine AN ?_
 refine Bt rfl rfl ?_; intro b1 ak
 refine ua (BX ?_)
 refine uv (An isAgg33 rfl (Has.frozen ae) rfl) (uv (BP rfl rfl) ?_)
 refine Bi 0 rfl ak ?_; intro F2 ah al
 refine AI rfl ?_
 replace af := af.mono (Ac _) ah
 replace aa := ah _ _ aa
 have ao : HG Tryz.prog F2 108 #[] #[.pointer (some ⟨b1, 0, none⟩), .pointer (some ⟨ab, 0, none⟩)] (iE .i64) Value.bool (fun ai : Int => GX ai g x2) := ⟨call108, fun F2 h2 vs ai r ha hr => by obtain rfl := ha; exact Oo (h2 _ _ al) aj (h2 _ _ aa) hr⟩
 obtain ⟨ok, h6, r7⟩ := AG hr
 refine cV call107 (JX af ao h6) (uv (BC rfl) ?_)
 refine ua (Aa (Ao ?_))
 refine BU results106 ?_
 obtain rfl := AL r7
 exact rfl
end Go.Proofs.YtfmapnhfamoecaaGreat
