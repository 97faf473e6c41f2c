/- The walks that this claim needs, printed by a program of mine; part 2. -/
import Derived.Test.YtepdgjpkhkijcaaGreatZSNS1
namespace Go.Proofs.YtepdgjpkhkijcaaGreat
open Go.SH Go.PL
open Tryz 
variable {eq : ((List Int) × (List Int)) → Option Bool} {eq_1 eq_2 : Array Value} {F : FS} {PS : FuncId} {AZ hour m Bx IL r3 BO : Int} {Af Ab : List (List Int)} {O8 Pa Hx Ai Jy Ad Dd Jj Js : Nat} {KD : Nat × Nat} {Pb O5 Aj JA Ac Dc Jk Jq : Option Addr} {v1 : Value}
set_option maxHeartbeats 1000000 in
theorem JR {rows : List (List Bool)} (ab : F Hx = some (.cells #[.slice Ac Ab.length Ad, .slice Aj Af.length Ai, v1, .slice Dc rows.length Dd] 113 KD)) (a6 : Au 1 (Bm 1 (iE .i64)) F Ac Ad Ab) (aa : Au 1 (Bm 1 (iE .i64)) F Aj Ai Af) (_bj : Au 64 (LP 64 cB) F Dc Dd rows) {r r2 : Int} (hr : Hr Ab Af rows hour Bx = some (r, r2)) :
    Ba Tryz.prog 102 #[.pointer (some ⟨Hx, 0, none⟩), .agg #[.int .i64 hour, .int .i64 Bx]] F (.tuple #[.int .i64 r, .int .i64 r2]) := by
 refine sp func102 ntmps102 fun K _ _ => ?_
 rw [Hr] at hr
 refine AI ?_
 refine By rfl rfl ?_; intro b2 fb
 refine ua (ua (Aa (At ?_)))
 refine Bd [(.still, 0), (.still, 1), (.still, 2), (.still, 3), (.still, 4), (.seq, 5), (.seq, 6), (.still, 7), (.still, 8), (.still, 9), (.still, 10), (.still, 11)] (by kernel_rfl) (by kernel_rfl) (trivial) (by rfl) (by kernel_rfl) (mS [0] rfl (Bj rfl) (mS [11] rfl (Bo rfl) (mS [12] rfl (Av HP rfl) (mL [13] ([]) rfl sm (fun H F' L' aq ar => AE isAgg26 sizeOf26 rfl ((Has.frozen ab).ext aq ar) (A5 rfl) rfl) (mL [3] ([(b2, ce #[.int .i64 hour, .int .i64 Bx] 29)]) rfl (s0 sr) (fun H F' L' aq ar => AE isAgg29 sizeOf29 rfl ((Has.own 0 rfl).ext aq ar) (A5 rfl) rfl) ?_)))))
 refine ⟨_, [(14, .agg #[.slice Ac Ab.length Ad, .slice Aj Af.length Ai]), (15, .agg #[.int .i64 hour, .int .i64 Bx])], rfl, rfl, z2, by kernel_rfl, ?_⟩; intro H
 obtain ⟨l, l2, h3, r4⟩ := A9 hr
 refine c0 call78 (Il a6 aa h3) ?_; rintro _ F5 _ bh cp ⟨a9, cx, cy, cz, da, db, dd, de, rfl, rfl, ak, ae⟩
 replace a6 := a6.mono (Ak (Ae _)) bh
 replace aa := aa.mono (Ak (Ae _)) bh
 replace ab := bh _ _ ab
 replace ak := ak.new fun p hp => cp p (by simp [hp])
 replace ae := ae.new fun p hp => cp p (by simp [hp])
 refine AD (lp (lp (ln rfl))) (kO (kf (fS (fS fO)) kr) ?_)
 refine Aa ⟨_, rfl, bh, [], by kernel_rfl, .inl (.inl rfl), nm, ?_⟩
 refine ⟨_, [(16, .agg #[.slice a9 cx cy, .slice da db dd])], rfl, rfl, z1, by kernel_rfl, ?_⟩; intro H
 obtain rfl := (BG.Be ak).1
 refine Ew (Nat.le_refl _) (Ae _) (fC fP) ak ?_; intro fe ai bk
 replace a6 := a6.mono (Ak (Ae _)) ai
 replace aa := aa.mono (Ak (Ae _)) ai
 replace ae := ae.mono (Ae _) ai
 replace ab := ai _ _ ab
 obtain rfl := (BG.Be ae).1
 refine Ew (Nat.le_refl _) (Ae _) (fC fP) ae ?_; intro ff aj df
 replace a6 := a6.mono (Ak (Ae _)) aj
 replace aa := aa.mono (Ak (Ae _)) aj
 replace bk := bk.mono (Ak (Ae _)) aj
 replace ab := aj _ _ ab
 obtain ⟨d, n, dg, dh⟩ := A9 r4
 refine c0 call67 (Ct bk df dg) ?_; rintro _ fg _ al di ⟨dk, dm, rfl, rfl, ad⟩
 replace a6 := a6.mono (Ak (Ae _)) al
 replace aa := aa.mono (Ak (Ae _)) al
 replace ab := al _ _ ab
 refine AD (lp (ln rfl)) (kO (kf (fS fO) kr) ?_)
 refine Aa ⟨_, rfl, ((ai.trans aj).trans al), [], by kernel_rfl, .inl (.inl rfl), nm, ?_⟩
 refine mS [17] rfl (Bj rfl) (mS (v := dk) [10] rfl (IN rfl rfl) (mS (v := .int .i64 n) [10] rfl (IN rfl rfl) (mS [18] rfl (EF rfl) (mS [19] rfl (EF rfl) (BC (At (Bd [(.still, 0), (.still, 1), (.still, 2), (.still, 3), (.still, 4), (.seq, 5), (.seq, 6), (.still, 7), (.still, 8), (.still, 9), (.still, 10), (.still, 11)] (by kernel_rfl) (by kernel_rfl) (trivial) (by rfl) (by kernel_rfl) ?_)))))))
 refine mS [0] rfl (Bj rfl) (mS [21] rfl (Bo rfl) (mS [22] rfl (Av HP rfl) (mL [23] ([]) rfl sm (fun H F' L' aq ar => AE isAgg26 sizeOf26 rfl ((Has.frozen ab).ext aq ar) (A5 rfl) rfl) (mL [3] ([(b2, ce #[.int .i64 hour, .int .i64 Bx] 29)]) rfl (s0 (s2 (s3 sr))) (fun H F' L' aq ar => AE isAgg29 sizeOf29 rfl ((Has.own 0 rfl).ext aq ar) (A5 rfl) rfl) ?_))))
 refine ⟨_, [(24, .agg #[.slice Ac Ab.length Ad, .slice Aj Af.length Ai]), (25, .agg #[.int .i64 hour, .int .i64 Bx])], rfl, rfl, z2, by kernel_rfl, ?_⟩; intro H
 obtain ⟨l3, l4, dp, dq⟩ := A9 dh
 refine c0 call78 (Il a6 aa dp) ?_; rintro _ fh _ aw ax ⟨dr, dt, du, dv, dw, dx, dy, dz, rfl, rfl, ao, ah⟩
 replace ad := ad.mono aw
 replace ao := ao.new fun p hp => ax p (by simp [hp])
 replace ah := ah.new fun p hp => ax p (by simp [hp])
 refine AD (lp (lp (ln rfl))) (kO (kf (fS (fS fO)) kr) ?_)
 refine Aa ⟨_, rfl, aw, [], by kernel_rfl, .inl (.inl rfl), nm, ?_⟩
 refine ⟨_, [(26, .agg #[.slice dr dt du, .slice dw dx dy])], rfl, rfl, z1, by kernel_rfl, ?_⟩; intro H
 obtain rfl := (BG.Be ao).1
 refine Ew (Nat.le_refl _) (Ae _) (fC fP) ao ?_; intro fi au bl
 replace ad := ad.mono au
 replace ah := ah.mono (Ae _) au
 obtain rfl := (BG.Be ah).1
 refine Ew (Nat.le_refl _) (Ae _) (fC fP) ah ?_; intro fj av eb
 replace bl := bl.mono (Ak (Ae _)) av
 replace ad := ad.mono av
 obtain ⟨d2, n2, ec, ef⟩ := A9 dq
 refine c0 call67 (Ct bl eb ec) ?_; rintro _ fk _ ay eg ⟨eh, bm, rfl, rfl, bn⟩
 replace ad := ad.mono ay
 refine AD (lp (ln rfl)) (kO (kf (fS fO) kr) ?_)
 refine Aa ⟨_, rfl, ((au.trans av).trans ay), [], by kernel_rfl, .inl (.inl rfl), nm, ?_⟩
 refine mS [27] rfl (Bj rfl) (mS (v := eh) [20] rfl (IN rfl rfl) (mS (v := .int .i64 n2) [20] rfl (IN rfl rfl) (mS [28] rfl (EF rfl) (mS [29] rfl (EF rfl) (BC (At ?_))))))
 obtain ⟨az, bo, BW, cq, ei, ej⟩ := GV ef
 have cr := ad; rw [ei] at cr; obtain ⟨fl, fm, fo, fp, fq, fs, ct, ba, bb, ft, fv, bp, bq, en, eo, ep, er, br⟩ := CM cr; subst bp; subst br
 refine Fu (L' := (b2, ce #[.int .i64 hour, .int .i64 Bx] 29) :: (bm ++ ((ct, .map ba bb) :: []))) rfl (kW (kc (kf (fS fO) kr)) ?_)
 obtain ⟨bc, bu, bw, cu, et, eu⟩ := GV ej
 have cv := bn; rw [et] at cv; obtain ⟨fw, fx, fy, g0, ew, ey, bx, bd, bg, ez, fa, bz, ca, cb, cc, cw, cd, cf⟩ := CM cv; subst bz; subst cf
 refine Fu (L' := [(b2, ce #[.int .i64 hour, .int .i64 Bx] 29), (ct, .map ba bb), (bx, .map bd bg)]) rfl ?_
 refine An (um ?_)
 obtain ⟨n3, cg, cj⟩ := AB eu
 refine cV call111 (Ik bq en eo er cg) (um ?_)
 obtain ⟨n4, ck, cn⟩ := AB cj
 refine cV call111 (Ik ca cb cc cd ck) ?_
 refine ua (ua (Aa ?_))
 refine kW kn (As (Bu results102 (AP rfl) (AP rfl) (sr) ?_))
 obtain ⟨rfl, rfl⟩ := BT cn
 exact rfl
set_option maxHeartbeats 1000000 in
theorem LM (a6 : Au 1 (Bm 1 (iE .i64)) F Ac Ad Ab) (aa : Au 1 (Bm 1 (iE .i64)) F Aj Ai Af) {r r2 : Int} (hr : Ki Ab Af hour Bx = some (r, r2, r3)) :
    Ba Tryz.prog 51 #[.agg #[.slice Ac Ab.length Ad, .slice Aj Af.length Ai], .agg #[.int .i64 hour, .int .i64 Bx]] F (.tuple #[.int .i64 r, .int .i64 r2, .int .i64 r3]) := by
 refine sp func51 ntmps51 fun K _ _ => ?_
 rw [Ki] at hr
 refine AI ?_
 refine By rfl rfl ?_; intro b1 cv
 refine By rfl rfl ?_; intro b2 cw
 refine ua (ua (ua (BI ?_)))
 refine uv (AE isAgg26 sizeOf26 rfl (Has.own 1 rfl) (A5 rfl) rfl) ?_
 obtain ⟨d, n, h3, r4⟩ := A9 hr
 refine c0 call67 (Ct a6 aa h3) ?_; rintro _ F5 _ bd cx ⟨v9, ab, rfl, rfl, ae⟩
 replace a6 := a6.mono (Ak (Ae _)) bd
 replace aa := aa.mono (Ak (Ae _)) bd
 refine AD (lp (ln rfl)) (kO (kf (fS fO) (kf (fS fO) kr)) ?_)
 refine um (ox rfl rfl rfl (ox rfl rfl rfl (ua (ua (Aa (At ?_))))))
 refine Ap ?_
 refine AI (um ?_)
 refine uv (BH rfl rfl) ?_
 refine ua (Aa ?_)
 refine cQ (fun ah => ?_) fun ah => ?_
 ·have bo := AQ r4 ah
  refine AI (um (ua (ua (ua (Aa ?_)))))
  refine kW kn ?_
  refine As (Ay (Al ?_))
  refine Kk results51 (AP rfl) (AP rfl) (AP rfl) (sr) ?_
  obtain ⟨rfl, rfl, rfl⟩ := IK bo
  exact rfl
 have bp := AR r4 ah
 refine AI (uv (AE isAgg26 sizeOf26 rfl (Has.own 1 rfl) (A5 rfl) rfl) (uv (AE isAgg29 sizeOf29 rfl (Has.own 0 rfl) (A5 rfl) rfl) ?_))
 obtain ⟨ok, bq, bg⟩ := AB bp
 refine cV call77 (Jo a6 aa bq) (uv (BM rfl) ?_)
 refine ua (Aa ?_)
 refine AT rfl (fun ai => ?_) (fun ai => ?_)
 ·have br := bt bg ai
  refine AI (ua (ua (ua (Aa ?_))))
  refine kW kn ?_
  refine As (Ay (Al ?_))
  refine Kk results51 (AP rfl) (AP rfl) (AP rfl) (sr) ?_
  obtain ⟨rfl, rfl, rfl⟩ := IK br
  exact rfl
 have bu := bf bg ai
 refine dW (wv (Av Bz rfl) (wv (Ao isAgg24 rfl (Has.own 1 rfl) rfl) (wv (Av GU rfl) (wv (Ao isAgg3 rfl (Has.own 0 rfl) rfl) ?_))))
 obtain ⟨x, bh, aj, bw⟩ := A7 bu
 obtain ⟨cy, cz, da, bx, ak, al, bj, ⟨db, dd, rfl, bz⟩, ca, ao⟩ := Au.at (Ak (Ae _)) aa ((b2, ce #[.int .i64 hour, .int .i64 Bx] 29) :: ((b1, ce #[.slice Ac Ab.length Ad, .slice Aj Af.length Ai] 26) :: (ab ++ []))) bh.1 aj
 refine wv (AF underlying24 sizeOf36 rfl ak rfl bh) (wv (Ao isAgg36 rfl al (ao 0 (by decide))) (wv (Av Hm rfl) (wv (Ao isAgg3 rfl (Has.own 0 rfl) rfl) ?_)))
 obtain ⟨x2, bk, aq, bl⟩ := A7 bw
 obtain ⟨de, df, dg, cb, ar, au, bm, rfl, cc, av⟩ := Au.at (Ae _) bz ((b2, ce #[.int .i64 hour, .int .i64 Bx] 29) :: ((b1, ce #[.slice Ac Ab.length Ad, .slice Aj Af.length Ai] 26) :: (ab ++ []))) bk.1 aq
 refine wv (AF underlying36 sizeOf35 rfl ar rfl bk) (wv (Ao isAgg35 rfl au (av 0 (by decide))) (wv (BH rfl rfl) ?_))
 refine wa (BV ?_)
 refine cQ (fun aw => ?_) fun aw => ?_
 ·have cd := AQ bl aw
  refine AI (ua (ua (ua (Aa ?_))))
  refine kW kn ?_
  refine As (Ay (Al ?_))
  refine Kk results51 (AP rfl) (AP rfl) (AP rfl) (sr) ?_
  obtain ⟨rfl, rfl, rfl⟩ := IK cd
  exact rfl
 have cf := AR bl aw
 refine Aq (Ax (id := 0) (At ?_))
 obtain ⟨ad, ax, BW, rows, cg, cj⟩ := GV cf
 have bn := ae; rw [cg] at bn; obtain ⟨dh, di, dk, dm, dp, dq, ck, ay, az, dr, dt, ba, bb, cn, cp, cq, cr, bc⟩ := CM bn; subst ba; subst bc
 refine Fu (L' := [(b2, ce #[.int .i64 hour, .int .i64 Bx] 29), (b1, ce #[.slice Ac Ab.length Ad, .slice Aj Af.length Ai] 26), (ck, .map ay az)]) rfl ?_
 refine An (um ?_)
 refine uv (AE isAgg29 sizeOf29 rfl (Has.own 0 rfl) (A5 rfl) rfl) ?_
 obtain ⟨n2, n3, ct, cu⟩ := A9 cj
 refine cV call102 (JR bb cn cp cr ct) ?_
 refine um (ox rfl rfl rfl (ox rfl rfl rfl (ua (ua (BI (um (um (ua (ua ?_)))))))))
 refine ua (Aa ?_)
 refine kW kn (As (Kk results51 (AP rfl) (AP rfl) (AP rfl) (sr) ?_))
 obtain ⟨rfl, rfl, rfl⟩ := IK cu
 exact rfl
theorem LK (a6 : Au 1 (Bm 1 (iE .i64)) F Ac Ad Ab) (aa : Au 1 (Bm 1 (iE .i64)) F Aj Ai Af) {r r2 : Int} (hr : Kg Ab Af = some (r, r2)) :
    Ba Tryz.prog 63 #[.agg #[.slice Ac Ab.length Ad, .slice Aj Af.length Ai]] F (.tuple #[.int .i64 r, .int .i64 r2]) := by
 refine sp func63 ntmps63 fun K _ _ => ?_
 rw [Kg] at hr
 refine AI ?_
 refine By rfl rfl ?_; intro b1 bh
 refine ua (ua (BI ?_))
 refine uv (AE isAgg26 sizeOf26 rfl (Has.own 0 rfl) (A5 rfl) rfl) ?_
 obtain ⟨d, n, h2, r3⟩ := A9 hr
 refine c0 call67 (Ct a6 aa h2) ?_; rintro _ F4 _ bj bk ⟨v8, aq, rfl, rfl, ar⟩
 refine AD (lp (ln rfl)) (kO (kf (fS fO) kr) ?_)
 refine um (ox rfl rfl rfl (ox rfl rfl rfl (ua (ua (Aa (At (AI (um ?_))))))))
 refine uv (BH rfl rfl) (Aa ?_)
 refine cQ (fun ad => ?_) fun ad => ?_
 ·have au := AQ r3 ad
  refine AI (um (ua (ua (Aa ?_))))
  refine kW kn ?_
  refine As (Al ?_)
  refine Bu results63 (AP rfl) (AP rfl) (sr) ?_
  obtain ⟨rfl, rfl⟩ := BT au
  exact rfl
 have av := AR r3 ad
 refine Aq (At ?_)
 obtain ⟨ab, ae, BW, rows, aw, ax⟩ := GV av
 have ao := ar; rw [aw] at ao; obtain ⟨bl, bm, bn, bo, bp, bq, ay, ah, ai, br, bu, aj, ak, az, ba, bb, bc, al⟩ := CM ao; subst aj; subst al
 refine Fu (L' := [(b1, ce #[.slice Ac Ab.length Ad, .slice Aj Af.length Ai] 26), (ay, .map ah ai)]) rfl ?_
 refine An (um ?_)
 obtain ⟨n2, bd, bg⟩ := AB ax
 refine cV call111 (Ik ak az ba bc bd) ?_
 refine ua (ua (Aa ?_))
 refine kW kn (As (Bu results63 (AP rfl) (AP rfl) (sr) ?_))
 obtain ⟨rfl, rfl⟩ := BT bg
 exact rfl
set_option maxHeartbeats 1000000 in
theorem Ml (ck : Au 1 (Bm 1 (iE .i64)) F Ac Ad Ab) (cu : Au 1 (Bm 1 (iE .i64)) F Aj Ai Af) {r r2 : Int} (hr : KN Ab Af = some (r, r2)) :
    Ba Tryz.prog 64 #[.agg #[.slice Ac Ab.length Ad, .slice Aj Af.length Ai]] F (.tuple #[.int .i64 r, .int .i64 r2]) := by
 refine sp func64 ntmps64 fun K _ _ => ?_
 rw [KN] at hr
 refine AI ?_
 refine By rfl rfl ?_; intro b1 te
 refine ua (ua (BI ?_))
 refine uv (AE isAgg26 sizeOf26 rfl (Has.own 0 rfl) (A5 rfl) rfl) ?_
 obtain ⟨d, n, h2, r3⟩ := A9 hr
 refine c0 call67 (Ct ck cu h2) ?_; rintro _ F4 _ tf tg ⟨v8, pe, rfl, rfl, na⟩
 refine AD (lp (ln rfl)) (kO (kf (fS fO) kr) ?_)
 refine um (ox rfl rfl rfl (ox rfl rfl rfl ?_))
 refine A1 rfl zeroValue45 ?_; intro KZ pf
 refine A0 (i := 0) sizeOf45 rfl rfl na.one rfl (A5 rfl) (AD rfl ?_)
 refine ua (Aa (At (AI (um ?_))))
 refine uv (BH rfl rfl) (Aa ?_)
 refine cQ (fun j2 => ?_) fun j2 => ?_
 ·have pg := AQ r3 j2
  refine AI (um (ua (ua (Aa ?_))))
  refine kW kn ?_
  refine As (Al ?_)
  refine Bu results64 (AP rfl) (AP rfl) (sr) ?_
  obtain ⟨rfl, rfl⟩ := BT pg
  exact rfl
 have ph := AR r3 j2
 refine Aq (At (At ?_))
 obtain ⟨av, bw, BW, rows, pj, pk⟩ := GV ph
 have nc := na; rw [pj] at nc; obtain ⟨az, th, ti, tj, tk, tm, ba, ad, ae, tn, tp, j3, ah, bb, bc, pn, bd, j4⟩ := CM nc; subst j3; subst j4
 refine Fu (L' := [(KZ, ce #[.pointer (some ⟨az, 0, none⟩)] 45), (b1, ce #[.slice Ac Ab.length Ad, .slice Aj Af.length Ai] 26), (ba, .map ad ae)]) rfl (An (uv (Ao isAgg45 rfl (Has.own 0 rfl) rfl) ?_))
 obtain ⟨ok, po, nf⟩ := AB pk
 refine cV call68 (H2 ah bb bc bd po) (Aa ?_)
 refine AT rfl (fun j5 => ?_) (fun j5 => ?_)
 ·have pq := bt nf j5
  refine AI (ua (ua (Aa ?_)))
  refine kW kn ?_
  refine As (Al ?_)
  refine Bu results64 (AP rfl) (AP rfl) (sr) ?_
  obtain ⟨rfl, rfl⟩ := BT pq
  exact rfl
 have pr := bf nf j5
 refine Aq (AI ?_)
 refine uv (Ao isAgg45 rfl (Has.own 0 rfl) rfl) ?_
 obtain ⟨l, pt, pv⟩ := AB pr
 refine c0 call16 (H7 ah bb bc bd pt) ?_; rintro _ tq _ cv j6 ⟨bg, tr, bh, pw, rfl, rfl, cw⟩
 replace bb := bb.mono (Ak (Ae _)) cv
 replace bc := bc.mono (Ak (Ae _)) cv
 replace bd := bd.mono (Bg (n := 64) (sz := 1) BU) cv
 replace ah := cv _ _ ah
 replace cw := cw.new fun p hp => j6 p (by simp [hp])
 refine AD (lp (ln rfl)) (kO (kf (fS fO) (kf (fS fO) (kf (fS fO) kr))) ?_)
 obtain rfl := (BG.Be cw).1
 refine Ew (Nat.le_refl _) (Ae _) (fC (fC (fC fP))) cw ?_; intro ng cx bx
 replace bb := bb.mono (Ak (Ae _)) cx
 replace bc := bc.mono (Ak (Ae _)) cx
 replace bd := bd.mono (Bg (n := 64) (sz := 1) BU) cx
 replace ah := cx _ _ ah
 refine A1 rfl zeroValue23 ?_; intro aq px
 refine A0 (i := 0) sizeOf23 rfl rfl rfl rfl (A5 rfl) (AD rfl (BI ?_))
 refine A1 rfl zeroValue142 ?_; intro ai py
 refine AD rfl (Aa ?_)
 obtain ⟨ways, pz, nh⟩ := AB pv
 refine AK (fun e1 F1 L1 => AN ng F1 ∧ L1 = [(ai, ce (arr (cI .i64) ways) 142), (aq, ce #[.slice bg l.length bh] 23), (KZ, ce #[.pointer (some ⟨az, 0, none⟩)] 45), (ba, .map ad ae)] ∧ e1.sub [(4, .pointer (some ⟨KZ, 0, none⟩)), (6, .pointer (some ⟨aq, 0, none⟩)), (7, .pointer (some ⟨ai, 0, none⟩))] ∧ ways.length = 64) ?_ ?_
 ·clear nh
  refine AI (uv (Av Bz rfl) (uv (Ao isAgg24 rfl (Has.own 3 rfl) rfl) (uv (AJ underlying24 rfl) ?_)))
  refine um (Aa ?_)
  refine Ap (kW (kc (kc (kc (kd kr)))) ?_)
  obtain ⟨q0, qb⟩ := AX pz
  refine A2 (fun iw e1 F1 L1 => ∃ (k : Int), CZ 0 (Af.length : Int) k iw ∧ ∃ (aa : List Int), HS av bw rows l iw k aa = some ways ∧ AN ng F1 ∧ L1 = [(ai, ce (arr (cI .i64) aa) 142), (aq, ce #[.slice bg l.length bh] 23), (KZ, ce #[.pointer (some ⟨az, 0, none⟩)] 45), (ba, .map ad ae)] ∧ e1.sub [(4, .pointer (some ⟨KZ, 0, none⟩)), (6, .pointer (some ⟨aq, 0, none⟩)), (7, .pointer (some ⟨ai, 0, none⟩)), (31, .int .i64 (Af.length : Int)), (32, .int .i64 k)] ∧ aa.length = 64) _ (m0 kr ⟨_, CZ.start _ _, List.replicate 64 0, qb, AN.refl _, rfl, z5, List.length_replicate⟩) ?_
  rintro iw e1 ni _ ⟨k, db, aa, iy, bz, rfl, j7, iz⟩
  refine Az _ j7 ?_
  replace bb := bb.mono (Ak (Ae _)) bz
  replace bc := bc.mono (Ak (Ae _)) bz
  replace bd := bd.mono (Bg (n := 64) (sz := 1) BU) bz
  replace bx := bx.mono (Ak (Ae _)) bz
  replace ah := bz _ _ ah
  refine AI (uv (AV rfl rfl) ?_)
  refine Aa (At ?_)
  refine cQ (fun j0 => ?_) fun j0 => ?_
  ·obtain ⟨iw, rfl, j8⟩ := CZ.succ db j0
   rw [HS] at iy
   refine Aq ?_
   obtain ⟨cp, qc, nj⟩ := AB iy
   refine AK (fun e1 F1 L1 => AN ni F1 ∧ L1 = [(ai, ce (arr (cI .i64) cp) 142), (aq, ce #[.slice bg l.length bh] 23), (KZ, ce #[.pointer (some ⟨az, 0, none⟩)] 45), (ba, .map ad ae)] ∧ e1.sub [(4, .pointer (some ⟨KZ, 0, none⟩)), (6, .pointer (some ⟨aq, 0, none⟩)), (7, .pointer (some ⟨ai, 0, none⟩)), (31, .int .i64 (Af.length : Int)), (32, .int .i64 k)] ∧ cp.length = 64) ?_ ?_
   ·clear nj
    refine Ap ?_
    refine AI (um ?_)
    refine A1 rfl zeroValue3 ?_; intro cg qd
    refine A0 (i := 0) sizeOf3 rfl rfl rfl rfl (A5 rfl) (AD rfl (BI ?_))
    refine A1 rfl zeroValue142 ?_; intro bk qe
    refine AD rfl (Aa ?_)
    obtain ⟨cj, qf, nk⟩ := AB qc
    refine AK (fun e1 F1 L1 => AN ni F1 ∧ L1 = [(bk, ce (arr (cI .i64) cj) 142), (ai, ce (arr (cI .i64) aa) 142), (aq, ce #[.slice bg l.length bh] 23), (KZ, ce #[.pointer (some ⟨az, 0, none⟩)] 45), (ba, .map ad ae)] ∧ e1.sub [(4, .pointer (some ⟨KZ, 0, none⟩)), (6, .pointer (some ⟨aq, 0, none⟩)), (7, .pointer (some ⟨ai, 0, none⟩)), (9, .pointer (some ⟨bk, 0, none⟩)), (31, .int .i64 (Af.length : Int)), (32, .int .i64 k)] ∧ cj.length = 64) ?_ ?_
    ·clear nk
     refine AI (uv (Ao isAgg45 rfl (Has.own 4 rfl) rfl) (uv (Ao isAgg3 rfl (Has.own 1 rfl) rfl) ?_))
     obtain ⟨y, qg, qh⟩ := AB qf
     refine c0 call70 (Bt ah bb bc bd qg) ?_; rintro _ tt _ cn qi ⟨qj, rfl, rfl, du⟩
     replace bb := bb.mono (Ak (Ae _)) cn
     replace bc := bc.mono (Ak (Ae _)) cn
     replace bd := bd.mono (Bg (n := 64) (sz := 1) BU) cn
     replace bx := bx.mono (Ak (Ae _)) cn
     replace ah := cn _ _ ah
     refine AD (ln rfl) (Aa (Ap ?_))
     refine Cu (encs := (fun x : Int => #[.int .i64 x])) (xs := y) rfl call115 rfl (fun _ => rfl) du (fun pre F1 L1 => ∃ (tl : List Int) (aj : List Int), y = pre ++ tl ∧ Fl av bw rows l aa k tl aj = some cj ∧ L1 = [(bk, ce (arr (cI .i64) aj) 142), (cg, ce #[.int .i64 k] 3), (ai, ce (arr (cI .i64) aa) 142), (aq, ce #[.slice bg l.length bh] 23), (KZ, ce #[.pointer (some ⟨az, 0, none⟩)] 45), (ba, .map ad ae)] ∧ aj.length = 64) (fun _ _ _ => False) ?_ ?_ ?_ ?_ ?_ ?_
     ·rintro pre F1 F2 L1 ⟨tl, aj, cq, qk, rfl, cy⟩ hx; exact ⟨tl, aj, cq, qk, rfl, cy⟩
     ·intro c F1 F2 L1 h hx; exact h
     ·exact ⟨_, List.replicate 64 0, rfl, qh, rfl, List.length_replicate⟩
     ·rintro tu ql qn qo qp qq np dv pre x qs ca tv _ bl ⟨tl, aj, cq, dd, rfl, cy⟩
      obtain rfl := Dr cq ca
      rw [Fl] at dd
      replace bb := bb.mono (Ak (Ae _)) bl
      replace bc := bc.mono (Ak (Ae _)) bl
      replace bd := bd.mono (Bg (n := 64) (sz := 1) BU) bl
      replace bx := bx.mono (Ak (Ae _)) bl
      replace ah := bl _ _ ah
      refine Az [(4, .pointer (some ⟨KZ, 0, none⟩)), (6, .pointer (some ⟨aq, 0, none⟩)), (7, .pointer (some ⟨ai, 0, none⟩)), (8, .pointer (some ⟨cg, 0, none⟩)), (9, .pointer (some ⟨bk, 0, none⟩)), (31, .int .i64 (Af.length : Int)), (32, .int .i64 k), (38, .int .i64 x)] (by exact z8) (An ?_)
      refine A1 rfl zeroValue3 ?_; intro aw nq
      refine A0 (i := 0) sizeOf3 rfl rfl rfl rfl (A5 rfl) (AD rfl (Aa ?_))
      refine ⟨rfl, ?_⟩
      refine Ap ?_
      refine At (AI ?_)
      refine uv (Ao isAgg3 rfl (Has.own 2 rfl) rfl) (uv (Bb rfl rfl) (Aa ?_))
      refine cQ (fun de => ?_) fun de => ?_
      ·have j9 := AQ dd de
       refine AI (uv (Ao isAgg3 rfl (Has.own 0 rfl) rfl) ?_)
       obtain ⟨x2, dw, nr, ja⟩ := A7 j9
       refine uv (B6 underlying142 sizeOf3 rfl rfl (Ci cy dw)) ?_
       obtain ⟨bj, dx, jb⟩ := BS ja
       have jc : bj.length = 64 := by rw [dx, List.length_set]; exact cy
       refine He (i := 1) sizeOf3 (Cq .i64) rfl rfl rfl rfl (Ci cy dw) cy ?_
       refine AD (L' := [(aw, ce #[.int .i64 x] 3), (bk, ce (arr (cI .i64) bj) 142), (cg, ce #[.int .i64 k] 3), (ai, ce (arr (cI .i64) aa) 142), (aq, ce #[.slice bg l.length bh] 23), (KZ, ce #[.pointer (some ⟨az, 0, none⟩)] 45), (ba, .map ad ae)]) (by rw [dx]; rfl) ?_
       refine Aa (AL (Am ?_))
       refine AA ?_
       refine ⟨[(bk, ce (arr (cI .i64) bj) 142), (cg, ce #[.int .i64 k] 3), (ai, ce (arr (cI .i64) aa) 142), (aq, ce #[.slice bg l.length bh] 23), (KZ, ce #[.pointer (some ⟨az, 0, none⟩)] 45), (ba, .map ad ae)], ⟨_, .refl _, s1 (s2 (s2 (s2 (s2 (s2 (s2 sr))))))⟩, ?_⟩; exact ⟨_, bj, (by rw [ca]; simp), jb, rfl, jc⟩
      have jd := AR dd de
      refine Aq (AI ?_)
      refine uv (Ao isAgg45 rfl (Has.own 5 rfl) rfl) (uv (Ao isAgg3 rfl (Has.own 2 rfl) rfl) ?_)
      obtain ⟨je, jf⟩ := AX jd
      refine uv (C7 rfl rfl je) ?_
      obtain ⟨y2, jg, jh⟩ := AB jf
      refine c0 call70 (Bt ah bb bc bd jg) ?_; rintro _ qt _ dy ns ⟨dz, rfl, rfl, df⟩
      replace bx := bx.mono (Ak (Ae _)) dy
      refine AD (ln rfl) (Aa (Ap ?_))
      refine HV dv (encs := (fun x : Int => #[.int .i64 x])) (xs := y2) rfl call115 rfl (fun _ => rfl) df (fun pre F1 L1 => ∃ (dp : List Int) (a6 : List Int), y2 = pre ++ dp ∧ Gz l aa k x (Fl av bw rows l aa k qs) dp a6 = some cj ∧ L1 = [(aw, ce #[.int .i64 x] 3), (bk, ce (arr (cI .i64) a6) 142), (cg, ce #[.int .i64 k] 3), (ai, ce (arr (cI .i64) aa) 142), (aq, ce #[.slice bg l.length bh] 23), (KZ, ce #[.pointer (some ⟨az, 0, none⟩)] 45), (ba, .map ad ae)] ∧ a6.length = 64) (fun _ _ _ => False) ?_ ?_ ?_ ?_ ?_ ?_
      ·rintro pre F1 F2 L1 ⟨dp, a6, bm, ji, rfl, ax⟩ hx; exact ⟨dp, a6, bm, ji, rfl, ax⟩
      ·intro c F1 F2 L1 h hx; exact h
      ·exact ⟨_, aj, rfl, jh, rfl, cy⟩
      ·rintro qu nt nu nv nw ny jj nz pre x3 tw cb qw _ eb ⟨dp, a6, bm, ec, rfl, ax⟩
       obtain rfl := Dr bm cb
       rw [Gz] at ec
       replace bx := bx.mono (Ak (Ae _)) eb
       refine Az [(4, .pointer (some ⟨KZ, 0, none⟩)), (6, .pointer (some ⟨aq, 0, none⟩)), (7, .pointer (some ⟨ai, 0, none⟩)), (8, .pointer (some ⟨cg, 0, none⟩)), (9, .pointer (some ⟨bk, 0, none⟩)), (10, .pointer (some ⟨aw, 0, none⟩)), (31, .int .i64 (Af.length : Int)), (32, .int .i64 k), (38, .int .i64 x), (46, .func (.func 115) #[] dz), (47, .int .i64 x3)] (by exact (sc rfl (sc rfl (sc rfl z8)))) ?_
       refine An (ua (Aa ?_))
       refine ⟨rfl, ?_⟩
       refine Ap (dW (wv (Ao isAgg23 rfl (Has.own 4 rfl) rfl) (wv (Ao isAgg3 rfl (Has.own 2 rfl) rfl) ?_)))
       obtain ⟨jk, jl⟩ := AX ec
       refine wv (C7 rfl rfl jk) ?_
       obtain ⟨x4, ef, eg, jm⟩ := A7 jl
       obtain ⟨qx, qy, qz, o0, eh, ei, jn, ⟨rb, re, rfl, jo⟩, o1, ej⟩ := Au.at (Ak (Ae _)) bx ([(aw, ce #[.int .i64 x] 3), (bk, ce (arr (cI .i64) a6) 142), (cg, ce #[.int .i64 k] 3), (ai, ce (arr (cI .i64) aa) 142), (aq, ce #[.slice bg l.length bh] 23), (KZ, ce #[.pointer (some ⟨az, 0, none⟩)] 45), (ba, .map ad ae)]) ef.1 eg
       refine wv (AF underlying23 sizeOf22 rfl eh rfl ef) (wv (Ao isAgg22 rfl ei (ej 0 (by decide))) (wm ?_))
       obtain ⟨x5, en, eo, jq⟩ := A7 jm
       obtain ⟨rf, rh, ri, o2, ep, er, jr, rfl, o3, et⟩ := Au.at (Ae _) jo ([(aw, ce #[.int .i64 x] 3), (bk, ce (arr (cI .i64) a6) 142), (cg, ce #[.int .i64 k] 3), (ai, ce (arr (cI .i64) aa) 142), (aq, ce #[.slice bg l.length bh] 23), (KZ, ce #[.pointer (some ⟨az, 0, none⟩)] 45), (ba, .map ad ae)]) en.1 eo
       refine wv (AF underlying22 sizeOf3 rfl ep rfl en) (wv (Ao isAgg3 rfl er (et 0 (by decide))) (wm (wv (Ao isAgg3 rfl (Has.own 0 rfl) rfl) ?_)))
       obtain ⟨n2, js, jt⟩ := AB jq
       refine DL rfl call73 rfl rfl rfl (DU js) ?_
       obtain ⟨ju, jv⟩ := AX jt
       refine wv (AY rfl rfl ju) (wv (Ao isAgg23 rfl (Has.own 4 rfl) rfl) (wv (Ao isAgg3 rfl (Has.own 2 rfl) rfl) ?_))
       obtain ⟨x6, eu, ew, jw⟩ := A7 jv
       obtain ⟨rj, rk, rl, o4, ey, ez, jx, ⟨rm, rp, rfl, jz⟩, o5, fa⟩ := Au.at (Ak (Ae _)) bx ([(aw, ce #[.int .i64 x] 3), (bk, ce (arr (cI .i64) a6) 142), (cg, ce #[.int .i64 k] 3), (ai, ce (arr (cI .i64) aa) 142), (aq, ce #[.slice bg l.length bh] 23), (KZ, ce #[.pointer (some ⟨az, 0, none⟩)] 45), (ba, .map ad ae)]) eu.1 ew
       refine wv (AF underlying23 sizeOf22 rfl ey rfl eu) (wv (Ao isAgg22 rfl ez (fa 0 (by decide))) (wv (Ao isAgg3 rfl (Has.own 0 rfl) rfl) ?_))
       obtain ⟨x7, fb, fe, ff⟩ := A7 jw
       obtain ⟨rq, rr, ru, o7, fg, fh, kb, rfl, o8, fi⟩ := Au.at (Ae _) jz ([(aw, ce #[.int .i64 x] 3), (bk, ce (arr (cI .i64) a6) 142), (cg, ce #[.int .i64 k] 3), (ai, ce (arr (cI .i64) aa) 142), (aq, ce #[.slice bg l.length bh] 23), (KZ, ce #[.pointer (some ⟨az, 0, none⟩)] 45), (ba, .map ad ae)]) fb.1 fe
       refine wv (AF underlying22 sizeOf3 rfl fg rfl fb) (wv (Ao isAgg3 rfl fh (fi 0 (by decide))) (wv (Bb rfl rfl) (BV ?_)))
       refine cQ (fun dg => ?_) fun dg => ?_
       ·have kh := AQ ff dg
        refine Bd [(.still, 0), (.still, 1), (.still, 2), (.still, 3), (.still, 4), (.still, 5), (.still, 6), (.still, 7), (.seq, 8)] (by kernel_rfl) (by kernel_rfl) (trivial) (by rfl) (by kernel_rfl) (mL [10] ([(aw, ce #[.int .i64 x] 3)]) rfl (s0 (s2 (s1 (s1 (s1 (s1 (s1 (s1 sr)))))))) (fun H F' L' cc cd => Ao isAgg3 rfl ((Has.own 0 rfl).ext cc cd) rfl) ?_)
        obtain ⟨x8, dh, fj, kj⟩ := A7 kh
        have fk := Kl (Cq .i64) ax fj
        refine mS [9, 68] rfl (B6 underlying142 sizeOf3 rfl rfl (Ci ax dh)) (mL [69] ([(bk, ce (arr (cI .i64) a6) 142)]) rfl (s0 (s1 (s2 (s1 (s1 (s1 (s1 (s1 sr)))))))) (fun H F' L' cc cd => Ao isAgg3 rfl ((Has.own 0 rfl).ext cc cd) ((fk).2.2 0 (by decide))) (mS [11] rfl (Bj rfl) ?_))
        obtain ⟨x9, kl, fl, km⟩ := A7 kj
        have fm := Kl (Cq .i64) iz fl
        refine mS [7, 71] rfl (B6 underlying142 sizeOf3 rfl rfl (Ci iz kl)) (mL [72] ([(ai, ce (arr (cI .i64) aa) 142)]) rfl (s0 (s1 (s1 (s1 (s2 (s1 (s1 (s1 sr)))))))) (fun H F' L' cc cd => Ao isAgg3 rfl ((Has.own 0 rfl).ext cc cd) ((fm).2.2 0 (by decide))) ?_)
        obtain ⟨ko, kt⟩ := AX km
        refine mS (v := .int .i64 (x8 + x9)) [70, 73] rfl (AY rfl rfl ko) (mS [9, 68] rfl (B6 underlying142 sizeOf3 rfl rfl (Ci ax dh)) ?_)
        refine ⟨_, [(74, .int .i64 (x8 + x9)), (75, .pointer (some ⟨bk, 0 + (x : Int).toNat * 1, none⟩))], rfl, rfl, z2, by kernel_rfl, ?_⟩; intro H
        obtain ⟨l2, fo, ku⟩ := BS kt
        have kv : l2.length = 64 := by rw [fo, List.length_set]; exact ax
        refine He (i := 1) sizeOf3 (Cq .i64) rfl rfl rfl rfl (Ci ax dh) ax ?_
        refine AD (L' := [(aw, ce #[.int .i64 x] 3), (bk, ce (arr (cI .i64) l2) 142), (cg, ce #[.int .i64 k] 3), (ai, ce (arr (cI .i64) aa) 142), (aq, ce #[.slice bg l.length bh] 23), (KZ, ce #[.pointer (some ⟨az, 0, none⟩)] 45), (ba, .map ad ae)]) (by rw [fo]; rfl) ?_
        refine Aa ⟨undef, rfl, AN.refl _, [], by kernel_rfl, .inl (.inl rfl), nm, ?_⟩
        refine BC (Ax (id := 5) ?_)
        refine ⟨[(aw, ce #[.int .i64 x] 3), (bk, ce (arr (cI .i64) l2) 142), (cg, ce #[.int .i64 k] 3), (ai, ce (arr (cI .i64) aa) 142), (aq, ce #[.slice bg l.length bh] 23), (KZ, ce #[.pointer (some ⟨az, 0, none⟩)] 45), (ba, .map ad ae)], ⟨_, .refl _, sr⟩, ?_⟩; exact ⟨_, l2, (by rw [cb]; simp), ku, rfl, kv⟩
       have kz := AR ff dg
       refine Aq (Ax (id := 5) ?_)
       refine ⟨[(aw, ce #[.int .i64 x] 3), (bk, ce (arr (cI .i64) a6) 142), (cg, ce #[.int .i64 k] 3), (ai, ce (arr (cI .i64) aa) 142), (aq, ce #[.slice bg l.length bh] 23), (KZ, ce #[.pointer (some ⟨az, 0, none⟩)] 45), (ba, .map ad ae)], ⟨_, .refl _, sr⟩, ?_⟩; exact ⟨_, a6, (by rw [cb]; simp), kz, rfl, ax⟩
      ·rintro ry _ o9 ⟨dp, a6, bm, fp, rfl, ax⟩
       obtain rfl := D8 bm; rw [Gz] at fp
       refine Ax (id := 4) (Ax (id := 3) ?_)
       refine ⟨[(bk, ce (arr (cI .i64) a6) 142), (cg, ce #[.int .i64 k] 3), (ai, ce (arr (cI .i64) aa) 142), (aq, ce #[.slice bg l.length bh] 23), (KZ, ce #[.pointer (some ⟨az, 0, none⟩)] 45), (ba, .map ad ae)], ⟨_, .refl _, s1 (s2 (s2 (s2 (s2 (s2 (s2 sr))))))⟩, ?_⟩; exact ⟨_, a6, (by rw [ca]; simp), fp, rfl, ax⟩
      intro c F1 L1 hx h; exact h.elim
     ·rintro rz _ fq ⟨tl, aj, cq, fs, rfl, cy⟩
      obtain rfl := D8 cq; rw [Fl] at fs
      refine Ax (id := 2) ?_
      obtain rfl := AH fs
      exact mi (kc (kd kr)) ⟨(cn.trans fq), rfl, z6, cy⟩
     intro c F1 L1 hx h; exact h.elim
    rintro e1 s5 _ ⟨ft, rfl, fv, la⟩
    refine Az _ fv (An (uv (Lz isAgg142 sizeOf142 rfl (Has.own 0 rfl) (H8 (Cq .i64) la)) (Nr (i := 1) sizeOf142 rfl rfl rfl (H8 (Cq .i64) iz) (H8 (Cq .i64) la) (Ob (Cq .i64)) (AD rfl ?_))))
    refine Aa (Ax (id := 1) ?_)
    obtain rfl := AH nk
    exact mi (kd kr) ⟨ft, rfl, z5, la⟩
   rintro e1 s6 _ ⟨fw, rfl, fx, s7⟩
   refine Az _ fx (An (uv (AY rfl rfl (CZ.CC db j0 q0)) ?_))
   refine um (Aa ?_)
   exact le kr ⟨_, j8, cp, nj, (bz.trans fw), rfl, z5, s7⟩
  obtain rfl := CZ.zero db j0
  rw [HS] at iy
  refine AL (Am (Am ?_))
  refine AA ?_
  obtain rfl := AH iy
  exact mi kr ⟨bz, rfl, z3, iz⟩
 rintro e1 s8 _ ⟨bn, rfl, fy, oc⟩
 refine Az _ fy ?_
 replace bb := bb.mono (Ak (Ae _)) bn
 replace bc := bc.mono (Ak (Ae _)) bn
 replace bd := bd.mono (Bg (n := 64) (sz := 1) BU) bn
 replace bx := bx.mono (Ak (Ae _)) bn
 replace ah := bn _ _ ah
 refine AI (uv (Ao isAgg23 rfl (Has.own 1 rfl) rfl) (uv (Ao isAgg23 rfl (Has.own 1 rfl) rfl) (uv (AJ underlying23 rfl) ?_)))
 obtain ⟨ld, lg⟩ := AX nh
 refine uv (C7 rfl rfl ld) ?_
 obtain ⟨ct, g0, g8, lh⟩ := A7 lg
 obtain ⟨s9, sa, sb, od, ga, gb, lj, ⟨bo, bp, rfl, ar⟩, oe, gg⟩ := Au.at (Ak (Ae _)) bx ([(ai, ce (arr (cI .i64) ways) 142), (aq, ce #[.slice bg l.length bh] 23), (KZ, ce #[.pointer (some ⟨az, 0, none⟩)] 45), (ba, .map ad ae)]) g0.1 g8
 refine uv (AF underlying23 sizeOf22 rfl ga rfl g0) (uv (Ao isAgg22 rfl gb (gg 0 (by decide))) ?_)
 refine A1 rfl zeroValue22 ?_; intro ay og
 refine A0 (i := 0) sizeOf22 rfl rfl rfl rfl (A5 rfl) (AD rfl (BI ?_))
 refine A1 rfl zeroValue3 ?_; intro au oh
 refine A1 rfl zeroValue3 ?_; intro al oi
 refine A0 (i := 1) sizeOf3 rfl rfl rfl rfl (A5 rfl) (AD rfl (A0 (i := 0) sizeOf3 rfl rfl rfl rfl (A5 rfl) (AD rfl (Aa ?_))))
 obtain ⟨ak, lk, gh⟩ := AB lh
 refine jF ([(al, ce #[.int .i64 0] 3), (au, ce #[.int .i64 ak] 3), (ay, ce #[.slice bo ct.length bp] 22), (ai, ce (arr (cI .i64) ways) 142), (aq, ce #[.slice bg l.length bh] 23), (KZ, ce #[.pointer (some ⟨az, 0, none⟩)] 45), (ba, .map ad ae)]) [(4, .pointer (some ⟨KZ, 0, none⟩)), (6, .pointer (some ⟨aq, 0, none⟩)), (7, .pointer (some ⟨ai, 0, none⟩)), (12, .pointer (some ⟨ay, 0, none⟩)), (13, .pointer (some ⟨au, 0, none⟩)), (14, .pointer (some ⟨al, 0, none⟩))] ?_ fun sd bq => ?_
 ·clear gh
  refine AI (uv (Ao isAgg45 rfl (Has.own 5 rfl) rfl) (uv (Ao isAgg23 rfl (Has.own 4 rfl) rfl) (uv (AJ underlying23 rfl) ?_)))
  obtain ⟨ll, lq⟩ := AX lk
  refine uv (C7 rfl rfl ll) ?_
  obtain ⟨y3, lr, lu⟩ := AB lq
  refine c0 call70 (Bt ah bb bc bd lr) ?_; rintro _ se _ cz oj ⟨gi, rfl, rfl, di⟩
  replace ar := ar.mono (Ae _) cz
  refine AD (ln rfl) (Aa (Ap ?_))
  refine Cu (encs := (fun x : Int => #[.int .i64 x])) (xs := y3) rfl call115 rfl (fun _ => rfl) di (fun pre F1 L1 => ∃ (dq : List Int) (ab : Int), y3 = pre ++ dq ∧ HK ct dq ab = some ak ∧ L1 = [(al, ce #[.int .i64 0] 3), (au, ce #[.int .i64 ab] 3), (ay, ce #[.slice bo ct.length bp] 22), (ai, ce (arr (cI .i64) ways) 142), (aq, ce #[.slice bg l.length bh] 23), (KZ, ce #[.pointer (some ⟨az, 0, none⟩)] 45), (ba, .map ad ae)]) (fun _ _ _ => False) ?_ ?_ ?_ ?_ ?_ ?_
  ·rintro pre F1 F2 L1 ⟨dq, ab, br, lv, rfl⟩ hx; exact ⟨dq, ab, br, lv, rfl⟩
  ·intro c F1 F2 L1 h hx; exact h
  ·exact ⟨_, 100, rfl, lu, rfl⟩
  ·rintro sf oo oq ot ou ow lx oy pre sg tx cr sh _ gj ⟨dq, ab, br, gk, rfl⟩
   obtain rfl := Dr br cr
   rw [HK] at gk
   replace ar := ar.mono (Ae _) gj
   refine Az [(4, .pointer (some ⟨KZ, 0, none⟩)), (6, .pointer (some ⟨aq, 0, none⟩)), (7, .pointer (some ⟨ai, 0, none⟩)), (12, .pointer (some ⟨ay, 0, none⟩)), (13, .pointer (some ⟨au, 0, none⟩)), (14, .pointer (some ⟨al, 0, none⟩)), (88, .func (.func 115) #[] gi), (89, .int .i64 sg)] (by exact z8) ?_
   refine An (ua (Aa ?_))
   refine ⟨rfl, ?_⟩
   refine Ap (Bd [(.still, 0), (.still, 1), (.still, 2), (.still, 3), (.still, 4), (.seq, 5), (.seq, 6), (.seq, 7)] (by kernel_rfl) (by kernel_rfl) (trivial) (by rfl) (by kernel_rfl) (mL [13] ([(au, ce #[.int .i64 ab] 3)]) rfl (s0 (s1 (s2 (s1 (s1 (s1 (s1 (s1 sr)))))))) (fun H F' L' cc cd => Ao isAgg3 rfl ((Has.own 0 rfl).ext cc cd) rfl) (mL [12] ([(ay, ce #[.slice bo ct.length bp] 22)]) rfl (s0 (s1 (s1 (s2 (s1 (s1 (s1 (s1 sr)))))))) (fun H F' L' cc cd => Ao isAgg22 rfl ((Has.own 0 rfl).ext cc cd) rfl) (mS [15] rfl (Bj rfl) ?_))))
   obtain ⟨dr, gl, gm, ly⟩ := A7 gk
   obtain ⟨si, sj, sk, oz, gn, gp, lz, rfl, p0, gq⟩ := Au.at (Ae _) ar ([]) gl.1 gm
   refine mS [91, 92] rfl (AF underlying22 sizeOf3 rfl gn rfl gl) (mL [93] ([]) rfl sm (fun H F' L' cc cd => Ao isAgg3 rfl (gp.ext cc cd) (gq 0 (by decide))) ?_)
   refine ⟨_, [(94, .int .i64 dr)], rfl, rfl, z1, by kernel_rfl, ?_⟩; intro H
   refine bA (cs := #[.int .i64 dr]) BN [.int .i64 dr] ?_; intro gr gu
   refine Aa ⟨_, rfl, AN.refl _, [0], by kernel_rfl, .inl (.inr (fun d h => by cases h; rfl)), (fc (s0 (s1 (s1 (s2 (s1 (s1 (s1 (s1 (s1 sr))))))))) nm), ?_⟩
   refine ⟨_, [(90, .int .i64 ab), (95, .slice (some ⟨gr, 0, none⟩) 1 1)], rfl, rfl, z2, by kernel_rfl, ?_⟩; intro H
   refine AO 0 rfl gu ?_; intro ma gv gw
   refine AD rfl ?_
   have mb : Au 1 (iE .i64) ma (some ⟨gr, 0, none⟩) 1 [dr] := Au.AG (Ae _) (vss := [[.int .i64 dr]]) (xs := [dr]) gw (.cons rfl .nil) rfl (by simp [maxLen])
   obtain ⟨n3, mc, me⟩ := AB ly
   refine cV call72 (GD mb mc) ?_
   refine Aa ⟨_, rfl, gv, [], by kernel_rfl, .inl (.inl rfl), nm, ?_⟩
   refine ⟨_, [(13, .pointer (some ⟨au, 0, none⟩)), (96, .int .i64 n3)], rfl, rfl, z2, by kernel_rfl, ?_⟩; intro H
   refine A0 (i := 1) sizeOf3 rfl rfl rfl rfl (A5 rfl) (AD rfl ?_)
   refine Aa ⟨undef, rfl, AN.refl _, [], by kernel_rfl, .inl (.inl rfl), nm, ?_⟩
   refine BC (Ax (id := 7) ?_)
   refine ⟨[(al, ce #[.int .i64 0] 3), (au, ce #[.int .i64 n3] 3), (ay, ce #[.slice bo ct.length bp] 22), (ai, ce (arr (cI .i64) ways) 142), (aq, ce #[.slice bg l.length bh] 23), (KZ, ce #[.pointer (some ⟨az, 0, none⟩)] 45), (ba, .map ad ae)], ⟨_, .refl _, sr⟩, ?_⟩; exact ⟨_, n3, (by rw [cr]; simp), me, rfl⟩
  ·rintro sq _ gx ⟨dq, ab, br, gy, rfl⟩
   obtain rfl := D8 br; rw [HK] at gy
   refine Ax (id := 6) ?_
   obtain rfl := AH gy
   exact mi kr ⟨(cz.trans gx), rfl, z6⟩
  intro c F1 L1 hx h; exact h.elim
 replace bb := bb.mono (Ak (Ae _)) bq
 replace bc := bc.mono (Ak (Ae _)) bq
 replace bd := bd.mono (Bg (n := 64) (sz := 1) BU) bq
 replace ar := ar.mono (Ae _) bq
 replace ah := bq _ _ ah
 obtain ⟨out, mg, gz⟩ := AB gh
 refine jF ([(al, ce #[.int .i64 out] 3)]) [(14, .pointer (some ⟨al, 0, none⟩))] ?_ fun ss p3 => ?_
 ·clear gz
  refine AI (uv (Ao isAgg45 rfl (Has.own 5 rfl) rfl) (uv (Ao isAgg23 rfl (Has.own 4 rfl) rfl) (uv (AJ underlying23 rfl) ?_)))
  obtain ⟨mh, mj⟩ := AX mg
  refine uv (C7 rfl rfl mh) ?_
  obtain ⟨y4, ml, mn⟩ := AB mj
  refine c0 call70 (Bt ah bb bc bd ml) ?_; rintro _ su _ da p4 ⟨ia, rfl, rfl, dk⟩
  replace ar := ar.mono (Ae _) da
  refine AD (ln rfl) (Aa (Ap (kW (kc (kc (kc (kc kn)))) ?_)))
  refine Cu (encs := (fun x : Int => #[.int .i64 x])) (xs := y4) rfl call115 rfl (fun _ => rfl) dk (fun pre F1 L1 => ∃ (dt : List Int) (ao : Int), y4 = pre ++ dt ∧ GB ways ct ak dt ao = some out ∧ L1 = [(al, ce #[.int .i64 ao] 3), (au, ce #[.int .i64 ak] 3), (ay, ce #[.slice bo ct.length bp] 22), (ai, ce (arr (cI .i64) ways) 142)]) (fun _ _ _ => False) ?_ ?_ ?_ ?_ ?_ ?_
  ·rintro pre F1 F2 L1 ⟨dt, ao, bu, mo, rfl⟩ hx; exact ⟨dt, ao, bu, mo, rfl⟩
  ·intro c F1 F2 L1 h hx; exact h
  ·exact ⟨_, 0, rfl, mn, rfl⟩
  ·rintro sv p5 p6 p7 p8 p9 mq pa pre sw tz cf sx _ ib ⟨dt, ao, bu, ic, rfl⟩
   obtain rfl := Dr bu cf
   rw [GB] at ic
   replace ar := ar.mono (Ae _) ib
   refine Az [(7, .pointer (some ⟨ai, 0, none⟩)), (12, .pointer (some ⟨ay, 0, none⟩)), (13, .pointer (some ⟨au, 0, none⟩)), (14, .pointer (some ⟨al, 0, none⟩)), (101, .func (.func 115) #[] ia), (102, .int .i64 sw)] (by exact z6) ?_
   refine An (ua (Aa ?_))
   refine ⟨rfl, ?_⟩
   refine Ap (dW (wv (Ao isAgg22 rfl (Has.own 2 rfl) rfl) (wm ?_)))
   obtain ⟨u0, ie, ig, ij⟩ := A7 ic
   obtain ⟨sy, ta, tc, pb, ik, il, mr, rfl, pd, im⟩ := Au.at (Ae _) ar ([(al, ce #[.int .i64 ao] 3), (au, ce #[.int .i64 ak] 3), (ay, ce #[.slice bo ct.length bp] 22), (ai, ce (arr (cI .i64) ways) 142)]) ie.1 ig
   refine wv (AF underlying22 sizeOf3 rfl ik rfl ie) (wv (Ao isAgg3 rfl il (im 0 (by decide))) (wv (Ao isAgg3 rfl (Has.own 1 rfl) rfl) (wv (Bb rfl rfl) (BV ?_))))
   refine cQ (fun dm => ?_) fun dm => ?_
   ·have mu := AQ ij dm
    refine Bd [(.still, 0), (.still, 1), (.still, 2), (.still, 3), (.still, 4), (.seq, 5)] (by kernel_rfl) (by kernel_rfl) (trivial) (by rfl) (by kernel_rfl) (mL [14] ([(al, ce #[.int .i64 ao] 3)]) rfl (s0 (s2 (s1 (s1 (s1 sr))))) (fun H F' L' cc cd => Ao isAgg3 rfl ((Has.own 0 rfl).ext cc cd) rfl) (mS [16] rfl (Bj rfl) ?_))
    obtain ⟨j1, mv, iq, mw⟩ := A7 mu
    have ir := Kl (Cq .i64) oc iq
    refine mS [7, 110] rfl (B6 underlying142 sizeOf3 rfl rfl (Ci oc mv)) (mL [111] ([(ai, ce (arr (cI .i64) ways) 142)]) rfl (s0 (s1 (s1 (s1 (s2 sr))))) (fun H F' L' cc cd => Ao isAgg3 rfl ((Has.own 0 rfl).ext cc cd) ((ir).2.2 0 (by decide))) ?_)
    obtain ⟨mx, my⟩ := AX mw
    refine mS (v := .int .i64 (ao + j1)) [109, 112] rfl (AY rfl rfl mx) ?_
    refine ⟨_, [(14, .pointer (some ⟨al, 0, none⟩)), (113, .int .i64 (ao + j1))], rfl, rfl, z2, by kernel_rfl, ?_⟩; intro H
    refine A0 (i := 0) sizeOf3 rfl rfl rfl rfl (A5 rfl) (AD rfl ?_)
    refine Aa ⟨undef, rfl, AN.refl _, [], by kernel_rfl, .inl (.inl rfl), nm, ?_⟩
    refine BC (Ax (id := 9) ?_)
    refine ⟨[(al, ce #[.int .i64 (ao + j1)] 3), (au, ce #[.int .i64 ak] 3), (ay, ce #[.slice bo ct.length bp] 22), (ai, ce (arr (cI .i64) ways) 142)], ⟨_, .refl _, sr⟩, ?_⟩; exact ⟨_, ao + j1, (by rw [cf]; simp), my, rfl⟩
   have mz := AR ij dm
   refine Aq (Ax (id := 9) ?_)
   refine ⟨[(al, ce #[.int .i64 ao] 3), (au, ce #[.int .i64 ak] 3), (ay, ce #[.slice bo ct.length bp] 22), (ai, ce (arr (cI .i64) ways) 142)], ⟨_, .refl _, sr⟩, ?_⟩; exact ⟨_, ao, (by rw [cf]; simp), mz, rfl⟩
  ·rintro td _ iu ⟨dt, ao, bu, iv, rfl⟩
   obtain rfl := D8 bu; rw [GB] at iv
   refine Ax (id := 8) ?_
   obtain rfl := AH iv
   exact mi (kc kn) ⟨(da.trans iu), rfl, z1⟩
  intro c F1 L1 hx h; exact h.elim
 refine AI (uv (Ao isAgg3 rfl (Has.own 0 rfl) rfl) ?_)
 refine ua (ua (Aa ?_))
 refine kW kn (As (Bu results64 (AP rfl) (AP rfl) (sr) ?_))
 obtain ⟨rfl, rfl⟩ := BT gz
 exact rfl
theorem Gp {GX : Option Addr} {GY : Nat} {s_ : List Int} (a6 : Au 1 (iE .i64) F GX GY s_) {r : List Int} (hr : Ch s_ = some r) :
    SH.Spec Tryz.prog 112 #[.slice GX s_.length GY] F [] fun F' L' v => ∃ (ra : Option Addr) (rn : Nat) (rc : Nat) (rL : LH), v = .slice ra rn rc ∧ L' = rL ++ [] ∧ AW 0 108 1 (iE .i64) F' ra rn rc r rL := by
 refine sp func112 ntmps112 fun K _ _ => ?_
 rw [Ch] at hr
 refine AI (ua (Aa (At (AI (um ?_)))))
 refine uv (Mh underlying107 rfl) (Aa ?_)
 refine AT rfl (fun c1 => ?_) (fun c1 => ?_)
 ·have r2 := Py hr (Au.isNone a6 c1)
  refine AI (ua (Aa (As (Al ?_))))
  refine BD results112 ?_
  obtain rfl := AH r2
  exact ⟨_, _, _, [], rfl, rfl, AW.nil _ _ _ _ _⟩
 have r3 := Pu hr
 refine Aq (AI ?_)
 refine Gn (cs := #[]) rfl rfl (HX Mc) ?_; intro b4 ae
 refine um ?_
 have ad : AW K.w0.heap.size 108 1 (iE .i64) F (some ⟨b4, 0, none⟩) 0 0 ([] : List Int) [(b4, ce #[] 108)] := AW.AG (vss := []) (Ae _) ae .nil rfl rfl (by simp [maxLen])
 generalize aa : ([(b4, ce #[] 108)] : LH) = Lb5 at ad
 refine BK (L' := Lb5 ++ []) (by rw [← aa]; exact fO) ?_
 obtain ⟨l, h8, g9, ah⟩ := E0 r3
 refine Dm (xs := ([] : List Int)) (ys := s_) (zs := l) rfl Mc rfl rfl (Nat.le_refl _) (fun _ => .h) ad (Au.src a6) h8 g9 (by decide) ?_; intro aj ak al ai ab
 refine ua (Aa (As ?_))
 refine BD results112 ?_
 obtain rfl := AH ah
 exact ⟨_, _, _, _, rfl, rfl, ab.any⟩
set_option maxHeartbeats 1000000 in
theorem Kz (a6 : Au 1 (Bm 1 (iE .i64)) F Ac Ad Ab) (ab : Au 1 (Bm 1 (iE .i64)) F Aj Ai Af) {r : List (List Int)} {r2 : Int} (hr : Iv Ab Af = some (r, r2)) :
    SH.Spec Tryz.prog 65 #[.agg #[.slice Ac Ab.length Ad, .slice Aj Af.length Ai]] F [] fun F' L' v => ∃ (ra : Option Addr) (rn : Nat) (rc : Nat) (rL : LH), v = .tuple #[.slice ra rn rc, .int .i64 r2] ∧ L' = rL ++ [] ∧ AW 0 107 1 (Bm 1 (iE .i64)) F' ra rn rc r rL := by
 refine sp func65 ntmps65 fun K _ _ => ?_
 rw [Iv] at hr
 refine AI ?_
 refine By rfl rfl ?_; intro b1 nq
 refine ua (ua (BI ?_))
 refine uv (AE isAgg26 sizeOf26 rfl (Has.own 0 rfl) (A5 rfl) rfl) ?_
 obtain ⟨d, n, h2, r3⟩ := A9 hr
 refine c0 call15 (Gb a6 ab h2) ?_; rintro _ F4 _ jj nr ⟨v8, lh, rfl, rfl, lj⟩
 replace a6 := a6.mono (Ak (Ae _)) jj
 replace ab := ab.mono (Ak (Ae _)) jj
 refine AD (lp (ln rfl)) (kO (kf (fS fO) kr) ?_)
 refine um (ox rfl rfl rfl (ox rfl rfl rfl (ua (ua (Aa (At (AI (um ?_))))))))
 refine uv (BH rfl rfl) (Aa ?_)
 refine cQ (fun fe => ?_) fun fe => ?_
 ·have lk := AQ r3 fe
  refine AI (um (ua (ua (Aa ?_))))
  refine kW kn ?_
  refine As (Al ?_)
  refine Bu results65 (AP rfl) (AP rfl) (sr) ?_
  obtain ⟨rfl, rfl⟩ := BT lk
  exact ⟨_, _, _, [], rfl, rfl, AW.nil _ _ _ _ _⟩
 have ll := AR r3 fe
 refine Aq (AI (ua (Aa ?_)))
 obtain ⟨out, lq, jk⟩ := AB ll
 refine AK (fun e1 F1 L1 => ∃ (ff : Option Addr) (fg : Nat) (fh : Nat) (ck : LH), AN F4 F1 ∧ L1 = (ck ++ []) ∧ e1.sub [(6, .slice ff fg fh)] ∧ AW K.w0.heap.size 107 1 (Bm 1 (iE .i64)) F1 ff fg fh out ck) ?_ ?_
 ·clear jk
  refine AI (uv (Av Bz rfl) (uv (Ao isAgg24 rfl (Has.own 0 rfl) rfl) (uv (AJ underlying24 rfl) ?_)))
  refine um (Aa ?_)
  refine Ap ?_
  obtain ⟨bg, cn, BW, rows, lr, lu⟩ := GV lq
  have jl := lj; rw [lr] at jl; obtain ⟨br, ns, nt, nu, nv, nw, av, ai, aj, ny, nz, fi, ax, et, eu, lv, cy, fj⟩ := CM jl; subst fi; subst fj
  refine Fu (L' := [(b1, ce #[.slice Ac Ab.length Ad, .slice Aj Af.length Ai] 26), (av, .map ai aj)]) rfl ?_
  refine A2 (fun jm e1 F1 L1 => LA Af jm fun tl k => ∃ (bh : List (List Int)) (bj : Option Addr) (bk : Nat) (bl : Nat) (ah : LH), Fj Ab bg cn rows tl k bh = some out ∧ AN F4 F1 ∧ L1 = ((b1, ce #[.slice Ac Ab.length Ad, .slice Aj Af.length Ai] 26) :: ((av, .map ai aj) :: (ah ++ []))) ∧ e1.sub [(1, .pointer (some ⟨b1, 0, none⟩)), (4, .pointer (some ⟨br, 0, none⟩)), (6, .slice bj bk bl), (24, .int .i64 (Af.length : Int)), (25, .int .i64 k)] ∧ AW K.w0.heap.size 107 1 (Bm 1 (iE .i64)) F1 bj bk bl bh ah) _ (m0 (kc (kc (ke kr))) ⟨_, _, rfl, A8.start _, [], none, 0, 0, [], lu, AN.refl _, rfl, z5, AW.nil _ _ _ _ _⟩) ?_
  rintro jm e1 lx _ ⟨tl, k, fk, cp, bh, bj, bk, bl, ah, ew, ar, rfl, fl, ak⟩
  refine Az _ fl ?_
  replace a6 := a6.mono (Ak (Ae _)) ar
  replace ab := ab.mono (Ak (Ae _)) ar
  replace et := et.mono (Ak (Ae _)) ar
  replace eu := eu.mono (Ak (Ae _)) ar
  replace cy := cy.mono (Bg (n := 64) (sz := 1) BU) ar
  replace ax := ar _ _ ax
  refine AI (uv (AV rfl rfl) ?_)
  refine Aa (At ?_)
  refine cQ (fun ey => ?_) fun ey => ?_
  ·obtain ⟨x, o0, rfl, ly, o1, fm⟩ := A8.succ cp ey
   rw [Fj] at ew
   refine Aq ?_
   obtain ⟨cz, lz, jn⟩ := AB ew
   refine AK (fun e1 F1 L1 => ∃ (ez : Option Addr) (fa : Nat) (fb : Nat) (bu : LH), AN lx F1 ∧ L1 = ((b1, ce #[.slice Ac Ab.length Ad, .slice Aj Af.length Ai] 26) :: ((av, .map ai aj) :: (bu ++ []))) ∧ e1.sub [(1, .pointer (some ⟨b1, 0, none⟩)), (4, .pointer (some ⟨br, 0, none⟩)), (6, .slice ez fa fb), (24, .int .i64 (Af.length : Int)), (25, .int .i64 k)] ∧ AW K.w0.heap.size 107 1 (Bm 1 (iE .i64)) F1 ez fa fb cz bu) ?_ ?_
   ·clear jn
    refine Ap ?_
    refine AI (um (ua (Aa (At ?_))))
    obtain ⟨k2, jo, fo⟩ := AB lz
    refine jE (((b1, ce #[.slice Ac Ab.length Ad, .slice Aj Af.length Ai] 26) :: ((av, .map ai aj) :: (ah ++ [])))) [(1, .pointer (some ⟨b1, 0, none⟩)), (4, .pointer (some ⟨br, 0, none⟩)), (6, .slice bj bk bl), (7, .int .i64 k), (24, .int .i64 (Af.length : Int)), (25, .int .i64 k), (47, .bool k2)] ?_ ?_
    ·clear fo
     refine Le (by kernel_rfl) (by kernel_rfl) (by kernel_rfl) (wm (wv (Em rfl rfl) (wm ?_)))
     by_cases ad : 0 < k
     ·have ma := AQ jo ad
      refine BP (b := true) 30 rfl (Env.M4 rfl ad) (wm (BP (b := true) 30 rfl (Env.M4 rfl ad) ?_))
      refine wv (Bo rfl) (BP (b := true) 30 rfl (Env.M4 rfl ad) (wv (Av JB rfl) (BP (b := true) 30 rfl (Env.M4 rfl ad) (wv (Ao isAgg111 rfl (Has.frozen ax) rfl) ?_))))
      refine BP (b := true) 30 rfl (Env.M4 rfl ad) (wm (BP (b := true) 30 rfl (Env.M4 rfl ad) ?_))
      obtain ⟨x2, jq, fp, mb⟩ := A7 ma
      obtain ⟨o2, o3, o4, mc, fq, fs, bz, ⟨rfl, me⟩, ft, fv⟩ := Au.at (Bg (n := 64) (sz := 1) BU) cy ((b1, ce #[.slice Ac Ab.length Ad, .slice Aj Af.length Ai] 26) :: ((av, .map ai aj) :: (ah ++ []))) jq.1 fp
      refine wv (AF underlying111 sizeOf148 rfl fq rfl jq) (BP (b := true) 30 rfl (Env.M4 rfl ad) (wv (AE isAgg148 sizeOf148 rfl fs bz (HN bz ft fv)) ?_))
      refine BP (b := true) 30 rfl (Env.M4 rfl ad) (wm (BP (b := true) 30 rfl (Env.M4 rfl ad) ?_))
      refine wv (Bo rfl) (BP (b := true) 30 rfl (Env.M4 rfl ad) (wv (Av JB rfl) (BP (b := true) 30 rfl (Env.M4 rfl ad) (wv (Ao isAgg111 rfl (Has.frozen ax) rfl) ?_))))
      refine BP (b := true) 30 rfl (Env.M4 rfl ad) (wm (BP (b := true) 30 rfl (Env.M4 rfl ad) ?_))
      obtain ⟨mg, mh⟩ := AX mb
      refine wv (C7 rfl rfl mg) (BP (b := true) 30 rfl (Env.M4 rfl ad) ?_)
      obtain ⟨x3, jr, fw, mj⟩ := A7 mh
      obtain ⟨o5, o7, o8, ml, fx, fy, ca, ⟨rfl, mn⟩, g0, g8⟩ := Au.at (Bg (n := 64) (sz := 1) BU) cy ((b1, ce #[.slice Ac Ab.length Ad, .slice Aj Af.length Ai] 26) :: ((av, .map ai aj) :: (ah ++ []))) jr.1 fw
      refine wv (AF underlying111 sizeOf148 rfl fx rfl jr) (BP (b := true) 30 rfl (Env.M4 rfl ad) (wv (AE isAgg148 sizeOf148 rfl fy ca (HN ca g0 g8)) (BP (b := true) 30 rfl (Env.M4 rfl ad) (wv (Nh (OD _ _ _ _) (Pv me mn) rfl rfl) (wv (Aw (AS rfl ad) rfl) (BV ?_))))))
      obtain rfl := AH mj
      exact mi kr ⟨rfl, rfl, z7⟩
     have ga := AR jo ad
     refine AU (b' := false) 30 rfl (Env.M7 rfl ad) rfl rfl (AU (b' := false) 30 rfl (Env.M7 rfl ad) rfl rfl (AU (b' := false) 30 rfl (Env.M7 rfl ad) rfl rfl (AU (b' := false) 30 rfl (Env.M7 rfl ad) rfl rfl (AU (b' := false) 30 rfl (Env.M7 rfl ad) rfl rfl (AU (b' := false) 30 rfl (Env.M7 rfl ad) rfl rfl (AU (b' := false) 30 rfl (Env.M7 rfl ad) rfl rfl (AU (b' := false) 30 rfl (Env.M7 rfl ad) rfl rfl (AU (b' := false) 30 rfl (Env.M7 rfl ad) rfl rfl (AU (b' := false) 30 rfl (Env.M7 rfl ad) rfl rfl ?_)))))))))
     refine AU (b' := false) 30 rfl (Env.M7 rfl ad) rfl rfl (AU (b' := false) 30 rfl (Env.M7 rfl ad) rfl rfl (AU (b' := false) 30 rfl (Env.M7 rfl ad) rfl rfl (AU (b' := false) 30 rfl (Env.M7 rfl ad) rfl rfl (AU (b' := false) 30 rfl (Env.M7 rfl ad) rfl rfl (AU (b' := false) 30 rfl (Env.M7 rfl ad) rfl rfl ?_)))))
     refine wv (Ar (AM rfl ad) rfl) (BV ?_)
     obtain rfl := AH ga
     exact mi kr ⟨rfl, rfl, z7⟩
    refine AT rfl (fun cq => ?_) (fun cq => ?_)
    ·have gb := bt fo cq
     refine AI (um (um (um ?_)))
     obtain ⟨gg, gh⟩ := AX gb
     refine uv (C7 rfl rfl gg) ?_
     obtain ⟨x4, da, db, gi⟩ := A7 gh
     obtain ⟨mo, mq, mr, js, dd, de, gj, ⟨mu, mv, rfl, gk⟩, jt, df⟩ := AW.at (Ak (Ae _)) ak (L := (b1, ce #[.slice Ac Ab.length Ad, .slice Aj Af.length Ai] 26) :: ((av, .map ai aj) :: (ah ++ []))) (fC (fC fP)) da.1 db
     refine uv (AF underlying104 sizeOf107 rfl dd rfl (AW.idx ak da)) (uv (Ao isAgg107 rfl de (df 0 (by decide))) ?_)
     obtain ⟨l, gl, gm⟩ := AB gi
     refine c0 call112 (Gp gk gl) ?_; rintro _ mw _ cb dg ⟨cr, dh, ct, ju, rfl, rfl, aw⟩
     replace ak := ak.mono (Ak (Ae _)) cb
     replace aw := aw.new fun p hp => dg p (by simp [hp])
     refine AD (lp (ln rfl)) (kO (kf (fS fO) (kf (fS fO) kr)) ?_)
     refine bA (cs := #[.slice cr dh ct]) Ng [.slice cr dh ct] ?_; intro mx jv
     obtain rfl := (AW.Be aw).1
     refine Fa (Nat.le_refl _) (Ae _) (fC (fC (fC fP))) aw ?_; intro my cc gn
     replace ak := ak.mono (Ak (Ae _)) cc
     obtain ⟨gp, gq, gr, gu⟩ := E0 gm
     refine Dm (xs := bh) (ys := [l]) (zs := gp) rfl Ng rfl rfl (Nat.le_refl _) (fun _ => .c (.c (.c .h))) ak (GO.box (vss := [[.slice cr l.length ct]]) (ys := [l]) 0 rfl (Ak (Ae _)) (.cons ⟨_, _, rfl, gn⟩ .nil) rfl rfl) gq gr (by decide) ?_; intro gv gw gx di dk
     refine kO (kd kr) ?_
     refine ua (Aa (AL (Am ?_)))
     refine AA ?_
     obtain rfl := AH gu
     exact mi kr ⟨gv, gw, gx, di, (cb.trans cc), rfl, z5, dk⟩
    have gy := bf fo cq
    refine Aq (AI (um ?_))
    obtain ⟨n2, gz, ia⟩ := AB gy
    refine cV call69 (BY ax et eu gz) ?_
    obtain ⟨ib, ic⟩ := AX ia
    refine uv (C7 rfl rfl ib) ?_
    refine A1 rfl zeroValue3 ?_; intro al jw
    refine A1 rfl zeroValue3 ?_; intro ao jx
    refine A0 (i := 1) sizeOf3 rfl rfl rfl rfl (A5 rfl) (AD rfl (A0 (i := 0) sizeOf3 rfl rfl rfl rfl (A5 rfl) (AD rfl (Aa ?_))))
    obtain ⟨some_, ay, ie, dm⟩ := A9 ic
    refine jF (((ao, ce #[.int .i64 ay] 3) :: ((al, ce #[.int .i64 some_] 3) :: ((b1, ce #[.slice Ac Ab.length Ad, .slice Aj Af.length Ai] 26) :: ((av, .map ai aj) :: (ah ++ [])))))) [(1, .pointer (some ⟨b1, 0, none⟩)), (4, .pointer (some ⟨br, 0, none⟩)), (6, .slice bj bk bl), (8, .pointer (some ⟨al, 0, none⟩)), (9, .pointer (some ⟨ao, 0, none⟩)), (24, .int .i64 (Af.length : Int)), (25, .int .i64 k)] ?_ fun dp bm => ?_
    ·clear dm
     refine AI (um (um ?_))
     obtain ⟨y, ig, ij⟩ := AB ie
     refine c0 call70 (Bt ax et eu cy ig) ?_; rintro _ mz _ dq jz ⟨dr, rfl, rfl, cu⟩
     refine AD (ln rfl) (Aa (Ap ?_))
     refine Cu (encs := (fun x : Int => #[.int .i64 x])) (xs := y) rfl call115 rfl (fun _ => rfl) cu (fun pre F1 L1 => ∃ (cx : List Int) (aa : Int) (ae : Int), y = pre ++ cx ∧ EV cx aa ae = some (some_, ay) ∧ L1 = ((ao, ce #[.int .i64 ae] 3) :: ((al, ce #[.int .i64 aa] 3) :: ((b1, ce #[.slice Ac Ab.length Ad, .slice Aj Af.length Ai] 26) :: ((av, .map ai aj) :: (ah ++ [])))))) (fun _ _ _ => False) ?_ ?_ ?_ ?_ ?_ ?_
     ·rintro pre F1 F2 L1 ⟨cx, aa, ae, au, ik, rfl⟩ hx; exact ⟨cx, aa, ae, au, ik, rfl⟩
     ·intro c F1 F2 L1 h hx; exact h
     ·exact ⟨_, 0, n2 - 1, rfl, ij, rfl⟩
     ·rintro na kb kh kj kl km il ko pre x5 o9 bn nc _ kt ⟨cx, aa, ae, au, dt, rfl⟩
      obtain rfl := Dr au bn
      rw [EV] at dt
      refine Az [(1, .pointer (some ⟨b1, 0, none⟩)), (4, .pointer (some ⟨br, 0, none⟩)), (6, .slice bj bk bl), (8, .pointer (some ⟨al, 0, none⟩)), (9, .pointer (some ⟨ao, 0, none⟩)), (24, .int .i64 (Af.length : Int)), (25, .int .i64 k), (62, .func (.func 115) #[] dr), (63, .int .i64 x5)] (by exact (sc rfl z8)) ?_
      refine An (ua (Aa ?_))
      refine ⟨rfl, ?_⟩
      refine Ap (Bd [(.still, 0), (.still, 1), (.still, 2), (.still, 3), (.still, 4), (.still, 5), (.seq, 6), (.seq, 7)] (by kernel_rfl) (by kernel_rfl) (trivial) (by rfl) (by kernel_rfl) (mL [8] ([(al, ce #[.int .i64 aa] 3)]) rfl (s0 (s1 (s2 (s1 (s1 (s3 sr)))))) (fun H F' L' im iq => Ao isAgg3 rfl ((Has.own 0 rfl).ext im iq) rfl) (mS [10] rfl (Bj rfl) (mS (v := .int .i64 (O4 aa x5)) [64, 65] rfl (QC rfl rfl) (mL [9] ([(ao, ce #[.int .i64 ae] 3)]) rfl (s0 (s2 (s1 (s1 (s1 (s3 sr)))))) (fun H F' L' im iq => Ao isAgg3 rfl ((Has.own 0 rfl).ext im iq) rfl) (mS [10] rfl (Bj rfl) (mS (v := .int .i64 (Ji ae x5)) [67, 68] rfl (KA rfl rfl) ?_)))))))
      refine ⟨_, [(8, .pointer (some ⟨al, 0, none⟩)), (66, .int .i64 (O4 aa x5))], rfl, rfl, z2, by kernel_rfl, ?_⟩; intro H
      refine A0 (i := 1) sizeOf3 rfl rfl rfl rfl (A5 rfl) (AD rfl ?_)
      refine Aa ⟨undef, rfl, AN.refl _, [5, 4, 3], by kernel_rfl, .inl (.inr (fun d h => by cases h)), (fc sm (fc sm (fc (s0 (s2 (s1 (s1 (s1 (s3 sr)))))) nm))), ?_⟩
      refine ⟨_, [(9, .pointer (some ⟨ao, 0, none⟩)), (69, .int .i64 (Ji ae x5))], rfl, rfl, z2, by kernel_rfl, ?_⟩; intro H
      refine A0 (i := 0) sizeOf3 rfl rfl rfl rfl (A5 rfl) (AD rfl ?_)
      refine Aa ⟨undef, rfl, AN.refl _, [], by kernel_rfl, .inl (.inl rfl), nm, ?_⟩
      refine BC (Ax (id := 3) ?_)
      refine ⟨(ao, ce #[.int .i64 (Ji ae x5)] 3) :: ((al, ce #[.int .i64 (O4 aa x5)] 3) :: ((b1, ce #[.slice Ac Ab.length Ad, .slice Aj Af.length Ai] 26) :: ((av, .map ai aj) :: (ah ++ [])))), ⟨_, .refl _, sr⟩, ?_⟩; exact ⟨_, O4 aa x5, Ji ae x5, (by rw [bn]; simp), dt, rfl⟩
     ·rintro nf _ du ⟨cx, aa, ae, au, dv, rfl⟩
      obtain rfl := D8 au; rw [EV] at dv
      refine Ax (id := 2) ?_
      obtain ⟨rfl, rfl⟩ := BT dv
      exact mi kr ⟨(dq.trans du), rfl, z7⟩
     intro c F1 L1 hx h; exact h.elim
    replace a6 := a6.mono (Ak (Ae _)) bm
    replace ak := ak.mono (Ak (Ae _)) bm
    refine AI (ua (Aa ?_))
    obtain ⟨l2, ir, dw⟩ := AB dm
    refine AK (fun e1 F1 L1 => ∃ (az : Option Addr) (bo : Nat) (ba : Nat) (bp : LH), dp = F1 ∧ L1 = ((b1, ce #[.slice Ac Ab.length Ad, .slice Aj Af.length Ai] 26) :: ((av, .map ai aj) :: (ah ++ (bp ++ [])))) ∧ e1.sub [(1, .pointer (some ⟨b1, 0, none⟩)), (4, .pointer (some ⟨br, 0, none⟩)), (6, .slice bj bk bl), (11, .slice az bo ba), (24, .int .i64 (Af.length : Int)), (25, .int .i64 k)] ∧ AW K.w0.heap.size 108 1 (iE .i64) F1 az bo ba l2 bp) ?_ ?_
    ·clear dw
     refine AI (uv (Av Cy rfl) (uv (Ao isAgg23 rfl (Has.own 2 rfl) rfl) (uv (AJ underlying23 rfl) ?_)))
     refine um (Aa ?_)
     refine Ap ?_
     refine A2 (fun ku e1 F1 L1 => LA Ab ku fun kv k3 => ∃ (l3 : List Int) (bb : Option Addr) (bc : Nat) (bd : Nat) (aq : LH), E6 some_ ay kv k3 l3 = some l2 ∧ dp = F1 ∧ L1 = ((ao, ce #[.int .i64 ay] 3) :: ((al, ce #[.int .i64 some_] 3) :: ((b1, ce #[.slice Ac Ab.length Ad, .slice Aj Af.length Ai] 26) :: ((av, .map ai aj) :: (ah ++ (aq ++ [])))))) ∧ e1.sub [(1, .pointer (some ⟨b1, 0, none⟩)), (4, .pointer (some ⟨br, 0, none⟩)), (6, .slice bj bk bl), (8, .pointer (some ⟨al, 0, none⟩)), (9, .pointer (some ⟨ao, 0, none⟩)), (11, .slice bb bc bd), (24, .int .i64 (Af.length : Int)), (25, .int .i64 k), (72, .int .i64 (Ab.length : Int)), (73, .int .i64 k3)] ∧ AW K.w0.heap.size 108 1 (iE .i64) F1 bb bc bd l3 aq) _ (m0 (kc (kc (kc (kc (ka (ke kr)))))) ⟨_, _, rfl, A8.start _, [], none, 0, 0, [], ir, rfl, rfl, (sc rfl (sc rfl z8)), AW.nil _ _ _ _ _⟩) ?_
     rintro ku e1 _ _ ⟨kv, k3, dx, bq, l3, bb, bc, bd, aq, bw, rfl, rfl, dy, cd⟩
     refine Az _ dy (AI (uv (AV rfl rfl) ?_))
     refine Aa (At ?_)
     refine cQ (fun bx => ?_) fun bx => ?_
     ·obtain ⟨x6, oc, rfl, kz, ng, dz⟩ := A8.succ bq bx
      rw [E6] at bw
      refine Aq (At ?_)
      refine Ap ?_
      refine AI (um (ua (BI (ua (Aa ?_)))))
      obtain ⟨v, iu, eb⟩ := AB bw
      refine jE (((ao, ce #[.int .i64 ay] 3) :: ((al, ce #[.int .i64 some_] 3) :: ((b1, ce #[.slice Ac Ab.length Ad, .slice Aj Af.length Ai] 26) :: ((av, .map ai aj) :: (ah ++ (aq ++ []))))))) [(1, .pointer (some ⟨b1, 0, none⟩)), (4, .pointer (some ⟨br, 0, none⟩)), (6, .slice bj bk bl), (8, .pointer (some ⟨al, 0, none⟩)), (9, .pointer (some ⟨ao, 0, none⟩)), (11, .slice bb bc bd), (12, .int .i64 k3), (13, .int .i64 v), (24, .int .i64 (Af.length : Int)), (25, .int .i64 k), (72, .int .i64 (Ab.length : Int)), (73, .int .i64 k3)] ?_ ?_
      ·clear eb
       refine AI (uv (Ao isAgg3 rfl (Has.own 0 rfl) rfl) (um ?_))
       obtain ⟨iv, ec⟩ := AX iu
       refine uv (K0 rfl rfl iv) (uv (KA rfl rfl) (uv (Bb rfl rfl) (Aa ?_)))
       refine cQ (fun cv => ?_) fun cv => ?_
       ·have iw := AQ ec cv
        refine An (ua (Aa ?_))
        obtain rfl := AH iw
        exact mi kr ⟨rfl, rfl, (sc rfl (sc rfl (sc rfl (sc rfl z8))))⟩
       have iy := AR ec cv
       refine Aq ?_
       obtain rfl := AH iy
       exact mi kr ⟨rfl, rfl, (sc rfl (sc rfl (sc rfl (sc rfl z8))))⟩
      obtain ⟨v2, iz, ef⟩ := AB eb
      refine jE (((ao, ce #[.int .i64 ay] 3) :: ((al, ce #[.int .i64 some_] 3) :: ((b1, ce #[.slice Ac Ab.length Ad, .slice Aj Af.length Ai] 26) :: ((av, .map ai aj) :: (ah ++ (aq ++ []))))))) [(1, .pointer (some ⟨b1, 0, none⟩)), (4, .pointer (some ⟨br, 0, none⟩)), (6, .slice bj bk bl), (8, .pointer (some ⟨al, 0, none⟩)), (9, .pointer (some ⟨ao, 0, none⟩)), (11, .slice bb bc bd), (13, .int .i64 v2), (24, .int .i64 (Af.length : Int)), (25, .int .i64 k), (72, .int .i64 (Ab.length : Int)), (73, .int .i64 k3)] ?_ ?_
      ·clear ef
       refine AI (uv (Ao isAgg3 rfl (Has.own 1 rfl) rfl) (um ?_))
       obtain ⟨j0, eg⟩ := AX iz
       refine uv (K0 rfl rfl j0) (uv (KA rfl rfl) (uv (Bb rfl rfl) (Aa ?_)))
       refine cQ (fun cw => ?_) fun cw => ?_
       ·have j1 := AQ eg cw
        refine An (ua (Aa ?_))
        obtain rfl := AH j1
        exact mi kr ⟨rfl, rfl, (sc rfl (sc rfl (sc rfl z8)))⟩
       have j2 := AR eg cw
       refine Aq ?_
       obtain rfl := AH j2
       exact mi kr ⟨rfl, rfl, (sc rfl (sc rfl (sc rfl z8)))⟩
      refine An (um (um ?_))
      refine bA (cs := #[.int .i64 v2]) Mc [.int .i64 v2] ?_; intro nh la
      obtain ⟨l4, j3, j4, j5⟩ := E0 ef
      refine Dm (xs := l3) (ys := [v2]) (zs := l4) rfl Mc rfl rfl (Nat.le_refl _) (fun _ => .c (.c (.c (.c (.c (.s .h)))))) cd (GO.box (vss := [[.int .i64 v2]]) (ys := [v2]) 0 rfl (Ae _) (.cons rfl .nil) rfl rfl) j3 j4 (by decide) ?_; intro j6 j7 j8 eh ei
      refine kO (kd kr) ?_
      refine ua (Aa (Ax (id := 5) (An ?_)))
      refine uv (AY rfl rfl (A8.CC bq bx (Au.lt a6))) ?_
      refine um (Aa ?_)
      subst dx; exact le kr ⟨_, _, rfl, dz, l4, j6, j7, j8, eh, j5, rfl, rfl, (sc rfl (sc rfl z8)), ei⟩
     obtain rfl := A8.zero bq bx
     rw [E6] at bw
     refine AL (Am (Am ?_))
     refine AA ?_
     obtain rfl := AH bw
     exact mi (kd (kd kr)) ⟨bb, bc, bd, aq, rfl, rfl, z6, cd⟩
    rintro e1 _ _ ⟨az, bo, ba, bp, rfl, rfl, ej, cf⟩
    refine Az _ ej ?_
    refine An (um (um ?_))
    refine bA (cs := #[.slice az bo ba]) Ng [.slice az bo ba] ?_; intro ni ld
    obtain rfl := (AW.Be cf).1
    refine Fa (Nat.le_refl _) (Ae _) (fC (fC (fC (fS fP)))) cf ?_; intro nj cg j9
    replace ak := ak.mono (Ak (Ae _)) cg
    obtain ⟨ja, jb, jc, jd⟩ := E0 dw
    refine Dm (xs := bh) (ys := [l2]) (zs := ja) rfl Ng rfl rfl (Nat.le_refl _) (fun _ => .c (.c (.c .h))) ak (GO.box (vss := [[.slice az l2.length ba]]) (ys := [l2]) 0 rfl (Ak (Ae _)) (.cons ⟨_, _, rfl, j9⟩ .nil) rfl rfl) jb jc (by decide) ?_; intro je jf jg en eo
    refine kO (kd kr) ?_
    refine ua (Aa (Ax (id := 1) ?_))
    obtain rfl := AH jd
    exact mi kr ⟨je, jf, jg, en, (bm.trans cg), rfl, z5, eo⟩
   rintro e1 nk _ ⟨ez, fa, fb, bu, cj, rfl, ep, jh⟩
   refine Az _ ep ?_
   replace ab := ab.mono (Ak (Ae _)) cj
   refine An (uv (AY rfl rfl (A8.CC cp ey (Au.lt ab))) ?_)
   refine um (Aa ?_)
   subst fk; exact le kr ⟨_, _, rfl, fm, cz, ez, fa, fb, bu, jn, (ar.trans cj), rfl, z5, jh⟩
  obtain rfl := A8.zero cp ey
  rw [Fj] at ew
  refine AL (Am (Am ?_))
  refine AA ?_
  obtain rfl := AH ew
  exact mi (kd (kd kr)) ⟨bj, bk, bl, ah, ar, rfl, z1, ak⟩
 rintro e1 np _ ⟨ff, fg, fh, ck, lg, rfl, er, ji⟩
 refine Az _ er ?_
 refine AI (um (ua (ua (Aa (As ?_)))))
 refine Bu results65 (AP rfl) (AP rfl) (sr) ?_
 obtain ⟨rfl, rfl⟩ := BT jk
 exact ⟨_, _, _, _, rfl, rfl, ji.any⟩
set_option maxHeartbeats 1000000 in
theorem Ga {s1 s2 : List Int} (a6 : Au 1 (iE .i64) F Jk Jj s1) (aa : Au 1 (iE .i64) F Jq Js s2) {r : Bool} (hr : Cg s1 s2 = some r) :
    Ba Tryz.prog 113 #[.slice Jk s1.length Jj, .slice Jq s2.length Js] F (.bool r) := by
 refine sp func113 ntmps113 fun K _ _ => ?_
 rw [Cg] at hr
 refine AI (ua (Aa (At (AI (um ?_)))))
 refine uv (AJ underlying107 rfl) (um (uv (AJ underlying107 rfl) (uv (BH rfl rfl) (Aa ?_))))
 refine cQ (fun c1 => ?_) fun c1 => ?_
 ·have r2 := AQ hr c1
  refine AI (ua (Aa (As (Al ?_))))
  refine BD results113 ?_
  obtain rfl := AH r2
  exact rfl
 have r3 := AR hr c1
 refine Aq ?_
 refine AK (fun e1 F1 L1 => BZ = some r ∧ F = F1 ∧ L1 = [] ∧ e1.sub []) ?_ ?_
 ·refine AI (um ?_)
  refine uv (AJ underlying107 rfl) ?_
  refine um (Aa ?_)
  refine Ap ?_
  refine A2 (fun av e1 F1 L1 => LA s1 av fun tl k => Bq s2 tl k = some r ∧ F = F1 ∧ L1 = [] ∧ e1.sub [(0, .slice Jk s1.length Jj), (1, .slice Jq s2.length Js), (12, .int .i64 (s1.length : Int)), (13, .int .i64 k)]) _ (m0 kr ⟨_, _, rfl, A8.start _, r3, rfl, rfl, z4⟩) ?_
  rintro av e1 _ _ ⟨tl, k, bc, ab, r6, rfl, rfl, bd⟩
  refine Az _ bd (AI (uv (AV rfl rfl) ?_))
  refine Aa (At ?_)
  refine cQ (fun c9 => ?_) fun c9 => ?_
  ·obtain ⟨x, bn, rfl, ad, aw, ae⟩ := A8.succ ab c9
   rw [Bq] at r6
   refine Aq (At ?_)
   refine Ap ?_
   refine AI (um (ua ?_))
   refine dN ?_
   refine wm (wm ?_)
   obtain ⟨bo, bp, bq, bg, ah, ai, ax, rfl, bh, aj⟩ := Au.at (Ae _) a6 ([]) aw.1 ad
   refine wv (AF underlying107 sizeOf108 rfl ah rfl aw) (wv (Ao isAgg108 rfl ai (aj 0 (by decide))) ?_)
   refine wm (wm ?_)
   obtain ⟨x2, ay, ak, az⟩ := A7 r6
   obtain ⟨br, bu, bw, bj, al, ao, ba, rfl, bk, aq⟩ := Au.at (Ae _) aa ([]) ay.1 ak
   refine wv (AF underlying107 sizeOf108 rfl al rfl ay) (wv (Ao isAgg108 rfl ao (aq 0 (by decide))) (wv (BH rfl rfl) (BV ?_)))
   refine cQ (fun ar => ?_) fun ar => ?_
   ·have bl := AQ az ar
    refine AI (ua (Aa (As (Ay (Al (Al (Ay (Al ?_))))))))
    refine BD results113 ?_
    obtain rfl := AH bl
    exact rfl
   have bm := AR az ar
   refine Aq (Ax (id := 1) (An ?_))
   refine uv (AY rfl rfl (A8.CC ab c9 (Au.lt a6))) ?_
   refine um (Aa ?_)
   subst bc; exact le kr ⟨_, _, rfl, ae, bm, rfl, rfl, z4⟩
  obtain rfl := A8.zero ab c9
  rw [Bq] at r6
  refine AL (Am (Am ?_))
  refine AA ?_
  exact mi kr ⟨r6, rfl, rfl, (sn _)⟩
 rintro e1 _ _ ⟨bb, rfl, rfl, au⟩
 refine Az _ au ?_
 rw [BZ] at bb
 refine AI (ua (Aa (As ?_)))
 refine BD results113 ?_
 obtain rfl := AH bb
 exact rfl
theorem KS {a b : List Int} (a6 : Au 1 (iE .i64) F Pb O8 a) (aa : Au 1 (iE .i64) F O5 Pa b) {r : Bool} (hr : G5 a b = some r) :
    Ba Tryz.prog 66 #[.slice Pb a.length O8, .slice O5 b.length Pa] F (.bool r) := by
 refine sp func66 ntmps66 fun K _ _ => ?_
 rw [G5] at hr
 refine AI (ua (BI (um (um ?_))))
 obtain ⟨ok, h1, r2⟩ := AB hr
 refine cV call113 (Ga a6 aa h1) ?_
 refine ua (Aa (As ?_))
 refine BD results66 ?_
 obtain rfl := AH r2
 exact rfl
set_option maxHeartbeats 1000000 in
theorem BB {r : Bool} (hr : BF = some r) :
    Ba Tryz.prog 14 #[] F (.bool r) := by
 refine sp func14 ntmps14 fun K _ _ => ?_
 rw [BF] at hr
 refine AI (ua (BI ?_))
 obtain ⟨y, y2, h1, r2⟩ := A9 hr
 refine c0 call4 (Cd h1) ?_; rintro _ _ _ hF4 eu ⟨b7, b8, b9, PK, KZ, Nb, b13, rfl, rfl, rfl⟩
 have hb7 := eu _ (List.mem_cons_self ..)
 have hb8 := eu _ (List.mem_cons_of_mem _ (List.mem_cons_self ..))
 have hb9 := eu _ (List.mem_cons_of_mem _ (List.mem_cons_of_mem _ (List.mem_cons_self ..)))
 have p5 := eu _ (List.mem_cons_of_mem _ (List.mem_cons_of_mem _ (List.mem_cons_of_mem _ (List.mem_cons_self ..))))
 have p6 := eu _ (List.mem_cons_of_mem _ (List.mem_cons_of_mem _ (List.mem_cons_of_mem _ (List.mem_cons_of_mem _ (List.mem_cons_self ..)))))
 have p7 := eu _ (List.mem_cons_of_mem _ (List.mem_cons_of_mem _ (List.mem_cons_of_mem _ (List.mem_cons_of_mem _ (List.mem_cons_of_mem _ (List.mem_cons_self ..))))))
 have p8 := eu _ (List.mem_cons_of_mem _ (List.mem_cons_of_mem _ (List.mem_cons_of_mem _ (List.mem_cons_of_mem _ (List.mem_cons_of_mem _ (List.mem_cons_of_mem _ (List.mem_cons_self ..)))))))
 refine AD (lb (lb (lb (lb (lb (lb (lb (ln rfl)))))))) ?_
 refine AO 1 rfl hb8 ?_; intro F14 hF15 p9
 refine AD rfl ?_
 have ew : Au 1 (iE .i64) F14 (some ⟨b8, 0, none⟩) 1 [0] := Au.AG (Ae _) (vss := [[.int .i64 0]]) (xs := [0]) p9 (.cons rfl .nil) rfl (by simp [maxLen])
 refine AO 1 rfl hb9 ?_; intro F18 pa pb
 refine AD rfl ?_
 replace ew := ew.mono (Ae _) pa
 have g0 : Au 1 (iE .i64) F18 (some ⟨b9, 0, none⟩) 1 [1] := Au.AG (Ae _) (vss := [[.int .i64 1]]) (xs := [1]) pb (.cons rfl .nil) rfl (by simp [maxLen])
 refine AO 1 rfl p5 ?_; intro F22 g8 pd
 refine AD rfl ?_
 replace ew := ew.mono (Ae _) g8
 replace g0 := g0.mono (Ae _) g8
 have pe : Au 1 (iE .i64) F22 (some ⟨PK, 0, none⟩) 2 [0, 2] := Au.AG (Ae _) (vss := [[.int .i64 0], [.int .i64 2]]) (xs := [0, 2]) pd (.cons rfl (.cons rfl .nil)) rfl (by simp [maxLen])
 refine AO 0 rfl hb7 ?_; intro F26 ey pf
 refine AD rfl ?_
 replace ew := ew.mono (Ae _) ey
 replace g0 := g0.mono (Ae _) ey
 replace pe := pe.mono (Ae _) ey
 have ez : Au 1 (Bm 1 (iE .i64)) F26 (some ⟨b7, 0, none⟩) 4 [[], [0], [1], [0, 2]] := Au.AG (Ak (Ae _)) (vss := [[.slice none 0 0], [.slice (some ⟨b8, 0, none⟩) [0].length 1], [.slice (some ⟨b9, 0, none⟩) [1].length 1], [.slice (some ⟨PK, 0, none⟩) [0, 2].length 2]]) (xs := [[], [0], [1], [0, 2]]) pf (.cons ⟨_, _, rfl, Au.nil _ _ _⟩ (.cons ⟨_, _, rfl, ew⟩ (.cons ⟨_, _, rfl, g0⟩ (.cons ⟨_, _, rfl, pe⟩ .nil)))) rfl (by simp [maxLen])
 refine AO 1 rfl p7 ?_; intro F30 pg ph
 refine AD rfl ?_
 replace ez := ez.mono (Ak (Ae _)) pg
 have ga : Au 1 (iE .i64) F30 (some ⟨Nb, 0, none⟩) 4 [0, 0, 2, 1] := Au.AG (Ae _) (vss := [[.int .i64 0], [.int .i64 0], [.int .i64 2], [.int .i64 1]]) (xs := [0, 0, 2, 1]) ph (.cons rfl (.cons rfl (.cons rfl (.cons rfl .nil)))) rfl (by simp [maxLen])
 refine AO 1 rfl p8 ?_; intro F34 gb pj
 refine AD rfl ?_
 replace ez := ez.mono (Ak (Ae _)) gb
 replace ga := ga.mono (Ae _) gb
 have pk : Au 1 (iE .i64) F34 (some ⟨b13, 0, none⟩) 4 [0, 0, 2, 0] := Au.AG (Ae _) (vss := [[.int .i64 0], [.int .i64 0], [.int .i64 2], [.int .i64 0]]) (xs := [0, 0, 2, 0]) pj (.cons rfl (.cons rfl (.cons rfl (.cons rfl .nil)))) rfl (by simp [maxLen])
 refine AO 0 rfl p6 ?_; intro F38 fa pn
 refine AD rfl ?_
 replace ez := ez.mono (Ak (Ae _)) fa
 replace ga := ga.mono (Ae _) fa
 replace pk := pk.mono (Ae _) fa
 have h41 : Au 1 (Bm 1 (iE .i64)) F38 (some ⟨KZ, 0, none⟩) 2 [[0, 0, 2, 1], [0, 0, 2, 0]] := Au.AG (Ak (Ae _)) (vss := [[.slice (some ⟨Nb, 0, none⟩) [0, 0, 2, 1].length 4], [.slice (some ⟨b13, 0, none⟩) [0, 0, 2, 0].length 4]]) (xs := [[0, 0, 2, 1], [0, 0, 2, 0]]) pn (.cons ⟨_, _, rfl, ga⟩ (.cons ⟨_, _, rfl, pk⟩ .nil)) rfl (by simp [maxLen])
 obtain ⟨n, n2, h42, r43⟩ := A9 r2
 refine cV call26 (LJ ez h41 h42) ?_
 refine um (ox rfl rfl rfl (ox rfl rfl rfl (ua (ua (BI ?_)))))
 obtain ⟨y3, y4, h44, r45⟩ := A9 r43
 refine c0 call4 (Cd h44) ?_; rintro _ _ _ hF47 bo ⟨b50, b51, b52, b53, b54, b55, b56, rfl, rfl, rfl⟩
 have po := bo _ (List.mem_cons_self ..)
 have pq := bo _ (List.mem_cons_of_mem _ (List.mem_cons_self ..))
 have pr := bo _ (List.mem_cons_of_mem _ (List.mem_cons_of_mem _ (List.mem_cons_self ..)))
 have pt := bo _ (List.mem_cons_of_mem _ (List.mem_cons_of_mem _ (List.mem_cons_of_mem _ (List.mem_cons_self ..))))
 have pv := bo _ (List.mem_cons_of_mem _ (List.mem_cons_of_mem _ (List.mem_cons_of_mem _ (List.mem_cons_of_mem _ (List.mem_cons_self ..)))))
 have pw := bo _ (List.mem_cons_of_mem _ (List.mem_cons_of_mem _ (List.mem_cons_of_mem _ (List.mem_cons_of_mem _ (List.mem_cons_of_mem _ (List.mem_cons_self ..))))))
 have px := bo _ (List.mem_cons_of_mem _ (List.mem_cons_of_mem _ (List.mem_cons_of_mem _ (List.mem_cons_of_mem _ (List.mem_cons_of_mem _ (List.mem_cons_of_mem _ (List.mem_cons_self ..)))))))
 refine AD (lb (lb (lb (lb (lb (lb (lb (ln rfl)))))))) ?_
 refine AO 1 rfl pq ?_; intro F57 hF58 py
 refine AD rfl ?_
 have fb : Au 1 (iE .i64) F57 (some ⟨b51, 0, none⟩) 1 [0] := Au.AG (Ae _) (vss := [[.int .i64 0]]) (xs := [0]) py (.cons rfl .nil) rfl (by simp [maxLen])
 refine AO 1 rfl pr ?_; intro F61 pz q0
 refine AD rfl ?_
 replace fb := fb.mono (Ae _) pz
 have gg : Au 1 (iE .i64) F61 (some ⟨b52, 0, none⟩) 1 [1] := Au.AG (Ae _) (vss := [[.int .i64 1]]) (xs := [1]) q0 (.cons rfl .nil) rfl (by simp [maxLen])
 refine AO 1 rfl pt ?_; intro F65 gh qb
 refine AD rfl ?_
 replace fb := fb.mono (Ae _) gh
 replace gg := gg.mono (Ae _) gh
 have qc : Au 1 (iE .i64) F65 (some ⟨b53, 0, none⟩) 2 [0, 2] := Au.AG (Ae _) (vss := [[.int .i64 0], [.int .i64 2]]) (xs := [0, 2]) qb (.cons rfl (.cons rfl .nil)) rfl (by simp [maxLen])
 refine AO 0 rfl po ?_; intro F69 fe qd
 refine AD rfl ?_
 replace fb := fb.mono (Ae _) fe
 replace gg := gg.mono (Ae _) fe
 replace qc := qc.mono (Ae _) fe
 have ff : Au 1 (Bm 1 (iE .i64)) F69 (some ⟨b50, 0, none⟩) 4 [[], [0], [1], [0, 2]] := Au.AG (Ak (Ae _)) (vss := [[.slice none 0 0], [.slice (some ⟨b51, 0, none⟩) [0].length 1], [.slice (some ⟨b52, 0, none⟩) [1].length 1], [.slice (some ⟨b53, 0, none⟩) [0, 2].length 2]]) (xs := [[], [0], [1], [0, 2]]) qd (.cons ⟨_, _, rfl, Au.nil _ _ _⟩ (.cons ⟨_, _, rfl, fb⟩ (.cons ⟨_, _, rfl, gg⟩ (.cons ⟨_, _, rfl, qc⟩ .nil)))) rfl (by simp [maxLen])
 refine AO 1 rfl pw ?_; intro F73 qe qf
 refine AD rfl ?_
 replace ff := ff.mono (Ak (Ae _)) qe
 have gi : Au 1 (iE .i64) F73 (some ⟨b55, 0, none⟩) 4 [0, 0, 2, 1] := Au.AG (Ae _) (vss := [[.int .i64 0], [.int .i64 0], [.int .i64 2], [.int .i64 1]]) (xs := [0, 0, 2, 1]) qf (.cons rfl (.cons rfl (.cons rfl (.cons rfl .nil)))) rfl (by simp [maxLen])
 refine AO 1 rfl px ?_; intro F77 gj qg
 refine AD rfl ?_
 replace ff := ff.mono (Ak (Ae _)) gj
 replace gi := gi.mono (Ae _) gj
 have qh : Au 1 (iE .i64) F77 (some ⟨b56, 0, none⟩) 4 [0, 0, 2, 0] := Au.AG (Ae _) (vss := [[.int .i64 0], [.int .i64 0], [.int .i64 2], [.int .i64 0]]) (xs := [0, 0, 2, 0]) qg (.cons rfl (.cons rfl (.cons rfl (.cons rfl .nil)))) rfl (by simp [maxLen])
 refine AO 0 rfl pv ?_; intro F81 fg qi
 refine AD rfl ?_
 replace ff := ff.mono (Ak (Ae _)) fg
 replace gi := gi.mono (Ae _) fg
 replace qh := qh.mono (Ae _) fg
 have h84 : Au 1 (Bm 1 (iE .i64)) F81 (some ⟨b54, 0, none⟩) 2 [[0, 0, 2, 1], [0, 0, 2, 0]] := Au.AG (Ak (Ae _)) (vss := [[.slice (some ⟨b55, 0, none⟩) [0, 0, 2, 1].length 4], [.slice (some ⟨b56, 0, none⟩) [0, 0, 2, 0].length 4]]) (xs := [[0, 0, 2, 1], [0, 0, 2, 0]]) qi (.cons ⟨_, _, rfl, gi⟩ (.cons ⟨_, _, rfl, qh⟩ .nil)) rfl (by simp [maxLen])
 obtain ⟨l, n3, n4, h85, r86⟩ := I6 r45
 refine c0 call35 (JK ff h84 h85) ?_; rintro _ F87 _ hF88 qj ⟨a91, n95, c92, qk, rfl, rfl, aa⟩
 replace aa := aa.new fun p hp => qj p (by simp [hp])
 refine AD (lp (ln rfl)) ?_
 refine um (ox rfl rfl rfl (ox rfl rfl rfl (ox rfl rfl rfl (ua (ua (ua (BI ?_)))))))
 obtain ⟨y5, y6, h97, r98⟩ := A9 r86
 refine c0 call4 (Cd h97) ?_; rintro _ _ _ hF100 ah ⟨ql, gk, gl, gm, qn, gn, gp, rfl, rfl, rfl⟩
 have gq := ah _ (List.mem_cons_self ..)
 have gr := ah _ (List.mem_cons_of_mem _ (List.mem_cons_self ..))
 have gu := ah _ (List.mem_cons_of_mem _ (List.mem_cons_of_mem _ (List.mem_cons_self ..)))
 have gv := ah _ (List.mem_cons_of_mem _ (List.mem_cons_of_mem _ (List.mem_cons_of_mem _ (List.mem_cons_self ..))))
 have gw := ah _ (List.mem_cons_of_mem _ (List.mem_cons_of_mem _ (List.mem_cons_of_mem _ (List.mem_cons_of_mem _ (List.mem_cons_self ..)))))
 have gx := ah _ (List.mem_cons_of_mem _ (List.mem_cons_of_mem _ (List.mem_cons_of_mem _ (List.mem_cons_of_mem _ (List.mem_cons_of_mem _ (List.mem_cons_self ..))))))
 have gy := ah _ (List.mem_cons_of_mem _ (List.mem_cons_of_mem _ (List.mem_cons_of_mem _ (List.mem_cons_of_mem _ (List.mem_cons_of_mem _ (List.mem_cons_of_mem _ (List.mem_cons_self ..)))))))
 refine AD (lb (lb (lb (lb (lb (lb (lb (ln rfl)))))))) ?_
 refine AO 1 rfl gr ?_; intro qo gz ia
 refine AD rfl ?_
 replace aa := aa.mono (Ae _) gz
 have bp : Au 1 (iE .i64) qo (some ⟨gk, 0, none⟩) 1 [0] := Au.AG (Ae _) (vss := [[.int .i64 0]]) (xs := [0]) ia (.cons rfl .nil) rfl (by simp [maxLen])
 refine AO 1 rfl gu ?_; intro qp ec ib
 refine AD rfl ?_
 replace bp := bp.mono (Ae _) ec
 replace aa := aa.mono (Ae _) ec
 have cx : Au 1 (iE .i64) qp (some ⟨gl, 0, none⟩) 1 [1] := Au.AG (Ae _) (vss := [[.int .i64 1]]) (xs := [1]) ib (.cons rfl .nil) rfl (by simp [maxLen])
 refine AO 1 rfl gv ?_; intro qq cy ic
 refine AD rfl ?_
 replace bp := bp.mono (Ae _) cy
 replace cx := cx.mono (Ae _) cy
 replace aa := aa.mono (Ae _) cy
 have fh : Au 1 (iE .i64) qq (some ⟨gm, 0, none⟩) 2 [0, 2] := Au.AG (Ae _) (vss := [[.int .i64 0], [.int .i64 2]]) (xs := [0, 2]) ic (.cons rfl (.cons rfl .nil)) rfl (by simp [maxLen])
 refine AO 0 rfl gq ?_; intro qs cg ie
 refine AD rfl ?_
 replace bp := bp.mono (Ae _) cg
 replace cx := cx.mono (Ae _) cg
 replace fh := fh.mono (Ae _) cg
 replace aa := aa.mono (Ae _) cg
 have bq : Au 1 (Bm 1 (iE .i64)) qs (some ⟨ql, 0, none⟩) 4 [[], [0], [1], [0, 2]] := Au.AG (Ak (Ae _)) (vss := [[.slice none 0 0], [.slice (some ⟨gk, 0, none⟩) [0].length 1], [.slice (some ⟨gl, 0, none⟩) [1].length 1], [.slice (some ⟨gm, 0, none⟩) [0, 2].length 2]]) (xs := [[], [0], [1], [0, 2]]) ie (.cons ⟨_, _, rfl, Au.nil _ _ _⟩ (.cons ⟨_, _, rfl, bp⟩ (.cons ⟨_, _, rfl, cx⟩ (.cons ⟨_, _, rfl, fh⟩ .nil)))) rfl (by simp [maxLen])
 refine AO 1 rfl gx ?_; intro qt ef ig
 refine AD rfl ?_
 replace bq := bq.mono (Ak (Ae _)) ef
 replace aa := aa.mono (Ae _) ef
 have cz : Au 1 (iE .i64) qt (some ⟨gn, 0, none⟩) 4 [0, 0, 2, 1] := Au.AG (Ae _) (vss := [[.int .i64 0], [.int .i64 0], [.int .i64 2], [.int .i64 1]]) (xs := [0, 0, 2, 1]) ig (.cons rfl (.cons rfl (.cons rfl (.cons rfl .nil)))) rfl (by simp [maxLen])
 refine AO 1 rfl gy ?_; intro qu da ij
 refine AD rfl ?_
 replace bq := bq.mono (Ak (Ae _)) da
 replace cz := cz.mono (Ae _) da
 replace aa := aa.mono (Ae _) da
 have fi : Au 1 (iE .i64) qu (some ⟨gp, 0, none⟩) 4 [0, 0, 2, 0] := Au.AG (Ae _) (vss := [[.int .i64 0], [.int .i64 0], [.int .i64 2], [.int .i64 0]]) (xs := [0, 0, 2, 0]) ij (.cons rfl (.cons rfl (.cons rfl (.cons rfl .nil)))) rfl (by simp [maxLen])
 refine AO 0 rfl gw ?_; intro qw cj ik
 refine AD rfl ?_
 replace bq := bq.mono (Ak (Ae _)) cj
 replace cz := cz.mono (Ae _) cj
 replace fi := fi.mono (Ae _) cj
 replace aa := aa.mono (Ae _) cj
 have qx : Au 1 (Bm 1 (iE .i64)) qw (some ⟨qn, 0, none⟩) 2 [[0, 0, 2, 1], [0, 0, 2, 0]] := Au.AG (Ak (Ae _)) (vss := [[.slice (some ⟨gn, 0, none⟩) [0, 0, 2, 1].length 4], [.slice (some ⟨gp, 0, none⟩) [0, 0, 2, 0].length 4]]) (xs := [[0, 0, 2, 1], [0, 0, 2, 0]]) ik (.cons ⟨_, _, rfl, cz⟩ (.cons ⟨_, _, rfl, fi⟩ .nil)) rfl (by simp [maxLen])
 obtain ⟨n5, n6, qy, qz⟩ := A9 r98
 refine cV call63 (LK bq qx qy) ?_
 refine um (ox rfl rfl rfl (ox rfl rfl rfl (ua (ua (BI ?_)))))
 obtain ⟨y7, y8, rb, re⟩ := A9 qz
 refine c0 call4 (Cd rb) ?_; rintro _ _ _ hF143 ai ⟨rf, il, im, iq, rh, ir, iu, rfl, rfl, rfl⟩
 have iv := ai _ (List.mem_cons_self ..)
 have iw := ai _ (List.mem_cons_of_mem _ (List.mem_cons_self ..))
 have iy := ai _ (List.mem_cons_of_mem _ (List.mem_cons_of_mem _ (List.mem_cons_self ..)))
 have iz := ai _ (List.mem_cons_of_mem _ (List.mem_cons_of_mem _ (List.mem_cons_of_mem _ (List.mem_cons_self ..))))
 have j0 := ai _ (List.mem_cons_of_mem _ (List.mem_cons_of_mem _ (List.mem_cons_of_mem _ (List.mem_cons_of_mem _ (List.mem_cons_self ..)))))
 have j1 := ai _ (List.mem_cons_of_mem _ (List.mem_cons_of_mem _ (List.mem_cons_of_mem _ (List.mem_cons_of_mem _ (List.mem_cons_of_mem _ (List.mem_cons_self ..))))))
 have j2 := ai _ (List.mem_cons_of_mem _ (List.mem_cons_of_mem _ (List.mem_cons_of_mem _ (List.mem_cons_of_mem _ (List.mem_cons_of_mem _ (List.mem_cons_of_mem _ (List.mem_cons_self ..)))))))
 refine AD (lb (lb (lb (lb (lb (lb (lb (ln rfl)))))))) ?_
 refine AO 1 rfl iw ?_; intro ri j3 j4
 refine AD rfl ?_
 replace aa := aa.mono (Ae _) j3
 have br : Au 1 (iE .i64) ri (some ⟨il, 0, none⟩) 1 [0] := Au.AG (Ae _) (vss := [[.int .i64 0]]) (xs := [0]) j4 (.cons rfl .nil) rfl (by simp [maxLen])
 refine AO 1 rfl iy ?_; intro rj eg j5
 refine AD rfl ?_
 replace br := br.mono (Ae _) eg
 replace aa := aa.mono (Ae _) eg
 have db : Au 1 (iE .i64) rj (some ⟨im, 0, none⟩) 1 [1] := Au.AG (Ae _) (vss := [[.int .i64 1]]) (xs := [1]) j5 (.cons rfl .nil) rfl (by simp [maxLen])
 refine AO 1 rfl iz ?_; intro rk dd j6
 refine AD rfl ?_
 replace br := br.mono (Ae _) dd
 replace db := db.mono (Ae _) dd
 replace aa := aa.mono (Ae _) dd
 have fj : Au 1 (iE .i64) rk (some ⟨iq, 0, none⟩) 2 [0, 2] := Au.AG (Ae _) (vss := [[.int .i64 0], [.int .i64 2]]) (xs := [0, 2]) j6 (.cons rfl (.cons rfl .nil)) rfl (by simp [maxLen])
 refine AO 0 rfl iv ?_; intro rl ck j7
 refine AD rfl ?_
 replace br := br.mono (Ae _) ck
 replace db := db.mono (Ae _) ck
 replace fj := fj.mono (Ae _) ck
 replace aa := aa.mono (Ae _) ck
 have bu : Au 1 (Bm 1 (iE .i64)) rl (some ⟨rf, 0, none⟩) 4 [[], [0], [1], [0, 2]] := Au.AG (Ak (Ae _)) (vss := [[.slice none 0 0], [.slice (some ⟨il, 0, none⟩) [0].length 1], [.slice (some ⟨im, 0, none⟩) [1].length 1], [.slice (some ⟨iq, 0, none⟩) [0, 2].length 2]]) (xs := [[], [0], [1], [0, 2]]) j7 (.cons ⟨_, _, rfl, Au.nil _ _ _⟩ (.cons ⟨_, _, rfl, br⟩ (.cons ⟨_, _, rfl, db⟩ (.cons ⟨_, _, rfl, fj⟩ .nil)))) rfl (by simp [maxLen])
 refine AO 1 rfl j1 ?_; intro rm eh j8
 refine AD rfl ?_
 replace bu := bu.mono (Ak (Ae _)) eh
 replace aa := aa.mono (Ae _) eh
 have de : Au 1 (iE .i64) rm (some ⟨ir, 0, none⟩) 4 [0, 0, 2, 1] := Au.AG (Ae _) (vss := [[.int .i64 0], [.int .i64 0], [.int .i64 2], [.int .i64 1]]) (xs := [0, 0, 2, 1]) j8 (.cons rfl (.cons rfl (.cons rfl (.cons rfl .nil)))) rfl (by simp [maxLen])
 refine AO 1 rfl j2 ?_; intro rp df j9
 refine AD rfl ?_
 replace bu := bu.mono (Ak (Ae _)) df
 replace de := de.mono (Ae _) df
 replace aa := aa.mono (Ae _) df
 have fk : Au 1 (iE .i64) rp (some ⟨iu, 0, none⟩) 4 [0, 0, 2, 0] := Au.AG (Ae _) (vss := [[.int .i64 0], [.int .i64 0], [.int .i64 2], [.int .i64 0]]) (xs := [0, 0, 2, 0]) j9 (.cons rfl (.cons rfl (.cons rfl (.cons rfl .nil)))) rfl (by simp [maxLen])
 refine AO 0 rfl j0 ?_; intro rq cn ja
 refine AD rfl ?_
 replace bu := bu.mono (Ak (Ae _)) cn
 replace de := de.mono (Ae _) cn
 replace fk := fk.mono (Ae _) cn
 replace aa := aa.mono (Ae _) cn
 have rr : Au 1 (Bm 1 (iE .i64)) rq (some ⟨rh, 0, none⟩) 2 [[0, 0, 2, 1], [0, 0, 2, 0]] := Au.AG (Ak (Ae _)) (vss := [[.slice (some ⟨ir, 0, none⟩) [0, 0, 2, 1].length 4], [.slice (some ⟨iu, 0, none⟩) [0, 0, 2, 0].length 4]]) (xs := [[0, 0, 2, 1], [0, 0, 2, 0]]) ja (.cons ⟨_, _, rfl, de⟩ (.cons ⟨_, _, rfl, fk⟩ .nil)) rfl (by simp [maxLen])
 obtain ⟨n7, n8, ru, ry⟩ := A9 re
 refine cV call64 (Ml bu rr ru) ?_
 refine um (ox rfl rfl rfl (ox rfl rfl rfl (ua (ua (Aa (At ?_))))))
 obtain ⟨k, jb, fl⟩ := AB ry
 refine jF ([]) [(71, .bool k)] ?_ fun F217 hF218 => ?_
 ·clear fl
  refine An (um ?_)
  refine uv (BH rfl rfl) (um ?_)
  by_cases ax : n2 ≠ 0
  ·have rz := AQ jb ax
   refine fT ax (fT ax ?_)
   refine uv (Aw (AS rfl ax) rfl) ?_
   refine um (Ah (b' := true) 42 rfl rfl rfl rfl (Ah (b' := true) 42 rfl rfl rfl rfl ?_))
   refine uv (Aw rfl rfl) ?_
   refine um (Ah (b' := true) 46 rfl rfl rfl rfl (Ah (b' := true) 46 rfl rfl rfl rfl ?_))
   refine uv (Aw rfl rfl) ?_
   refine um (Ah (b' := true) 50 rfl rfl rfl rfl (Ah (b' := true) 50 rfl rfl rfl rfl ?_))
   refine uv (Aw rfl rfl) ?_
   refine um (Ah (b' := true) 54 rfl rfl rfl rfl (Ah (b' := true) 54 rfl rfl rfl rfl ?_))
   refine uv (Aw rfl rfl) ?_
   refine um (Ah (b' := true) 58 rfl rfl rfl rfl (Ah (b' := true) 58 rfl rfl rfl rfl (Ah (b' := true) 58 rfl rfl rfl rfl (Ah (b' := true) 58 rfl rfl rfl rfl ?_))))
   refine uv (Aw rfl rfl) ?_
   refine um (Ah (b' := true) 64 rfl rfl rfl rfl (Ah (b' := true) 64 rfl rfl rfl rfl ?_))
   refine uv (Aw rfl rfl) ?_
   refine um (Ah (b' := true) 68 rfl rfl rfl rfl (Ah (b' := true) 68 rfl rfl rfl rfl ?_))
   refine uv (Aw rfl rfl) (Aa ?_)
   obtain rfl := AH rz
   exact mi kn ⟨AN.refl _, rfl, z1⟩
  have jc := AR jb ax
  refine nF ax (um (nF ax ?_))
  refine uv (BH rfl rfl) (uv (Ar (AM rfl ax) rfl) (um ?_))
  by_cases ay : n4 ≠ 0
  ·have s5 := AQ jc ay
   refine fT ay (fT ay ?_)
   refine uv (Aw (AS rfl ay) rfl) ?_
   refine um (Ah (b' := true) 46 rfl rfl rfl rfl (Ah (b' := true) 46 rfl rfl rfl rfl ?_))
   refine uv (Aw rfl rfl) ?_
   refine um (Ah (b' := true) 50 rfl rfl rfl rfl (Ah (b' := true) 50 rfl rfl rfl rfl ?_))
   refine uv (Aw rfl rfl) ?_
   refine um (Ah (b' := true) 54 rfl rfl rfl rfl (Ah (b' := true) 54 rfl rfl rfl rfl ?_))
   refine uv (Aw rfl rfl) ?_
   refine um (Ah (b' := true) 58 rfl rfl rfl rfl (Ah (b' := true) 58 rfl rfl rfl rfl (Ah (b' := true) 58 rfl rfl rfl rfl (Ah (b' := true) 58 rfl rfl rfl rfl ?_))))
   refine uv (Aw rfl rfl) ?_
   refine um (Ah (b' := true) 64 rfl rfl rfl rfl (Ah (b' := true) 64 rfl rfl rfl rfl ?_))
   refine uv (Aw rfl rfl) ?_
   refine um (Ah (b' := true) 68 rfl rfl rfl rfl (Ah (b' := true) 68 rfl rfl rfl rfl ?_))
   refine uv (Aw rfl rfl) (Aa ?_)
   obtain rfl := AH s5
   exact mi kn ⟨AN.refl _, rfl, z1⟩
  have jd := AR jc ay
  refine nF ay (um (nF ay ?_))
  refine uv (BH rfl rfl) (uv (Ar (AM rfl ay) rfl) (um ?_))
  by_cases az : n6 ≠ 0
  ·have s6 := AQ jd az
   refine fT az (fT az ?_)
   refine uv (Aw (AS rfl az) rfl) ?_
   refine um (Ah (b' := true) 50 rfl rfl rfl rfl (Ah (b' := true) 50 rfl rfl rfl rfl ?_))
   refine uv (Aw rfl rfl) ?_
   refine um (Ah (b' := true) 54 rfl rfl rfl rfl (Ah (b' := true) 54 rfl rfl rfl rfl ?_))
   refine uv (Aw rfl rfl) ?_
   refine um (Ah (b' := true) 58 rfl rfl rfl rfl (Ah (b' := true) 58 rfl rfl rfl rfl (Ah (b' := true) 58 rfl rfl rfl rfl (Ah (b' := true) 58 rfl rfl rfl rfl ?_))))
   refine uv (Aw rfl rfl) ?_
   refine um (Ah (b' := true) 64 rfl rfl rfl rfl (Ah (b' := true) 64 rfl rfl rfl rfl ?_))
   refine uv (Aw rfl rfl) ?_
   refine um (Ah (b' := true) 68 rfl rfl rfl rfl (Ah (b' := true) 68 rfl rfl rfl rfl ?_))
   refine uv (Aw rfl rfl) (Aa ?_)
   obtain rfl := AH s6
   exact mi kn ⟨AN.refl _, rfl, z1⟩
  have je := AR jd az
  refine nF az (um (nF az ?_))
  refine uv (BH rfl rfl) (uv (Ar (AM rfl az) rfl) (um ?_))
  by_cases ba : n8 ≠ 0
  ·have s7 := AQ je ba
   refine fT ba (fT ba ?_)
   refine uv (Aw (AS rfl ba) rfl) ?_
   refine um (Ah (b' := true) 54 rfl rfl rfl rfl (Ah (b' := true) 54 rfl rfl rfl rfl ?_))
   refine uv (Aw rfl rfl) ?_
   refine um (Ah (b' := true) 58 rfl rfl rfl rfl (Ah (b' := true) 58 rfl rfl rfl rfl (Ah (b' := true) 58 rfl rfl rfl rfl (Ah (b' := true) 58 rfl rfl rfl rfl ?_))))
   refine uv (Aw rfl rfl) ?_
   refine um (Ah (b' := true) 64 rfl rfl rfl rfl (Ah (b' := true) 64 rfl rfl rfl rfl ?_))
   refine uv (Aw rfl rfl) ?_
   refine um (Ah (b' := true) 68 rfl rfl rfl rfl (Ah (b' := true) 68 rfl rfl rfl rfl ?_))
   refine uv (Aw rfl rfl) (Aa ?_)
   obtain rfl := AH s7
   exact mi kn ⟨AN.refl _, rfl, z1⟩
  have jf := AR je ba
  refine nF ba (um (nF ba ?_))
  refine uv (BH rfl rfl) (uv (Ar (AM rfl ba) rfl) (um ?_))
  by_cases bb : n ≠ 9
  ·have s8 := AQ jf bb
   refine fT bb (fT bb ?_)
   refine uv (Aw (AS rfl bb) rfl) ?_
   refine um (Ah (b' := true) 58 rfl rfl rfl rfl (Ah (b' := true) 58 rfl rfl rfl rfl (Ah (b' := true) 58 rfl rfl rfl rfl (Ah (b' := true) 58 rfl rfl rfl rfl ?_))))
   refine uv (Aw rfl rfl) ?_
   refine um (Ah (b' := true) 64 rfl rfl rfl rfl (Ah (b' := true) 64 rfl rfl rfl rfl ?_))
   refine uv (Aw rfl rfl) ?_
   refine um (Ah (b' := true) 68 rfl rfl rfl rfl (Ah (b' := true) 68 rfl rfl rfl rfl ?_))
   refine uv (Aw rfl rfl) (Aa ?_)
   obtain rfl := AH s8
   exact mi kn ⟨AN.refl _, rfl, z1⟩
  have jg := AR jf bb
  refine nF bb (um (nF bb ?_))
  refine uv (BH rfl rfl) (uv (Ar (AM rfl bb) rfl) (um ?_))
  by_cases ae : n3 ≠ 1
  ·have s9 := AQ jg ae
   refine fT ae (fT ae (fT ae (fT ae ?_)))
   refine uv (Aw (AS rfl ae) rfl) ?_
   refine um (Ah (b' := true) 64 rfl rfl rfl rfl (Ah (b' := true) 64 rfl rfl rfl rfl ?_))
   refine uv (Aw rfl rfl) ?_
   refine um (Ah (b' := true) 68 rfl rfl rfl rfl (Ah (b' := true) 68 rfl rfl rfl rfl ?_))
   refine uv (Aw rfl rfl) (Aa ?_)
   obtain rfl := AH s9
   exact mi kn ⟨AN.refl _, rfl, z1⟩
  have sa := AR jg ae
  refine nF ae (um (nF ae ?_))
  refine bA (cs := #[.int .i64 2, .int .i64 2]) BN [.int .i64 2, .int .i64 2] ?_; intro sb jh
  refine nF ae ?_
  refine AO 0 rfl jh ?_; intro sd cp ji
  refine AD rfl ?_
  replace aa := aa.mono (Ae _) cp
  have se : Au 1 (iE .i64) sd (some ⟨sb, 0, none⟩) 2 [2, 2] := Au.AG (Ae _) (vss := [[.int .i64 2], [.int .i64 2]]) (xs := [2, 2]) ji (.cons rfl (.cons rfl .nil)) rfl (by simp [maxLen])
  obtain ⟨ok, sf, jj⟩ := AB sa
  refine Bi (Lt := qk ++ []) (Lr := []) rfl call37 rfl rfl rfl (pT pR (lp (ln rfl))) (fun F2 h2 h3 => by rw [(AW.Be aa).1]; exact DI (aa.row (Ae _) h2 (fun p hp => h3 p (List.mem_append_left _ hp))) (se.mono (Ae _) h2) sf) ?_
  refine nF ae (uv (BM rfl) (uv (Ar (AM rfl ae) rfl) (um ?_)))
  rcases Bf (!ok) with av | av
  ·have sg := bt jj av
   refine fB av (fB av ?_)
   refine uv (Aw (En rfl av) rfl) ?_
   refine um (Ah (b' := true) 68 rfl rfl rfl rfl (Ah (b' := true) 68 rfl rfl rfl rfl ?_))
   refine uv (Aw rfl rfl) (Aa ?_)
   obtain rfl := AH sg
   exact mi kn ⟨cp, rfl, z1⟩
  have jk := bf jj av
  refine nB av (um (nB av ?_))
  refine uv (BH rfl rfl) (uv (Ar (En rfl av) rfl) (um ?_))
  by_cases bc : n5 ≠ 42
  ·have sh := AQ jk bc
   refine fT bc (fT bc ?_)
   refine uv (Aw (AS rfl bc) rfl) (Aa ?_)
   obtain rfl := AH sh
   exact mi kn ⟨cp, rfl, z1⟩
  have si := AR jk bc
  refine nF bc (um (nF bc ?_))
  refine uv (BH rfl rfl) (uv (Ar (AM rfl bc) rfl) (Aa ?_))
  obtain rfl := AH si
  exact mi kn ⟨cp, rfl, z1⟩
 refine AT rfl (fun fm => ?_) (fun fm => ?_)
 ·have sj := bt fl fm
  refine AI (ua (Aa (As (Al ?_))))
  refine BD results14 ?_
  obtain rfl := AH sj
  exact rfl
 have sk := bf fl fm
 refine Aq (AI ?_)
 obtain ⟨y9, y10, sq, ss⟩ := A9 sk
 refine c0 call4 (Cd sq) ?_; rintro _ _ _ hF225 aj ⟨su, jl, jm, jn, sv, jo, jq, rfl, rfl, rfl⟩
 have jr := aj _ (List.mem_cons_self ..)
 have js := aj _ (List.mem_cons_of_mem _ (List.mem_cons_self ..))
 have jt := aj _ (List.mem_cons_of_mem _ (List.mem_cons_of_mem _ (List.mem_cons_self ..)))
 have ju := aj _ (List.mem_cons_of_mem _ (List.mem_cons_of_mem _ (List.mem_cons_of_mem _ (List.mem_cons_self ..))))
 have jv := aj _ (List.mem_cons_of_mem _ (List.mem_cons_of_mem _ (List.mem_cons_of_mem _ (List.mem_cons_of_mem _ (List.mem_cons_self ..)))))
 have jw := aj _ (List.mem_cons_of_mem _ (List.mem_cons_of_mem _ (List.mem_cons_of_mem _ (List.mem_cons_of_mem _ (List.mem_cons_of_mem _ (List.mem_cons_self ..))))))
 have jx := aj _ (List.mem_cons_of_mem _ (List.mem_cons_of_mem _ (List.mem_cons_of_mem _ (List.mem_cons_of_mem _ (List.mem_cons_of_mem _ (List.mem_cons_of_mem _ (List.mem_cons_self ..)))))))
 refine AD (lb (lb (lb (lb (lb (lb (lb (ln rfl)))))))) ?_
 refine AO 1 rfl js ?_; intro sw hF236 jz
 refine AD rfl ?_
 have bw : Au 1 (iE .i64) sw (some ⟨jl, 0, none⟩) 1 [0] := Au.AG (Ae _) (vss := [[.int .i64 0]]) (xs := [0]) jz (.cons rfl .nil) rfl (by simp [maxLen])
 refine AO 1 rfl jt ?_; intro sx kb kh
 refine AD rfl ?_
 replace bw := bw.mono (Ae _) kb
 have dg : Au 1 (iE .i64) sx (some ⟨jm, 0, none⟩) 1 [1] := Au.AG (Ae _) (vss := [[.int .i64 1]]) (xs := [1]) kh (.cons rfl .nil) rfl (by simp [maxLen])
 refine AO 1 rfl ju ?_; intro sy ei kj
 refine AD rfl ?_
 replace bw := bw.mono (Ae _) ei
 replace dg := dg.mono (Ae _) ei
 have fo : Au 1 (iE .i64) sy (some ⟨jn, 0, none⟩) 2 [0, 2] := Au.AG (Ae _) (vss := [[.int .i64 0], [.int .i64 2]]) (xs := [0, 2]) kj (.cons rfl (.cons rfl .nil)) rfl (by simp [maxLen])
 refine AO 0 rfl jr ?_; intro ta dh kl
 refine AD rfl ?_
 replace bw := bw.mono (Ae _) dh
 replace dg := dg.mono (Ae _) dh
 replace fo := fo.mono (Ae _) dh
 have bx : Au 1 (Bm 1 (iE .i64)) ta (some ⟨su, 0, none⟩) 4 [[], [0], [1], [0, 2]] := Au.AG (Ak (Ae _)) (vss := [[.slice none 0 0], [.slice (some ⟨jl, 0, none⟩) [0].length 1], [.slice (some ⟨jm, 0, none⟩) [1].length 1], [.slice (some ⟨jn, 0, none⟩) [0, 2].length 2]]) (xs := [[], [0], [1], [0, 2]]) kl (.cons ⟨_, _, rfl, Au.nil _ _ _⟩ (.cons ⟨_, _, rfl, bw⟩ (.cons ⟨_, _, rfl, dg⟩ (.cons ⟨_, _, rfl, fo⟩ .nil)))) rfl (by simp [maxLen])
 refine AO 1 rfl jw ?_; intro tc km ko
 refine AD rfl ?_
 replace bx := bx.mono (Ak (Ae _)) km
 have di : Au 1 (iE .i64) tc (some ⟨jo, 0, none⟩) 4 [0, 0, 2, 1] := Au.AG (Ae _) (vss := [[.int .i64 0], [.int .i64 0], [.int .i64 2], [.int .i64 1]]) (xs := [0, 0, 2, 1]) ko (.cons rfl (.cons rfl (.cons rfl (.cons rfl .nil)))) rfl (by simp [maxLen])
 refine AO 1 rfl jx ?_; intro td ej kt
 refine AD rfl ?_
 replace bx := bx.mono (Ak (Ae _)) ej
 replace di := di.mono (Ae _) ej
 have fp : Au 1 (iE .i64) td (some ⟨jq, 0, none⟩) 4 [0, 0, 2, 0] := Au.AG (Ae _) (vss := [[.int .i64 0], [.int .i64 0], [.int .i64 2], [.int .i64 0]]) (xs := [0, 0, 2, 0]) kt (.cons rfl (.cons rfl (.cons rfl (.cons rfl .nil)))) rfl (by simp [maxLen])
 refine AO 0 rfl jv ?_; intro te dk ku
 refine AD rfl ?_
 replace bx := bx.mono (Ak (Ae _)) dk
 replace di := di.mono (Ae _) dk
 replace fp := fp.mono (Ae _) dk
 have tf : Au 1 (Bm 1 (iE .i64)) te (some ⟨sv, 0, none⟩) 2 [[0, 0, 2, 1], [0, 0, 2, 0]] := Au.AG (Ak (Ae _)) (vss := [[.slice (some ⟨jo, 0, none⟩) [0, 0, 2, 1].length 4], [.slice (some ⟨jq, 0, none⟩) [0, 0, 2, 0].length 4]]) (xs := [[0, 0, 2, 1], [0, 0, 2, 0]]) ku (.cons ⟨_, _, rfl, di⟩ (.cons ⟨_, _, rfl, fp⟩ .nil)) rfl (by simp [maxLen])
 obtain ⟨l2, n9, tg, th⟩ := A9 ss
 refine c0 call65 (Kz bx tf tg) ?_; rintro _ F265 _ hF266 kv ⟨a269, n273, c270, kz, rfl, rfl, a6⟩
 replace a6 := a6.new fun p hp => kv p (by simp [hp])
 refine AD (lp (ln rfl)) ?_
 refine um (ox rfl rfl rfl (ox rfl rfl rfl (ua (ua (BI ?_)))))
 obtain ⟨y11, y12, ti, tj⟩ := A9 th
 refine c0 call4 (Cd ti) ?_; rintro _ _ _ hF278 ak ⟨tk, la, ld, lg, tm, lh, lj, rfl, rfl, rfl⟩
 have lk := ak _ (List.mem_cons_self ..)
 have ll := ak _ (List.mem_cons_of_mem _ (List.mem_cons_self ..))
 have lq := ak _ (List.mem_cons_of_mem _ (List.mem_cons_of_mem _ (List.mem_cons_self ..)))
 have lr := ak _ (List.mem_cons_of_mem _ (List.mem_cons_of_mem _ (List.mem_cons_of_mem _ (List.mem_cons_self ..))))
 have lu := ak _ (List.mem_cons_of_mem _ (List.mem_cons_of_mem _ (List.mem_cons_of_mem _ (List.mem_cons_of_mem _ (List.mem_cons_self ..)))))
 have lv := ak _ (List.mem_cons_of_mem _ (List.mem_cons_of_mem _ (List.mem_cons_of_mem _ (List.mem_cons_of_mem _ (List.mem_cons_of_mem _ (List.mem_cons_self ..))))))
 have lx := ak _ (List.mem_cons_of_mem _ (List.mem_cons_of_mem _ (List.mem_cons_of_mem _ (List.mem_cons_of_mem _ (List.mem_cons_of_mem _ (List.mem_cons_of_mem _ (List.mem_cons_self ..)))))))
 refine AD (lb (lb (lb (lb (lb (lb (lb (ln rfl)))))))) ?_
 refine AO 1 rfl ll ?_; intro tn ly lz
 refine AD rfl ?_
 replace a6 := a6.mono (Ak (Ae _)) ly
 have bz : Au 1 (iE .i64) tn (some ⟨la, 0, none⟩) 1 [0] := Au.AG (Ae _) (vss := [[.int .i64 0]]) (xs := [0]) lz (.cons rfl .nil) rfl (by simp [maxLen])
 refine AO 1 rfl lq ?_; intro tp en ma
 refine AD rfl ?_
 replace bz := bz.mono (Ae _) en
 replace a6 := a6.mono (Ak (Ae _)) en
 have dm : Au 1 (iE .i64) tp (some ⟨ld, 0, none⟩) 1 [1] := Au.AG (Ae _) (vss := [[.int .i64 1]]) (xs := [1]) ma (.cons rfl .nil) rfl (by simp [maxLen])
 refine AO 1 rfl lr ?_; intro tq dp mb
 refine AD rfl ?_
 replace bz := bz.mono (Ae _) dp
 replace dm := dm.mono (Ae _) dp
 replace a6 := a6.mono (Ak (Ae _)) dp
 have fq : Au 1 (iE .i64) tq (some ⟨lg, 0, none⟩) 2 [0, 2] := Au.AG (Ae _) (vss := [[.int .i64 0], [.int .i64 2]]) (xs := [0, 2]) mb (.cons rfl (.cons rfl .nil)) rfl (by simp [maxLen])
 refine AO 0 rfl lk ?_; intro tr cq mc
 refine AD rfl ?_
 replace bz := bz.mono (Ae _) cq
 replace dm := dm.mono (Ae _) cq
 replace fq := fq.mono (Ae _) cq
 replace a6 := a6.mono (Ak (Ae _)) cq
 have ca : Au 1 (Bm 1 (iE .i64)) tr (some ⟨tk, 0, none⟩) 4 [[], [0], [1], [0, 2]] := Au.AG (Ak (Ae _)) (vss := [[.slice none 0 0], [.slice (some ⟨la, 0, none⟩) [0].length 1], [.slice (some ⟨ld, 0, none⟩) [1].length 1], [.slice (some ⟨lg, 0, none⟩) [0, 2].length 2]]) (xs := [[], [0], [1], [0, 2]]) mc (.cons ⟨_, _, rfl, Au.nil _ _ _⟩ (.cons ⟨_, _, rfl, bz⟩ (.cons ⟨_, _, rfl, dm⟩ (.cons ⟨_, _, rfl, fq⟩ .nil)))) rfl (by simp [maxLen])
 refine AO 1 rfl lv ?_; intro tt eo me
 refine AD rfl ?_
 replace ca := ca.mono (Ak (Ae _)) eo
 replace a6 := a6.mono (Ak (Ae _)) eo
 have dq : Au 1 (iE .i64) tt (some ⟨lh, 0, none⟩) 4 [0, 0, 2, 1] := Au.AG (Ae _) (vss := [[.int .i64 0], [.int .i64 0], [.int .i64 2], [.int .i64 1]]) (xs := [0, 0, 2, 1]) me (.cons rfl (.cons rfl (.cons rfl (.cons rfl .nil)))) rfl (by simp [maxLen])
 refine AO 1 rfl lx ?_; intro tu dr mg
 refine AD rfl ?_
 replace ca := ca.mono (Ak (Ae _)) dr
 replace dq := dq.mono (Ae _) dr
 replace a6 := a6.mono (Ak (Ae _)) dr
 have fs : Au 1 (iE .i64) tu (some ⟨lj, 0, none⟩) 4 [0, 0, 2, 0] := Au.AG (Ae _) (vss := [[.int .i64 0], [.int .i64 0], [.int .i64 2], [.int .i64 0]]) (xs := [0, 0, 2, 0]) mg (.cons rfl (.cons rfl (.cons rfl (.cons rfl .nil)))) rfl (by simp [maxLen])
 refine AO 0 rfl lu ?_; intro tv cr mh
 refine AD rfl ?_
 replace ca := ca.mono (Ak (Ae _)) cr
 replace dq := dq.mono (Ae _) cr
 replace fs := fs.mono (Ae _) cr
 replace a6 := a6.mono (Ak (Ae _)) cr
 have tw : Au 1 (Bm 1 (iE .i64)) tv (some ⟨tm, 0, none⟩) 2 [[0, 0, 2, 1], [0, 0, 2, 0]] := Au.AG (Ak (Ae _)) (vss := [[.slice (some ⟨lh, 0, none⟩) [0, 0, 2, 1].length 4], [.slice (some ⟨lj, 0, none⟩) [0, 0, 2, 0].length 4]]) (xs := [[0, 0, 2, 1], [0, 0, 2, 0]]) mh (.cons ⟨_, _, rfl, dq⟩ (.cons ⟨_, _, rfl, fs⟩ .nil)) rfl (by simp [maxLen])
 obtain ⟨l3, n10, tx, tz⟩ := A9 tj
 refine c0 call46 (MQ ca tw tx) ?_; rintro _ F318 _ mj hn320 ⟨a322, c323, rfl, rfl, ab⟩
 replace a6 := a6.mono (Ak (Ae _)) mj
 refine AD (ln rfl) ?_
 refine um (ox rfl rfl rfl (ox rfl rfl rfl (ua (ua (BI ?_)))))
 obtain ⟨y13, y14, u0, u1⟩ := A9 tz
 refine c0 call4 (Cd u0) ?_; rintro _ _ _ hF328 al ⟨u4, ml, mn, mo, u5, mq, mr, rfl, rfl, rfl⟩
 have mu := al _ (List.mem_cons_self ..)
 have mv := al _ (List.mem_cons_of_mem _ (List.mem_cons_self ..))
 have mw := al _ (List.mem_cons_of_mem _ (List.mem_cons_of_mem _ (List.mem_cons_self ..)))
 have mx := al _ (List.mem_cons_of_mem _ (List.mem_cons_of_mem _ (List.mem_cons_of_mem _ (List.mem_cons_self ..))))
 have my := al _ (List.mem_cons_of_mem _ (List.mem_cons_of_mem _ (List.mem_cons_of_mem _ (List.mem_cons_of_mem _ (List.mem_cons_self ..)))))
 have mz := al _ (List.mem_cons_of_mem _ (List.mem_cons_of_mem _ (List.mem_cons_of_mem _ (List.mem_cons_of_mem _ (List.mem_cons_of_mem _ (List.mem_cons_self ..))))))
 have na := al _ (List.mem_cons_of_mem _ (List.mem_cons_of_mem _ (List.mem_cons_of_mem _ (List.mem_cons_of_mem _ (List.mem_cons_of_mem _ (List.mem_cons_of_mem _ (List.mem_cons_self ..)))))))
 refine AD (lb (lb (lb (lb (lb (lb (lb (ln rfl)))))))) ?_
 refine uv (BL (v := .agg #[.int .i64 0, .int .i64 1]) rfl (by intro w; kernel_rfl)) ?_
 refine AO 1 rfl mv ?_; intro u6 ep nc
 refine AD rfl ?_
 replace ab := ab.mono (Ae _) ep
 replace a6 := a6.mono (Ak (Ae _)) ep
 have cb : Au 1 (iE .i64) u6 (some ⟨ml, 0, none⟩) 1 [0] := Au.AG (Ae _) (vss := [[.int .i64 0]]) (xs := [0]) nc (.cons rfl .nil) rfl (by simp [maxLen])
 refine AO 1 rfl mw ?_; intro u7 dt nf
 refine AD rfl ?_
 replace ab := ab.mono (Ae _) dt
 replace cb := cb.mono (Ae _) dt
 replace a6 := a6.mono (Ak (Ae _)) dt
 have du : Au 1 (iE .i64) u7 (some ⟨mn, 0, none⟩) 1 [1] := Au.AG (Ae _) (vss := [[.int .i64 1]]) (xs := [1]) nf (.cons rfl .nil) rfl (by simp [maxLen])
 refine AO 1 rfl mx ?_; intro u9 ct ng
 refine AD rfl ?_
 replace ab := ab.mono (Ae _) ct
 replace cb := cb.mono (Ae _) ct
 replace du := du.mono (Ae _) ct
 replace a6 := a6.mono (Ak (Ae _)) ct
 have ft : Au 1 (iE .i64) u9 (some ⟨mo, 0, none⟩) 2 [0, 2] := Au.AG (Ae _) (vss := [[.int .i64 0], [.int .i64 2]]) (xs := [0, 2]) ng (.cons rfl (.cons rfl .nil)) rfl (by simp [maxLen])
 refine AO 0 rfl mu ?_; intro ub bd nh
 refine AD rfl ?_
 replace ab := ab.mono (Ae _) bd
 replace cb := cb.mono (Ae _) bd
 replace du := du.mono (Ae _) bd
 replace ft := ft.mono (Ae _) bd
 replace a6 := a6.mono (Ak (Ae _)) bd
 have cc : Au 1 (Bm 1 (iE .i64)) ub (some ⟨u4, 0, none⟩) 4 [[], [0], [1], [0, 2]] := Au.AG (Ak (Ae _)) (vss := [[.slice none 0 0], [.slice (some ⟨ml, 0, none⟩) [0].length 1], [.slice (some ⟨mn, 0, none⟩) [1].length 1], [.slice (some ⟨mo, 0, none⟩) [0, 2].length 2]]) (xs := [[], [0], [1], [0, 2]]) nh (.cons ⟨_, _, rfl, Au.nil _ _ _⟩ (.cons ⟨_, _, rfl, cb⟩ (.cons ⟨_, _, rfl, du⟩ (.cons ⟨_, _, rfl, ft⟩ .nil)))) rfl (by simp [maxLen])
 refine AO 1 rfl mz ?_; intro uc dv ni
 refine AD rfl ?_
 replace ab := ab.mono (Ae _) dv
 replace cc := cc.mono (Ak (Ae _)) dv
 replace a6 := a6.mono (Ak (Ae _)) dv
 have dw : Au 1 (iE .i64) uc (some ⟨mq, 0, none⟩) 4 [0, 0, 2, 1] := Au.AG (Ae _) (vss := [[.int .i64 0], [.int .i64 0], [.int .i64 2], [.int .i64 1]]) (xs := [0, 0, 2, 1]) ni (.cons rfl (.cons rfl (.cons rfl (.cons rfl .nil)))) rfl (by simp [maxLen])
 refine AO 1 rfl na ?_; intro ud cu nj
 refine AD rfl ?_
 replace ab := ab.mono (Ae _) cu
 replace cc := cc.mono (Ak (Ae _)) cu
 replace dw := dw.mono (Ae _) cu
 replace a6 := a6.mono (Ak (Ae _)) cu
 have fv : Au 1 (iE .i64) ud (some ⟨mr, 0, none⟩) 4 [0, 0, 2, 0] := Au.AG (Ae _) (vss := [[.int .i64 0], [.int .i64 0], [.int .i64 2], [.int .i64 0]]) (xs := [0, 0, 2, 0]) nj (.cons rfl (.cons rfl (.cons rfl (.cons rfl .nil)))) rfl (by simp [maxLen])
 refine AO 0 rfl my ?_; intro ue bg nk
 refine AD rfl ?_
 replace ab := ab.mono (Ae _) bg
 replace cc := cc.mono (Ak (Ae _)) bg
 replace dw := dw.mono (Ae _) bg
 replace fv := fv.mono (Ae _) bg
 replace a6 := a6.mono (Ak (Ae _)) bg
 have uf : Au 1 (Bm 1 (iE .i64)) ue (some ⟨u5, 0, none⟩) 2 [[0, 0, 2, 1], [0, 0, 2, 0]] := Au.AG (Ak (Ae _)) (vss := [[.slice (some ⟨mq, 0, none⟩) [0, 0, 2, 1].length 4], [.slice (some ⟨mr, 0, none⟩) [0, 0, 2, 0].length 4]]) (xs := [[0, 0, 2, 1], [0, 0, 2, 0]]) nk (.cons ⟨_, _, rfl, dw⟩ (.cons ⟨_, _, rfl, fv⟩ .nil)) rfl (by simp [maxLen])
 obtain ⟨n11, n12, n13, ug, uh⟩ := I6 u1
 refine cV call51 (LM cc uf ug) ?_
 refine um (ox rfl rfl rfl (ox rfl rfl rfl (ox rfl rfl rfl (ua (ua (ua (BI ?_)))))))
 obtain ⟨y15, y16, ui, uj⟩ := A9 uh
 refine c0 call4 (Cd ui) ?_; rintro _ _ _ hF371 ao ⟨uk, np, nq, nr, uo, ns, nt, rfl, rfl, rfl⟩
 have nu := ao _ (List.mem_cons_self ..)
 have nv := ao _ (List.mem_cons_of_mem _ (List.mem_cons_self ..))
 have nw := ao _ (List.mem_cons_of_mem _ (List.mem_cons_of_mem _ (List.mem_cons_self ..)))
 have ny := ao _ (List.mem_cons_of_mem _ (List.mem_cons_of_mem _ (List.mem_cons_of_mem _ (List.mem_cons_self ..))))
 have nz := ao _ (List.mem_cons_of_mem _ (List.mem_cons_of_mem _ (List.mem_cons_of_mem _ (List.mem_cons_of_mem _ (List.mem_cons_self ..)))))
 have o0 := ao _ (List.mem_cons_of_mem _ (List.mem_cons_of_mem _ (List.mem_cons_of_mem _ (List.mem_cons_of_mem _ (List.mem_cons_of_mem _ (List.mem_cons_self ..))))))
 have o1 := ao _ (List.mem_cons_of_mem _ (List.mem_cons_of_mem _ (List.mem_cons_of_mem _ (List.mem_cons_of_mem _ (List.mem_cons_of_mem _ (List.mem_cons_of_mem _ (List.mem_cons_self ..)))))))
 refine AD (lb (lb (lb (lb (lb (lb (lb (ln rfl)))))))) ?_
 refine AO 1 rfl nv ?_; intro uq er o2
 refine AD rfl ?_
 replace ab := ab.mono (Ae _) er
 replace a6 := a6.mono (Ak (Ae _)) er
 have cd : Au 1 (iE .i64) uq (some ⟨np, 0, none⟩) 1 [0] := Au.AG (Ae _) (vss := [[.int .i64 0]]) (xs := [0]) o2 (.cons rfl .nil) rfl (by simp [maxLen])
 refine AO 1 rfl nw ?_; intro ur dx o3
 refine AD rfl ?_
 replace ab := ab.mono (Ae _) dx
 replace cd := cd.mono (Ae _) dx
 replace a6 := a6.mono (Ak (Ae _)) dx
 have dy : Au 1 (iE .i64) ur (some ⟨nq, 0, none⟩) 1 [1] := Au.AG (Ae _) (vss := [[.int .i64 1]]) (xs := [1]) o3 (.cons rfl .nil) rfl (by simp [maxLen])
 refine AO 1 rfl ny ?_; intro uu cv o4
 refine AD rfl ?_
 replace ab := ab.mono (Ae _) cv
 replace cd := cd.mono (Ae _) cv
 replace dy := dy.mono (Ae _) cv
 replace a6 := a6.mono (Ak (Ae _)) cv
 have fw : Au 1 (iE .i64) uu (some ⟨nr, 0, none⟩) 2 [0, 2] := Au.AG (Ae _) (vss := [[.int .i64 0], [.int .i64 2]]) (xs := [0, 2]) o4 (.cons rfl (.cons rfl .nil)) rfl (by simp [maxLen])
 refine AO 0 rfl nu ?_; intro uw bh o5
 refine AD rfl ?_
 replace ab := ab.mono (Ae _) bh
 replace cd := cd.mono (Ae _) bh
 replace dy := dy.mono (Ae _) bh
 replace fw := fw.mono (Ae _) bh
 replace a6 := a6.mono (Ak (Ae _)) bh
 have cf : Au 1 (Bm 1 (iE .i64)) uw (some ⟨uk, 0, none⟩) 4 [[], [0], [1], [0, 2]] := Au.AG (Ak (Ae _)) (vss := [[.slice none 0 0], [.slice (some ⟨np, 0, none⟩) [0].length 1], [.slice (some ⟨nq, 0, none⟩) [1].length 1], [.slice (some ⟨nr, 0, none⟩) [0, 2].length 2]]) (xs := [[], [0], [1], [0, 2]]) o5 (.cons ⟨_, _, rfl, Au.nil _ _ _⟩ (.cons ⟨_, _, rfl, cd⟩ (.cons ⟨_, _, rfl, dy⟩ (.cons ⟨_, _, rfl, fw⟩ .nil)))) rfl (by simp [maxLen])
 refine AO 1 rfl o0 ?_; intro ux dz o7
 refine AD rfl ?_
 replace ab := ab.mono (Ae _) dz
 replace cf := cf.mono (Ak (Ae _)) dz
 replace a6 := a6.mono (Ak (Ae _)) dz
 have eb : Au 1 (iE .i64) ux (some ⟨ns, 0, none⟩) 4 [0, 0, 2, 1] := Au.AG (Ae _) (vss := [[.int .i64 0], [.int .i64 0], [.int .i64 2], [.int .i64 1]]) (xs := [0, 0, 2, 1]) o7 (.cons rfl (.cons rfl (.cons rfl (.cons rfl .nil)))) rfl (by simp [maxLen])
 refine AO 1 rfl o1 ?_; intro uy cw o8
 refine AD rfl ?_
 replace ab := ab.mono (Ae _) cw
 replace cf := cf.mono (Ak (Ae _)) cw
 replace eb := eb.mono (Ae _) cw
 replace a6 := a6.mono (Ak (Ae _)) cw
 have fx : Au 1 (iE .i64) uy (some ⟨nt, 0, none⟩) 4 [0, 0, 2, 0] := Au.AG (Ae _) (vss := [[.int .i64 0], [.int .i64 0], [.int .i64 2], [.int .i64 0]]) (xs := [0, 0, 2, 0]) o8 (.cons rfl (.cons rfl (.cons rfl (.cons rfl .nil)))) rfl (by simp [maxLen])
 refine AO 0 rfl nz ?_; intro uz bj o9
 refine AD rfl ?_
 replace ab := ab.mono (Ae _) bj
 replace cf := cf.mono (Ak (Ae _)) bj
 replace eb := eb.mono (Ae _) bj
 replace fx := fx.mono (Ae _) bj
 replace a6 := a6.mono (Ak (Ae _)) bj
 have va : Au 1 (Bm 1 (iE .i64)) uz (some ⟨uo, 0, none⟩) 2 [[0, 0, 2, 1], [0, 0, 2, 0]] := Au.AG (Ak (Ae _)) (vss := [[.slice (some ⟨ns, 0, none⟩) [0, 0, 2, 1].length 4], [.slice (some ⟨nt, 0, none⟩) [0, 0, 2, 0].length 4]]) (xs := [[0, 0, 2, 1], [0, 0, 2, 0]]) o9 (.cons ⟨_, _, rfl, eb⟩ (.cons ⟨_, _, rfl, fx⟩ .nil)) rfl (by simp [maxLen])
 obtain ⟨n14, n15, n16, vb, oc⟩ := I6 uj
 refine cV call47 (Mn cf va vb) ?_
 refine um (ox rfl rfl rfl (ox rfl rfl rfl ?_))
 refine A1 rfl zeroValue78 ?_; intro vc hb411
 refine A6 (i := 0) sizeOf78 rfl rfl rfl (by simp [Value.oneCell']) rfl (A5 rfl) (AD rfl ?_)
 refine ua (BI (um ?_))
 refine uv (Bb rfl rfl) (um ?_)
 by_cases bk : n9 = 0
 ·have r413 := AQ oc bk
  refine nT bk (um (nT bk ?_))
  refine uv (Bb rfl rfl) (uv (Aw (AS rfl bk) rfl) (um ?_))
  by_cases bl : n10 = 0
  ·have od := AQ r413 bl
   refine nT bl (um (nT bl ?_))
   refine uv (Bb rfl rfl) (uv (Aw (AS rfl bl) rfl) (um ?_))
   by_cases bm : n13 = 0
   ·have r417 := AQ od bm
    refine nT bm (um (nT bm ?_))
    refine uv (Bb rfl rfl) (uv (Aw (AS rfl bm) rfl) (um ?_))
    by_cases ar : n16 = 0
    ·have oe := AQ r417 ar
     refine nT ar (um (nT ar ?_))
     refine uv ((AJ underlying104 rfl).i (AW.GN a6)) (nT ar (uv (Bb rfl rfl) (uv (Aw (AS rfl ar) rfl) (um ?_))))
     by_cases ad : (l2.length : Int) = 2
     ·have vd := AQ oe ad
      refine nT ad (um (nT ad ?_))
      obtain ⟨x, og, oh, ve⟩ := A7 vd
      obtain ⟨b425, o426, c427, vs428, oi, oj, vf, ⟨a434, c435, rfl, fy⟩, hl432, oo⟩ := AW.at (Ak (Ae _)) a6 (L := (vc, ce #[.int .i64 n14, .int .i64 n15] 78) :: (kz ++ [])) (fC fP) og.1 oh
      refine uv (AF underlying104 sizeOf107 rfl oi rfl (AW.idx a6 og)) (nT ad (uv (Ao isAgg107 rfl oj (oo 0 (by decide))) (nT ad ?_)))
      refine bA (cs := #[.int .i64 2, .int .i64 0, .int .i64 0, .int .i64 2]) Mc [.int .i64 2, .int .i64 0, .int .i64 0, .int .i64 2] ?_; intro vg oq
      refine nT ad ?_
      refine AO 0 rfl oq ?_; intro vh et ot
      refine AD rfl ?_
      replace ab := ab.mono (Ae _) et
      replace fy := fy.mono (Ae _) et
      have vi : Au 1 (iE .i64) vh (some ⟨vg, 0, none⟩) 4 [2, 0, 0, 2] := Au.AG (Ae _) (vss := [[.int .i64 2], [.int .i64 0], [.int .i64 0], [.int .i64 2]]) (xs := [2, 0, 0, 2]) ot (.cons rfl (.cons rfl (.cons rfl (.cons rfl .nil)))) rfl (by simp [maxLen])
      obtain ⟨ok2, vj, ou⟩ := AB ve
      refine cV call66 (KS fy vi vj) (uv (Aw (AS rfl ad) rfl) (um ?_))
      rcases Bf ok2 with aq | aq
      ·have vk := bt ou aq
       refine nB aq (um (nB aq ?_))
       refine bA (cs := #[.int .i64 1]) BN [.int .i64 1] ?_; intro vl ow
       refine nB aq ?_
       refine AO 0 rfl ow ?_; intro vm oy oz
       refine AD rfl ?_
       replace ab := ab.mono (Ae _) oy
       have vn : Au 1 (iE .i64) vm (some ⟨vl, 0, none⟩) 1 [1] := Au.AG (Ae _) (vss := [[.int .i64 1]]) (xs := [1]) oz (.cons rfl .nil) rfl (by simp [maxLen])
       obtain ⟨ok3, vo, p0⟩ := AB vk
       refine cV call37 (DI ab vn vo) (uv (Aw (En rfl aq) rfl) (um ?_))
       rcases Bf ok3 with aw | aw
       ·have p3 := bt p0 aw
        refine nB aw (um (nB aw ?_))
        refine uv (Bb rfl rfl) (uv (Aw (En rfl aw) rfl) (um ?_))
        by_cases bn : n11 = 14
        ·have p4 := AQ p3 bn
         refine nT bn (um (nT bn ?_))
         refine uv (Bb rfl rfl) (uv (Aw (AS rfl bn) rfl) (um ?_))
         by_cases au : n12 = 28
         ·have vp := AQ p4 au
          refine nT au (uv (AE isAgg78 sizeOf78 rfl (Has.own 0 rfl) (A5 rfl) rfl) (nT au ?_))
          refine uv (BL (v := .agg #[.int .i64 0, .int .i64 1]) rfl (by intro w; kernel_rfl)) ?_
          refine nT au (uv (Nh (P2 _ _ _ _) (QM _ _ _ _) rfl rfl) (uv (Aw (AS rfl au) rfl) ?_))
          refine ua (Aa ?_)
          refine kW kn (As (BD results14 ?_))
          obtain rfl := AH vp
          exact rfl
         have vq := AR p4 au
         refine fF au (fF au (fF au ?_))
         refine uv (Ar (AM rfl au) rfl) ?_
         refine ua (Aa ?_)
         refine kW kn (As (BD results14 ?_))
         obtain rfl := AH vq
         exact rfl
        have vr := AR p3 bn
        refine fF bn (fF bn ?_)
        refine uv (Ar (AM rfl bn) rfl) ?_
        refine um (Ah (b' := false) 133 rfl rfl rfl rfl (Ah (b' := false) 133 rfl rfl rfl rfl (Ah (b' := false) 133 rfl rfl rfl rfl ?_)))
        refine uv (Ar rfl rfl) ?_
        refine ua (Aa ?_)
        refine kW kn (As (BD results14 ?_))
        obtain rfl := AH vr
        exact rfl
       have vt := bf p0 aw
       refine fB aw (fB aw ?_)
       refine uv (Ar (En rfl aw) rfl) ?_
       refine um (Ah (b' := false) 129 rfl rfl rfl rfl (Ah (b' := false) 129 rfl rfl rfl rfl ?_))
       refine uv (Ar rfl rfl) ?_
       refine um (Ah (b' := false) 133 rfl rfl rfl rfl (Ah (b' := false) 133 rfl rfl rfl rfl (Ah (b' := false) 133 rfl rfl rfl rfl ?_)))
       refine uv (Ar rfl rfl) ?_
       refine ua (Aa ?_)
       refine kW kn (As (BD results14 ?_))
       obtain rfl := AH vt
       exact rfl
      have vu := bf ou aq
      refine fB aq (fB aq (fB aq ?_))
      refine uv (Ar (En rfl aq) rfl) ?_
      refine um (Ah (b' := false) 125 rfl rfl rfl rfl (Ah (b' := false) 125 rfl rfl rfl rfl ?_))
      refine uv (Ar rfl rfl) ?_
      refine um (Ah (b' := false) 129 rfl rfl rfl rfl (Ah (b' := false) 129 rfl rfl rfl rfl ?_))
      refine uv (Ar rfl rfl) ?_
      refine um (Ah (b' := false) 133 rfl rfl rfl rfl (Ah (b' := false) 133 rfl rfl rfl rfl (Ah (b' := false) 133 rfl rfl rfl rfl ?_)))
      refine uv (Ar rfl rfl) ?_
      refine ua (Aa ?_)
      refine kW kn (As (BD results14 ?_))
      obtain rfl := AH vu
      exact rfl
     have r463 := AR oe ad
     refine fF ad (fF ad (fF ad (fF ad (fF ad ?_))))
     refine uv (Ar (AM rfl ad) rfl) ?_
     refine um (Ah (b' := false) 120 rfl rfl rfl rfl (Ah (b' := false) 120 rfl rfl rfl rfl (Ah (b' := false) 120 rfl rfl rfl rfl ?_)))
     refine uv (Ar rfl rfl) ?_
     refine um (Ah (b' := false) 125 rfl rfl rfl rfl (Ah (b' := false) 125 rfl rfl rfl rfl ?_))
     refine uv (Ar rfl rfl) ?_
     refine um (Ah (b' := false) 129 rfl rfl rfl rfl (Ah (b' := false) 129 rfl rfl rfl rfl ?_))
     refine uv (Ar rfl rfl) ?_
     refine um (Ah (b' := false) 133 rfl rfl rfl rfl (Ah (b' := false) 133 rfl rfl rfl rfl (Ah (b' := false) 133 rfl rfl rfl rfl ?_)))
     refine uv (Ar rfl rfl) ?_
     refine ua (Aa ?_)
     refine kW kn (As (BD results14 ?_))
     obtain rfl := AH r463
     exact rfl
    have r464 := AR r417 ar
    refine fF ar (fF ar (fF ar ?_))
    refine uv (Ar (AM rfl ar) rfl) ?_
    refine um (Ah (b' := false) 113 rfl rfl rfl rfl (Ah (b' := false) 113 rfl rfl rfl rfl (Ah (b' := false) 113 rfl rfl rfl rfl (Ah (b' := false) 113 rfl rfl rfl rfl (Ah (b' := false) 113 rfl rfl rfl rfl ?_)))))
    refine uv (Ar rfl rfl) ?_
    refine um (Ah (b' := false) 120 rfl rfl rfl rfl (Ah (b' := false) 120 rfl rfl rfl rfl (Ah (b' := false) 120 rfl rfl rfl rfl ?_)))
    refine uv (Ar rfl rfl) ?_
    refine um (Ah (b' := false) 125 rfl rfl rfl rfl (Ah (b' := false) 125 rfl rfl rfl rfl ?_))
    refine uv (Ar rfl rfl) ?_
    refine um (Ah (b' := false) 129 rfl rfl rfl rfl (Ah (b' := false) 129 rfl rfl rfl rfl ?_))
    refine uv (Ar rfl rfl) ?_
    refine um (Ah (b' := false) 133 rfl rfl rfl rfl (Ah (b' := false) 133 rfl rfl rfl rfl (Ah (b' := false) 133 rfl rfl rfl rfl ?_)))
    refine uv (Ar rfl rfl) ?_
    refine ua (Aa ?_)
    refine kW kn (As (BD results14 ?_))
    obtain rfl := AH r464
    exact rfl
   have r465 := AR od bm
   refine fF bm (fF bm ?_)
   refine uv (Ar (AM rfl bm) rfl) ?_
   refine um (Ah (b' := false) 108 rfl rfl rfl rfl (Ah (b' := false) 108 rfl rfl rfl rfl (Ah (b' := false) 108 rfl rfl rfl rfl ?_)))
   refine uv (Ar rfl rfl) ?_
   refine um (Ah (b' := false) 113 rfl rfl rfl rfl (Ah (b' := false) 113 rfl rfl rfl rfl (Ah (b' := false) 113 rfl rfl rfl rfl (Ah (b' := false) 113 rfl rfl rfl rfl (Ah (b' := false) 113 rfl rfl rfl rfl ?_)))))
   refine uv (Ar rfl rfl) ?_
   refine um (Ah (b' := false) 120 rfl rfl rfl rfl (Ah (b' := false) 120 rfl rfl rfl rfl (Ah (b' := false) 120 rfl rfl rfl rfl ?_)))
   refine uv (Ar rfl rfl) ?_
   refine um (Ah (b' := false) 125 rfl rfl rfl rfl (Ah (b' := false) 125 rfl rfl rfl rfl ?_))
   refine uv (Ar rfl rfl) ?_
   refine um (Ah (b' := false) 129 rfl rfl rfl rfl (Ah (b' := false) 129 rfl rfl rfl rfl ?_))
   refine uv (Ar rfl rfl) ?_
   refine um (Ah (b' := false) 133 rfl rfl rfl rfl (Ah (b' := false) 133 rfl rfl rfl rfl (Ah (b' := false) 133 rfl rfl rfl rfl ?_)))
   refine uv (Ar rfl rfl) ?_
   refine ua (Aa ?_)
   refine kW kn (As (BD results14 ?_))
   obtain rfl := AH r465
   exact rfl
  have r466 := AR r413 bl
  refine fF bl (fF bl ?_)
  refine uv (Ar (AM rfl bl) rfl) ?_
  refine um (Ah (b' := false) 104 rfl rfl rfl rfl (Ah (b' := false) 104 rfl rfl rfl rfl ?_))
  refine uv (Ar rfl rfl) ?_
  refine um (Ah (b' := false) 108 rfl rfl rfl rfl (Ah (b' := false) 108 rfl rfl rfl rfl (Ah (b' := false) 108 rfl rfl rfl rfl ?_)))
  refine uv (Ar rfl rfl) ?_
  refine um (Ah (b' := false) 113 rfl rfl rfl rfl (Ah (b' := false) 113 rfl rfl rfl rfl (Ah (b' := false) 113 rfl rfl rfl rfl (Ah (b' := false) 113 rfl rfl rfl rfl (Ah (b' := false) 113 rfl rfl rfl rfl ?_)))))
  refine uv (Ar rfl rfl) ?_
  refine um (Ah (b' := false) 120 rfl rfl rfl rfl (Ah (b' := false) 120 rfl rfl rfl rfl (Ah (b' := false) 120 rfl rfl rfl rfl ?_)))
  refine uv (Ar rfl rfl) ?_
  refine um (Ah (b' := false) 125 rfl rfl rfl rfl (Ah (b' := false) 125 rfl rfl rfl rfl ?_))
  refine uv (Ar rfl rfl) ?_
  refine um (Ah (b' := false) 129 rfl rfl rfl rfl (Ah (b' := false) 129 rfl rfl rfl rfl ?_))
  refine uv (Ar rfl rfl) ?_
  refine um (Ah (b' := false) 133 rfl rfl rfl rfl (Ah (b' := false) 133 rfl rfl rfl rfl (Ah (b' := false) 133 rfl rfl rfl rfl ?_)))
  refine uv (Ar rfl rfl) ?_
  refine ua (Aa ?_)
  refine kW kn (As (BD results14 ?_))
  obtain rfl := AH r466
  exact rfl
 have r467 := AR oc bk
 refine fF bk (fF bk ?_)
 refine uv (Ar (AM rfl bk) rfl) ?_
 refine um (Ah (b' := false) 100 rfl rfl rfl rfl (Ah (b' := false) 100 rfl rfl rfl rfl ?_))
 refine uv (Ar rfl rfl) ?_
 refine um (Ah (b' := false) 104 rfl rfl rfl rfl (Ah (b' := false) 104 rfl rfl rfl rfl ?_))
 refine uv (Ar rfl rfl) ?_
 refine um (Ah (b' := false) 108 rfl rfl rfl rfl (Ah (b' := false) 108 rfl rfl rfl rfl (Ah (b' := false) 108 rfl rfl rfl rfl ?_)))
 refine uv (Ar rfl rfl) ?_
 refine um (Ah (b' := false) 113 rfl rfl rfl rfl (Ah (b' := false) 113 rfl rfl rfl rfl (Ah (b' := false) 113 rfl rfl rfl rfl (Ah (b' := false) 113 rfl rfl rfl rfl (Ah (b' := false) 113 rfl rfl rfl rfl ?_)))))
 refine uv (Ar rfl rfl) ?_
 refine um (Ah (b' := false) 120 rfl rfl rfl rfl (Ah (b' := false) 120 rfl rfl rfl rfl (Ah (b' := false) 120 rfl rfl rfl rfl ?_)))
 refine uv (Ar rfl rfl) ?_
 refine um (Ah (b' := false) 125 rfl rfl rfl rfl (Ah (b' := false) 125 rfl rfl rfl rfl ?_))
 refine uv (Ar rfl rfl) ?_
 refine um (Ah (b' := false) 129 rfl rfl rfl rfl (Ah (b' := false) 129 rfl rfl rfl rfl ?_))
 refine uv (Ar rfl rfl) ?_
 refine um (Ah (b' := false) 133 rfl rfl rfl rfl (Ah (b' := false) 133 rfl rfl rfl rfl (Ah (b' := false) 133 rfl rfl rfl rfl ?_)))
 refine uv (Ar rfl rfl) ?_
 refine ua (Aa ?_)
 refine kW kn (As (BD results14 ?_))
 obtain rfl := AH r467
 exact rfl
set_option maxHeartbeats 1000000 in
theorem I7 {l : List (List Int)} {rows : Int} (ai : Au 1 (Bm 1 (iE .i64)) F JA Jy l) {r : Bool} (hr : Gl l rows IL = some r) :
    Ba Tryz.prog 29 #[.slice JA l.length Jy, .int .i64 rows, .int .i64 IL] F (.bool r) := by
 refine sp func29 ntmps29 fun K _ _ => ?_
 rw [Gl] at hr
 refine AI (ua (Aa ?_))
 refine AK (fun e1 F1 L1 => GL l rows = some r ∧ F = F1 ∧ L1 = [] ∧ e1.sub [(0, .slice JA l.length Jy), (1, .int .i64 rows)]) ?_ ?_
 ·refine AI (um ?_)
  refine uv (AJ underlying23 rfl) ?_
  refine um (Aa ?_)
  refine Ap ?_
  refine A2 (fun aj e1 F1 L1 => LA l aj fun tl k => Dz l rows IL tl = some r ∧ F = F1 ∧ L1 = [] ∧ e1.sub [(0, .slice JA l.length Jy), (1, .int .i64 rows), (2, .int .i64 IL), (9, .slice JA l.length Jy), (10, .int .i64 (l.length : Int)), (11, .int .i64 k)]) _ (m0 kr ⟨_, _, rfl, A8.start _, hr, rfl, rfl, z6⟩) ?_
  rintro aj e1 _ _ ⟨tl, k, ao, a6, r3, rfl, rfl, aq⟩
  refine Az _ aq (AI (uv (AV rfl rfl) ?_))
  refine Aa (At ?_)
  refine cQ (fun c6 => ?_) fun c6 => ?_
  ·obtain ⟨x, az, rfl, ar, g9, au⟩ := A8.succ a6 c6
   rw [Dz] at r3
   refine Aq (At ?_)
   refine Ap (AI ?_)
   obtain ⟨PK, ba, bb, av, aa, ab, ak, ⟨bc, bd, rfl, bg⟩, aw, ad⟩ := Au.at (Ak (Ae _)) ai ([]) g9.1 ar
   refine uv (AF underlying23 sizeOf22 rfl aa rfl g9) (uv (Ao isAgg22 rfl ab (ad 0 (by decide))) ?_)
   refine ua (BI (um ?_))
   refine uv (AJ underlying22 rfl) (um (uv (Em rfl rfl) (Aa ?_)))
   refine cQ (fun ae => ?_) fun ae => ?_
   ·have ax := AQ r3 ae
    refine AI (ua (Aa (As (Ay (Al (Al (Ay (Al ?_))))))))
    refine BD results29 ?_
    obtain rfl := AH ax
    exact rfl
   have ay := AR r3 ae
   refine Aq (Ax (id := 1) (An ?_))
   refine uv (AY rfl rfl (A8.CC a6 c6 (Au.lt ai))) ?_
   refine um (Aa ?_)
   subst ao; exact le kr ⟨_, _, rfl, au, ay, rfl, rfl, z6⟩
  obtain rfl := A8.zero a6 c6
  rw [Dz] at r3
  refine AL (Am (Am ?_))
  refine AA ?_
  exact mi kr ⟨r3, rfl, rfl, z2⟩
 rintro e1 _ _ ⟨al, rfl, rfl, ah⟩
 refine Az _ ah ?_
 rw [GL] at al
 refine AI (um ?_)
 refine uv (AJ underlying23 rfl) (um (uv (Em rfl rfl) ?_))
 refine ua (Aa (As ?_))
 refine BD results29 ?_
 obtain rfl := AH al
 exact rfl
set_option maxHeartbeats 1000000 in
theorem K4 {l : List (List Int)} {rows : Int} (ai : Au 1 (Bm 1 (iE .i64)) F JA Jy l) {r : Bool} (hr : HE l rows IL = some r) :
    Ba Tryz.prog 74 #[.slice JA l.length Jy, .int .i64 rows, .int .i64 IL] F (.bool r) := by
 refine sp func74 ntmps74 fun K _ _ => ?_
 rw [HE] at hr
 refine AI (ua (Aa ?_))
 refine AK (fun e1 F1 L1 => Gr l rows = some r ∧ F = F1 ∧ L1 = [] ∧ e1.sub [(0, .slice JA l.length Jy), (1, .int .i64 rows)]) ?_ ?_
 ·refine AI (um ?_)
  refine uv (AJ underlying24 rfl) ?_
  refine um (Aa ?_)
  refine Ap ?_
  refine A2 (fun aj e1 F1 L1 => LA l aj fun tl k => Dk l rows IL tl = some r ∧ F = F1 ∧ L1 = [] ∧ e1.sub [(0, .slice JA l.length Jy), (1, .int .i64 rows), (2, .int .i64 IL), (9, .slice JA l.length Jy), (10, .int .i64 (l.length : Int)), (11, .int .i64 k)]) _ (m0 kr ⟨_, _, rfl, A8.start _, hr, rfl, rfl, z6⟩) ?_
  rintro aj e1 _ _ ⟨tl, k, ao, a6, r3, rfl, rfl, aq⟩
  refine Az _ aq (AI (uv (AV rfl rfl) ?_))
  refine Aa (At ?_)
  refine cQ (fun c6 => ?_) fun c6 => ?_
  ·obtain ⟨x, az, rfl, ar, g9, au⟩ := A8.succ a6 c6
   rw [Dk] at r3
   refine Aq (At ?_)
   refine Ap (AI ?_)
   obtain ⟨PK, ba, bb, av, aa, ab, ak, ⟨bc, bd, rfl, bg⟩, aw, ad⟩ := Au.at (Ak (Ae _)) ai ([]) g9.1 ar
   refine uv (AF underlying24 sizeOf36 rfl aa rfl g9) (uv (Ao isAgg36 rfl ab (ad 0 (by decide))) ?_)
   refine ua (BI (um ?_))
   refine uv (AJ underlying36 rfl) (um (uv (Em rfl rfl) (Aa ?_)))
   refine cQ (fun ae => ?_) fun ae => ?_
   ·have ax := AQ r3 ae
    refine AI (ua (Aa (As (Ay (Al (Al (Ay (Al ?_))))))))
    refine BD results74 ?_
    obtain rfl := AH ax
    exact rfl
   have ay := AR r3 ae
   refine Aq (Ax (id := 1) (An ?_))
   refine uv (AY rfl rfl (A8.CC a6 c6 (Au.lt ai))) ?_
   refine um (Aa ?_)
   subst ao; exact le kr ⟨_, _, rfl, au, ay, rfl, rfl, z6⟩
  obtain rfl := A8.zero a6 c6
  rw [Dk] at r3
  refine AL (Am (Am ?_))
  refine AA ?_
  exact mi kr ⟨r3, rfl, rfl, z2⟩
 rintro e1 _ _ ⟨al, rfl, rfl, ah⟩
 refine Az _ ah ?_
 rw [Gr] at al
 refine AI (um ?_)
 refine uv (AJ underlying24 rfl) (um (uv (Em rfl rfl) ?_))
 refine ua (Aa (As ?_))
 refine BD results74 ?_
 obtain rfl := AH al
 exact rfl
theorem DZ (a6 : Au 1 (Bm 1 (iE .i64)) F Ac Ad Ab) (aa : Au 1 (Bm 1 (iE .i64)) F Aj Ai Af) {r : Bool} (hr : Dw Ab Af = some r) :
    Ba Tryz.prog 17 #[.agg #[.slice Ac Ab.length Ad, .slice Aj Af.length Ai]] F (.bool r) := by
 refine sp func17 ntmps17 fun K _ _ => ?_
 rw [Dw] at hr
 refine AI ?_
 refine By rfl rfl ?_; intro b1 ab
 refine ua (BI ?_)
 refine uv (Av Cy rfl) (uv (Ao isAgg23 rfl (Has.own 0 rfl) rfl) ?_)
 obtain ⟨ok, h2, r3⟩ := AB hr
 refine cV call29 (I7 a6 h2) (um ?_)
 rcases Bf ok with c4 | c4
 ·have r5 := bt r3 c4
  refine fB c4 (fB c4 (fB c4 ?_))
  refine uv (Aw (En rfl c4) rfl) ?_
  refine ua (Aa ?_)
  refine kW kn (As (BD results17 ?_))
  obtain rfl := AH r5
  exact rfl
 have r6 := bf r3 c4
 refine nB c4 (uv (Av Bz rfl) (nB c4 (uv (Ao isAgg24 rfl (Has.own 0 rfl) rfl) (nB c4 ?_))))
 obtain ⟨ad, h7, r8⟩ := AB r6
 refine cV call74 (K4 aa h7) (uv (Ar (En rfl c4) rfl) ?_)
 refine ua (Aa ?_)
 refine kW kn (As (BD results17 ?_))
 obtain rfl := AH r8
 exact rfl
theorem JD {l : List Int} (aa : Au 1 (iE .i64) F JA Jy l) {r : List Int} (hr : Ho l = some r) :
    SH.Spec Tryz.prog 30 #[.slice JA l.length Jy] F [] fun F' L' v => ∃ (ra : Option Addr) (rn : Nat) (rc : Nat) (rL : LH), v = .slice ra rn rc ∧ L' = rL ++ [] ∧ AW 0 3 1 (iE .i64) F' ra rn rc r rL := by
 refine sp func30 ntmps30 fun K _ _ => ?_
 rw [Ho] at hr
 refine AI (ua (BI (um ?_)))
 refine uv (AJ underlying22 rfl) ?_
 obtain ⟨g1, r2⟩ := AX hr
 obtain ⟨l2, h3, r4⟩ := BS r2
 refine Jr (R := (iE .i64)) (z0 := 0) (zs := l2) rfl BN (by decide) (Ae _) (fun _ => rfl) rfl g1 h3 (fun _ => .n) ?_; intro a5 n8 ai ab
 refine ua (BI (um (um ?_)))
 obtain ⟨out, ad, ae⟩ := BS r4
 refine N7 (ys := l) (zs := out) rfl BN (Ae _) rfl rfl (fun _ => .h) ab (Au.src aa) ad ?_; intro ah a6
 refine BI (um (ua (Aa (As ?_))))
 refine BD results30 ?_
 obtain rfl := AH ae
 exact ⟨_, _, _, _, rfl, rfl, a6.any⟩
set_option maxHeartbeats 1000000 in
theorem IB {l : List (List Int)} (al : Au 1 (Bm 1 (iE .i64)) F JA Jy l) {r : List (List Int)} (hr : Fi l = some r) :
    SH.Spec Tryz.prog 31 #[.slice JA l.length Jy] F [] fun F' L' v => ∃ (ra : Option Addr) (rn : Nat) (rc : Nat) (rL : LH), v = .slice ra rn rc ∧ L' = rL ++ [] ∧ BG 0 22 3 1 (iE .i64) F' ra rn rc r rL := by
 refine sp func31 ntmps31 fun K _ _ => ?_
 rw [Fi] at hr
 refine AI (ua (BI (um ?_)))
 refine uv (AJ underlying23 rfl) ?_
 obtain ⟨g1, r2⟩ := AX hr
 obtain ⟨l2, h3, r4⟩ := BS r2
 refine Jr (R := MY) (z0 := (none, 0, 0)) (zs := List.replicate ((l.length : Int) : Int).toNat (none, 0, 0)) rfl FP (by decide) Cm (fun _ => rfl) rfl g1 rfl (fun _ => .n) ?_; intro a5 n8 bz cn
 have cp : BG K.w0.heap.size 22 3 1 (iE .i64) F a5 n8 n8 l2 bz := BG.made cn h3
 refine ua (Aa ?_)
 obtain ⟨out, cq, ca⟩ := AB r4
 refine AK (fun e1 F1 L1 => ∃ (ab : LH), AN F F1 ∧ L1 = (ab ++ []) ∧ e1.sub [(3, .slice a5 n8 n8)] ∧ BG K.w0.heap.size 22 3 1 (iE .i64) F1 a5 n8 n8 out ab) ?_ ?_
 ·clear ca
  refine AI (um ?_)
  refine uv (AJ underlying23 rfl) ?_
  refine um (Aa ?_)
  refine Ap ?_
  refine A2 (fun cb e1 F1 L1 => LA l cb fun tl k => ∃ (ad : List (List Int)) (a6 : LH), C5 tl k ad = some out ∧ AN F F1 ∧ L1 = (a6 ++ []) ∧ e1.sub [(3, .slice a5 n8 n8), (9, .slice JA l.length Jy), (10, .int .i64 (l.length : Int)), (11, .int .i64 k)] ∧ BG K.w0.heap.size 22 3 1 (iE .i64) F1 a5 n8 n8 ad a6) _ (m0 kr ⟨_, _, rfl, A8.start _, l2, bz, cq, AN.refl _, rfl, z4, cp⟩) ?_
  rintro cb e1 dk _ ⟨tl, k, aw, ae, ad, a6, au, ah, rfl, ax, aa⟩
  refine Az _ ax ?_
  replace al := al.mono (Ak (Ae _)) ah
  refine AI (uv (AV rfl rfl) ?_)
  refine Aa (At ?_)
  refine cQ (fun av => ?_) fun av => ?_
  ·obtain ⟨x, dm, rfl, ay, cc, az⟩ := A8.succ ae av
   rw [C5] at au
   refine Aq (At ?_)
   refine Ap ?_
   refine AI (um ?_)
   obtain ⟨dp, dq, dr, cr, ba, bb, cd, ⟨dt, du, rfl, ct⟩, cu, bc⟩ := Au.at (Ak (Ae _)) al (a6 ++ []) cc.1 ay
   refine uv (AF underlying23 sizeOf22 rfl ba rfl cc) (uv (Ao isAgg22 rfl bb (bc 0 (by decide))) ?_)
   refine ua (ua (Aa (An (um (um (um ?_))))))
   obtain ⟨l3, cv, cw⟩ := AB au
   refine c0 call30 (JD ct cv) ?_; rintro _ cx _ ai bd ⟨cf, cg, cj, bg, rfl, rfl, aj⟩
   replace al := al.mono (Ak (Ae _)) ai
   replace aa := aa.mono (Ae _) ai
   replace aj := aj.new fun p hp => bd p (by simp [hp])
   refine AD (lp (ln rfl)) ?_
   obtain ⟨x2, bh, bj, cy⟩ := A7 cw
   have ao := (BG.Be aa).1
   refine Iu (fS fP) aa bj ?_; intro bk bl bm dv dw dx bn bo ak cz bp
   obtain ⟨dy, dz, eb, da, aq, db, ck, rfl, dd, de⟩ := AW.at Cm ak (L := bl ++ (bn ++ (bm ++ (bg ++ [])))) fP bh.1 bo
   refine uv (AF underlying23 sizeOf22 rfl aq rfl (K2 ao bh)) ?_
   refine CQ (zs := bk.set (k : Int).toNat (cf, cg, cj)) (u := (cf, cg, cj)) sizeOf22 Cm rfl aq rfl rfl (fun _ => .h) ak rfl (Qf ao ak bh) ?_; intro df bq
   refine kO (ka (kx kr)) ?_
   obtain ⟨ar, dg, dh⟩ := BS cy
   refine Bp (p := fun X => BG K.w0.heap.size 22 3 1 (iE .i64) cx a5 n8 n8 ar X) (K5.back bp bq aj dg) (pT (pA ((fS fP).trans (pA pR))) (lp (lp (lp (ln rfl))))) ?_; intro br bu
   refine Aa (Ax (id := 1) (An ?_))
   refine uv (AY rfl rfl (A8.CC ae av (Au.lt al))) ?_
   refine um (Aa ?_)
   subst aw; exact le kr ⟨_, _, rfl, az, ar, br, dh, (ah.trans ai), rfl, z4, bu⟩
  obtain rfl := A8.zero ae av
  rw [C5] at au
  refine AL (Am (Am ?_))
  refine AA ?_
  obtain rfl := AH au
  exact mi kr ⟨a6, ah, rfl, z1, aa⟩
 rintro e1 ec _ ⟨ab, di, rfl, bw, bx⟩
 refine Az _ bw ?_
 refine AI (um (ua (Aa (As ?_))))
 refine BD results31 ?_
 obtain rfl := AH ca
 exact ⟨_, _, _, _, rfl, rfl, bx.any⟩
theorem LF {l : List Int} (aa : Au 1 (iE .i64) F JA Jy l) {r : List Int} (hr : Ir l = some r) :
    SH.Spec Tryz.prog 116 #[.slice JA l.length Jy] F [] fun F' L' v => ∃ (ra : Option Addr) (rn : Nat) (rc : Nat) (rL : LH), v = .slice ra rn rc ∧ L' = rL ++ [] ∧ AW 0 35 1 (iE .i64) F' ra rn rc r rL := by
 refine sp func116 ntmps116 fun K _ _ => ?_
 rw [Ir] at hr
 refine AI (ua (BI (um ?_)))
 refine uv (AJ underlying36 rfl) ?_
 obtain ⟨g1, r2⟩ := AX hr
 obtain ⟨l2, h3, r4⟩ := BS r2
 refine Jr (R := (iE .i64)) (z0 := 0) (zs := l2) rfl Kp (by decide) (Ae _) (fun _ => rfl) rfl g1 h3 (fun _ => .n) ?_; intro a5 n8 ai ab
 refine ua (BI (um (um ?_)))
 obtain ⟨out, ad, ae⟩ := BS r4
 refine N7 (ys := l) (zs := out) rfl Kp (Ae _) rfl rfl (fun _ => .h) ab (Au.src aa) ad ?_; intro ah a6
 refine BI (um (ua (Aa (As ?_))))
 refine BD results116 ?_
 obtain rfl := AH ae
 exact ⟨_, _, _, _, rfl, rfl, a6.any⟩
set_option maxHeartbeats 1000000 in
theorem Kx {l : List (List Int)} (al : Au 1 (Bm 1 (iE .i64)) F JA Jy l) {r : List (List Int)} (hr : GG l = some r) :
    SH.Spec Tryz.prog 75 #[.slice JA l.length Jy] F [] fun F' L' v => ∃ (ra : Option Addr) (rn : Nat) (rc : Nat) (rL : LH), v = .slice ra rn rc ∧ L' = rL ++ [] ∧ BG 0 36 35 1 (iE .i64) F' ra rn rc r rL := by
 refine sp func75 ntmps75 fun K _ _ => ?_
 rw [GG] at hr
 refine AI (ua (BI (um ?_)))
 refine uv (AJ underlying24 rfl) ?_
 obtain ⟨g1, r2⟩ := AX hr
 obtain ⟨l2, h3, r4⟩ := BS r2
 refine Jr (R := MY) (z0 := (none, 0, 0)) (zs := List.replicate ((l.length : Int) : Int).toNat (none, 0, 0)) rfl KX (by decide) Cm (fun _ => rfl) rfl g1 rfl (fun _ => .n) ?_; intro a5 n8 bz cn
 have cp : BG K.w0.heap.size 36 35 1 (iE .i64) F a5 n8 n8 l2 bz := BG.made cn h3
 refine ua (Aa ?_)
 obtain ⟨out, cq, ca⟩ := AB r4
 refine AK (fun e1 F1 L1 => ∃ (ab : LH), AN F F1 ∧ L1 = (ab ++ []) ∧ e1.sub [(3, .slice a5 n8 n8)] ∧ BG K.w0.heap.size 36 35 1 (iE .i64) F1 a5 n8 n8 out ab) ?_ ?_
 ·clear ca
  refine AI (um ?_)
  refine uv (AJ underlying24 rfl) ?_
  refine um (Aa ?_)
  refine Ap ?_
  refine A2 (fun cb e1 F1 L1 => LA l cb fun tl k => ∃ (ad : List (List Int)) (a6 : LH), CV tl k ad = some out ∧ AN F F1 ∧ L1 = (a6 ++ []) ∧ e1.sub [(3, .slice a5 n8 n8), (9, .slice JA l.length Jy), (10, .int .i64 (l.length : Int)), (11, .int .i64 k)] ∧ BG K.w0.heap.size 36 35 1 (iE .i64) F1 a5 n8 n8 ad a6) _ (m0 kr ⟨_, _, rfl, A8.start _, l2, bz, cq, AN.refl _, rfl, z4, cp⟩) ?_
  rintro cb e1 dk _ ⟨tl, k, aw, ae, ad, a6, au, ah, rfl, ax, aa⟩
  refine Az _ ax ?_
  replace al := al.mono (Ak (Ae _)) ah
  refine AI (uv (AV rfl rfl) ?_)
  refine Aa (At ?_)
  refine cQ (fun av => ?_) fun av => ?_
  ·obtain ⟨x, dm, rfl, ay, cc, az⟩ := A8.succ ae av
   rw [CV] at au
   refine Aq (At ?_)
   refine Ap ?_
   refine AI (um ?_)
   obtain ⟨dp, dq, dr, cr, ba, bb, cd, ⟨dt, du, rfl, ct⟩, cu, bc⟩ := Au.at (Ak (Ae _)) al (a6 ++ []) cc.1 ay
   refine uv (AF underlying24 sizeOf36 rfl ba rfl cc) (uv (Ao isAgg36 rfl bb (bc 0 (by decide))) ?_)
   refine ua (ua (Aa (An (um (um (um ?_))))))
   obtain ⟨l3, cv, cw⟩ := AB au
   refine c0 call116 (LF ct cv) ?_; rintro _ cx _ ai bd ⟨cf, cg, cj, bg, rfl, rfl, aj⟩
   replace al := al.mono (Ak (Ae _)) ai
   replace aa := aa.mono (Ae _) ai
   replace aj := aj.new fun p hp => bd p (by simp [hp])
   refine AD (lp (ln rfl)) ?_
   obtain ⟨x2, bh, bj, cy⟩ := A7 cw
   have ao := (BG.Be aa).1
   refine Iu (fS fP) aa bj ?_; intro bk bl bm dv dw dx bn bo ak cz bp
   obtain ⟨dy, dz, eb, da, aq, db, ck, rfl, dd, de⟩ := AW.at Cm ak (L := bl ++ (bn ++ (bm ++ (bg ++ [])))) fP bh.1 bo
   refine uv (AF underlying24 sizeOf36 rfl aq rfl (K2 ao bh)) ?_
   refine CQ (zs := bk.set (k : Int).toNat (cf, cg, cj)) (u := (cf, cg, cj)) sizeOf36 Cm rfl aq rfl rfl (fun _ => .h) ak rfl (Qf ao ak bh) ?_; intro df bq
   refine kO (ka (kx kr)) ?_
   obtain ⟨ar, dg, dh⟩ := BS cy
   refine Bp (p := fun X => BG K.w0.heap.size 36 35 1 (iE .i64) cx a5 n8 n8 ar X) (K5.back bp bq aj dg) (pT (pA ((fS fP).trans (pA pR))) (lp (lp (lp (ln rfl))))) ?_; intro br bu
   refine Aa (Ax (id := 1) (An ?_))
   refine uv (AY rfl rfl (A8.CC ae av (Au.lt al))) ?_
   refine um (Aa ?_)
   subst aw; exact le kr ⟨_, _, rfl, az, ar, br, dh, (ah.trans ai), rfl, z4, bu⟩
  obtain rfl := A8.zero ae av
  rw [CV] at au
  refine AL (Am (Am ?_))
  refine AA ?_
  obtain rfl := AH au
  exact mi kr ⟨a6, ah, rfl, z1, aa⟩
 rintro e1 ec _ ⟨ab, di, rfl, bw, bx⟩
 refine Az _ bw ?_
 refine AI (um (ua (Aa (As ?_))))
 refine BD results75 ?_
 obtain rfl := AH ca
 exact ⟨_, _, _, _, rfl, rfl, bx.any⟩
set_option maxHeartbeats 1000000 in
theorem D1 (aa : Au 1 (Bm 1 (iE .i64)) F Ac Ad Ab) (a6 : Au 1 (Bm 1 (iE .i64)) F Aj Ai Af) {r r2 : List (List Int)} (hr : DS Ab Af = some (r, r2)) :
    SH.Spec Tryz.prog 18 #[.agg #[.slice Ac Ab.length Ad, .slice Aj Af.length Ai]] F [] fun F' L' v => ∃ (ra : Option Addr) (rn : Nat) (rc : Nat) (rL : LH) (au : Option Addr) (av : Nat) (aw : Nat) (ax : LH), v = .agg #[.slice ra rn rc, .slice au av aw] ∧ L' = rL ++ (ax ++ []) ∧ BG 0 22 3 1 (iE .i64) F' ra rn rc r rL ∧ BG 0 36 35 1 (iE .i64) F' au av aw r2 ax := by
 refine sp func18 ntmps18 fun K _ _ => ?_
 rw [DS] at hr
 refine AI ?_
 refine By rfl rfl ?_; intro b1 bg
 refine A1 rfl zeroValue26 ?_; intro b2 bh
 refine Aa (At ?_)
 refine Bd [(.still, 0), (.still, 1), (.still, 3), (.still, 4), (.seq, 2), (.seq, 5), (.still, 6), (.seq, 7)] (by kernel_rfl) (by kernel_rfl) (trivial) (by rfl) (by kernel_rfl) (mS [1] rfl (Av Cy rfl) (mL [3] ([(b1, ce #[.slice Ac Ab.length Ad, .slice Aj Af.length Ai] 26)]) rfl (s0 (s1 (s2 sr))) (fun H F' L' ao aq => Ao isAgg23 rfl ((Has.own 0 rfl).ext ao aq) rfl) (mS [1] rfl (Av Bz rfl) (mL [6] ([(b1, ce #[.slice Ac Ab.length Ad, .slice Aj Af.length Ai] 26)]) rfl (s0 (s1 (s2 sr))) (fun H F' L' ao aq => Ao isAgg24 rfl ((Has.own 0 rfl).ext ao aq) rfl) ?_))))
 refine ⟨_, [(4, .slice Ac Ab.length Ad)], rfl, rfl, z1, by kernel_rfl, ?_⟩; intro H
 obtain ⟨l, h3, r4⟩ := AB hr
 refine c0 call31 (IB aa h3) ?_; rintro _ F5 _ ay az ⟨a9, ah, ai, ba, rfl, rfl, ab⟩
 replace a6 := a6.mono (Ak (Ae _)) ay
 replace ab := ab.new fun p hp => az p (by simp [hp])
 refine AD (lp (ln rfl)) (kO (kf (fS fO) (kf (fS fO) kr)) ?_)
 refine Aa ⟨_, rfl, ay, [4, 3], by kernel_rfl, .inl (.inr (fun d h => by cases h; rfl)), (fc (s0 (s1 (s2 (s3 sr)))) (fc sm nm)), ?_⟩
 refine ⟨_, [(7, .slice Aj Af.length Ai)], rfl, rfl, z1, by kernel_rfl, ?_⟩; intro H
 obtain ⟨l2, bb, bc⟩ := AB r4
 refine c0 call75 (Kx a6 bb) ?_; rintro _ bj _ ae ar ⟨aj, ak, al, bd, rfl, rfl, ad⟩
 replace ab := ab.mono (Ae _) ae
 replace ad := ad.new fun p hp => ar p (by simp [hp])
 refine AD (lp (ln rfl)) (kO (kf (fS fO) (kf (fS fO) kr)) ?_)
 refine Aa ⟨_, rfl, ae, [], by kernel_rfl, .inl (.inl rfl), nm, ?_⟩
 refine mS (v := .agg #[.slice a9 ah ai, .slice aj ak al]) [5, 8] rfl (BL (v := .agg #[.slice a9 ah ai, .slice aj ak al]) rfl (by intro w; kernel_rfl)) ?_
 refine ⟨_, [(2, .pointer (some ⟨b2, 0, none⟩)), (9, .agg #[.slice a9 ah ai, .slice aj ak al])], rfl, rfl, z2, by kernel_rfl, ?_⟩; intro H
 refine A6 (i := 0) sizeOf26 rfl rfl rfl (by simp [Value.oneCell']) rfl (A5 rfl) (AD rfl ?_)
 refine Aa ⟨undef, rfl, AN.refl _, [], by kernel_rfl, .inl (.inl rfl), nm, ?_⟩
 refine BC (kW (kc (kd (kg (fS fP) kr))) (As (Lm results18 (CK (cs := #[.slice a9 ah ai, .slice aj ak al]) isAgg26 sizeOf26 rfl (Has.own 0 rfl) (A5 rfl) rfl) (s1 (s4 (s4 sr))) ?_)))
 obtain ⟨rfl, rfl⟩ := BT bc
 exact ⟨_, _, _, _, _, _, _, _, rfl, rfl, ab.any, ad.any⟩
set_option maxHeartbeats 1000000 in
theorem C0 (ab : Au 1 (Bm 1 (iE .i64)) F Ac Ad Ab) (aa : Au 1 (Bm 1 (iE .i64)) F Aj Ai Af) {r r2 : List (List Int)} (hr : Cw Ab Af = some (r, r2)) :
    SH.Spec Tryz.prog 19 #[.agg #[.slice Ac Ab.length Ad, .slice Aj Af.length Ai]] F [] fun F' L' v => ∃ (ra : Option Addr) (rc : Nat) (dg : Option Addr) (dh : Nat) (di : Nat) (dk : LH), v = .agg #[.slice ra r.length rc, .slice dg dh di] ∧ L' = dk ++ [] ∧ Au 1 (Bm 1 (iE .i64)) F' ra rc r ∧ AW 0 22 1 (Bm 1 (iE .i64)) F' dg dh di r2 dk := by
 refine sp func19 ntmps19 fun K _ _ => ?_
 rw [Cw] at hr
 refine AI ?_
 refine By rfl rfl ?_; intro b1 fl
 refine A1 rfl zeroValue51 ?_; intro b2 fm
 refine BI (uv (Av Cy rfl) (uv (Ao isAgg23 rfl (Has.own 1 rfl) rfl) ?_))
 refine uv (BL (v := .agg #[.slice Ac Ab.length Ad, .slice none 0 0]) rfl (by intro w; kernel_rfl)) ?_
 refine A1 rfl zeroValue51 ?_; intro b3 fo
 refine A6 (i := 0) sizeOf51 rfl rfl rfl (by simp [Value.oneCell']) rfl (A5 rfl) (AD rfl (Aa ?_))
 obtain ⟨ae, eb, dm⟩ := AB hr
 refine AK (fun e1 F1 L1 => ∃ (a4 : Option Addr) (n8 : Nat) (c5 : Nat) (cc : LH), AN F F1 ∧ L1 = ((b3, ce #[.slice Ac Ab.length Ad, .slice a4 n8 c5] 51) :: ((b2, ce #[.slice none 0 0, .slice none 0 0] 51) :: (cc ++ []))) ∧ e1.sub [(2, .pointer (some ⟨b2, 0, none⟩)), (3, .pointer (some ⟨b3, 0, none⟩))] ∧ AW K.w0.heap.size 22 1 (Bm 1 (iE .i64)) F1 a4 n8 c5 ae cc) ?_ ?_
 ·clear dm
  refine AI (uv (Av Bz rfl) (uv (Ao isAgg24 rfl (Has.own 2 rfl) rfl) (uv (AJ underlying24 rfl) ?_)))
  refine um (Aa ?_)
  refine Ap (kW (kc (kc kn)) ?_)
  refine A2 (fun dp e1 F1 L1 => LA Af dp fun tl k => ∃ (a6 : List (List Int)) (aq : Option Addr) (ar : Nat) (au : Nat) (ai : LH), Eb tl a6 = some ae ∧ AN F F1 ∧ L1 = ((b3, ce #[.slice Ac Ab.length Ad, .slice aq ar au] 51) :: ((b2, ce #[.slice none 0 0, .slice none 0 0] 51) :: (ai ++ []))) ∧ e1.sub [(2, .pointer (some ⟨b2, 0, none⟩)), (3, .pointer (some ⟨b3, 0, none⟩)), (13, .slice Aj Af.length Ai), (14, .int .i64 (Af.length : Int)), (15, .int .i64 k)] ∧ AW K.w0.heap.size 22 1 (Bm 1 (iE .i64)) F1 aq ar au a6 ai) _ (m0 (kc (kc (ke kr))) ⟨_, _, rfl, A8.start _, [], none, 0, 0, [], eb, AN.refl _, rfl, z5, AW.nil _ _ _ _ _⟩) ?_
  rintro dp e1 cd _ ⟨tl, k, cf, aw, a6, aq, ar, au, ai, bo, ax, rfl, cg, al⟩
  refine Az _ cg ?_
  replace aa := aa.mono (Ak (Ae _)) ax
  refine AI (uv (AV rfl rfl) ?_)
  refine Aa (At ?_)
  refine cQ (fun bp => ?_) fun bp => ?_
  ·obtain ⟨x, fp, rfl, cj, dq, ck⟩ := A8.succ aw bp
   rw [Eb] at bo
   refine Aq ?_
   obtain ⟨ad, ec, dr⟩ := AB bo
   refine AK (fun e1 F1 L1 => ∃ (bq : Option Addr) (br : Nat) (bu : Nat) (ao : LH), AN cd F1 ∧ L1 = ((b3, ce #[.slice Ac Ab.length Ad, .slice bq br bu] 51) :: ((b2, ce #[.slice none 0 0, .slice none 0 0] 51) :: (ao ++ []))) ∧ e1.sub [(2, .pointer (some ⟨b2, 0, none⟩)), (3, .pointer (some ⟨b3, 0, none⟩)), (13, .slice Aj Af.length Ai), (14, .int .i64 (Af.length : Int)), (15, .int .i64 k)] ∧ AW K.w0.heap.size 22 1 (Bm 1 (iE .i64)) F1 bq br bu ad ao) ?_ ?_
   ·clear dr
    refine Ap (AI ?_)
    obtain ⟨fq, fs, ft, ef, cn, cp, dt, ⟨eg, eh, rfl, du⟩, ei, cq⟩ := Au.at (Ak (Ae _)) aa ((b3, ce #[.slice Ac Ab.length Ad, .slice aq ar au] 51) :: ((b2, ce #[.slice none 0 0, .slice none 0 0] 51) :: (ai ++ []))) dq.1 cj
    refine uv (AF underlying24 sizeOf36 rfl cn rfl dq) (uv (Ao isAgg36 rfl cp (cq 0 (by decide))) ?_)
    refine ua (BI (ua (Aa ?_)))
    obtain ⟨marks, ej, dv⟩ := AB ec
    refine AK (fun e1 F1 L1 => ∃ (ba : Option Addr) (bc : Nat) (bb : Nat) (ay : LH), cd = F1 ∧ L1 = ((b3, ce #[.slice Ac Ab.length Ad, .slice aq ar au] 51) :: ((b2, ce #[.slice none 0 0, .slice none 0 0] 51) :: (ai ++ (ay ++ [])))) ∧ e1.sub [(2, .pointer (some ⟨b2, 0, none⟩)), (3, .pointer (some ⟨b3, 0, none⟩)), (6, .slice ba bc bb), (13, .slice Aj Af.length Ai), (14, .int .i64 (Af.length : Int)), (15, .int .i64 k)] ∧ AW K.w0.heap.size 3 1 (iE .i64) F1 ba bc bb marks ay) ?_ ?_
    ·clear dv
     refine AI (um ?_)
     refine uv (AJ underlying36 rfl) ?_
     refine um (Aa ?_)
     refine Ap ?_
     refine A2 (fun dw e1 F1 L1 => LA x dw fun dx k2 => ∃ (ah : List Int) (bw : Option Addr) (bx : Nat) (bz : Nat) (aj : LH), Ef dx ah = some marks ∧ cd = F1 ∧ L1 = ((b3, ce #[.slice Ac Ab.length Ad, .slice aq ar au] 51) :: ((b2, ce #[.slice none 0 0, .slice none 0 0] 51) :: (ai ++ (aj ++ [])))) ∧ e1.sub [(2, .pointer (some ⟨b2, 0, none⟩)), (3, .pointer (some ⟨b3, 0, none⟩)), (6, .slice bw bx bz), (13, .slice Aj Af.length Ai), (14, .int .i64 (Af.length : Int)), (15, .int .i64 k), (19, .slice eg x.length eh), (20, .int .i64 (x.length : Int)), (21, .int .i64 k2)] ∧ AW K.w0.heap.size 3 1 (iE .i64) F1 bw bx bz ah aj) _ (m0 (kc (kc (ka (ke kr)))) ⟨_, _, rfl, A8.start _, [], none, 0, 0, [], ej, rfl, rfl, (sc rfl z8), AW.nil _ _ _ _ _⟩) ?_
     rintro dw e1 _ _ ⟨dx, k2, cr, az, ah, bw, bx, bz, aj, ca, rfl, rfl, ct, bd⟩
     refine Az _ ct (AI (uv (AV rfl rfl) ?_))
     refine Aa (At ?_)
     refine cQ (fun cb => ?_) fun cb => ?_
     ·obtain ⟨x2, fv, rfl, cu, dy, cv⟩ := A8.succ az cb
      rw [Ef] at ca
      refine Aq (At ?_)
      refine Ap (AI ?_)
      obtain ⟨fw, fx, fy, en, cw, cx, dz, rfl, eo, cy⟩ := Au.at (Ae _) du ((b3, ce #[.slice Ac Ab.length Ad, .slice aq ar au] 51) :: ((b2, ce #[.slice none 0 0, .slice none 0 0] 51) :: (ai ++ (aj ++ [])))) dy.1 cu
      refine uv (AF underlying36 sizeOf35 rfl cw rfl dy) (uv (Ao isAgg35 rfl cx (cy 0 (by decide))) ?_)
      refine ua (Aa (An (um (um ?_))))
      refine bA (cs := #[.int .i64 x2]) BN [.int .i64 x2] ?_; intro g0 ep
      obtain ⟨ak, er, et, eu⟩ := E0 ca
      refine Dm (xs := ah) (ys := [x2]) (zs := ak) rfl BN rfl rfl (Nat.le_refl _) (fun _ => .c (.c (.c (.s .h)))) bd (GO.box (vss := [[.int .i64 x2]]) (ys := [x2]) 0 rfl (Ae _) (.cons rfl .nil) rfl rfl) er et (by decide) ?_; intro ew ey ez cz da
      refine kO (kd kr) ?_
      refine ua (Aa (Ax (id := 3) (An ?_)))
      refine uv (AY rfl rfl (A8.CC az cb (Au.lt du))) ?_
      refine um (Aa ?_)
      subst cr; exact le kr ⟨_, _, rfl, cv, ak, ew, ey, ez, cz, eu, rfl, rfl, (sc rfl z8), da⟩
     obtain rfl := A8.zero az cb
     rw [Ef] at ca
     refine AL (Am (Am ?_))
     refine AA ?_
     obtain rfl := AH ca
     exact mi kr ⟨bw, bx, bz, aj, rfl, rfl, z6, bd⟩
    rintro e1 _ _ ⟨ba, bc, bb, ay, rfl, rfl, db, bg⟩
    refine Az _ db (An (uv (Av DQ rfl) (uv (Ao isAgg23 rfl (Has.own 0 rfl) rfl) (um ?_))))
    refine bA (cs := #[.slice ba bc bb]) FP [.slice ba bc bb] ?_; intro g8 fa
    obtain rfl := (AW.Be bg).1
    refine Fa (Nat.le_refl _) (Ae _) (fC (fC (fC (fS fP)))) bg ?_; intro ga bh fb
    replace al := al.mono (Ak (Ae _)) bh
    obtain ⟨out, fe, ff, fg⟩ := E0 dv
    refine Dm (xs := a6) (ys := [marks]) (zs := out) rfl FP rfl rfl (Nat.le_refl _) (fun _ => .c (.c (.c .h))) al (GO.box (vss := [[.slice ba marks.length bb]]) (ys := [marks]) 0 rfl (Ak (Ae _)) (.cons ⟨_, _, rfl, fb⟩ .nil) rfl rfl) fe ff (by decide) ?_; intro fh dd de bj bk
    refine kO (kd kr) (uv (Av DQ rfl) (A0 (i := 0) sizeOf23 rfl rfl rfl rfl (A5 rfl) (AD rfl ?_)))
    refine Aa (Ax (id := 1) ?_)
    obtain rfl := AH fg
    exact mi kr ⟨fh, dd, de, bj, bh, rfl, z5, bk⟩
   rintro e1 fi _ ⟨bq, br, bu, ao, av, rfl, bl, df⟩
   refine Az _ bl ?_
   replace aa := aa.mono (Ak (Ae _)) av
   refine An (uv (AY rfl rfl (A8.CC aw bp (Au.lt aa))) ?_)
   refine um (Aa ?_)
   subst cf; exact le kr ⟨_, _, rfl, ck, ad, bq, br, bu, ao, dr, (ax.trans av), rfl, z5, df⟩
  obtain rfl := A8.zero aw bp
  rw [Eb] at bo
  refine AL (Am (Am ?_))
  refine AA ?_
  obtain rfl := AH bo
  exact mi kr ⟨aq, ar, au, ai, ax, rfl, z2, al⟩
 rintro e1 fj _ ⟨a4, n8, c5, cc, bm, rfl, bn, fk⟩
 refine Az _ bn ?_
 replace ab := ab.mono (Ak (Ae _)) bm
 refine AI (uv (AE isAgg51 sizeOf51 rfl (Has.own 0 rfl) (A5 rfl) rfl) (A6 (i := 1) sizeOf51 rfl rfl rfl (by simp [Value.oneCell']) rfl (A5 rfl) (AD rfl (Aa (kW (kd kr) (As (Lm results19 (CK (cs := #[.slice Ac Ab.length Ad, .slice a4 n8 c5]) isAgg51 sizeOf51 rfl (Has.own 0 rfl) (A5 rfl) rfl) (s1 (s4 sr)) ?_)))))))
 obtain ⟨rfl, rfl⟩ := BT dm
 exact ⟨_, _, _, _, _, _, rfl, rfl, ab, fk.any⟩
theorem ES {n lo hi : Int} {r : Bool} (hr : Ev n lo hi = some r) :
    Ba Tryz.prog 76 #[.int .i64 n, .int .i64 lo, .int .i64 hi] F (.bool r) := by
 refine sp func76 ntmps76 fun K _ _ => ?_
 rw [Ev] at hr
 refine AI (ua (BI (um (um ?_))))
 refine uv (AV rfl rfl) (um ?_)
 by_cases c1 : n < lo
 ·have r2 := AQ hr c1
  refine fT c1 (fT c1 (fT c1 ?_))
  refine uv (Aw (AS rfl c1) rfl) ?_
  refine ua (Aa (As ?_))
  refine BD results76 ?_
  obtain rfl := AH r2
  exact rfl
 have r3 := AR hr c1
 refine nF c1 (um (nF c1 (um (nF c1 ?_))))
 refine uv (Em rfl rfl) (uv (Ar (AM rfl c1) rfl) ?_)
 refine ua (Aa (As ?_))
 refine BD results76 ?_
 obtain rfl := AH r3
 exact rfl
set_option maxHeartbeats 1000000 in
theorem Dl (a6 : Au 1 (Bm 1 (iE .i64)) F Ac Ad Ab) (aa : Au 1 (Bm 1 (iE .i64)) F Aj Ai Af) {r : Int} (hr : CX Ab Af = some r) :
    Ba Tryz.prog 20 #[.agg #[.slice Ac Ab.length Ad, .slice Aj Af.length Ai]] F (.int .i64 r) := by
 refine sp func20 ntmps20 fun K _ _ => ?_
 rw [CX] at hr
 refine AI ?_
 refine By rfl rfl ?_; intro b1 jb
 refine ua (BI ?_)
 refine uv (Av Hs rfl) (uv (Ao isAgg23 rfl (Has.own 0 rfl) rfl) (uv (AJ underlying23 rfl) ?_))
 refine ua (Aa (At ?_))
 obtain ⟨k, h2, r3⟩ := AB hr
 refine jE ([(b1, ce #[.slice Ac Ab.length Ad, .slice Aj Af.length Ai] 51)]) [(1, .pointer (some ⟨b1, 0, none⟩)), (3, .int .i64 (Ab.length : Int)), (21, .bool k)] ?_ ?_
 ·clear r3
  refine An (um ?_)
  obtain ⟨ok, h4, r5⟩ := AB h2
  refine cV call76 (ES h4) (um ?_)
  rcases Bf ok with c6 | c6
  ·have r7 := bt r5 c6
   refine fB c6 (fB c6 (fB c6 (fB c6 ?_)))
   refine uv (Aw (En rfl c6) rfl) (Aa ?_)
   obtain rfl := AH r7
   exact mi kr ⟨rfl, rfl, z3⟩
  have r8 := bf r5 c6
  refine nB c6 (uv (Av DQ rfl) (nB c6 (uv (Ao isAgg23 rfl (Has.own 0 rfl) rfl) (nB c6 (uv (AJ underlying23 rfl) (nB c6 ?_))))))
  obtain ⟨jc, h9, gu⟩ := AB r8
  refine cV call76 (ES h9) (uv (Ar (En rfl c6) rfl) (Aa ?_))
  obtain rfl := AH gu
  exact mi kr ⟨rfl, rfl, z3⟩
 refine AT rfl (fun df => ?_) (fun df => ?_)
 ·have gv := bt r3 df
  refine AI (ua (Aa ?_))
  refine kW kn ?_
  refine As (Al ?_)
  refine BD results20 ?_
  obtain rfl := AH gv
  exact rfl
 have gw := bf r3 df
 refine Aq ?_
 refine AK (fun e1 F1 L1 => H3 Ab Af = some r ∧ F = F1 ∧ L1 = [(b1, ce #[.slice Ac Ab.length Ad, .slice Aj Af.length Ai] 51)] ∧ e1.sub [(1, .pointer (some ⟨b1, 0, none⟩)), (3, .int .i64 (Ab.length : Int))]) ?_ ?_
 ·refine AI (ua (Aa ?_))
  refine Ap ?_
  refine A2 (fun fk e1 F1 L1 => LA Af fk fun tl h => ED Ab Af tl = some r ∧ F = F1 ∧ L1 = [(b1, ce #[.slice Ac Ab.length Ad, .slice Aj Af.length Ai] 51)] ∧ e1.sub [(1, .pointer (some ⟨b1, 0, none⟩)), (3, .int .i64 (Ab.length : Int)), (4, .int .i64 h)]) _ (m0 kr ⟨_, _, rfl, A8.start _, gw, rfl, rfl, z3⟩) ?_
  rintro fk e1 _ _ ⟨tl, h, dg, ak, av, rfl, rfl, dh⟩
  refine Az _ dh ?_
  refine At (AI (um ?_))
  refine uv (Av DQ rfl) (uv (Ao isAgg23 rfl (Has.own 0 rfl) rfl) (uv (AJ underlying23 rfl) (uv (AV rfl rfl) (Aa ?_))))
  refine cQ (fun cu => ?_) fun cu => ?_
  ·obtain ⟨x, jd, rfl, di, fl, dk⟩ := A8.succ ak cu
   rw [ED] at av
   refine Aq (At ?_)
   refine Ap (AI (uv (Av DQ rfl) (uv (Ao isAgg23 rfl (Has.own 0 rfl) rfl) (um ?_))))
   obtain ⟨je, jf, jg, gx, dm, dp, fm, ⟨jh, ji, rfl, jj⟩, gy, dq⟩ := Au.at (Ak (Ae _)) aa ([(b1, ce #[.slice Ac Ab.length Ad, .slice Aj Af.length Ai] 51)]) fl.1 di
   refine uv (AF underlying23 sizeOf22 rfl dm rfl fl) (uv (Ao isAgg22 rfl dp (dq 0 (by decide))) (uv (AJ underlying22 rfl) (um (uv (BH rfl rfl) (Aa ?_)))))
   refine cQ (fun dr => ?_) fun dr => ?_
   ·have gz := AQ av dr
    refine AI (ua (Aa ?_))
    refine kW kn ?_
    refine As (Ay (Al (Al (Ay (Al ?_)))))
    refine BD results20 ?_
    obtain rfl := AH gz
    exact rfl
   have ia := AR av dr
   refine Aq (Ax (id := 1) (An (um ?_)))
   refine uv (AY rfl rfl (A8.CC ak cu (Au.lt aa))) ?_
   refine ua (Aa ?_)
   subst dg; exact le kr ⟨_, _, rfl, dk, ia, rfl, rfl, z3⟩
  obtain rfl := A8.zero ak cu
  rw [ED] at av
  refine AL (Am (Am ?_))
  refine AA ?_
  exact mi kr ⟨av, rfl, rfl, z2⟩
 rintro e1 _ _ ⟨fo, rfl, rfl, dt⟩
 refine Az _ dt ?_
 rw [H3] at fo
 refine AK (fun e1 F1 L1 => H5 Ab Af = some r ∧ F = F1 ∧ L1 = [(b1, ce #[.slice Ac Ab.length Ad, .slice Aj Af.length Ai] 51)] ∧ e1.sub [(1, .pointer (some ⟨b1, 0, none⟩)), (3, .int .i64 (Ab.length : Int))]) ?_ ?_
 ·refine AI (ua (Aa ?_))
  refine Ap ?_
  refine A2 (fun fp e1 F1 L1 => LA Ab fp fun fq i => B4 Ab Af fq i = some r ∧ F = F1 ∧ L1 = [(b1, ce #[.slice Ac Ab.length Ad, .slice Aj Af.length Ai] 51)] ∧ e1.sub [(1, .pointer (some ⟨b1, 0, none⟩)), (3, .int .i64 (Ab.length : Int)), (5, .int .i64 i)]) _ (m0 kr ⟨_, _, rfl, A8.start _, fo, rfl, rfl, z3⟩) ?_
  rintro fp e1 _ _ ⟨fq, i, du, al, cv, rfl, rfl, dv⟩
  refine Az _ dv ?_
  refine At (AI (um (um ?_)))
  refine uv (AV rfl rfl) (Aa ?_)
  refine cQ (fun cw => ?_) fun cw => ?_
  ·obtain ⟨x2, cx, rfl, dw, fs, dx⟩ := A8.succ al cw
   rw [B4] at cv
   refine Aq ?_
   refine AK (fun e1 F1 L1 => Ih i (B4 Ab Af cx) = some r ∧ F = F1 ∧ L1 = [(b1, ce #[.slice Ac Ab.length Ad, .slice Aj Af.length Ai] 51)] ∧ e1.sub [(1, .pointer (some ⟨b1, 0, none⟩)), (3, .int .i64 (Ab.length : Int)), (5, .int .i64 i)]) ?_ ?_
   ·refine Ap (AI (uv (Av Hs rfl) (uv (Ao isAgg23 rfl (Has.own 0 rfl) rfl) (um ?_))))
    obtain ⟨jk, jl, jm, ib, dy, dz, ft, ⟨eb, ec, rfl, cy⟩, ic, ef⟩ := Au.at (Ak (Ae _)) a6 ([(b1, ce #[.slice Ac Ab.length Ad, .slice Aj Af.length Ai] 51)]) fs.1 dw
    refine uv (AF underlying23 sizeOf22 rfl dy rfl fs) (uv (Ao isAgg22 rfl dz (ef 0 (by decide))) ?_)
    refine ua (BI (ua (Aa ?_)))
    refine Ap ?_
    refine A2 (fun fv e1 F1 L1 => LA x2 fv fun fw k2 => C1 i x2 (B4 Ab Af cx) fw k2 = some r ∧ F = F1 ∧ L1 = [(b1, ce #[.slice Ac Ab.length Ad, .slice Aj Af.length Ai] 51)] ∧ e1.sub [(1, .pointer (some ⟨b1, 0, none⟩)), (3, .int .i64 (Ab.length : Int)), (5, .int .i64 i), (6, .slice eb x2.length ec), (7, .int .i64 k2)]) _ (m0 kr ⟨_, _, rfl, A8.start _, cv, rfl, rfl, z5⟩) ?_
    rintro fv e1 _ _ ⟨fw, k2, eg, ao, CC, rfl, rfl, eh⟩
    refine Az _ eh ?_
    refine At (AI (um (um ?_)))
    refine uv (AJ underlying22 rfl) (uv (AV rfl rfl) (Aa ?_))
    refine cQ (fun cz => ?_) fun cz => ?_
    ·obtain ⟨x3, fx, rfl, aw, da, ei⟩ := A8.succ ao cz
     rw [C1] at CC
     refine Aq ?_
     refine AK (fun e1 F1 L1 => H6 k2 (C1 i x2 (B4 Ab Af cx) fx) = some r ∧ F = F1 ∧ L1 = [(b1, ce #[.slice Ac Ab.length Ad, .slice Aj Af.length Ai] 51)] ∧ e1.sub [(1, .pointer (some ⟨b1, 0, none⟩)), (3, .int .i64 (Ab.length : Int)), (5, .int .i64 i), (6, .slice eb x2.length ec), (7, .int .i64 k2)]) ?_ ?_
     ·refine Ap ?_
      refine At (AI (um (um ?_)))
      obtain ⟨jn, jo, jq, ie, ej, en, fy, rfl, ig, eo⟩ := Au.at (Ae _) cy ([(b1, ce #[.slice Ac Ab.length Ad, .slice Aj Af.length Ai] 51)]) da.1 aw
      refine uv (AF underlying22 sizeOf3 rfl ej rfl da) (uv (Ao isAgg3 rfl en (eo 0 (by decide))) (um ?_))
      obtain ⟨ij, ik⟩ := AX CC
      refine uv (C7 rfl rfl ij) ?_
      obtain ⟨jr, il, g0⟩ := AB ik
      refine cV call76 (ES il) (Aa ?_)
      refine AT rfl (fun ep => ?_) (fun ep => ?_)
      ·have im := bt g0 ep
       refine AI (ua (Aa ?_))
       refine kW kn ?_
       refine As (Al (Ay (Al (Al (Ay (Ay (Al (Al (Ay ?_)))))))))
       refine Al (BD results20 ?_)
       obtain rfl := AH im
       exact rfl
      have iq := bf g0 ep
      refine Aq (AI (ua (Aa ?_)))
      refine Ap ?_
      obtain ⟨ir, iu⟩ := AX iq
      refine A2 (fun db e1 F1 L1 => ∃ (j : Int), CZ 0 k2 j db ∧ EI x2 k2 x3 (C1 i x2 (B4 Ab Af cx) fx) db j = some r ∧ F = F1 ∧ L1 = [(b1, ce #[.slice Ac Ab.length Ad, .slice Aj Af.length Ai] 51)] ∧ e1.sub [(1, .pointer (some ⟨b1, 0, none⟩)), (3, .int .i64 (Ab.length : Int)), (5, .int .i64 i), (6, .slice eb x2.length ec), (7, .int .i64 k2), (8, .int .i64 j)]) _ (m0 kr ⟨_, CZ.start _ _, iu, rfl, rfl, z6⟩) ?_
      rintro db e1 _ _ ⟨j, aq, dd, rfl, rfl, er⟩
      refine Az _ er ?_
      refine At (AI (um (um ?_)))
      refine uv (AV rfl rfl) (Aa ?_)
      refine cQ (fun de => ?_) fun de => ?_
      ·obtain ⟨db, rfl, et⟩ := CZ.succ aq de
       rw [EI] at dd
       refine Aq (At ?_)
       refine Ap (dW ?_)
       refine wm (wm ?_)
       obtain ⟨x4, g8, eu, ga⟩ := A7 dd
       obtain ⟨js, iv, iw, gb, ax, ay, ew, rfl, gg, az⟩ := Au.at (Ae _) cy ([(b1, ce #[.slice Ac Ab.length Ad, .slice Aj Af.length Ai] 51)]) g8.1 eu
       refine wv (AF underlying22 sizeOf3 rfl ax rfl g8) (wv (Ao isAgg3 rfl ay (az 0 (by decide))) ?_)
       refine wm (wm ?_)
       obtain ⟨iy, iz, j0, gh, ba, bb, ey, rfl, gi, bc⟩ := Au.at (Ae _) cy ([(b1, ce #[.slice Ac Ab.length Ad, .slice Aj Af.length Ai] 51)]) da.1 aw
       refine wv (AF underlying22 sizeOf3 rfl ba rfl da) (wv (Ao isAgg3 rfl bb (bc 0 (by decide))) (wv (Bb rfl rfl) (BV ?_)))
       refine cQ (fun ar => ?_) fun ar => ?_
       ·have ez := AQ ga ar
        refine AI (ua (Aa ?_))
        refine kW kn ?_
        refine As (Ay (Al (Al (Ay (Ay (Al (Al (Ay (Ay ?_)))))))))
        refine Al (Al (Ay (Al ?_)))
        refine BD results20 ?_
        obtain rfl := AH ez
        exact rfl
       have fa := AR ga ar
       refine Aq (Ax (id := 7) (An (um ?_)))
       refine uv (AY rfl rfl (CZ.CC aq de ir)) ?_
       refine ua (Aa ?_)
       exact le kr ⟨_, et, fa, rfl, rfl, z6⟩
      obtain rfl := CZ.zero aq de
      rw [EI] at dd
      refine AL (Am (Am ?_))
      refine AA (Ax (id := 5) ?_)
      exact mi kr ⟨dd, rfl, rfl, z5⟩
     rintro e1 _ _ ⟨bd, rfl, rfl, bg⟩
     refine Az _ bg ?_
     rw [H6] at bd
     refine An (um ?_)
     refine uv (AY rfl rfl (A8.CC ao cz (Au.lt cy))) ?_
     refine ua (Aa ?_)
     subst eg; exact le kr ⟨_, _, rfl, ei, bd, rfl, rfl, z5⟩
    obtain rfl := A8.zero ao cz
    rw [C1] at CC
    refine AL (Am (Am ?_))
    refine AA (Ax (id := 3) ?_)
    exact mi kr ⟨CC, rfl, rfl, z3⟩
   rintro e1 _ _ ⟨bh, rfl, rfl, bj⟩
   refine Az _ bj ?_
   rw [Ih] at bh
   refine An (um ?_)
   refine uv (AY rfl rfl (A8.CC al cw (Au.lt a6))) ?_
   refine ua (Aa ?_)
   subst du; exact le kr ⟨_, _, rfl, dx, bh, rfl, rfl, z3⟩
  obtain rfl := A8.zero al cw
  rw [B4] at cv
  refine AL (Am (Am ?_))
  refine AA ?_
  exact mi kr ⟨cv, rfl, rfl, z2⟩
 rintro e1 _ _ ⟨bk, rfl, rfl, bl⟩
 refine Az _ bl ?_
 rw [H5] at bk
 refine AK (fun e1 F1 L1 => H9 = some r ∧ F = F1 ∧ L1 = [] ∧ e1.sub []) ?_ ?_
 ·refine AI (ua (Aa ?_))
  refine Ap ?_
  refine A2 (fun bm e1 F1 L1 => LA Af bm fun gj h2 => CH Ab gj = some r ∧ F = F1 ∧ L1 = [(b1, ce #[.slice Ac Ab.length Ad, .slice Aj Af.length Ai] 51)] ∧ e1.sub [(1, .pointer (some ⟨b1, 0, none⟩)), (3, .int .i64 (Ab.length : Int)), (9, .int .i64 h2)]) _ (m0 kr ⟨_, _, rfl, A8.start _, bk, rfl, rfl, z3⟩) ?_
  rintro bm e1 _ _ ⟨gj, h2, bn, ab, ae, rfl, rfl, bo⟩
  refine Az _ bo ?_
  refine At (AI (um ?_))
  refine uv (Av DQ rfl) (uv (Ao isAgg23 rfl (Has.own 0 rfl) rfl) (uv (AJ underlying23 rfl) (uv (AV rfl rfl) (Aa ?_))))
  refine cQ (fun ah => ?_) fun ah => ?_
  ·obtain ⟨x5, gk, rfl, bp, bq, br⟩ := A8.succ ab ah
   rw [CH] at ae
   refine Aq ?_
   refine AK (fun e1 F1 L1 => HG (CH Ab gk) = some r ∧ F = F1 ∧ L1 = [(b1, ce #[.slice Ac Ab.length Ad, .slice Aj Af.length Ai] 51)] ∧ e1.sub [(1, .pointer (some ⟨b1, 0, none⟩)), (3, .int .i64 (Ab.length : Int)), (9, .int .i64 h2)]) ?_ ?_
   ·refine Ap ?_
    refine AI (ua (Aa ?_))
    refine Ap ?_
    refine A2 (fun bu e1 F1 L1 => LA Ab bu fun gl i2 => Ea x5 (CH Ab gk) gl i2 = some r ∧ F = F1 ∧ L1 = [(b1, ce #[.slice Ac Ab.length Ad, .slice Aj Af.length Ai] 51)] ∧ e1.sub [(1, .pointer (some ⟨b1, 0, none⟩)), (3, .int .i64 (Ab.length : Int)), (9, .int .i64 h2), (10, .int .i64 i2)]) _ (m0 kr ⟨_, _, rfl, A8.start _, ae, rfl, rfl, z4⟩) ?_
    rintro bu e1 _ _ ⟨gl, i2, bw, ad, ai, rfl, rfl, bx⟩
    refine Az _ bx ?_
    refine At (AI (um (um ?_)))
    refine uv (AV rfl rfl) (Aa ?_)
    refine cQ (fun aj => ?_) fun aj => ?_
    ·obtain ⟨x6, j1, rfl, gm, j2, bz⟩ := A8.succ ad aj
     rw [Ea] at ai
     refine Aq (At ?_)
     refine Ap (AI (uv (Av DQ rfl) (uv (Ao isAgg23 rfl (Has.own 0 rfl) rfl) (um ?_))))
     obtain ⟨j3, j4, j5, gn, ca, cb, fb, ⟨j6, j7, rfl, fe⟩, gp, cc⟩ := Au.at (Ak (Ae _)) aa ([(b1, ce #[.slice Ac Ab.length Ad, .slice Aj Af.length Ai] 51)]) bq.1 bp
     refine uv (AF underlying23 sizeOf22 rfl ca rfl bq) (uv (Ao isAgg22 rfl cb (cc 0 (by decide))) (um ?_))
     obtain ⟨x7, cd, cf, ff⟩ := A7 ai
     obtain ⟨j8, j9, ja, gq, cg, cj, fg, rfl, gr, ck⟩ := Au.at (Ae _) fe ([(b1, ce #[.slice Ac Ab.length Ad, .slice Aj Af.length Ai] 51)]) cd.1 cf
     refine uv (AF underlying22 sizeOf3 rfl cg rfl cd) (uv (Ao isAgg3 rfl cj (ck 0 (by decide))) ?_)
     obtain ⟨jt, fh, cn⟩ := AB ff
     refine cV call76 (ES fh) (Aa ?_)
     refine AT rfl (fun au => ?_) (fun au => ?_)
     ·have fi := bt cn au
      refine AI (ua (Aa ?_))
      refine kW kn ?_
      refine As (Ay (Al (Al (Ay (Ay (Al (Al (Ay (Al ?_)))))))))
      refine BD results20 ?_
      obtain rfl := AH fi
      exact rfl
     have fj := bf cn au
     refine Aq (Ax (id := 11) (An (um ?_)))
     refine uv (AY rfl rfl (A8.CC ad aj (Au.lt a6))) ?_
     refine ua (Aa ?_)
     subst bw; exact le kr ⟨_, _, rfl, bz, fj, rfl, rfl, z4⟩
    obtain rfl := A8.zero ad aj
    rw [Ea] at ai
    refine AL (Am (Am ?_))
    refine AA (Ax (id := 9) ?_)
    exact mi kr ⟨ai, rfl, rfl, z3⟩
   rintro e1 _ _ ⟨cp, rfl, rfl, cq⟩
   refine Az _ cq ?_
   rw [HG] at cp
   refine An (um ?_)
   refine uv (AY rfl rfl (A8.CC ab ah (Au.lt aa))) ?_
   refine ua (Aa ?_)
   subst bn; exact le kr ⟨_, _, rfl, br, cp, rfl, rfl, z3⟩
  obtain rfl := A8.zero ab ah
  rw [CH] at ae
  refine AL (Am (Am ?_))
  refine AA ?_
  exact mi kn ⟨ae, rfl, rfl, (sn _)⟩
 rintro e1 _ _ ⟨cr, rfl, rfl, ct⟩
 refine Az _ ct ?_
 rw [H9] at cr
 refine AI (ua (Aa (As ?_)))
 refine BD results20 ?_
 obtain rfl := AH cr
 exact rfl
set_option maxHeartbeats 1000000 in
theorem Oy (a6 : Au 1 (Bm 1 (iE .i64)) F Ac Ad Ab) (aa : Au 1 (Bm 1 (iE .i64)) F Aj Ai Af) {r r2 : List (List Int)} (hr : LX Ab Af hour Bx m = some (r, r2, r3)) :
    SH.Spec Tryz.prog 21 #[.agg #[.slice Ac Ab.length Ad, .slice Aj Af.length Ai], .agg #[.int .i64 hour, .int .i64 Bx], .int .i64 m] F [] fun F' L' v => ∃ (ra : Option Addr) (rn : Nat) (rc : Nat) (rL : LH) (aj : Option Addr) (ak : Nat) (al : Nat) (ao : LH), v = .tuple #[.agg #[.slice ra rn rc, .slice aj ak al], .int .i64 r3] ∧ L' = rL ++ (ao ++ []) ∧ BG 0 22 3 1 (iE .i64) F' ra rn rc r rL ∧ BG 0 36 35 1 (iE .i64) F' aj ak al r2 ao := by
 refine sp func21 ntmps21 fun K _ _ => ?_
 rw [LX] at hr
 refine AI ?_
 refine By rfl rfl ?_; intro b1 bn
 refine By rfl rfl ?_; intro b2 bo
 refine A1 rfl zeroValue26 ?_; intro b3 bp
 refine ua (BI ?_)
 refine uv (AE isAgg26 sizeOf26 rfl (Has.own 2 rfl) (A5 rfl) rfl) ?_
 obtain ⟨n, h4, r5⟩ := AB hr
 refine cV call12 (GC a6 aa h4) ?_
 refine ua (Aa (At ?_))
 refine Ap ?_
 refine AI (um ?_)
 refine uv (BH rfl rfl) ?_
 refine ua (Aa ?_)
 refine cQ (fun c6 => ?_) fun c6 => ?_
 ·have r7 := AQ r5 c6
  refine AI ?_
  refine uv (BL (v := .agg #[.slice none 0 0, .slice none 0 0]) rfl (by intro w; kernel_rfl)) ?_
  refine um (A6 (i := 0) sizeOf26 rfl rfl rfl (by simp [Value.oneCell']) rfl (A5 rfl) (AD rfl ?_))
  refine ua (Aa ?_)
  refine kW (kc kn) ?_
  refine As (Ay (Al ?_))
  refine Bu results21 (CK (cs := #[.slice none 0 0, .slice none 0 0]) isAgg26 sizeOf26 rfl (Has.own 0 rfl) (A5 rfl) rfl) (AP rfl) (s1 sr) ?_
  obtain ⟨rfl, rfl, rfl⟩ := IK r7
  exact ⟨_, _, _, [], _, _, _, [], rfl, rfl, BG.nil _ _ _ _ _ _, BG.nil _ _ _ _ _ _⟩
 have r8 := AR r5 c6
 refine AI (uv (AE isAgg26 sizeOf26 rfl (Has.own 2 rfl) (A5 rfl) rfl) (uv (AE isAgg29 sizeOf29 rfl (Has.own 1 rfl) (A5 rfl) rfl) ?_))
 obtain ⟨ok, h9, aq⟩ := AB r8
 refine cV call77 (Jo a6 aa h9) (uv (BM rfl) ?_)
 refine ua (Aa ?_)
 refine AT rfl (fun ah => ?_) (fun ah => ?_)
 ·have au := bt aq ah
  refine AI ?_
  refine uv (BL (v := .agg #[.slice none 0 0, .slice none 0 0]) rfl (by intro w; kernel_rfl)) ?_
  refine A6 (i := 0) sizeOf26 rfl rfl rfl (by simp [Value.oneCell']) rfl (A5 rfl) (AD rfl ?_)
  refine ua (Aa ?_)
  refine kW (kc kn) ?_
  refine As (Ay (Al ?_))
  refine Bu results21 (CK (cs := #[.slice none 0 0, .slice none 0 0]) isAgg26 sizeOf26 rfl (Has.own 0 rfl) (A5 rfl) rfl) (AP rfl) (s1 sr) ?_
  obtain ⟨rfl, rfl, rfl⟩ := IK au
  exact ⟨_, _, _, [], _, _, _, [], rfl, rfl, BG.nil _ _ _ _ _ _, BG.nil _ _ _ _ _ _⟩
 have av := bf aq ah
 refine AI (um ?_)
 obtain ⟨bq, aw, ar⟩ := AB av
 refine cV call61 (JM aw) (uv (BM rfl) ?_)
 refine ua (Aa ?_)
 refine AT rfl (fun ai => ?_) (fun ai => ?_)
 ·have ax := bt ar ai
  refine AI ?_
  refine uv (BL (v := .agg #[.slice none 0 0, .slice none 0 0]) rfl (by intro w; kernel_rfl)) ?_
  refine A6 (i := 0) sizeOf26 rfl rfl rfl (by simp [Value.oneCell']) rfl (A5 rfl) (AD rfl ?_)
  refine ua (Aa ?_)
  refine kW (kc kn) ?_
  refine As (Ay (Al ?_))
  refine Bu results21 (CK (cs := #[.slice none 0 0, .slice none 0 0]) isAgg26 sizeOf26 rfl (Has.own 0 rfl) (A5 rfl) rfl) (AP rfl) (s1 sr) ?_
  obtain ⟨rfl, rfl, rfl⟩ := IK ax
  exact ⟨_, _, _, [], _, _, _, [], rfl, rfl, BG.nil _ _ _ _ _ _, BG.nil _ _ _ _ _ _⟩
 have ay := bf ar ai
 refine Aq (Ax (id := 0) (AI ?_))
 refine uv (AE isAgg26 sizeOf26 rfl (Has.own 2 rfl) (A5 rfl) rfl) (uv (AE isAgg29 sizeOf29 rfl (Has.own 1 rfl) (A5 rfl) rfl) (um ?_))
 obtain ⟨l, l2, az, ba⟩ := A9 ay
 refine c0 call78 (Il a6 aa az) ?_; rintro _ br _ bb ae ⟨bc, bd, bg, bh, bj, bk, bl, bm, rfl, rfl, ab, ad⟩
 replace ab := ab.new fun p hp => ae p (by simp [hp])
 replace ad := ad.new fun p hp => ae p (by simp [hp])
 refine AD (lp (lp (ln rfl))) (kO (kf (fS (fS fO)) (kf (fS (fS fO)) (kf (fS (fS fO)) kr))) (A6 (i := 0) sizeOf26 rfl rfl rfl (by simp [Value.oneCell']) rfl (A5 rfl) (AD rfl ?_)))
 refine ua (Aa ?_)
 refine kW (kc (kd (kd kr))) (As (Bu results21 (CK (cs := #[.slice bc bd bg, .slice bj bk bl]) isAgg26 sizeOf26 rfl (Has.own 0 rfl) (A5 rfl) rfl) (AP rfl) (s1 (s4 (s4 sr))) ?_))
 obtain ⟨rfl, rfl, rfl⟩ := IK ba
 exact ⟨_, _, _, _, _, _, _, _, rfl, rfl, ab.any, ad.any⟩
set_option maxHeartbeats 1000000 in
theorem Ie {s1 s2 : List (List Int)} (a6 : Au 1 (Bm 1 (iE .i64)) F Jk Jj s1) (ab : Au 1 (Bm 1 (iE .i64)) F Jq Js s2) (aa : KE Tryz.prog F PS eq_1 eq_2 (OC (Bm 1 (iE .i64)) (Bm 1 (iE .i64))) Value.bool eq) {r : Bool} (hr : Dg s1 s2 eq = some r) :
    Ba Tryz.prog 93 #[.slice Jk s1.length Jj, .slice Jq s2.length Js, .func (.func PS) eq_1 eq_2] F (.bool r) := by
 refine sp func93 ntmps93 fun K _ _ => ?_
 rw [Dg] at hr
 refine AI (ua (Aa (At (AI (um ?_)))))
 refine uv (AJ underlying23 rfl) (um (uv (AJ underlying23 rfl) (uv (BH rfl rfl) (Aa ?_))))
 refine cQ (fun c1 => ?_) fun c1 => ?_
 ·have r2 := AQ hr c1
  refine AI (ua (Aa (As (Al ?_))))
  refine BD results93 ?_
  obtain rfl := AH r2
  exact rfl
 have r3 := AR hr c1
 refine Aq ?_
 refine AK (fun e1 F1 L1 => CN = some r ∧ F = F1 ∧ L1 = [] ∧ e1.sub []) ?_ ?_
 ·refine AI (um ?_)
  refine uv (AJ underlying23 rfl) ?_
  refine um (Aa ?_)
  refine Ap ?_
  refine A2 (fun aw e1 F1 L1 => LA s1 aw fun tl k => BR s2 eq tl k = some r ∧ F = F1 ∧ L1 = [] ∧ e1.sub [(1, .slice Jq s2.length Js), (2, .func (.func PS) eq_1 eq_2), (15, .slice Jk s1.length Jj), (16, .int .i64 (s1.length : Int)), (17, .int .i64 k)]) _ (m0 kr ⟨_, _, rfl, A8.start _, r3, rfl, rfl, z5⟩) ?_
  rintro aw e1 _ _ ⟨tl, k, bd, ad, r6, rfl, rfl, bg⟩
  refine Az _ bg (AI (uv (AV rfl rfl) ?_))
  refine Aa (At ?_)
  refine cQ (fun c9 => ?_) fun c9 => ?_
  ·obtain ⟨x, bu, rfl, ae, ax, ah⟩ := A8.succ ad c9
   rw [BR] at r6
   refine Aq (At ?_)
   refine Ap ?_
   refine AI (um ?_)
   obtain ⟨bw, bx, bz, bh, ai, aj, ay, ⟨ca, cb, rfl, bj⟩, bk, ak⟩ := Au.at (Ak (Ae _)) a6 ([]) ax.1 ae
   refine uv (AF underlying23 sizeOf22 rfl ai rfl ax) (uv (Ao isAgg22 rfl aj (ak 0 (by decide))) ?_)
   refine ua (ua (BI (um (um ?_))))
   obtain ⟨x2, az, al, bl⟩ := A7 r6
   obtain ⟨cc, cd, cf, bm, ao, aq, ba, ⟨cg, cj, rfl, bn⟩, bo, ar⟩ := Au.at (Ak (Ae _)) ab ([]) az.1 al
   refine uv (AF underlying23 sizeOf22 rfl ao rfl az) (uv (Ao isAgg22 rfl aq (ar 0 (by decide))) ?_)
   refine ua (BI (um (um (um ?_))))
   obtain ⟨ok, bp, bb⟩ := AB bl
   refine Hn rfl aa.1 rfl rfl rfl (aa.2 _ (AN.refl _) _ _ _ ⟨_, _, rfl, ⟨_, _, rfl, bj⟩, ⟨_, _, rfl, bn⟩⟩ bp) (uv (BM rfl) (Aa ?_))
   refine AT rfl (fun au => ?_) (fun au => ?_)
   ·have bq := bt bb au
    refine AI (ua (Aa (As (Ay (Al (Al (Ay (Al ?_))))))))
    refine BD results93 ?_
    obtain rfl := AH bq
    exact rfl
   have br := bf bb au
   refine Aq (Ax (id := 1) (An ?_))
   refine uv (AY rfl rfl (A8.CC ad c9 (Au.lt a6))) ?_
   refine um (Aa ?_)
   subst bd; exact le kr ⟨_, _, rfl, ah, br, rfl, rfl, z5⟩
  obtain rfl := A8.zero ad c9
  rw [BR] at r6
  refine AL (Am (Am ?_))
  refine AA ?_
  exact mi kr ⟨r6, rfl, rfl, (sn _)⟩
 rintro e1 _ _ ⟨bc, rfl, rfl, av⟩
 refine Az _ av ?_
 rw [CN] at bc
 refine AI (ua (Aa (As ?_)))
 refine BD results93 ?_
 obtain rfl := AH bc
 exact rfl
theorem IH {a b : List (List Int)} (aa : Au 1 (Bm 1 (iE .i64)) F Pb O8 a) (ab : Au 1 (Bm 1 (iE .i64)) F O5 Pa b) {r : Bool} (hr : E8 a b = some r) :
    Ba Tryz.prog 38 #[.slice Pb a.length O8, .slice O5 b.length Pa] F (.bool r) := by
 refine sp func38 ntmps38 fun K _ _ => ?_
 rw [E8] at hr
 refine AI (ua (BI (um (um ?_))))
 have ad : KE Tryz.prog F 92 #[] #[] (OC (Bm 1 (iE .i64)) (Bm 1 (iE .i64))) Value.bool (fun a6 : (List Int) × (List Int) => DY a6.1 a6.2) := ⟨call92, fun F2 h2 vs a6 r ha hr => by obtain ⟨_, _, rfl, ⟨a1, c2, rfl, h3⟩, ⟨a4, c5, rfl, h6⟩⟩ := ha; exact IF h3 h6 hr⟩
 obtain ⟨ok, h8, r9⟩ := AB hr
 refine cV call93 (Ie aa ab ad h8) ?_
 refine ua (Aa (As ?_))
 refine BD results38 ?_
 obtain rfl := AH r9
 exact rfl
set_option maxHeartbeats 1000000 in
theorem Dh {s1 s2 : List (List Int)} (a6 : Au 1 (Bm 1 (iE .i64)) F Jk Jj s1) (ab : Au 1 (Bm 1 (iE .i64)) F Jq Js s2) (aa : KE Tryz.prog F PS eq_1 eq_2 (OC (Bm 1 (iE .i64)) (Bm 1 (iE .i64))) Value.bool eq) {r : Bool} (hr : Bw s1 s2 eq = some r) :
    Ba Tryz.prog 117 #[.slice Jk s1.length Jj, .slice Jq s2.length Js, .func (.func PS) eq_1 eq_2] F (.bool r) := by
 refine sp func117 ntmps117 fun K _ _ => ?_
 rw [Bw] at hr
 refine AI (ua (Aa (At (AI (um ?_)))))
 refine uv (AJ underlying24 rfl) (um (uv (AJ underlying24 rfl) (uv (BH rfl rfl) (Aa ?_))))
 refine cQ (fun c1 => ?_) fun c1 => ?_
 ·have r2 := AQ hr c1
  refine AI (ua (Aa (As (Al ?_))))
  refine BD results117 ?_
  obtain rfl := AH r2
  exact rfl
 have r3 := AR hr c1
 refine Aq ?_
 refine AK (fun e1 F1 L1 => Br = some r ∧ F = F1 ∧ L1 = [] ∧ e1.sub []) ?_ ?_
 ·refine AI (um ?_)
  refine uv (AJ underlying24 rfl) ?_
  refine um (Aa ?_)
  refine Ap ?_
  refine A2 (fun aw e1 F1 L1 => LA s1 aw fun tl k => A3 s2 eq tl k = some r ∧ F = F1 ∧ L1 = [] ∧ e1.sub [(1, .slice Jq s2.length Js), (2, .func (.func PS) eq_1 eq_2), (15, .slice Jk s1.length Jj), (16, .int .i64 (s1.length : Int)), (17, .int .i64 k)]) _ (m0 kr ⟨_, _, rfl, A8.start _, r3, rfl, rfl, z5⟩) ?_
  rintro aw e1 _ _ ⟨tl, k, bd, ad, r6, rfl, rfl, bg⟩
  refine Az _ bg (AI (uv (AV rfl rfl) ?_))
  refine Aa (At ?_)
  refine cQ (fun c9 => ?_) fun c9 => ?_
  ·obtain ⟨x, bu, rfl, ae, ax, ah⟩ := A8.succ ad c9
   rw [A3] at r6
   refine Aq (At ?_)
   refine Ap ?_
   refine AI (um ?_)
   obtain ⟨bw, bx, bz, bh, ai, aj, ay, ⟨ca, cb, rfl, bj⟩, bk, ak⟩ := Au.at (Ak (Ae _)) a6 ([]) ax.1 ae
   refine uv (AF underlying24 sizeOf36 rfl ai rfl ax) (uv (Ao isAgg36 rfl aj (ak 0 (by decide))) ?_)
   refine ua (ua (BI (um (um ?_))))
   obtain ⟨x2, az, al, bl⟩ := A7 r6
   obtain ⟨cc, cd, cf, bm, ao, aq, ba, ⟨cg, cj, rfl, bn⟩, bo, ar⟩ := Au.at (Ak (Ae _)) ab ([]) az.1 al
   refine uv (AF underlying24 sizeOf36 rfl ao rfl az) (uv (Ao isAgg36 rfl aq (ar 0 (by decide))) ?_)
   refine ua (BI (um (um (um ?_))))
   obtain ⟨ok, bp, bb⟩ := AB bl
   refine Hn rfl aa.1 rfl rfl rfl (aa.2 _ (AN.refl _) _ _ _ ⟨_, _, rfl, ⟨_, _, rfl, bj⟩, ⟨_, _, rfl, bn⟩⟩ bp) (uv (BM rfl) (Aa ?_))
   refine AT rfl (fun au => ?_) (fun au => ?_)
   ·have bq := bt bb au
    refine AI (ua (Aa (As (Ay (Al (Al (Ay (Al ?_))))))))
    refine BD results117 ?_
    obtain rfl := AH bq
    exact rfl
   have br := bf bb au
   refine Aq (Ax (id := 1) (An ?_))
   refine uv (AY rfl rfl (A8.CC ad c9 (Au.lt a6))) ?_
   refine um (Aa ?_)
   subst bd; exact le kr ⟨_, _, rfl, ah, br, rfl, rfl, z5⟩
  obtain rfl := A8.zero ad c9
  rw [A3] at r6
  refine AL (Am (Am ?_))
  refine AA ?_
  exact mi kr ⟨r6, rfl, rfl, (sn _)⟩
 rintro e1 _ _ ⟨bc, rfl, rfl, av⟩
 refine Az _ av ?_
 rw [Br] at bc
 refine AI (ua (Aa (As ?_)))
 refine BD results117 ?_
 obtain rfl := AH bc
 exact rfl
set_option maxHeartbeats 1000000 in
theorem HD {s1 s2 : List Int} (a6 : Au 1 (iE .i64) F Jk Jj s1) (aa : Au 1 (iE .i64) F Jq Js s2) {r : Bool} (hr : B1 s1 s2 = some r) :
    Ba Tryz.prog 118 #[.slice Jk s1.length Jj, .slice Jq s2.length Js] F (.bool r) := by
 refine sp func118 ntmps118 fun K _ _ => ?_
 rw [B1] at hr
 refine AI (ua (Aa (At (AI (um ?_)))))
 refine uv (AJ underlying36 rfl) (um (uv (AJ underlying36 rfl) (uv (BH rfl rfl) (Aa ?_))))
 refine cQ (fun c1 => ?_) fun c1 => ?_
 ·have r2 := AQ hr c1
  refine AI (ua (Aa (As (Al ?_))))
  refine BD results118 ?_
  obtain rfl := AH r2
  exact rfl
 have r3 := AR hr c1
 refine Aq ?_
 refine AK (fun e1 F1 L1 => Cv = some r ∧ F = F1 ∧ L1 = [] ∧ e1.sub []) ?_ ?_
 ·refine AI (um ?_)
  refine uv (AJ underlying36 rfl) ?_
  refine um (Aa ?_)
  refine Ap ?_
  refine A2 (fun av e1 F1 L1 => LA s1 av fun tl k => BJ s2 tl k = some r ∧ F = F1 ∧ L1 = [] ∧ e1.sub [(0, .slice Jk s1.length Jj), (1, .slice Jq s2.length Js), (12, .int .i64 (s1.length : Int)), (13, .int .i64 k)]) _ (m0 kr ⟨_, _, rfl, A8.start _, r3, rfl, rfl, z4⟩) ?_
  rintro av e1 _ _ ⟨tl, k, bc, ab, r6, rfl, rfl, bd⟩
  refine Az _ bd (AI (uv (AV rfl rfl) ?_))
  refine Aa (At ?_)
  refine cQ (fun c9 => ?_) fun c9 => ?_
  ·obtain ⟨x, bn, rfl, ad, aw, ae⟩ := A8.succ ab c9
   rw [BJ] at r6
   refine Aq (At ?_)
   refine Ap ?_
   refine AI (um (ua ?_))
   refine dN ?_
   refine wm (wm ?_)
   obtain ⟨bo, bp, bq, bg, ah, ai, ax, rfl, bh, aj⟩ := Au.at (Ae _) a6 ([]) aw.1 ad
   refine wv (AF underlying36 sizeOf35 rfl ah rfl aw) (wv (Ao isAgg35 rfl ai (aj 0 (by decide))) ?_)
   refine wm (wm ?_)
   obtain ⟨x2, ay, ak, az⟩ := A7 r6
   obtain ⟨br, bu, bw, bj, al, ao, ba, rfl, bk, aq⟩ := Au.at (Ae _) aa ([]) ay.1 ak
   refine wv (AF underlying36 sizeOf35 rfl al rfl ay) (wv (Ao isAgg35 rfl ao (aq 0 (by decide))) (wv (BH rfl rfl) (BV ?_)))
   refine cQ (fun ar => ?_) fun ar => ?_
   ·have bl := AQ az ar
    refine AI (ua (Aa (As (Ay (Al (Al (Ay (Al ?_))))))))
    refine BD results118 ?_
    obtain rfl := AH bl
    exact rfl
   have bm := AR az ar
   refine Aq (Ax (id := 1) (An ?_))
   refine uv (AY rfl rfl (A8.CC ab c9 (Au.lt a6))) ?_
   refine um (Aa ?_)
   subst bc; exact le kr ⟨_, _, rfl, ae, bm, rfl, rfl, z4⟩
  obtain rfl := A8.zero ab c9
  rw [BJ] at r6
  refine AL (Am (Am ?_))
  refine AA ?_
  exact mi kr ⟨r6, rfl, rfl, (sn _)⟩
 rintro e1 _ _ ⟨bb, rfl, rfl, au⟩
 refine Az _ au ?_
 rw [Cv] at bb
 refine AI (ua (Aa (As ?_)))
 refine BD results118 ?_
 obtain rfl := AH bb
 exact rfl
theorem Ky {a b : List (List Int)} (aa : Au 1 (Bm 1 (iE .i64)) F Pb O8 a) (ab : Au 1 (Bm 1 (iE .i64)) F O5 Pa b) {r : Bool} (hr : GH a b = some r) :
    Ba Tryz.prog 79 #[.slice Pb a.length O8, .slice O5 b.length Pa] F (.bool r) := by
 refine sp func79 ntmps79 fun K _ _ => ?_
 rw [GH] at hr
 refine AI (ua (BI (um (um ?_))))
 have ad : KE Tryz.prog F 118 #[] #[] (OC (Bm 1 (iE .i64)) (Bm 1 (iE .i64))) Value.bool (fun a6 : (List Int) × (List Int) => B1 a6.1 a6.2) := ⟨call118, fun F2 h2 vs a6 r ha hr => by obtain ⟨_, _, rfl, ⟨a1, c2, rfl, h3⟩, ⟨a4, c5, rfl, h6⟩⟩ := ha; exact HD h3 h6 hr⟩
 obtain ⟨ok, h8, r9⟩ := AB hr
 refine cV call117 (Dh aa ab ad h8) ?_
 refine ua (Aa (As ?_))
 refine BD results79 ?_
 obtain rfl := AH r9
 exact rfl
theorem DF {a6 : Option Addr} {aa : Nat} {ab : List (List Int)} {ad : Option Addr} {ae : Nat} {ah : List (List Int)} (aj : Au 1 (Bm 1 (iE .i64)) F Ac Ad Ab) (al : Au 1 (Bm 1 (iE .i64)) F Aj Ai Af) (ai : Au 1 (Bm 1 (iE .i64)) F a6 aa ab) (ak : Au 1 (Bm 1 (iE .i64)) F ad ae ah) {r : Bool} (hr : Di Ab Af ab ah = some r) :
    Ba Tryz.prog 22 #[.agg #[.slice Ac Ab.length Ad, .slice Aj Af.length Ai], .agg #[.slice a6 ab.length aa, .slice ad ah.length ae]] F (.bool r) := by
 refine sp func22 ntmps22 fun K _ _ => ?_
 rw [Di] at hr
 refine AI ?_
 refine By rfl rfl ?_; intro b1 ao
 refine By rfl rfl ?_; intro b2 aq
 refine ua (BI ?_)
 refine uv (Av Cy rfl) (uv (Ao isAgg23 rfl (Has.own 1 rfl) rfl) (uv (Av Cy rfl) (uv (Ao isAgg23 rfl (Has.own 0 rfl) rfl) ?_)))
 obtain ⟨ok, h3, r4⟩ := AB hr
 refine cV call38 (IH aj ai h3) (um ?_)
 rcases Bf ok with c5 | c5
 ·have r6 := bt r4 c5
  refine nB c5 (uv (Av Bz rfl) (nB c5 (uv (Ao isAgg24 rfl (Has.own 1 rfl) rfl) (nB c5 (uv (Av Bz rfl) (nB c5 (uv (Ao isAgg24 rfl (Has.own 0 rfl) rfl) ?_)))))))
  refine nB c5 ?_
  obtain ⟨ar, h7, r8⟩ := AB r6
  refine cV call79 (Ky al ak h7) (uv (Aw (En rfl c5) rfl) ?_)
  refine ua (Aa ?_)
  refine kW kn (As (BD results22 ?_))
  obtain rfl := AH r8
  exact rfl
 have r9 := bf r4 c5
 refine fB c5 (fB c5 (fB c5 (fB c5 (fB c5 ?_))))
 refine uv (Ar (En rfl c5) rfl) ?_
 refine ua (Aa ?_)
 refine kW kn (As (BD results22 ?_))
 obtain rfl := AH r9
 exact rfl
set_option maxHeartbeats 1000000 in
theorem CR (a6 : Au 1 (Bm 1 (iE .i64)) F Ac Ad Ab) (aa : Au 1 (Bm 1 (iE .i64)) F Aj Ai Af) {r : Bool} (hr : B3 Ab Af hour Bx m = some r) :
    Ba Tryz.prog 6 #[.agg #[.slice Ac Ab.length Ad, .slice Aj Af.length Ai], .agg #[.int .i64 hour, .int .i64 Bx], .int .i64 m] F (.bool r) := by
 refine sp func6 ntmps6 fun K _ _ => ?_
 rw [B3] at hr
 refine AI ?_
 refine By rfl rfl ?_; intro b1 pe
 refine By rfl rfl ?_; intro b2 pf
 refine ua (Aa (At (AI ?_)))
 refine uv (AE isAgg26 sizeOf26 rfl (Has.own 1 rfl) (A5 rfl) rfl) ?_
 obtain ⟨ok, h3, r4⟩ := AB hr
 refine cV call17 (DZ a6 aa h3) (Aa ?_)
 refine AT rfl (fun c5 => ?_) (fun c5 => ?_)
 ·have r6 := bt r4 c5
  refine AI ?_
  obtain ⟨pg, h7, r8⟩ := AB r6
  refine cV call14 (BB h7) ?_
  refine ua (Aa ?_)
  refine kW kn ?_
  refine As (Al ?_)
  refine BD results6 ?_
  obtain rfl := AH r8
  exact rfl
 have r9 := bf r4 c5
 refine Aq (At ?_)
 refine Bd [(.pre, 4), (.pre, 5), (.still, 0), (.still, 2), (.seq, 1), (.seq, 3), (.alloc (.cells (.agg #[.slice none 0 0, .slice none 0 0] : Value).cells 26 (0, 0)) (fun b => .pointer (some ⟨b, 0, none⟩)) [], 4), (.alloc (.cells (.agg #[.slice none 0 0, .slice none 0 0] : Value).cells 51 (0, 0)) (fun b => .pointer (some ⟨b, 0, none⟩)) [], 5), (.seq, 6), (.seq, 7)] (by kernel_rfl) (by kernel_rfl) (⟨⟨_, _, rfl, rfl, rfl, rfl, rfl, EU zeroValue26⟩, ⟨⟨_, _, rfl, rfl, rfl, rfl, rfl, EU zeroValue51⟩, trivial⟩⟩) (by rfl) (by kernel_rfl) ?_
 refine ⟨⟨[], rfl, sn _, by kernel_rfl⟩, ?_⟩
 refine ⟨⟨[], rfl, sn _, by kernel_rfl⟩, ?_⟩
 refine mL [3] ([(b1, ce #[.slice Ac Ab.length Ad, .slice Aj Af.length Ai] 26)]) rfl (s0 (s1 (s2 sr))) (fun H F' L' bx bz => AE isAgg26 sizeOf26 rfl ((Has.own 0 rfl).ext bx bz) (A5 rfl) rfl) (mL [3] ([(b1, ce #[.slice Ac Ab.length Ad, .slice Aj Af.length Ai] 26)]) rfl (s0 (s1 (s2 sr))) (fun H F' L' bx bz => AE isAgg26 sizeOf26 rfl ((Has.own 0 rfl).ext bx bz) (A5 rfl) rfl) ?_)
 refine ⟨_, [(20, .agg #[.slice Ac Ab.length Ad, .slice Aj Af.length Ai])], rfl, rfl, z1, by kernel_rfl, ?_⟩; intro H
 obtain ⟨l, l2, nr, ns⟩ := A9 r9
 refine c0 call18 (D1 a6 aa nr) ?_; rintro _ ph _ dq ec ⟨ax, ay, az, ab, ba, bb, bc, ad, rfl, rfl, ah, ai⟩
 replace a6 := a6.mono (Ak (Ae _)) dq
 replace aa := aa.mono (Ak (Ae _)) dq
 replace ah := ah.new fun p hp => ec p (by simp [hp])
 replace ai := ai.new fun p hp => ec p (by simp [hp])
 refine AD (lp (lp (ln rfl))) (kO (kf (fS (fS fO)) (kf (fS (fS fO)) kr)) ?_)
 refine Aa ⟨_, rfl, dq, [2], by kernel_rfl, .inl (.inr (fun d h => by cases h; rfl)), (fc (s0 (s1 (s2 (s3 (s3 sr))))) nm), ?_⟩
 refine ⟨_, [(22, .agg #[.slice Ac Ab.length Ad, .slice Aj Af.length Ai])], rfl, rfl, z1, by kernel_rfl, ?_⟩; intro H
 obtain ⟨l3, l4, nt, nu⟩ := A9 ns
 refine c0 call19 (C0 a6 aa nt) ?_; rintro _ pj _ ca j4 ⟨il, im, iq, ir, iu, cb, rfl, rfl, nv, cr⟩
 replace a6 := a6.mono (Ak (Ae _)) ca
 replace aa := aa.mono (Ak (Ae _)) ca
 replace ah := ah.mono (Ae _) ca
 replace ai := ai.mono (Ae _) ca
 replace cr := cr.new fun p hp => j4 p (by simp [hp])
 refine AD (lp (ln rfl)) (kO (kf (fS fO) (kf (fS fO) kr)) ?_)
 refine Aa ⟨_, rfl, ca, [], by kernel_rfl, .inl (.inl rfl), nm, ?_⟩
 refine GW rfl ?_; intro aj nw
 refine Jp (L' := (aj, ce #[.slice none 0 0, .slice none 0 0] 26) :: ((b2, ce #[.int .i64 hour, .int .i64 Bx] 29) :: ((b1, ce #[.slice Ac Ab.length Ad, .slice Aj Af.length Ai] 26) :: (cb ++ (ab ++ (ad ++ [])))))) rfl ?_
 refine GW rfl ?_; intro ef ny
 refine Jp (L' := (ef, ce #[.slice none 0 0, .slice none 0 0] 51) :: ((aj, ce #[.slice none 0 0, .slice none 0 0] 26) :: ((b2, ce #[.int .i64 hour, .int .i64 Bx] 29) :: ((b1, ce #[.slice Ac Ab.length Ad, .slice Aj Af.length Ai] 26) :: (cb ++ (ab ++ (ad ++ []))))))) rfl ?_
 refine ⟨_, [(7, .pointer (some ⟨aj, 0, none⟩)), (21, .agg #[.slice ax ay az, .slice ba bb bc])], rfl, rfl, z2, by kernel_rfl, ?_⟩; intro H
 refine A6 (i := 1) sizeOf26 rfl rfl rfl (by simp [Value.oneCell']) rfl (A5 rfl) (AD rfl ?_)
 refine Aa ⟨undef, rfl, AN.refl _, [], by kernel_rfl, .inl (.inl rfl), nm, ?_⟩
 refine ⟨_, [(8, .pointer (some ⟨ef, 0, none⟩)), (23, .agg #[.slice il l3.length im, .slice iq ir iu])], rfl, rfl, z2, by kernel_rfl, ?_⟩; intro H
 refine A6 (i := 0) sizeOf51 rfl rfl rfl (by simp [Value.oneCell']) rfl (A5 rfl) (AD rfl ?_)
 refine Aa ⟨undef, rfl, AN.refl _, [], by kernel_rfl, .inl (.inl rfl), nm, ?_⟩
 refine BC (AI (uv (AE isAgg51 sizeOf51 rfl (Has.own 0 rfl) (A5 rfl) rfl) ?_))
 obtain ⟨n, nz, o0⟩ := AB nu
 refine Bi (Lt := cb ++ []) (Lr := (ef, ce #[.slice il l3.length im, .slice iq ir iu] 51) :: ((aj, ce #[.slice ax ay az, .slice ba bb bc] 26) :: ((b2, ce #[.int .i64 hour, .int .i64 Bx] 29) :: ((b1, ce #[.slice Ac Ab.length Ad, .slice Aj Af.length Ai] 26) :: (ab ++ (ad ++ [])))))) rfl call20 rfl rfl rfl (pT ((fC (fC (fC (fC fP)))).trans (pA pR)) (lp (ln rfl))) (fun F2 h2 h3 => by rw [(AW.Be cr).1]; exact Dl (nv.mono (Ak (Ae _)) h2) (cr.row (Ak (Ae _)) h2 (fun p hp => h3 p (List.mem_append_left _ hp))) nz) ?_
 refine ua (Aa (At (AI ?_)))
 refine uv (AE isAgg26 sizeOf26 rfl (Has.own 1 rfl) (A5 rfl) rfl) ?_
 obtain ⟨n2, o1, me⟩ := AB o0
 refine Bi (Lt := ab ++ (ad ++ [])) (Lr := (ef, ce #[.slice il l3.length im, .slice iq ir iu] 51) :: ((aj, ce #[.slice ax ay az, .slice ba bb bc] 26) :: ((b2, ce #[.int .i64 hour, .int .i64 Bx] 29) :: ((b1, ce #[.slice Ac Ab.length Ad, .slice Aj Af.length Ai] 26) :: (cb ++ []))))) rfl call12 rfl rfl rfl (pT ((fC (fC (fC (fC (fS fP))))).trans (pA ((fC (fC (fC (fC (fS fP))))).trans (pA pR)))) (lp (lp (ln rfl)))) (fun F2 h2 h3 => by rw [(BG.Be ah).1]; rw [(BG.Be ai).1]; exact GC (ah.row (Ae _) h2 (fun p hp => h3 p (List.mem_append_left _ hp))) (ai.row (Ae _) h2 (fun p hp => h3 p (List.mem_append_right _ (List.mem_append_left _ hp)))) o1) ?_
 refine um (uv (BH rfl rfl) (Aa ?_))
 refine cQ (fun j5 => ?_) fun j5 => ?_
 ·have o2 := AQ me j5
  refine AI (ua (Aa ?_))
  refine kW kn ?_
  refine As (Al ?_)
  refine BD results6 ?_
  obtain rfl := AH o2
  exact rfl
 have o3 := AR me j5
 refine Aq (AI ?_)
 refine uv (AE isAgg26 sizeOf26 rfl (Has.own 1 rfl) (A5 rfl) rfl) (uv (AE isAgg29 sizeOf29 rfl (Has.own 2 rfl) (A5 rfl) rfl) (um ?_))
 obtain ⟨l5, l6, n3, o4, o5⟩ := I6 o3
 refine Is (Lb := []) (Lt := ab ++ (ad ++ [])) (Lr := (ef, ce #[.slice il l3.length im, .slice iq ir iu] 51) :: ((aj, ce #[.slice ax ay az, .slice ba bb bc] 26) :: ((b2, ce #[.int .i64 hour, .int .i64 Bx] 29) :: ((b1, ce #[.slice Ac Ab.length Ad, .slice Aj Af.length Ai] 26) :: (cb ++ []))))) rfl call21 rfl rfl rfl (pT ((fC (fC (fC (fC (fS fP))))).trans (pA ((fC (fC (fC (fC (fS fP))))).trans (pA pR)))) (ln (lp (lp (ln rfl))))) (fun F2 h2 h3 => by rw [(BG.Be ah).1]; rw [(BG.Be ai).1]; exact Oy (ah.row (Ae _) h2 (fun p hp => h3 p (List.mem_append_left _ hp))) (ai.row (Ae _) h2 (fun p hp => h3 p (List.mem_append_right _ (List.mem_append_left _ hp)))) o4) (fun _ _ _ _ hq => by obtain ⟨br, bu, bw, ao, bo, bp, bq, bg, rfl, rfl, aq, ar⟩ := hq; exact ⟨_, _, _, _, _, _, _, _, rfl, rfl, BG.flat aq (fun _ _ h => h), BG.flat ar (fun _ _ h => h)⟩) ?_; rintro _ o7 _ ct j6 j7 ⟨br, bu, bw, ao, bo, bp, bq, bg, rfl, rfl, aq, ar⟩
 replace a6 := a6.mono (Ak (Ae _)) ct
 replace aa := aa.mono (Ak (Ae _)) ct
 replace ah := ah.mono (Ae _) ct
 replace ai := ai.mono (Ae _) ct
 have eg := OR (Lb' := []) (by rfl) j6 j7
 replace aq := aq.new fun p hp => eg p (by simp [hp])
 replace ar := ar.new fun p hp => eg p (by simp [hp])
 refine AD (lp (lp (ln (lp (lp (ln rfl)))))) (kO (kf (fS (fS (fS (fS fO)))) (kf (fS (fS (fS (fS fO)))) (kf (fS (fS (fS (fS fO)))) (kf (fS (fS (fS (fS fO)))) kr)))) ?_)
 refine um (ox rfl rfl rfl (ox rfl rfl rfl ?_))
 refine A1 rfl zeroValue26 ?_; intro bk o8
 refine A6 (i := 0) sizeOf26 rfl rfl rfl (by simp [Value.oneCell']) rfl (A5 rfl) (AD rfl ?_)
 refine ua (BI ?_)
 refine uv (BL (v := .agg #[.slice none 0 0, .slice none 0 0]) rfl (by intro w; kernel_rfl)) ?_
 refine A1 rfl zeroValue26 ?_; intro da o9
 refine A6 (i := 0) sizeOf26 rfl rfl rfl (by simp [Value.oneCell']) rfl (A5 rfl) (AD rfl (Aa ?_))
 obtain ⟨e_, av, bh, mg, mh⟩ := I6 o5
 refine MJ (fun e1 F1 L1 => ∃ (iv : Option Addr) (iw : Nat) (iy : Nat) (cu : LH) (iz : Option Addr) (j0 : Nat) (j1 : Nat) (cv : LH), AN o7 F1 ∧ L1 = ((da, ce #[.slice iv iw iy, .slice iz j0 j1] 26) :: ((bk, ce #[.slice br bu bw, .slice bo bp bq] 26) :: ((aj, ce #[.slice ax ay az, .slice ba bb bc] 26) :: ((b1, ce #[.slice Ac Ab.length Ad, .slice Aj Af.length Ai] 26) :: (ab ++ (ad ++ (ao ++ (bg ++ (cu ++ (cv ++ [])))))))))) ∧ e1.sub [(3, .pointer (some ⟨b1, 0, none⟩)), (7, .pointer (some ⟨aj, 0, none⟩)), (9, .int .i64 e_), (10, .pointer (some ⟨bk, 0, none⟩)), (11, .int .i64 n3), (12, .pointer (some ⟨da, 0, none⟩))] ∧ BG K.w0.heap.size 22 3 1 (iE .i64) F1 iv iw iy av cu ∧ BG K.w0.heap.size 36 35 1 (iE .i64) F1 iz j0 j1 bh cv) ?_ ?_
 ·clear mh
  refine Ap ?_
  refine AI (um ?_)
  refine uv (BH rfl rfl) ?_
  refine ua (Aa ?_)
  refine cQ (fun j8 => ?_) fun j8 => ?_
  ·have oc := AQ mg j8
   refine Aq (Ax (id := 0) ?_)
   obtain ⟨rfl, rfl, rfl⟩ := IK oc
   exact mf (kc (kc (kd (kc (kd (kc (kg (fS (fS fP)) (kg (fS (fS fP)) (ka (ka (ke (ke kn)))))))))))) ⟨none, 0, 0, [], none, 0, 0, [], AN.refl _, rfl, z6, BG.nil _ _ _ _ _ _, BG.nil _ _ _ _ _ _⟩
  have od := AR mg j8
  obtain ⟨k, mj, j9⟩ := AB od
  refine jE (((da, ce #[.slice none 0 0, .slice none 0 0] 26) :: ((bk, ce #[.slice br bu bw, .slice bo bp bq] 26) :: ((aj, ce #[.slice ax ay az, .slice ba bb bc] 26) :: ((b2, ce #[.int .i64 hour, .int .i64 Bx] 29) :: ((b1, ce #[.slice Ac Ab.length Ad, .slice Aj Af.length Ai] 26) :: (ab ++ (ad ++ (ao ++ (bg ++ [])))))))))) [(2, .int .i64 m), (3, .pointer (some ⟨b1, 0, none⟩)), (4, .pointer (some ⟨b2, 0, none⟩)), (7, .pointer (some ⟨aj, 0, none⟩)), (9, .int .i64 n), (10, .pointer (some ⟨bk, 0, none⟩)), (11, .int .i64 n3), (12, .pointer (some ⟨da, 0, none⟩)), (53, .bool k)] ?_ ?_
  ·clear j9
   refine An (uv (Av GU rfl) (uv (Ao isAgg3 rfl (Has.own 4 rfl) rfl) (uv (AV rfl rfl) (um ?_))))
   by_cases bd : hour < 0
   ·have oe := AQ mj bd
    refine fT bd (fT bd (fT bd (fT bd (fT bd (fT bd ?_)))))
    refine uv (Aw (AS rfl bd) rfl) ?_
    refine um (Ah (b' := true) 65 rfl rfl rfl rfl (Ah (b' := true) 65 rfl rfl rfl rfl (Ah (b' := true) 65 rfl rfl rfl rfl ?_)))
    refine uv (Aw rfl rfl) ?_
    refine um (Ah (b' := true) 70 rfl rfl rfl rfl (Ah (b' := true) 70 rfl rfl rfl rfl (Ah (b' := true) 70 rfl rfl rfl rfl (Ah (b' := true) 70 rfl rfl rfl rfl (Ah (b' := true) 70 rfl rfl rfl rfl (Ah (b' := true) 70 rfl rfl rfl rfl ?_))))))
    refine uv (Aw rfl rfl) ?_
    refine ua (Aa ?_)
    obtain rfl := AH oe
    exact mi (kc (kc (kd (kc (kc (kc (kg (fS (fS fP)) (kg (fS (fS fP)) (ka (ka kn)))))))))) ⟨rfl, rfl, (sc rfl z8)⟩
   have ml := AR mj bd
   refine nF bd (uv (Av GU rfl) (nF bd (uv (Ao isAgg3 rfl (Has.own 4 rfl) rfl) (nF bd (uv (Av Bz rfl) (nF bd (uv (Ao isAgg24 rfl (Has.own 5 rfl) rfl) ?_)))))))
   refine nF bd (uv (AJ underlying24 rfl) (nF bd (uv (Hy rfl rfl) (uv (Ar (AM rfl bd) rfl) (um ?_)))))
   by_cases cq : (Af.length : Int) ≤ hour
   ·have ja := AQ ml cq
    refine fT cq (fT cq (fT cq ?_))
    refine uv (Aw (AS rfl cq) rfl) ?_
    refine um (Ah (b' := true) 70 rfl rfl rfl rfl (Ah (b' := true) 70 rfl rfl rfl rfl (Ah (b' := true) 70 rfl rfl rfl rfl (Ah (b' := true) 70 rfl rfl rfl rfl (Ah (b' := true) 70 rfl rfl rfl rfl (Ah (b' := true) 70 rfl rfl rfl rfl ?_))))))
    refine uv (Aw rfl rfl) ?_
    refine ua (Aa ?_)
    obtain rfl := AH ja
    exact mi (kc (kc (kd (kc (kc (kc (kg (fS (fS fP)) (kg (fS (fS fP)) (ka (ka kn)))))))))) ⟨rfl, rfl, (sc rfl z8)⟩
   have eh := AR ml cq
   refine nF cq (uv (Av Hm rfl) (nF cq (uv (Ao isAgg3 rfl (Has.own 4 rfl) rfl) (nF cq (uv (AV rfl rfl) (uv (Ar (AM rfl cq) rfl) (um ?_)))))))
   by_cases ae : Bx < 0
   ·have jb := AQ eh ae
    refine fT ae (fT ae (fT ae (fT ae (fT ae (fT ae ?_)))))
    refine uv (Aw (AS rfl ae) rfl) ?_
    refine ua (Aa ?_)
    obtain rfl := AH jb
    exact mi (kc (kc (kd (kc (kc (kc (kg (fS (fS fP)) (kg (fS (fS fP)) (ka (ka kn)))))))))) ⟨rfl, rfl, (sc rfl z8)⟩
   have jc := AR eh ae
   refine nF ae (uv (Av Hm rfl) (nF ae (uv (Ao isAgg3 rfl (Has.own 4 rfl) rfl) (nF ae (uv (Av Cy rfl) (nF ae (uv (Ao isAgg23 rfl (Has.own 5 rfl) rfl) ?_)))))))
   refine nF ae (uv (AJ underlying23 rfl) (nF ae (uv (Hy rfl rfl) (uv (Ar (AM rfl ae) rfl) ?_))))
   refine ua (Aa ?_)
   obtain rfl := AH jc
   exact mi (kc (kc (kd (kc (kc (kc (kg (fS (fS fP)) (kg (fS (fS fP)) (ka (ka kn)))))))))) ⟨rfl, rfl, (sc rfl z8)⟩
  refine AT rfl (fun dr => ?_) (fun dr => ?_)
  ·have jd := bt j9 dr
   refine An (ua (Aa (Ax (id := 0) ?_)))
   obtain ⟨rfl, rfl, rfl⟩ := IK jd
   exact mf (kc (kc (kc (kd (kc (ka (ka (ka (ka (ke (ke kr))))))))))) ⟨none, 0, 0, [], none, 0, 0, [], AN.refl _, rfl, z6, BG.nil _ _ _ _ _ _, BG.nil _ _ _ _ _ _⟩
  have je := bf j9 dr
  obtain ⟨k2, ei, dt⟩ := AB je
  refine jE (((da, ce #[.slice none 0 0, .slice none 0 0] 26) :: ((bk, ce #[.slice br bu bw, .slice bo bp bq] 26) :: ((aj, ce #[.slice ax ay az, .slice ba bb bc] 26) :: ((b2, ce #[.int .i64 hour, .int .i64 Bx] 29) :: ((b1, ce #[.slice Ac Ab.length Ad, .slice Aj Af.length Ai] 26) :: (ab ++ (ad ++ (ao ++ (bg ++ [])))))))))) [(2, .int .i64 m), (3, .pointer (some ⟨b1, 0, none⟩)), (4, .pointer (some ⟨b2, 0, none⟩)), (7, .pointer (some ⟨aj, 0, none⟩)), (9, .int .i64 n), (10, .pointer (some ⟨bk, 0, none⟩)), (11, .int .i64 n3), (12, .pointer (some ⟨da, 0, none⟩)), (78, .bool k2)] ?_ ?_
  ·clear dt
   refine An (um ?_)
   refine uv (AV rfl rfl) (um ?_)
   by_cases aw : m < 0
   ·have jf := AQ ei aw
    refine fT aw (fT aw ?_)
    refine uv (Aw (AS rfl aw) rfl) ?_
    refine ua (Aa ?_)
    obtain rfl := AH jf
    exact mi kr ⟨rfl, rfl, (sc rfl z8)⟩
   have jg := AR ei aw
   refine nF aw (um (nF aw ?_))
   refine uv (Em rfl rfl) (uv (Ar (AM rfl aw) rfl) ?_)
   refine ua (Aa ?_)
   obtain rfl := AH jg
   exact mi kr ⟨rfl, rfl, (sc rfl z8)⟩
  refine AT rfl (fun du => ?_) (fun du => ?_)
  ·have jh := bt dt du
   refine An (ua (Aa (Ax (id := 0) ?_)))
   obtain ⟨rfl, rfl, rfl⟩ := IK jh
   exact mf (kc (kc (kc (kd (kc (ka (ka (ka (ka (ke (ke kr))))))))))) ⟨none, 0, 0, [], none, 0, 0, [], AN.refl _, rfl, z6, BG.nil _ _ _ _ _ _, BG.nil _ _ _ _ _ _⟩
  have ji := bf dt du
  refine AI (uv (AE isAgg26 sizeOf26 rfl (Has.own 4 rfl) (A5 rfl) rfl) ?_)
  obtain ⟨l7, l8, jj, jk⟩ := A9 ji
  refine c0 call18 (D1 a6 aa jj) ?_; rintro _ jl _ ej db ⟨en, eo, ep, er, dv, dw, dx, mn, rfl, rfl, cc, bl⟩
  replace cc := cc.new fun p hp => db p (by simp [hp])
  replace bl := bl.new fun p hp => db p (by simp [hp])
  refine AD (lp (lp (ln rfl))) (kO (kf (fS (fS fO)) (kf (fS (fS fO)) (kf (fS (fS fO)) (kf (fS (fS fO)) (kf (fS (fS fO)) kr))))) (A6 (i := 0) sizeOf26 rfl rfl rfl (by simp [Value.oneCell']) rfl (A5 rfl) (AD rfl (Aa ?_))))
  obtain ⟨x, et, eu, jm⟩ := A7 jk
  have ew := (BG.Be bl).1
  refine Kw (fC (fC (fC (fC (fC (fS fP)))))) bl eu ?_; intro mo dd mq og oh oi ey de df cd ez
  refine kW (kf (fS (fS (fS fO))) (kf (fS (fS (fS fO))) (kf (fS (fS (fS fO))) (kf (fS (fS (fS fO))) (kf (fS (fS (fS fO))) kr))))) (Bd [(.still, 0), (.still, 1), (.still, 2), (.still, 3), (.still, 4), (.still, 5), (.still, 6), (.still, 7), (.still, 8), (.still, 9), (.seq, 10)] (by kernel_rfl) (by kernel_rfl) (trivial) (by rfl) (by kernel_rfl) (mS [12] rfl (Av Bz rfl) (mL [40] ([(da, ce #[.slice en eo ep, .slice dv dw dx] 26)]) rfl (s0 (s2 (s1 (s1 (s1 (s1 (s3 (s3 (s3 (s3 (s3 (s3 (s3 (s3 sr)))))))))))))) (fun H F' L' bx bz => Ao isAgg24 rfl ((Has.own 0 rfl).ext bx bz) rfl) (mS [4] rfl (Av GU rfl) (mL [42] ([(b2, ce #[.int .i64 hour, .int .i64 Bx] 29)]) rfl (s0 (s1 (s1 (s1 (s2 (s1 (s3 (s3 (s3 (s3 (s3 (s3 (s3 (s3 sr)))))))))))))) (fun H F' L' bx bz => Ao isAgg3 rfl ((Has.own 0 rfl).ext bx bz) rfl) ?_)))))
  obtain ⟨oj, oo, oq, mr, fa, fb, jn, rfl, mu, fe⟩ := AW.at Cm df (L := dd ++ []) fP et.1 de
  refine mS [41, 43] rfl (AF underlying24 sizeOf36 rfl fa rfl (K2 ew et)) (mL [44] (dd ++ []) rfl (s0 (s1 (s1 (s1 (s1 (s1 (s4 (s3 (s3 (s3 (s3 (s3 (s3 (s3 sr)))))))))))))) (fun H F' L' bx bz => Ao isAgg36 rfl (fb.ext bx bz) (fe 0 (by decide))) (mS [4] rfl (Av Hm rfl) (mL [46] ([(b2, ce #[.int .i64 hour, .int .i64 Bx] 29)]) rfl (s0 (s1 (s1 (s1 (s2 (s1 (s3 (s3 (s3 (s3 (s3 (s3 (s3 (s3 sr)))))))))))))) (fun H F' L' bx bz => Ao isAgg3 rfl ((Has.own 0 rfl).ext bx bz) rfl) (mS [2] rfl (Bj rfl) ?_))))
  obtain ⟨x2, dy, ff, jo⟩ := A7 jm
  obtain ⟨jq, jr, ot, mv, dg, mw, js, rfl, mx, my⟩ := AW.at (Ae _) cd (L := ey ++ []) fP dy.1 ff
  refine mS [45, 47] rfl (AF underlying36 sizeOf35 rfl dg rfl (AW.idx cd dy)) ?_
  refine ⟨_, [(48, .int .i64 m), (49, .pointer (some ⟨jq, jr + (Bx : Int).toNat * 1, none⟩))], rfl, rfl, z2, by kernel_rfl, ?_⟩; intro H
  obtain ⟨l9, jt, ju⟩ := BS jo
  refine CQ (u := m) sizeOf35 (Ae _) rfl dg rfl rfl (fun _ => .c (.c (.c (.c (.c (.s .h)))))) cd jt dy ?_; intro mz fg
  refine Aa ⟨undef, rfl, AN.refl _, [], by kernel_rfl, .inl (.inl rfl), nm, ?_⟩
  refine BC (Ax (id := 0) ?_)
  obtain ⟨fh, jv, jw⟩ := BS ju
  refine PE (p := fun X => BG K.w0.heap.size 36 35 1 (iE .i64) jl dv dw dx fh X) (K5.Lv ez df de fg jv) (pT ((fC (fC (fC (fC (fC fP))))).trans (pA ((fC (fC (fC (fC (fC fP))))).trans (pA ((fC (fC (fC (fC (fC fP))))).trans (pA pR)))))) (lp (lp (lp (ln rfl))))) ?_; intro fi fj
  obtain ⟨rfl, rfl, rfl⟩ := IK jw
  exact mf (kf (fS fO) (kf (fS fO) (kf (fS fO) (kf (fS (fC fO)) (kg (fS (fC (fS fP))) (kg (fS (fC (fS fP))) (kg (fS (fC (fS fP))) (kg (fS (fC (fS fP))) (kg (fS (fC fP)) (ka kn)))))))))) ⟨en, eo, ep, er, dv, dw, dx, fi, ej, rfl, z6, cc, fj⟩
 rintro e1 cf _ ⟨iv, iw, iy, cu, iz, j0, j1, cv, au, rfl, fk, fl, fm⟩
 refine Az _ fk ?_
 replace a6 := a6.mono (Ak (Ae _)) au
 replace aa := aa.mono (Ak (Ae _)) au
 replace ah := ah.mono (Ae _) au
 replace ai := ai.mono (Ae _) au
 replace aq := aq.mono (Ae _) au
 replace ar := ar.mono (Ae _) au
 refine At ?_
 obtain ⟨k3, fo, dz⟩ := AB mh
 refine jE (((bk, ce #[.slice br bu bw, .slice bo bp bq] 26) :: ((aj, ce #[.slice ax ay az, .slice ba bb bc] 26) :: ((b1, ce #[.slice Ac Ab.length Ad, .slice Aj Af.length Ai] 26) :: (ab ++ (ad ++ (ao ++ (bg ++ [])))))))) [(3, .pointer (some ⟨b1, 0, none⟩)), (7, .pointer (some ⟨aj, 0, none⟩)), (10, .pointer (some ⟨bk, 0, none⟩)), (93, .bool k3)] ?_ ?_
 ·clear dz
  refine An (um (um ?_))
  refine uv (BH rfl rfl) (um ?_)
  by_cases ak : e_ ≠ n3
  ·have jx := AQ fo ak
   refine fT ak (fT ak (fT ak (fT ak ?_)))
   refine uv (Aw (AS rfl ak) rfl) (Aa ?_)
   obtain rfl := AH jx
   exact mi (kd (kc (kc (kc (ka (ka (ka (ka kn)))))))) ⟨rfl, rfl, z4⟩
  have jz := AR fo ak
  refine nF ak (uv (AE isAgg26 sizeOf26 rfl (Has.own 1 rfl) (A5 rfl) rfl) (nF ak (uv (AE isAgg26 sizeOf26 rfl (Has.own 0 rfl) (A5 rfl) rfl) (nF ak ?_))))
  obtain ⟨pk, kb, kh⟩ := AB jz
  refine Bi (Lt := ao ++ (bg ++ (cu ++ (cv ++ [])))) (Lr := (da, ce #[.slice iv iw iy, .slice iz j0 j1] 26) :: ((bk, ce #[.slice br bu bw, .slice bo bp bq] 26) :: ((aj, ce #[.slice ax ay az, .slice ba bb bc] 26) :: ((b1, ce #[.slice Ac Ab.length Ad, .slice Aj Af.length Ai] 26) :: (ab ++ (ad ++ [])))))) rfl call22 rfl rfl rfl (pT ((fC (fC (fC (fC (fS (fS fP)))))).trans (pA ((fC (fC (fC (fC (fS (fS fP)))))).trans (pA ((fC (fC (fC (fC (fS (fS fP)))))).trans (pA ((fC (fC (fC (fC (fS (fS fP)))))).trans (pA pR)))))))) (lp (lp (lp (lp (ln rfl)))))) (fun F2 h2 h3 => by rw [(BG.Be aq).1]; rw [(BG.Be ar).1]; rw [(BG.Be fl).1]; rw [(BG.Be fm).1]; exact DF (aq.row (Ae _) h2 (fun p hp => h3 p (List.mem_append_left _ hp))) (ar.row (Ae _) h2 (fun p hp => h3 p (List.mem_append_right _ (List.mem_append_left _ hp)))) (fl.row (Ae _) h2 (fun p hp => h3 p (List.mem_append_right _ (List.mem_append_right _ (List.mem_append_left _ hp))))) (fm.row (Ae _) h2 (fun p hp => h3 p (List.mem_append_right _ (List.mem_append_right _ (List.mem_append_right _ (List.mem_append_left _ hp)))))) kb) ?_
  refine nF ak (uv (BM rfl) (uv (Ar (AM rfl ak) rfl) (Aa ?_)))
  obtain rfl := AH kh
  exact mi (kd (kc (kc (kc (ka (ka (ka (ka kn)))))))) ⟨rfl, rfl, z4⟩
 refine AT rfl (fun eb => ?_) (fun eb => ?_)
 ·have kj := bt dz eb
  refine AI (ua (Aa ?_))
  refine kW kn ?_
  refine As (Al ?_)
  refine BD results6 ?_
  obtain rfl := AH kj
  exact rfl
 have kl := bf dz eb
 refine Aq ?_
 obtain ⟨bm, km, fp⟩ := AB kl
 refine AK (fun e1 F1 L1 => ∃ (cg : LH), cf = F1 ∧ L1 = ((bk, ce #[.slice br bu bw, .slice bo bp bq] 26) :: ((aj, ce #[.slice ax ay az, .slice ba bb bc] 26) :: ((b1, ce #[.slice Ac Ab.length Ad, .slice Aj Af.length Ai] 26) :: (ab ++ (ad ++ (ao ++ (cg ++ []))))))) ∧ e1.sub [(3, .pointer (some ⟨b1, 0, none⟩)), (7, .pointer (some ⟨aj, 0, none⟩)), (10, .pointer (some ⟨bk, 0, none⟩))] ∧ BG K.w0.heap.size 36 35 1 (iE .i64) F1 bo bp bq bm cg) ?_ ?_
 ·clear fp
  refine AI (uv (Av Bz rfl) (uv (Ao isAgg24 rfl (Has.own 0 rfl) rfl) (uv ((AJ underlying24 rfl).i (BG.GN ar)) ?_)))
  refine um (Aa ?_)
  refine Ap ?_
  obtain ⟨ko, kt⟩ := AX km
  refine A2 (fun j2 e1 F1 L1 => ∃ (k4 : Int), CZ 0 (l6.length : Int) k4 j2 ∧ ∃ (al : List (List Int)) (bn : LH), CA j2 k4 al = some bm ∧ cf = F1 ∧ L1 = ((bk, ce #[.slice br bu bw, .slice bo bp bq] 26) :: ((aj, ce #[.slice ax ay az, .slice ba bb bc] 26) :: ((b1, ce #[.slice Ac Ab.length Ad, .slice Aj Af.length Ai] 26) :: (ab ++ (ad ++ (ao ++ (bn ++ []))))))) ∧ e1.sub [(3, .pointer (some ⟨b1, 0, none⟩)), (7, .pointer (some ⟨aj, 0, none⟩)), (10, .pointer (some ⟨bk, 0, none⟩)), (95, .slice bo bp bq), (96, .int .i64 (l6.length : Int)), (97, .int .i64 k4)] ∧ BG K.w0.heap.size 36 35 1 (iE .i64) F1 bo bp bq al bn) _ (m0 kr ⟨_, CZ.start _ _, l6, bg, kt, rfl, rfl, z6, ar⟩) ?_
  rintro j2 e1 _ _ ⟨k4, cj, al, bn, cw, rfl, rfl, fq, ck⟩
  refine Az _ fq (AI (uv (AV rfl rfl) ?_))
  refine Aa (At ?_)
  refine cQ (fun cx => ?_) fun cx => ?_
  ·obtain ⟨j2, rfl, fs⟩ := CZ.succ cj cx
   rw [CA] at cw
   refine Aq (At ?_)
   refine Ap (AI ?_)
   obtain ⟨x3, ft, fv, ku⟩ := A7 cw
   have fw := (BG.Be ck).1
   refine Iu (fC (fC (fC (fS (fS (fS fP)))))) ck fv ?_; intro na fx fy ou ow oy g0 dh di g8 ga
   refine kO (kf (fS (fS (fS fO))) (kf (fS (fS (fS fO))) (kf (fS (fS (fS fO))) kr))) ?_
   obtain ⟨oz, p0, p3, nc, gb, gg, kv, rfl, nf, gh⟩ := AW.at Cm di (L := (bk, ce #[.slice br bu bw, .slice bo bp bq] 26) :: ((aj, ce #[.slice ax ay az, .slice ba bb bc] 26) :: ((b1, ce #[.slice Ac Ab.length Ad, .slice Aj Af.length Ai] 26) :: (fx ++ (g0 ++ (fy ++ (ab ++ (ad ++ (ao ++ []))))))))) (fC (fC (fC fP))) ft.1 dh
   refine uv (AF underlying24 sizeOf36 rfl gb rfl (K2 fw ft)) (uv (Ao isAgg36 rfl gg (gh 0 (by decide))) ?_)
   refine ua (Aa (An (um ?_)))
   obtain ⟨p4, kz, la⟩ := BS ku
   refine OJ (z0 := 0) (zs := p4) rfl Kp (by decide) (Ae _) (fun _ => rfl) rfl (fun _ => .c (.c (.c (.s .h)))) g8 kz ?_; intro ng gi
   obtain ⟨u, ld, lg⟩ := BS la
   refine Bp (p := fun X => BG K.w0.heap.size 36 35 1 (iE .i64) cf bo bp bq u X) (K5.Lv ga di dh gi ld) (pT ((fC (fC (fC fP))).trans (pA ((fC (fC (fC fP))).trans (pA ((fC (fC (fC fP))).trans (pA pR)))))) (lp (lp (lp (ln rfl))))) ?_; intro gj gk
   refine kO (kf (fS fO) (kf (fS fO) (kf (fS fO) kr))) ?_
   refine Aa (Ax (id := 2) (An ?_))
   refine uv (AY rfl rfl (CZ.CC cj cx ko)) ?_
   refine um (Aa ?_)
   exact le (kc (kc (kc (kg (fS fP) (kg (fS fP) (kg (fS fP) kr)))))) ⟨_, fs, u, gj, lg, rfl, rfl, z6, gk⟩
  obtain rfl := CZ.zero cj cx
  rw [CA] at cw
  refine AL (Am (Am ?_))
  refine AA ?_
  obtain rfl := AH cw
  exact mi kr ⟨bn, rfl, rfl, z3, ck⟩
 rintro e1 _ _ ⟨cg, rfl, rfl, gl, nh⟩
 refine Az _ gl ?_
 obtain ⟨lh, gm⟩ := Rl fp
 refine jE (((aj, ce #[.slice ax ay az, .slice ba bb bc] 26) :: ((b1, ce #[.slice Ac Ab.length Ad, .slice Aj Af.length Ai] 26) :: (ab ++ (ad ++ []))))) [(3, .pointer (some ⟨b1, 0, none⟩)), (7, .pointer (some ⟨aj, 0, none⟩))] ?_ ?_
 ·clear gm
  refine AI (uv (Av Cy rfl) (uv (Ao isAgg23 rfl (Has.own 0 rfl) rfl) (uv ((AJ underlying23 rfl).i (BG.GN aq)) ?_)))
  refine um (Aa ?_)
  refine Ap (kW (kd (kc (kc (ka (ka (ka kn)))))) ?_)
  obtain ⟨lj, lk⟩ := AX lh
  refine A2 (fun j3 e1 F1 L1 => ∃ (k6 : Int), CZ 0 (l5.length : Int) k6 j3 ∧ ∃ (k5 : List (List Int)) (cn : LH), CB j3 k6 k5 = some () ∧ cf = F1 ∧ L1 = ((aj, ce #[.slice ax ay az, .slice ba bb bc] 26) :: ((b1, ce #[.slice Ac Ab.length Ad, .slice Aj Af.length Ai] 26) :: (ab ++ (ad ++ (cn ++ []))))) ∧ e1.sub [(3, .pointer (some ⟨b1, 0, none⟩)), (7, .pointer (some ⟨aj, 0, none⟩)), (104, .slice br bu bw), (105, .int .i64 (l5.length : Int)), (106, .int .i64 k6)] ∧ BG K.w0.heap.size 22 3 1 (iE .i64) F1 br bu bw k5 cn) _ (m0 kr ⟨_, CZ.start _ _, l5, ao, lk, rfl, rfl, z5, aq⟩) ?_
  rintro j3 e1 _ _ ⟨k6, cp, k5, cn, cy, rfl, rfl, gn, dk⟩
  refine Az _ gn (AI (uv (AV rfl rfl) ?_))
  refine Aa (At ?_)
  refine cQ (fun cz => ?_) fun cz => ?_
  ·obtain ⟨j3, rfl, gp⟩ := CZ.succ cp cz
   rw [CB] at cy
   refine Aq (At ?_)
   refine Ap (AI ?_)
   obtain ⟨x4, gq, gr, ll⟩ := A7 cy
   have gu := (BG.Be dk).1
   refine Iu (fC (fC (fS (fS fP)))) dk gr ?_; intro ni gv gw p5 p6 p7 gx dm dp gy gz
   refine kO (kf (fS (fS (fS fO))) (kf (fS (fS (fS fO))) kr)) ?_
   obtain ⟨p8, p9, pa, nj, ia, ib, lq, rfl, nk, ic⟩ := AW.at Cm dp (L := (aj, ce #[.slice ax ay az, .slice ba bb bc] 26) :: ((b1, ce #[.slice Ac Ab.length Ad, .slice Aj Af.length Ai] 26) :: (gv ++ (gx ++ (gw ++ (ab ++ (ad ++ []))))))) (fC (fC fP)) gq.1 dm
   refine uv (AF underlying23 sizeOf22 rfl ia rfl (K2 gu gq)) (uv (Ao isAgg22 rfl ib (ic 0 (by decide))) ?_)
   refine ua (Aa (An (um ?_)))
   obtain ⟨pb, lr, lu⟩ := BS ll
   refine OJ (z0 := 0) (zs := pb) rfl BN (by decide) (Ae _) (fun _ => rfl) rfl (fun _ => .c (.c (.s .h))) gy lr ?_; intro np ie
   obtain ⟨nq, lv, lx⟩ := BS lu
   refine Bp (p := fun X => BG K.w0.heap.size 22 3 1 (iE .i64) cf br bu bw nq X) (K5.Lv gz dp dm ie lv) (pT ((fC (fC fP)).trans (pA ((fC (fC fP)).trans (pA ((fC (fC fP)).trans (pA pR)))))) (lp (lp (lp (ln rfl))))) ?_; intro ig ij
   refine kO (kf (fS fO) (kf (fS fO) kr)) ?_
   refine Aa (Ax (id := 4) (An ?_))
   refine uv (AY rfl rfl (CZ.CC cp cz lj)) ?_
   refine um (Aa ?_)
   exact le (kc (kc (kg (fS fP) (kg (fS fP) kr)))) ⟨_, gp, nq, ig, lx, rfl, rfl, z5, ij⟩
  obtain rfl := CZ.zero cp cz
  rw [CB] at cy
  refine AL (Am (Am ?_))
  refine AA ?_
  clear cy
  exact mi (kc (kc (ka (ka kn)))) ⟨rfl, rfl, z2⟩
 refine AI (uv (AE isAgg26 sizeOf26 rfl (Has.own 0 rfl) (A5 rfl) rfl) (uv (AE isAgg26 sizeOf26 rfl (Has.own 1 rfl) (A5 rfl) rfl) ?_))
 obtain ⟨pd, ly, ik⟩ := AB gm
 refine Bi (Lt := ab ++ (ad ++ [])) (Lr := [(aj, ce #[.slice ax ay az, .slice ba bb bc] 26), (b1, ce #[.slice Ac Ab.length Ad, .slice Aj Af.length Ai] 26)]) rfl call22 rfl rfl rfl (pT ((fC (fC fP)).trans (pA ((fC (fC fP)).trans (pA pR)))) (lp (lp (ln rfl)))) (fun F2 h2 h3 => by rw [(BG.Be ah).1]; rw [(BG.Be ai).1]; exact DF (ah.row (Ae _) h2 (fun p hp => h3 p (List.mem_append_left _ hp))) (ai.row (Ae _) h2 (fun p hp => h3 p (List.mem_append_right _ (List.mem_append_left _ hp)))) (a6.mono (Ak (Ae _)) h2) (aa.mono (Ak (Ae _)) h2) ly) ?_
 refine um ?_
 rcases Bf pd with bj | bj
 ·have lz := bt ik bj
  refine nB bj ?_
  obtain ⟨pn, ma, mb⟩ := AB lz
  refine cV call14 (BB ma) (uv (Aw (En rfl bj) rfl) ?_)
  refine ua (Aa ?_)
  refine kW kn (As (BD results6 ?_))
  obtain rfl := AH mb
  exact rfl
 have mc := bf ik bj
 refine fB bj (uv (Ar (En rfl bj) rfl) ?_)
 refine ua (Aa ?_)
 refine kW kn (As (BD results6 ?_))
 obtain rfl := AH mc
 exact rfl
theorem Ez (a6 : Au 1 (Bm 1 (iE .i64)) F Ac Ad Ab) (_h_hours : Au 1 (Bm 1 (iE .i64)) F Aj Ai Af) {r : Int} (hr : DV Ab Af = some r) :
    Ba Tryz.prog 23 #[.agg #[.slice Ac Ab.length Ad, .slice Aj Af.length Ai]] F (.int .i64 r) := by
 refine sp func23 ntmps23 fun K _ _ => ?_
 rw [DV] at hr
 refine AI ?_
 refine By rfl rfl ?_; intro b1 al
 refine ua (BI (ua (Aa ?_)))
 obtain ⟨n, h2, r3⟩ := AB hr
 refine jE ([]) [(3, .int .i64 n)] ?_ ?_
 ·clear r3
  refine AI (ua (Aa ?_))
  refine Ap ?_
  refine A2 (fun ad e1 F1 L1 => LA Ab ad fun tl i => ∃ (n2 : Int), Fg tl n2 = some n ∧ F = F1 ∧ L1 = [(b1, ce #[.slice Ac Ab.length Ad, .slice Aj Af.length Ai] 51)] ∧ e1.sub [(1, .pointer (some ⟨b1, 0, none⟩)), (3, .int .i64 n2), (4, .int .i64 i)]) _ (m0 kr ⟨_, _, rfl, A8.start _, 1, h2, rfl, rfl, z3⟩) ?_
  rintro ad e1 _ _ ⟨tl, i, ae, aa, n2, r6, rfl, rfl, ah⟩
  refine Az _ ah ?_
  refine At (AI (um ?_))
  refine uv (Av Hs rfl) (uv (Ao isAgg23 rfl (Has.own 0 rfl) rfl) (uv (AJ underlying23 rfl) (uv (AV rfl rfl) (Aa ?_))))
  refine cQ (fun c9 => ?_) fun c9 => ?_
  ·obtain ⟨x, ao, rfl, ai, aq, ab⟩ := A8.succ aa c9
   rw [Fg] at r6
   refine Aq (At ?_)
   refine Ap ?_
   refine An (um ?_)
   obtain ⟨aj, ak⟩ := AX r6
   refine uv (NU rfl rfl aj) ?_
   refine ua (Aa (Ax (id := 1) (An (um ?_))))
   refine uv (AY rfl rfl (A8.CC aa c9 (Au.lt a6))) ?_
   refine ua (Aa ?_)
   subst ae; exact le kr ⟨_, _, rfl, ab, 2 * n2, ak, rfl, rfl, z3⟩
  obtain rfl := A8.zero aa c9
  rw [Fg] at r6
  refine AL (Am (Am ?_))
  refine AA ?_
  obtain rfl := AH r6
  exact mi kn ⟨rfl, rfl, z1⟩
 refine AI (um (ua (Aa (As ?_))))
 refine BD results23 ?_
 obtain rfl := AH r3
 exact rfl
theorem Hh {r : Bool} (hr : Gj BO Bx = some r) :
    Ba Tryz.prog 101 #[.int .i64 BO, .int .i64 Bx] F (.bool r) := by
 refine sp func101 ntmps101 fun K _ _ => ?_
 rw [Gj] at hr
 refine AI (ua (Aa ?_))
 obtain ⟨aa, h1, r2⟩ := AB hr
 refine jE ([]) [(0, .int .i64 aa)] ?_ ?_
 ·clear r2
  refine AI (ua (Aa ?_))
  refine Ap ?_
  obtain ⟨g3, r4⟩ := AX h1
  refine A2 (fun ab e1 F1 L1 => ∃ (i : Int), CZ 0 Bx i ab ∧ ∃ (a6 : Int), Gv ab a6 = some aa ∧ F = F1 ∧ L1 = [] ∧ e1.sub [(0, .int .i64 a6), (1, .int .i64 Bx), (5, .int .i64 i)]) _ (m0 kr ⟨_, CZ.start _ _, BO, r4, rfl, rfl, z3⟩) ?_
  rintro ab e1 _ _ ⟨i, ae, a6, r7, rfl, rfl, ai⟩
  refine Az _ ai ?_
  refine At (AI (um (um ?_)))
  refine uv (AV rfl rfl) (Aa ?_)
  refine cQ (fun ad => ?_) fun ad => ?_
  ·obtain ⟨ab, rfl, ah⟩ := CZ.succ ae ad
   rw [Gv] at r7
   refine Aq (At ?_)
   refine Ap ?_
   refine An (um ?_)
   obtain ⟨aj, ak⟩ := AX r7
   refine uv (N3 rfl rfl aj) ?_
   refine ua (Aa (Ax (id := 1) (An (um ?_))))
   refine uv (AY rfl rfl (CZ.CC ae ad g3)) ?_
   refine ua (Aa ?_)
   exact le kr ⟨_, ah, Int.tdiv a6 2, ak, rfl, rfl, z3⟩
  obtain rfl := CZ.zero ae ad
  rw [Gv] at r7
  refine AL (Am (Am ?_))
  refine AA ?_
  obtain rfl := AH r7
  exact mi kr ⟨rfl, rfl, z1⟩
 refine AI (um ?_)
 refine uv (Fp rfl rfl (by decide)) (uv (Bb rfl rfl) ?_)
 refine ua (Aa (As ?_))
 refine BD results101 ?_
 obtain rfl := AH r2
 exact rfl
set_option maxHeartbeats 1000000 in
theorem LZ {ab : (List (List Int)) → (List (List Int)) → Int → Int → Option (Bool)} (aj : ∀ {Ac : Option Addr} {Ad : Nat} {Ab : List (List Int)} {Aj : Option Addr} {Ai : Nat} {Af : List (List Int)} {AZ Bx : Int} {F : FS} (_ : Au 1 (Bm 1 (iE .i64)) F Ac Ad Ab) (_ : Au 1 (Bm 1 (iE .i64)) F Aj Ai Af) {r : Bool} , ab Ab Af AZ Bx = some r → Ba Tryz.prog 80 #[.agg #[.slice Ac Ab.length Ad, .slice Aj Af.length Ai], .int .i64 AZ, .int .i64 Bx] F (.bool r)) (a6 : Au 1 (Bm 1 (iE .i64)) F Ac Ad Ab) (aa : Au 1 (Bm 1 (iE .i64)) F Aj Ai Af) {r : Bool} (hr : IS ab Ab Af AZ Bx = some r) :
    Ba Tryz.prog 80 #[.agg #[.slice Ac Ab.length Ad, .slice Aj Af.length Ai], .int .i64 AZ, .int .i64 Bx] F (.bool r) := by
 refine sp func80 ntmps80 fun K _ _ => ?_
 rw [IS] at hr
 refine AI ?_
 refine By rfl rfl ?_; intro b1 cu
 refine ua (Aa (At (AI (um (um ?_)))))
 obtain ⟨ok, h2, r3⟩ := AB hr
 refine cV call101 (Hh h2) (Aa ?_)
 refine AT rfl (fun c4 => ?_) (fun c4 => ?_)
 ·have r5 := bt r3 c4
  refine AI (ua (Aa ?_))
  refine kW kn ?_
  refine As (Al ?_)
  refine BD results80 ?_
  obtain rfl := AH r5
  exact rfl
 have r6 := bf r3 c4
 refine Aq (At (AI ?_))
 refine uv (Av Hs rfl) (uv (Ao isAgg23 rfl (Has.own 0 rfl) rfl) (um ?_))
 obtain ⟨x, g7, ak, r9⟩ := A7 r6
 obtain ⟨PK, cv, cw, bu, al, ao, bl, ⟨cx, cy, rfl, cz⟩, bw, aq⟩ := Au.at (Ak (Ae _)) a6 ([(b1, ce #[.slice Ac Ab.length Ad, .slice Aj Af.length Ai] 51)]) g7.1 ak
 refine uv (AF underlying23 sizeOf22 rfl al rfl g7) (uv (Ao isAgg22 rfl ao (aq 0 (by decide))) (uv (AJ underlying22 rfl) (uv (Bb rfl rfl) (Aa ?_))))
 refine cQ (fun ar => ?_) fun ar => ?_
 ·have bx := AQ r9 ar
  refine AI (ua (Aa ?_))
  refine kW kn ?_
  refine As (Al ?_)
  refine BD results80 ?_
  obtain rfl := AH bx
  exact rfl
 have bz := AR r9 ar
 refine Aq ?_
 refine AK (fun e1 F1 L1 => HF = some r ∧ F = F1 ∧ L1 = [] ∧ e1.sub []) ?_ ?_
 ·refine AI (ua (Aa ?_))
  refine Ap ?_
  obtain ⟨ca, cb⟩ := AX bz
  refine A2 (fun ae e1 F1 L1 => ∃ (k : Int), CZ 0 (x.length : Int) k ae ∧ Ej Ab Af AZ ab x ae k = some r ∧ F = F1 ∧ L1 = [(b1, ce #[.slice Ac Ab.length Ad, .slice Aj Af.length Ai] 51)] ∧ e1.sub [(1, .int .i64 AZ), (2, .int .i64 Bx), (3, .pointer (some ⟨b1, 0, none⟩)), (7, .int .i64 k)]) _ (m0 kr ⟨_, CZ.start _ _, cb, rfl, rfl, z4⟩) ?_
  rintro ae e1 _ _ ⟨k, ad, ah, rfl, rfl, au⟩
  refine Az _ au ?_
  refine At (AI (um ?_))
  refine uv (Av Hs rfl) (uv (Ao isAgg23 rfl (Has.own 0 rfl) rfl) (um ?_))
  obtain ⟨da, db, dd, cc, av, aw, bm, ⟨de, df, rfl, dg⟩, cd, ax⟩ := Au.at (Ak (Ae _)) a6 ([(b1, ce #[.slice Ac Ab.length Ad, .slice Aj Af.length Ai] 51)]) g7.1 ak
  refine uv (AF underlying23 sizeOf22 rfl av rfl g7) (uv (Ao isAgg22 rfl aw (ax 0 (by decide))) (uv (AJ underlying22 rfl) (uv (AV rfl rfl) (Aa ?_))))
  refine cQ (fun ai => ?_) fun ai => ?_
  ·obtain ⟨ae, rfl, ay⟩ := CZ.succ ad ai
   rw [Ej] at ah
   refine Aq (At ?_)
   refine Ap (dW (wv (AE isAgg51 sizeOf51 rfl (Has.own 0 rfl) (A5 rfl) rfl) (wm (wv (Av Hs rfl) (wv (Ao isAgg23 rfl (Has.own 0 rfl) rfl) (wm ?_))))))
   obtain ⟨dh, di, dk, cf, az, ba, bn, ⟨dm, dp, rfl, cg⟩, cj, bb⟩ := Au.at (Ak (Ae _)) a6 ([(b1, ce #[.slice Ac Ab.length Ad, .slice Aj Af.length Ai] 51)]) g7.1 ak
   refine wv (AF underlying23 sizeOf22 rfl az rfl g7) (wv (Ao isAgg22 rfl ba (bb 0 (by decide))) (wm ?_))
   obtain ⟨x2, bo, bc, ck⟩ := A7 ah
   obtain ⟨dq, dr, dt, cn, bd, bg, bp, rfl, cp, bh⟩ := Au.at (Ae _) cg ([(b1, ce #[.slice Ac Ab.length Ad, .slice Aj Af.length Ai] 51)]) bo.1 bc
   refine wv (AF underlying22 sizeOf3 rfl bd rfl bo) (wv (Ao isAgg3 rfl bg (bh 0 (by decide))) ?_)
   obtain ⟨du, cq, bq⟩ := AB ck
   refine DL rfl call80 rfl rfl rfl (aj a6 aa cq) (BV ?_)
   refine AT rfl (fun bj => ?_) (fun bj => ?_)
   ·have cr := bt bq bj
    refine AI (ua (Aa ?_))
    refine kW kn ?_
    refine As (Ay (Al (Al (Ay (Al ?_)))))
    refine BD results80 ?_
    obtain rfl := AH cr
    exact rfl
   have ct := bf bq bj
   refine Aq (Ax (id := 1) (An (um ?_)))
   refine uv (AY rfl rfl (CZ.CC ad ai ca)) ?_
   refine ua (Aa ?_)
   exact le kr ⟨_, ay, ct, rfl, rfl, z4⟩
  obtain rfl := CZ.zero ad ai
  rw [Ej] at ah
  refine AL (Am (Am ?_))
  refine AA ?_
  exact mi kn ⟨ah, rfl, rfl, (sn _)⟩
 rintro e1 _ _ ⟨br, rfl, rfl, bk⟩
 refine Az _ bk ?_
 rw [HF] at br
 refine AI (ua (Aa (As ?_)))
 refine BD results80 ?_
 obtain rfl := AH br
 exact rfl
theorem GP : ∀ (fu : Nat) {Ac : Option Addr} {Ad : Nat} {Ab : List (List Int)} {Aj : Option Addr} {Ai : Nat} {Af : List (List Int)} {AZ Bx : Int} {F : FS} (_ : Au 1 (Bm 1 (iE .i64)) F Ac Ad Ab) (_ : Au 1 (Bm 1 (iE .i64)) F Aj Ai Af) {r : Bool} , Dv fu Ab Af AZ Bx = some r → Ba Tryz.prog 80 #[.agg #[.slice Ac Ab.length Ad, .slice Aj Af.length Ai], .int .i64 AZ, .int .i64 Bx] F (.bool r) := by
  intro fu
  induction fu with
  | zero => intros; rename_i hr; rw [Dv] at hr; cases hr
  | succ fu ih => intros; rename_i hr; rw [Dv] at hr; exact LZ ih (by assumption) (by assumption) hr
set_option maxHeartbeats 1000000 in
theorem Mq (a6 : Au 1 (Bm 1 (iE .i64)) F Ac Ad Ab) (ad : Au 1 (Bm 1 (iE .i64)) F Aj Ai Af) {r : Int} (hr : Jl Ab Af AZ = some r) :
    Ba Tryz.prog 24 #[.agg #[.slice Ac Ab.length Ad, .slice Aj Af.length Ai], .int .i64 AZ] F (.int .i64 r) := by
 refine sp func24 ntmps24 fun K _ _ => ?_
 rw [Jl] at hr
 refine AI ?_
 refine By rfl rfl ?_; intro b1 bc
 refine ua (BI (ua (ua (Aa ?_))))
 obtain ⟨out, h2, r3⟩ := AB hr
 refine jE ([]) [(5, .int .i64 out)] ?_ ?_
 ·clear r3
  refine AI (ua (Aa ?_))
  refine Ap ?_
  refine A2 (fun aj e1 F1 L1 => LA Ab aj fun tl i => ∃ (ab : Int) (aa : Int), DJ Ab Af AZ tl i ab aa = some out ∧ F = F1 ∧ L1 = [(b1, ce #[.slice Ac Ab.length Ad, .slice Aj Af.length Ai] 51)] ∧ e1.sub [(1, .int .i64 AZ), (2, .pointer (some ⟨b1, 0, none⟩)), (5, .int .i64 ab), (6, .int .i64 aa), (7, .int .i64 i)]) _ (m0 kr ⟨_, _, rfl, A8.start _, 0, 1, h2, rfl, rfl, z5⟩) ?_
  rintro aj e1 _ _ ⟨tl, i, ak, ah, ab, aa, r6, rfl, rfl, ao⟩
  refine Az _ ao ?_
  refine At (AI (um ?_))
  refine uv (Av Hs rfl) (uv (Ao isAgg23 rfl (Has.own 0 rfl) rfl) (uv (AJ underlying23 rfl) (uv (AV rfl rfl) (Aa ?_))))
  refine cQ (fun c9 => ?_) fun c9 => ?_
  ·obtain ⟨x, bd, rfl, aq, bg, ae⟩ := A8.succ ah c9
   rw [DJ] at r6
   refine Aq (At ?_)
   refine Ap ?_
   refine At (AI ?_)
   refine uv (AE isAgg51 sizeOf51 rfl (Has.own 0 rfl) (A5 rfl) rfl) ?_
   refine um (um ?_)
   obtain ⟨ok, ar, al⟩ := AB r6
   refine cV call80 ((GP FU) a6 ad ar) (Aa ?_)
   refine AT rfl (fun ai => ?_) (fun ai => ?_)
   ·have au := bt al ai
    refine An (um (um ?_))
    obtain ⟨av, aw⟩ := AX au
    refine uv (AY rfl rfl av) ?_
    refine ua (Aa (An (um ?_)))
    obtain ⟨ax, ay⟩ := AX aw
    refine uv (NU rfl rfl ax) ?_
    refine ua (Aa (Ax (id := 1) (An (um ?_))))
    refine uv (AY rfl rfl (A8.CC ah c9 (Au.lt a6))) ?_
    refine ua (Aa ?_)
    subst ak; exact le kr ⟨_, _, rfl, ae, ab + aa, 2 * aa, ay, rfl, rfl, z5⟩
   have az := bf al ai
   refine Aq (An (um ?_))
   obtain ⟨ba, bb⟩ := AX az
   refine uv (NU rfl rfl ba) ?_
   refine ua (Aa (Ax (id := 1) (An (um ?_))))
   refine uv (AY rfl rfl (A8.CC ah c9 (Au.lt a6))) ?_
   refine ua (Aa ?_)
   subst ak; exact le kr ⟨_, _, rfl, ae, ab, 2 * aa, bb, rfl, rfl, z5⟩
  obtain rfl := A8.zero ah c9
  rw [DJ] at r6
  refine AL (Am (Am ?_))
  refine AA ?_
  obtain rfl := AH r6
  exact mi kn ⟨rfl, rfl, z1⟩
 refine AI (um (ua (Aa (As ?_))))
 refine BD results24 ?_
 obtain rfl := AH r3
 exact rfl
set_option maxHeartbeats 1000000 in
theorem KC {aa : Option Addr} {ab : Nat} {marks : List Int} (a6 : Au 1 (Bm 1 (iE .i64)) F Ac Ad Ab) (ah : Au 1 (Bm 1 (iE .i64)) F Aj Ai Af) (ad : Au 1 (iE .i64) F aa ab marks) {r : Bool} (hr : II Ab Af marks AZ = some r) :
    Ba Tryz.prog 81 #[.agg #[.slice Ac Ab.length Ad, .slice Aj Af.length Ai], .slice aa marks.length ab, .int .i64 AZ] F (.bool r) := by
 refine sp func81 ntmps81 fun K _ _ => ?_
 rw [II] at hr
 refine AI ?_
 refine By rfl rfl ?_; intro b1 cy
 refine ua (Aa ?_)
 refine AK (fun e1 F1 L1 => ID = some r ∧ F = F1 ∧ L1 = [] ∧ e1.sub []) ?_ ?_
 ·refine AI (ua (Aa ?_))
  refine Ap ?_
  refine A2 (fun bh e1 F1 L1 => LA marks bh fun tl i => Fk Ab Af AZ tl i = some r ∧ F = F1 ∧ L1 = [(b1, ce #[.slice Ac Ab.length Ad, .slice Aj Af.length Ai] 51)] ∧ e1.sub [(1, .slice aa marks.length ab), (2, .int .i64 AZ), (3, .pointer (some ⟨b1, 0, none⟩)), (7, .int .i64 i)]) _ (m0 kr ⟨_, _, rfl, A8.start _, hr, rfl, rfl, z4⟩) ?_
  rintro bh e1 _ _ ⟨tl, i, br, ao, r4, rfl, rfl, bu⟩
  refine Az _ bu ?_
  refine At (AI (um (um ?_)))
  refine uv (AJ underlying22 rfl) (uv (AV rfl rfl) (Aa ?_))
  refine cQ (fun c7 => ?_) fun c7 => ?_
  ·obtain ⟨x, cz, rfl, aq, al, bw⟩ := A8.succ ao c7
   rw [Fk] at r4
   refine Aq (At ?_)
   refine Ap ?_
   obtain ⟨k, bj, ar⟩ := AB r4
   refine jE ([(b1, ce #[.slice Ac Ab.length Ad, .slice Aj Af.length Ai] 51)]) [(1, .slice aa marks.length ab), (2, .int .i64 AZ), (3, .pointer (some ⟨b1, 0, none⟩)), (7, .int .i64 i), (38, .bool k)] ?_ ?_
   ·clear ar
    refine An (um (um ?_))
    obtain ⟨da, db, dd, bx, au, av, bk, rfl, bz, aw⟩ := Au.at (Ae _) ad ([(b1, ce #[.slice Ac Ab.length Ad, .slice Aj Af.length Ai] 51)]) al.1 aq
    refine uv (AF underlying22 sizeOf3 rfl au rfl al) (uv (Ao isAgg3 rfl av (aw 0 (by decide))) (uv (Bb rfl rfl) (um ?_)))
    by_cases ai : x = 1
    ·have ca := AQ bj ai
     refine nT ai (uv (AE isAgg51 sizeOf51 rfl (Has.own 0 rfl) (A5 rfl) rfl) ?_)
     refine nT ai (um (nT ai (um (nT ai ?_))))
     obtain ⟨ok, cb, bl⟩ := AB ca
     refine cV call80 ((GP FU) a6 ah cb) (nT ai (uv (BM rfl) (uv (Aw (AS rfl ai) rfl) (um ?_))))
     rcases Bf (!ok) with ae | ae
     ·have cc := bt bl ae
      refine fB ae (fB ae (fB ae (fB ae (fB ae (fB ae (fU (fU (fU (fU ?_)))))))))
      refine fB ae (uv (Aw (En rfl ae) rfl) (Aa ?_))
      obtain rfl := AH cc
      exact mi kr ⟨rfl, rfl, z5⟩
     have bm := bf bl ae
     refine nB ae (um (nB ae (um (nB ae ?_))))
     obtain ⟨de, df, dg, cd, ax, ay, bn, rfl, cf, az⟩ := Au.at (Ae _) ad ([(b1, ce #[.slice Ac Ab.length Ad, .slice Aj Af.length Ai] 51)]) al.1 aq
     refine uv (AF underlying22 sizeOf3 rfl ax rfl al) (nB ae (uv (Ao isAgg3 rfl ay (az 0 (by decide))) (nB ae (uv (Bb rfl rfl) ?_))))
     refine nB ae (um ?_)
     by_cases aj : x = 2
     ·have cg := AQ bm aj
      refine nT aj (uv (AE isAgg51 sizeOf51 rfl (Has.own 0 rfl) (A5 rfl) rfl) ?_)
      refine nT aj (um (nT aj (um (nT aj ?_))))
      obtain ⟨dh, cj, ck⟩ := AB cg
      refine cV call80 ((GP FU) a6 ah cj) (nB ae (uv (Aw (AS rfl aj) rfl) (uv (Ar (En rfl ae) rfl) (Aa ?_))))
      obtain rfl := AH ck
      exact mi kr ⟨rfl, rfl, z5⟩
     have cn := AR bm aj
     refine fF aj (fF aj (fF aj (fF aj (nB ae ?_))))
     refine uv (Ar (AM rfl aj) rfl) (uv (Ar (En rfl ae) rfl) (Aa ?_))
     obtain rfl := AH cn
     exact mi kr ⟨rfl, rfl, z5⟩
    have bo := AR bj ai
    refine fF ai (fF ai (fF ai (fF ai (fF ai ?_))))
    refine uv (Ar (AM rfl ai) rfl) ?_
    refine um (HC (b := false) 26 rfl rfl (um (HC (b := false) 26 rfl rfl (um (HC (b := false) 26 rfl rfl ?_)))))
    obtain ⟨di, dk, dm, cp, ba, bb, bp, rfl, cq, bc⟩ := Au.at (Ae _) ad ([(b1, ce #[.slice Ac Ab.length Ad, .slice Aj Af.length Ai] 51)]) al.1 aq
    refine uv (AF underlying22 sizeOf3 rfl ba rfl al) (HC (b := false) 26 rfl rfl (uv (Ao isAgg3 rfl bb (bc 0 (by decide))) (HC (b := false) 26 rfl rfl (uv (Bb rfl rfl) ?_))))
    refine HC (b := false) 26 rfl rfl (um ?_)
    by_cases ak : x = 2
    ·have cr := AQ bo ak
     refine nT ak (uv (AE isAgg51 sizeOf51 rfl (Has.own 0 rfl) (A5 rfl) rfl) ?_)
     refine nT ak (um (nT ak (um (nT ak ?_))))
     obtain ⟨dp, ct, cu⟩ := AB cr
     refine cV call80 ((GP FU) a6 ah ct) (HC (b := false) 26 rfl rfl (uv (Aw (AS rfl ak) rfl) (uv (Ar rfl rfl) (Aa ?_))))
     obtain rfl := AH cu
     exact mi kr ⟨rfl, rfl, z5⟩
    have cv := AR bo ak
    refine fF ak (fF ak (fF ak (fF ak (HC (b := false) 26 rfl rfl ?_))))
    refine uv (Ar (AM rfl ak) rfl) (uv (Ar rfl rfl) (Aa ?_))
    obtain rfl := AH cv
    exact mi kr ⟨rfl, rfl, z5⟩
   refine AT rfl (fun bd => ?_) (fun bd => ?_)
   ·have cw := bt ar bd
    refine AI (ua (Aa ?_))
    refine kW kn ?_
    refine As (Ay (Al (Al (Ay (Al ?_)))))
    refine BD results81 ?_
    obtain rfl := AH cw
    exact rfl
   have cx := bf ar bd
   refine Aq (Ax (id := 1) (An (um ?_)))
   refine uv (AY rfl rfl (A8.CC ao c7 (Au.lt ad))) ?_
   refine ua (Aa ?_)
   subst br; exact le kr ⟨_, _, rfl, bw, cx, rfl, rfl, z4⟩
  obtain rfl := A8.zero ao c7
  rw [Fk] at r4
  refine AL (Am (Am ?_))
  refine AA ?_
  exact mi kn ⟨r4, rfl, rfl, (sn _)⟩
 rintro e1 _ _ ⟨bq, rfl, rfl, bg⟩
 refine Az _ bg ?_
 rw [ID] at bq
 refine AI (ua (Aa (As ?_)))
 refine BD results81 ?_
 obtain rfl := AH bq
 exact rfl
theorem IT (aa : Au 1 (Bm 1 (iE .i64)) F Ac Ad Ab) (a6 : Au 1 (Bm 1 (iE .i64)) F Aj Ai Af) {r : Bool} (hr : G7 Ab Af hour AZ = some r) :
    Ba Tryz.prog 25 #[.agg #[.slice Ac Ab.length Ad, .slice Aj Af.length Ai], .int .i64 hour, .int .i64 AZ] F (.bool r) := by
 refine sp func25 ntmps25 fun K _ _ => ?_
 rw [G7] at hr
 refine AI ?_
 refine By rfl rfl ?_; intro b1 aq
 refine ua (dN (wv (AE isAgg51 sizeOf51 rfl (Has.own 0 rfl) (A5 rfl) rfl) (wv (Av DQ rfl) (wv (Ao isAgg23 rfl (Has.own 0 rfl) rfl) (wm ?_)))))
 obtain ⟨x, g2, ah, r4⟩ := A7 hr
 obtain ⟨b5, o6, c7, ar, ai, ab, ae, ⟨au, av, rfl, aj⟩, ak, ad⟩ := Au.at (Ak (Ae _)) a6 ([(b1, ce #[.slice Ac Ab.length Ad, .slice Aj Af.length Ai] 51)]) g2.1 ah
 refine wv (AF underlying23 sizeOf22 rfl ai rfl g2) (wv (Ao isAgg22 rfl ab (ad 0 (by decide))) (wm ?_))
 obtain ⟨ok, al, ao⟩ := AB r4
 refine DL rfl call81 rfl rfl rfl (KC aa a6 aj al) ?_
 refine wa (BV ?_)
 refine kW kn (As (BD results25 ?_))
 obtain rfl := AH ao
 exact rfl
theorem J9 {rows : List (List Bool)} (ab : F Hx = some (.cells #[.slice Ac Ab.length Ad, .slice Aj Af.length Ai, v1, .slice Dc rows.length Dd] 113 KD)) (_h_listens : Au 1 (Bm 1 (iE .i64)) F Ac Ad Ab) (_h_hours : Au 1 (Bm 1 (iE .i64)) F Aj Ai Af) (a6 : Au 64 (LP 64 cB) F Dc Dd rows) {r : Bool} (hr : HW Ab Af rows hour BO = some r) :
    Ba Tryz.prog 83 #[.pointer (some ⟨Hx, 0, none⟩), .int .i64 hour, .int .i64 BO] F (.bool r) := by
 refine sp func83 ntmps83 fun K _ _ => ?_
 rw [HW] at hr
 refine AI (ua (BI (um ?_)))
 refine uv (Bo rfl) (uv (Av JB rfl) (uv (Ao isAgg111 rfl (Has.frozen ab) rfl) ?_))
 refine um (um ?_)
 obtain ⟨x, g2, al, r4⟩ := A7 hr
 obtain ⟨b5, o6, c7, au, ao, ad, aa, ⟨rfl, ak⟩, ae, ah⟩ := Au.at (Bg (n := 64) (sz := 1) BU) a6 ([]) g2.1 al
 refine uv (AF underlying111 sizeOf148 rfl ao rfl g2) ?_
 obtain ⟨x2, aq, ai, ar⟩ := A7 r4
 have aj := OX BU ak ai ah aa ae
 refine uv (B6 underlying148 sizeOf4 rfl rfl (Ci ak aq)) (uv (Ao isAgg4 rfl ad ((aj).2.2 0 (by decide))) ?_)
 refine ua (Aa (As ?_))
 refine BD results83 ?_
 obtain rfl := AH ar
 exact rfl
set_option maxHeartbeats 1000000 in
theorem N5 (a6 : Au 1 (Bm 1 (iE .i64)) F Ac Ad Ab) (aa : Au 1 (Bm 1 (iE .i64)) F Aj Ai Af) {r : Bool} {r2 : Int} (hr : LR Ab Af hour AZ = some (r, r2)) :
    Ba Tryz.prog 27 #[.agg #[.slice Ac Ab.length Ad, .slice Aj Af.length Ai], .int .i64 hour, .int .i64 AZ] F (.tuple #[.bool r, .int .i64 r2]) := by
 refine sp func27 ntmps27 fun K _ _ => ?_
 rw [LR] at hr
 refine AI ?_
 refine By rfl rfl ?_; intro b1 cc
 refine ua (ua (BI ?_))
 refine uv (AE isAgg26 sizeOf26 rfl (Has.own 0 rfl) (A5 rfl) rfl) ?_
 obtain ⟨d, n, h2, r3⟩ := A9 hr
 refine c0 call67 (Ct a6 aa h2) ?_; rintro _ F4 _ cd cf ⟨v8, ay, rfl, rfl, az⟩
 refine AD (lp (ln rfl)) (kO (kf (fS fO) kr) ?_)
 refine um (ox rfl rfl rfl (ox rfl rfl rfl (ua (ua (Aa (At ?_))))))
 refine Ap ?_
 refine AI (um ?_)
 refine uv (BH rfl rfl) ?_
 refine ua (Aa ?_)
 refine cQ (fun ae => ?_) fun ae => ?_
 ·have ba := AQ r3 ae
  refine AI (um (ua (ua (Aa ?_))))
  refine kW kn ?_
  refine As (Ay (Al ?_))
  refine Bu results27 (AP rfl) (AP rfl) (sr) ?_
  obtain ⟨rfl, rfl⟩ := BT ba
  exact rfl
 have bb := AR r3 ae
 refine AI (um ?_)
 refine uv (Av Bz rfl) (uv (Ao isAgg24 rfl (Has.own 0 rfl) rfl) (uv (AJ underlying24 rfl) ?_))
 obtain ⟨bc, bd⟩ := AX bb
 refine uv (C7 rfl rfl bc) ?_
 obtain ⟨ok, bg, ar⟩ := AB bd
 refine cV call55 (D3 bg) (uv (BM rfl) ?_)
 refine ua (Aa ?_)
 refine AT rfl (fun ah => ?_) (fun ah => ?_)
 ·have bh := bt ar ah
  refine AI (ua (ua (Aa ?_)))
  refine kW kn ?_
  refine As (Ay (Al ?_))
  refine Bu results27 (AP rfl) (AP rfl) (sr) ?_
  obtain ⟨rfl, rfl⟩ := BT bh
  exact rfl
 have bj := bf ar ah
 refine At ?_
 obtain ⟨ab, ai, BW, rows, bk, bl⟩ := GV bj
 have au := az; rw [bk] at au; obtain ⟨cg, cj, ck, cn, cp, cq, bm, aj, ak, cr, ct, al, ad, av, aw, bn, bo, ao⟩ := CM au; subst al; subst ao
 refine Fu (L' := [(b1, ce #[.slice Ac Ab.length Ad, .slice Aj Af.length Ai] 26), (bm, .map aj ak)]) rfl ?_
 refine An (um (um ?_))
 obtain ⟨n2, bp, bq⟩ := AB bl
 refine cV call69 (BY ad av aw bp) ?_
 obtain ⟨br, bu⟩ := AX bq
 refine uv (C7 rfl rfl br) ?_
 obtain ⟨cu, bw, ax⟩ := AB bu
 refine cV call55 (D3 bw) (uv (BM rfl) ?_)
 refine ua (Aa ?_)
 refine AT rfl (fun aq => ?_) (fun aq => ?_)
 ·have bx := bt ax aq
  refine AI (ua (ua (Aa ?_)))
  refine kW kn ?_
  refine As (Ay (Al ?_))
  refine Bu results27 (AP rfl) (AP rfl) (sr) ?_
  obtain ⟨rfl, rfl⟩ := BT bx
  exact rfl
 have bz := bf ax aq
 refine Aq (Ax (id := 0) (AI (um (um (um ?_)))))
 obtain ⟨cv, ca, cb⟩ := AB bz
 refine cV call83 (J9 ad av aw bo ca) ?_
 refine ua (ua (Aa ?_))
 refine kW kn (As (Bu results27 (AP rfl) (AP rfl) (sr) ?_))
 obtain ⟨rfl, rfl⟩ := BT cb
 exact rfl
end Go.Proofs.YtepdgjpkhkijcaaGreat
