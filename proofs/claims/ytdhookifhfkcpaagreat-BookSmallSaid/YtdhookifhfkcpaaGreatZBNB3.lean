/- The walks that this claim needs, printed by a program of mine; part 3. -/
import Derived.Test.YtdhookifhfkcpaaGreatZBNB2
namespace Go.Proofs.YtdhookifhfkcpaaGreat
open Go.SH Go.PL
open Tryz 
variable {f : (Int × Int × Bool) → Option Bool} {L8 LZ : Array Value} {F : FS} {L4 : FuncId} {CY Af i many AP Ac : Int} {AN s_ x : List (Int × Int × Bool)} {Ak : List (Int × Int × Int)} {Ah : List (List (List Int))} {BT : List (List Int)} {g : List Bool} {AW own Ab : List Int} {P9 Cj P6 PR By Bk An Al CX Kh Ad E3 Qh : Nat} {Pq : Nat × Nat} {P3 Ci PT Bw Bl Ao Am CV Ki Ae E4 Qu : Option Addr}
set_option maxHeartbeats 1000000 in
theorem Eb {hour : Int} (ab : At 1 (CM 1 eJ) F Am Al Ah) (aa : At 1 eI F Ae Ad Ab) (ad : At 3 (Br eI eP) F Ao An Ak) (ah : At 1 eI F Bl Bk AW) {r : Bool} (hr : CQ Af Ac Ah Ab Ak AW hour = some r) :
    Bp Tryz.prog 6 #[.agg #[vI Af, vI Ac, sL Am Ah.length Al, sL Ae Ab.length Ad, sL Ao Ak.length An], sL Bl AW.length Bk, vI hour] F (.bool r) := by
 refine sp func6 ntmps6 fun K _ _ => ?_
 rw [CQ] at hr
 refine AG ?_
 refine BB rfl rfl ?_; intro b1 tu
 refine ua (Aa (Au (AG ?_)))
 refine uv (Cv isAgg26 sizeOf26 0) ?_
 obtain ⟨ok, h2, r3⟩ := Az hr
 refine cV call14 (Fp ab aa ad h2) (um ?_)
 obtain ⟨g4, r5⟩ := AF r3
 refine nB g4 (uv (Cv isAgg26 sizeOf26 0) (nB g4 ?_))
 obtain ⟨tv, h6, r7⟩ := Az r5
 refine cV call20 (Hr ab aa ad h6) (uv (AE (FK rfl g4) rfl) (um ?_))
 obtain ⟨g8, r9⟩ := AF r7
 refine nB g8 (um (nB g8 ?_))
 refine uv (AJ underlying22 rfl) (nB g8 (uv (C2 rfl rfl) (uv (AE (FK rfl g8) rfl) (Aa ?_))))
 obtain ⟨qs, qt⟩ := AF r9
 refine B9 rfl (fun pz => absurd pz qs) (fun pz => ?_)
 refine Ar (Au ?_)
 refine BK [(.pre, 6), (.pre, 7), (.still, 0), (.still, 2), (.still, 4), (.seq, 1), (.seq, 3), (.seq, 5), (.alloc (.cells (.agg #[vI 0, vI 0, sL none 0 0, sL none 0 0, sL none 0 0] : Value).cells 26 (0, 0)) (fun b => pO b) [], 6), (.alloc (.cells (.agg #[vI 0, vI 0, sL none 0 0, sL none 0 0, sL none 0 0] : Value).cells 50 (0, 0)) (fun b => pO b) [], 7), (.seq, 8), (.still, 9), (.seq, 10)] (by kernel_rfl) (by kernel_rfl) (⟨⟨_, _, rfl, rfl, rfl, rfl, rfl, GC zeroValue26⟩, ⟨⟨_, _, rfl, rfl, rfl, rfl, rfl, GC zeroValue50⟩, trivial⟩⟩) (by rfl) (by kernel_rfl) ?_
 refine ⟨⟨[], rfl, sn _, by kernel_rfl⟩, ?_⟩
 refine ⟨⟨[], rfl, sn _, by kernel_rfl⟩, ?_⟩
 refine mL [3] ([(b1, ce #[vI Af, vI Ac, sL Am Ah.length Al, sL Ae Ab.length Ad, sL Ao Ak.length An] 26)]) rfl (s0 sr) (fun H F' L' kl km => Bn isAgg26 sizeOf26 rfl ((Has.own 0 rfl).ext kl km) (DD rfl) rfl) (mS [1] rfl (A9 rfl) (mL [3] ([(b1, ce #[vI Af, vI Ac, sL Am Ah.length Al, sL Ae Ab.length Ad, sL Ao Ak.length An] 26)]) rfl (s0 sr) (fun H F' L' kl km => Bn isAgg26 sizeOf26 rfl ((Has.own 0 rfl).ext kl km) (DD rfl) rfl) ?_))
 refine ⟨_, [(38, .agg #[vI Af, vI Ac, sL Am Ah.length Al, sL Ae Ab.length Ad, sL Ao Ak.length An])], rfl, rfl, z1, by kernel_rfl, ?_⟩; intro H
 obtain ⟨n, n2, l, l2, l3, qu, qw⟩ := Ez qt
 refine c0 call15 (Fa ab aa ad qu) ?_; rintro _ tw _ cp ew ⟨dk, ef, dm, bp, dp, eg, dq, bq, dr, eh, dt, br, rfl, rfl, ak, aj, ai⟩
 replace ab := ab.mono (Ay kJ) cp
 replace aa := aa.m1 cp
 replace ad := ad.mono (Ai kI kP) cp
 replace ah := ah.m1 cp
 replace ak := ak.new fun p hp => ew p (by simp [hp])
 replace aj := aj.new fun p hp => ew p (by simp [hp])
 replace ai := ai.new fun p hp => ew p (by simp [hp])
 refine AB (lp (lp (lp (ln rfl)))) (kO (kf (fS (fS (fS fO))) kr) ?_)
 refine Aa ⟨_, rfl, cp, [4, 2], by kernel_rfl, .inl (.inr (fun d h => by cases h; rfl)), (fc (s0 (s2 (s3 (s3 (s3 sr))))) (fc sm nm)), ?_⟩
 refine ⟨_, [(40, sL Bl AW.length Bk)], rfl, rfl, z1, by kernel_rfl, ?_⟩; intro H
 obtain ⟨l4, qx, qy⟩ := Az qw
 refine c0 call21 (DO ah qx) ?_; rintro _ tx _ bx ko ⟨qz, r0, rb, ey, rfl, rfl, bj⟩
 replace ab := ab.mono (Ay kJ) bx
 replace aa := aa.m1 bx
 replace ad := ad.mono (Ai kI kP) bx
 replace ah := ah.m1 bx
 replace ak := ak.mono (Ay kJ) bx
 replace aj := aj.m1 bx
 replace ai := ai.mono (Ai kI kP) bx
 replace bj := bj.new fun p hp => ko p (by simp [hp])
 refine AB (lp (ln rfl)) (kO (kf (fS fO) kr) ?_)
 refine Aa ⟨_, rfl, bx, [4], by kernel_rfl, .inl (.inr (fun d h => by cases h; rfl)), (fc (s0 (s2 (s3 (s3 (s3 (s3 sr)))))) nm), ?_⟩
 refine ⟨_, [(42, .agg #[vI Af, vI Ac, sL Am Ah.length Al, sL Ae Ab.length Ad, sL Ao Ak.length An])], rfl, rfl, z1, by kernel_rfl, ?_⟩; intro H
 obtain ⟨n3, n4, l5, l6, l7, re, rf⟩ := Ez qy
 refine c0 call16 (DR ab aa ad re) ?_; rintro _ rh _ bu kt ⟨ku, kv, kz, l0, ld, lg, lh, du, rfl, rfl, ft, fv, bk⟩
 replace ab := ab.mono (Ay kJ) bu
 replace aa := aa.m1 bu
 replace ad := ad.mono (Ai kI kP) bu
 replace ah := ah.m1 bu
 replace ak := ak.mono (Ay kJ) bu
 replace aj := aj.m1 bu
 replace ai := ai.mono (Ai kI kP) bu
 replace bj := bj.m1 bu
 replace bk := bk.new fun p hp => kt p (by simp [hp])
 refine AB (lp (ln rfl)) (kO (kf (fS fO) kr) ?_)
 refine Aa ⟨_, rfl, bu, [], by kernel_rfl, .inl (.inl rfl), nm, ?_⟩
 refine HP rfl ?_; intro bw ri
 refine HK (L' := (bw, ce #[vI 0, vI 0, sL none 0 0, sL none 0 0, sL none 0 0] 26) :: ((b1, ce #[vI Af, vI Ac, sL Am Ah.length Al, sL Ae Ab.length Ad, sL Ao Ak.length An] 26) :: (du ++ (ey ++ (bp ++ (bq ++ (br ++ []))))))) rfl ?_
 refine HP rfl ?_; intro fw rj
 refine HK (L' := (fw, ce #[vI 0, vI 0, sL none 0 0, sL none 0 0, sL none 0 0] 50) :: ((bw, ce #[vI 0, vI 0, sL none 0 0, sL none 0 0, sL none 0 0] 26) :: ((b1, ce #[vI Af, vI Ac, sL Am Ah.length Al, sL Ae Ab.length Ad, sL Ao Ak.length An] 26) :: (du ++ (ey ++ (bp ++ (bq ++ (br ++ [])))))))) rfl ?_
 refine ⟨_, [(7, pO bw), (39, .agg #[vI n, vI n2, sL dk ef dm, sL dp eg dq, sL dr eh dt])], rfl, rfl, z2, by kernel_rfl, ?_⟩; intro H
 refine BD (i := 1) sizeOf26 rfl rfl rfl (by simp [Value.oneCell']) rfl (DD rfl) (AB rfl ?_)
 refine Aa ⟨undef, rfl, AQ.refl _, [], by kernel_rfl, .inl (.inl rfl), nm, ?_⟩
 refine mS [41] rfl (Da rfl) ?_
 refine ⟨_, [(9, pO fw), (43, .agg #[vI n3, vI n4, sL ku l5.length kv, sL kz l6.length l0, sL ld lg lh])], rfl, rfl, z2, by kernel_rfl, ?_⟩; intro H
 refine BD (i := 0) sizeOf50 rfl rfl rfl (by simp [Value.oneCell']) rfl (DD rfl) (AB rfl ?_)
 refine Aa ⟨undef, rfl, AQ.refl _, [], by kernel_rfl, .inl (.inl rfl), nm, ?_⟩
 refine Ce (AG (uv (Cv isAgg50 sizeOf50 0) ?_))
 obtain ⟨n5, rk, rl⟩ := Az rf
 refine Bh rfl call17 rfl rfl rfl (pT ((fC (fC (fC fP))).trans (pA pR)) (lp (ln rfl))) (fun F2 h2 h3 => by rw [(AI.A1 bk).1]; exact Ec (ft.mono (Ay kJ) h2) (fv.mono kI h2) (bk.row (Ai kI kP) h2 (aL h3)) rk) ?_
 refine ua (BR (um (ua (Aa ?_))))
 obtain ⟨v, q0, qb⟩ := Az rl
 refine jE (((fw, ce #[vI n3, vI n4, sL ku l5.length kv, sL kz l6.length l0, sL ld lg lh] 50) :: ((bw, ce #[vI n, vI n2, sL dk ef dm, sL dp eg dq, sL dr eh dt] 26) :: ((b1, ce #[vI Af, vI Ac, sL Am Ah.length Al, sL Ae Ab.length Ad, sL Ao Ak.length An] 26) :: (bp ++ (bq ++ (br ++ (ey ++ (du ++ []))))))))) [(1, sL Bl AW.length Bk), (2, vI hour), (3, pO b1), (7, pO bw), (8, sL qz r0 rb), (9, pO fw), (10, vI n5), (11, vI v)] ?_ ?_
 ·clear qb
  refine AG (um ?_)
  refine uv (Bx rfl rfl) (Aa ?_)
  refine cQ (fun lj => ?_) fun lj => ?_
  ·have rm := A2 q0 lj
   refine Aq (uv (Cv isAgg50 sizeOf50 0) (um ?_))
   obtain ⟨n6, rp, rq⟩ := Az rm
   refine Bh rfl call22 rfl rfl rfl (pT ((fC (fC (fC fP))).trans (pA pR)) (lp (ln rfl))) (fun F2 h2 h3 => by rw [(AI.A1 bk).1]; exact Gp (ft.mono (Ay kJ) h2) (fv.mono kI h2) (bk.row (Ai kI kP) h2 (aL h3)) (ah.mono kI h2) rp) ?_
   refine ua (Aa ?_)
   obtain rfl := AL rq
   exact mi (kc (kc (kc (kg (fS (fS fP)) (kg (fS (fS fP)) (kg (fS (fS fP)) (kg (fS fP) kr))))))) ⟨rfl, rfl, z8⟩
  have rr := A3 q0 lj
  refine Ar ?_
  obtain rfl := AL rr
  exact mi (kc (kc (kc (kg (fS (fS fP)) (kg (fS (fS fP)) (kg (fS (fS fP)) (kg (fS fP) kr))))))) ⟨rfl, rfl, z8⟩
 refine AG (uv (Cv isAgg26 sizeOf26 1) (um ?_))
 obtain ⟨tz, n7, ru, ry⟩ := Ca qb
 refine Bh rfl call23 rfl rfl rfl (pT ((fC (fC (fC fP))).trans (pA ((fC (fC (fC fP))).trans (pA ((fC (fC (fC fP))).trans (pA ((fC (fC (fC fP))).trans (pA pR)))))))) (lp (lp (lp (lp (ln rfl)))))) (fun F2 h2 h3 => by rw [(AI.A1 ak).1]; rw [(AI.A1 aj).1]; rw [(AI.A1 ai).1]; rw [(AI.A1 bj).1]; exact PG (ak.row (Ay kJ) h2 (aL h3)) (aj.row kI h2 (aL (aR h3))) (ai.row (Ai kI kP) h2 (aL (aR (aR h3)))) (bj.row kI h2 (aL (aR (aR (aR h3))))) ru) ?_
 refine um (ox rfl rfl rfl (ox rfl rfl rfl (ua (ua (Aa (Au ?_))))))
 obtain ⟨k, rz, qc⟩ := Az ry
 refine jE (((fw, ce #[vI n3, vI n4, sL ku l5.length kv, sL kz l6.length l0, sL ld lg lh] 50) :: ((bw, ce #[vI n, vI n2, sL dk ef dm, sL dp eg dq, sL dr eh dt] 26) :: ((b1, ce #[vI Af, vI Ac, sL Am Ah.length Al, sL Ae Ab.length Ad, sL Ao Ak.length An] 26) :: (bp ++ (bq ++ (br ++ (du ++ [])))))))) [(2, vI hour), (3, pO b1), (7, pO bw), (9, pO fw), (10, vI n5), (77, .bool k)] ?_ ?_
 ·clear qc
  refine Aq (um (um ?_))
  refine uv (BU rfl rfl) (um ?_)
  obtain ⟨dh, qd⟩ := AF rz
  refine nF dh (um (nF dh (um (nF dh ?_))))
  refine uv (Bx rfl rfl) ?_
  refine nF dh (um ?_)
  by_cases di : v = 0
  ·have s5 := A2 qd di
   refine nT di (uv (Cv isAgg50 sizeOf50 0) ?_)
   refine nT di (um (nT di ?_))
   obtain ⟨u0, s6, s7⟩ := Az s5
   refine Bh rfl call24 rfl rfl rfl (pT ((fC (fC (fC (fS (fS (fS (fS fP))))))).trans (pA pR)) (lp (ln rfl))) (fun F2 h2 h3 => by rw [(AI.A1 bk).1]; exact IV (ft.mono (Ay kJ) h2) (fv.mono kI h2) (bk.row (Ai kI kP) h2 (aL h3)) (ah.mono kI h2) s6) ?_
   refine nF dh (uv (AK (Ba rfl di) rfl) (nF dh (uv (JG underlying4 rfl rfl) (uv (AE (AR rfl dh) rfl) (um ?_)))))
   obtain ⟨fx, s8⟩ := AF s7
   refine nF fx (um (nF fx (um (nF fx ?_))))
   obtain ⟨u1, s9, sa⟩ := Az s8
   refine Bh rfl call25 rfl rfl rfl (pT ((fC (fC (fC (fS (fS (fS fP)))))).trans (pA pR)) (lp (ln rfl))) (fun F2 h2 h3 => by rw [(AI.A1 bj).1]; exact Bv (bj.row kI h2 (aL h3)) (ah.mono kI h2) s9) ?_
   refine nF fx (uv (Bo rfl) (uv (AE (AR rfl fx) rfl) (Aa ?_)))
   obtain rfl := AL sa
   exact mi (kc (kc (kc (ka (ka (ka (kx kr))))))) ⟨rfl, rfl, z6⟩
  have sb := A3 qd di
  refine fF di (fF di (fF di (nF dh ?_)))
  refine uv (AE (AR rfl di) rfl) (nF dh (uv (JG underlying4 rfl rfl) (uv (AE (AR rfl dh) rfl) (um ?_))))
  obtain ⟨fy, sd⟩ := AF sb
  refine nF fy (um (nF fy (um (nF fy ?_))))
  obtain ⟨u5, se, sf⟩ := Az sd
  refine Bh rfl call25 rfl rfl rfl (pT ((fC (fC (fC (fS (fS (fS fP)))))).trans (pA pR)) (lp (ln rfl))) (fun F2 h2 h3 => by rw [(AI.A1 bj).1]; exact Bv (bj.row kI h2 (aL h3)) (ah.mono kI h2) se) ?_
  refine nF fy (uv (Bo rfl) (uv (AE (AR rfl fy) rfl) (Aa ?_)))
  obtain rfl := AL sf
  exact mi (kc (kc (kc (ka (ka (ka (kx kr))))))) ⟨rfl, rfl, z6⟩
 obtain ⟨lk, ll⟩ := AF qc
 refine AV rfl (fun ga => absurd (lk.symm.trans ga) (by decide)) (fun ga => ?_)
 refine Ar (AG (ua (Aa ?_)))
 obtain ⟨BT, gb, gg⟩ := Az ll
 refine AO (fun e1 F1 L1 => ∃ (ax : Option Addr) (ay : Nat) (az : Nat) (ao : LH), AQ rh F1 ∧ L1 = ((bw, ce #[vI n, vI n2, sL dk ef dm, sL dp eg dq, sL dr eh dt] 26) :: ((b1, ce #[vI Af, vI Ac, sL Am Ah.length Al, sL Ae Ab.length Ad, sL Ao Ak.length An] 26) :: (bp ++ (bq ++ (br ++ (ao ++ [])))))) ∧ e1.sub [(2, vI hour), (3, pO b1), (7, pO bw), (10, vI n5), (14, sL ax ay az)] ∧ AI K.w0.heap.size 22 1 eJ F1 ax ay az BT ao) ?_ ?_
 ·clear gg
  refine AG (um ?_)
  refine uv (Bx rfl rfl) (Aa ?_)
  refine cQ (fun ez => ?_) fun ez => ?_
  ·have lq := A2 gb ez
   refine Aq (uv (Cv isAgg50 sizeOf50 0) ?_)
   obtain rfl := (AI.A1 bk).1
   refine A5 (Nat.le_refl _) (Ai kI kP) (fC (fC (fC (fS (fS (fS fP)))))) bk ?_; intro sg cq lr
   replace ft := ft.mono (Ay kJ) cq
   replace fv := fv.m1 cq
   obtain ⟨l8, lu, lv⟩ := Az lq
   refine c0 call26 ((HM FU) ft fv lr (At.nil _ _ _) lu) ?_; rintro _ sh _ gh gi ⟨lx, ly, ma, gj, rfl, rfl, cr⟩
   replace cr := cr.new fun p hp => gi p (by simp [hp])
   refine AB (lp (ln rfl)) (kO (kf (fS fO) (kf (fS fO) (kf (fS fO) kr))) ?_)
   refine ua (Aa ?_)
   obtain rfl := AL lv
   exact mi (kd (kc (kc (kg (fS fP) (kg (fS fP) (kg (fS fP) kr)))))) ⟨lx, ly, ma, gj, (cq.trans gh), rfl, z5, cr⟩
  have mb := A3 gb ez
  refine Ar ?_
  obtain rfl := AL mb
  exact mi (kd (kc (kc (ka (ka (ka (ke kn))))))) ⟨none, 0, 0, [], AQ.refl _, rfl, z5, AI.nil _ _ _ _ _⟩
 rintro e1 mc _ ⟨ax, ay, az, ao, bm, rfl, gk, ae⟩
 refine AA _ gk ?_
 replace ab := ab.mono (Ay kJ) bm
 replace aa := aa.m1 bm
 replace ad := ad.mono (Ai kI kP) bm
 replace ak := ak.mono (Ay kJ) bm
 replace aj := aj.m1 bm
 replace ai := ai.mono (Ai kI kP) bm
 refine AG (uv (Cv isAgg26 sizeOf26 0) ?_)
 obtain ⟨n8, n9, me, mg⟩ := Ca gg
 refine Bh rfl call27 rfl rfl rfl (pT ((fC (fC fP)).trans (pA ((fC (fC fP)).trans (pA ((fC (fC fP)).trans (pA pR)))))) (lp (lp (lp (ln rfl))))) (fun F2 h2 h3 => by rw [(AI.A1 ak).1]; rw [(AI.A1 aj).1]; rw [(AI.A1 ai).1]; exact MK (ak.row (Ay kJ) h2 (aL h3)) (aj.row kI h2 (aL (aR h3))) (ai.row (Ai kI kP) h2 (aL (aR (aR h3)))) me) ?_
 refine um (ox rfl rfl rfl (ox rfl rfl rfl (ua (ua (Aa (Au (AG (um (um ?_)))))))))
 refine uv (BU rfl rfl) (um ?_)
 obtain ⟨ct, mh⟩ := AF mg
 refine nF ct (um (nF ct (um (nF ct ?_))))
 refine uv ((AJ underlying34 rfl).i (AI.FE ae)) (nF ct (uv (BU rfl rfl) (uv (AE (AR rfl ct) rfl) (Aa ?_))))
 obtain ⟨mj, ml⟩ := AF mh
 refine B9 rfl (fun gl => absurd gl mj) (fun gl => ?_)
 refine Ar (AG (um (ua (BR (ua (Aa ?_))))))
 obtain ⟨v2, split, gm, gn⟩ := Ca ml
 refine AO (fun e1 F1 L1 => ∃ (fa : Option Addr) (fb : Nat) (fe : Nat) (cu : LH), AQ mc F1 ∧ L1 = ((bw, ce #[vI n, vI n2, sL dk ef dm, sL dp eg dq, sL dr eh dt] 26) :: ((b1, ce #[vI Af, vI Ac, sL Am Ah.length Al, sL Ae Ab.length Ad, sL Ao Ak.length An] 26) :: (bp ++ (bq ++ (br ++ (ao ++ (cu ++ []))))))) ∧ e1.sub [(2, vI hour), (3, pO b1), (7, pO bw), (10, vI n5), (11, vI v2), (14, sL ax ay az), (16, sL fa fb fe)] ∧ AI K.w0.heap.size 3 1 eI F1 fa fb fe split cu) ?_ ?_
 ·clear gn
  refine AG (um ?_)
  refine uv (Bx rfl rfl) (Aa ?_)
  refine cQ (fun ff => ?_) fun ff => ?_
  ·have mn := A2 gm ff
   refine AG (ua (Aa ?_))
   obtain ⟨k2, gp, fg⟩ := Az mn
   refine jE (((bw, ce #[vI n, vI n2, sL dk ef dm, sL dp eg dq, sL dr eh dt] 26) :: ((b1, ce #[vI Af, vI Ac, sL Am Ah.length Al, sL Ae Ab.length Ad, sL Ao Ak.length An] 26) :: (bp ++ (bq ++ (br ++ (ao ++ []))))))) [(2, vI hour), (3, pO b1), (7, pO bw), (10, vI n5), (11, vI 1), (14, sL ax ay az), (16, sL none 0 0), (107, .bool k2)] ?_ ?_
   ·clear fg
    refine Aq (um ?_)
    refine uv (Hu rfl rfl) (um ?_)
    by_cases ar : 0 ≤ hour
    ·have mo := A2 gp ar
     refine nT ar (um (nT ar ?_))
     refine uv (Ap CB rfl) (nT ar (uv (Co isAgg22 1) (nT ar (uv (AJ underlying22 rfl) (nT ar (uv (AY rfl rfl) (uv (AK (Ba rfl ar) rfl) ?_)))))))
     refine Aa ?_
     obtain rfl := AL mo
     exact mi kr ⟨rfl, rfl, z8⟩
    have mq := A3 gp ar
    refine fF ar (fF ar (fF ar (fF ar (fF ar ?_))))
    refine uv (AE (AR rfl ar) rfl) (Aa ?_)
    obtain rfl := AL mq
    exact mi kr ⟨rfl, rfl, z8⟩
   refine AV rfl (fun fh => ?_) (fun fh => ?_)
   ·have mr := bt fg fh
    refine Aq (um (um ?_))
    obtain ⟨l9, mu, mv⟩ := Az mr
    refine GH rfl call28 rfl rfl rfl (pT ((fC (fC (fS (fS (fS fP))))).trans (pA pR)) (ln (lp (ln rfl)))) (fun F2 h2 h3 => by rw [(AI.A1 ae).1]; exact Kk (ae.row kJ h2 (aL h3)) mu) (fun _ _ _ _ hq => by obtain ⟨gq, gr, gu, ei, rfl, rfl, bz⟩ := hq; exact ⟨_, _, _, _, rfl, rfl, bz.flat (fun _ _ h => h)⟩) ?_; rintro _ si _ gv gw gz ⟨gq, gr, gu, ei, rfl, rfl, bz⟩
    have ia := ND (Lb' := []) (by rfl) gw gz
    replace bz := bz.new fun p hp => ia p (by simp [hp])
    refine AB (lp (ln (lp (ln rfl)))) (kO (kf (fS (fS fO)) (kf (fS (fS fO)) kr)) ?_)
    refine ua (ua (Aa ?_))
    obtain ⟨rfl, rfl⟩ := Cd mv
    exact mi (kc (kc (kg (fS (fS fP)) (kg (fS (fS fP)) (kg (fS (fS fP)) (kg (fS fP) kr)))))) ⟨gq, gr, gu, ei, gv, rfl, z7, bz⟩
   have mw := bf fg fh
   refine Ar ?_
   obtain ⟨rfl, rfl⟩ := Cd mw
   exact mi (kc (kc (ka (ka (ka (ka (ke kr))))))) ⟨none, 0, 0, [], AQ.refl _, rfl, z7, AI.nil _ _ _ _ _⟩
  have mx := A3 gm ff
  refine Ar ?_
  obtain ⟨rfl, rfl⟩ := Cd mx
  exact mi (kc (kc (ka (ka (ka (ka (ke kr))))))) ⟨none, 0, 0, [], AQ.refl _, rfl, z7, AI.nil _ _ _ _ _⟩
 rintro e1 sj _ ⟨fa, fb, fe, cu, ba, rfl, ib, cg⟩
 refine AA _ ib ?_
 replace ab := ab.mono (Ay kJ) ba
 replace aa := aa.m1 ba
 replace ad := ad.mono (Ai kI kP) ba
 replace ak := ak.mono (Ay kJ) ba
 replace aj := aj.m1 ba
 replace ai := ai.mono (Ai kI kP) ba
 replace ae := ae.m2 ba
 refine AG (uv (Cv isAgg26 sizeOf26 0) (um ?_))
 obtain ⟨u6, u7, na, nc⟩ := Ca gn
 refine GH rfl call29 rfl rfl rfl (pT ((fC (fC fP)).trans (pA ((fC (fC fP)).trans (pA ((fC (fC fP)).trans (pA pR)))))) (ln (lp (lp (lp (ln rfl)))))) (fun F2 h2 h3 => by rw [(AI.A1 ak).1]; rw [(AI.A1 aj).1]; rw [(AI.A1 ai).1]; exact OR (ak.row (Ay kJ) h2 (aL h3)) (aj.row kI h2 (aL (aR h3))) (ai.row (Ai kI kP) h2 (aL (aR (aR h3)))) na) (fun _ _ _ _ hq => by obtain ⟨nf, ng, nh, ic, rfl, rfl, bn⟩ := hq; exact ⟨_, _, _, _, rfl, rfl, bn.flat (fun _ _ h => h)⟩) ?_; rintro _ sk _ av ie ig ⟨nf, ng, nh, ic, rfl, rfl, bn⟩
 replace ab := ab.mono (Ay kJ) av
 replace aa := aa.m1 av
 replace ad := ad.mono (Ai kI kP) av
 replace ak := ak.mono (Ay kJ) av
 replace aj := aj.m1 av
 replace ai := ai.mono (Ai kI kP) av
 replace ae := ae.m2 av
 replace cg := cg.m1 av
 have ij := ND (Lb' := []) (by rfl) ie ig
 replace bn := bn.new fun p hp => ij p (by simp [hp])
 refine AB (lp (ln (lp (lp (lp (ln rfl)))))) (kO (kf (fS (fS (fS (fS fO)))) (kf (fS (fS (fS (fS fO)))) kr)) ?_)
 refine um (ox rfl rfl rfl (ox rfl rfl rfl (ua (ua (Aa (Au (AG (um (um ?_)))))))))
 refine uv (BU rfl rfl) (um ?_)
 obtain ⟨cv, ni⟩ := AF nc
 refine nF cv (um (nF cv (um (nF cv ?_))))
 obtain ⟨u9, nj, nk⟩ := Az ni
 refine Bh rfl call25 rfl rfl rfl (pT ((fC (fC fP)).trans (pA ((fC (fC (fS (fS (fS (fS fP)))))).trans (pA pR)))) (lp (lp (ln rfl)))) (fun F2 h2 h3 => by rw [(AI.A1 bn).1]; rw [(AI.A1 cg).1]; exact Bv (bn.row kI h2 (aL h3)) (cg.row kI h2 (aL (aR h3))) nj) ?_
 refine nF cv (uv (Bo rfl) (uv (AE (AR rfl cv) rfl) (Aa ?_)))
 obtain ⟨np, nq⟩ := AF nk
 refine AV rfl (fun ik => absurd (np.symm.trans ik) (by decide)) (fun ik => ?_)
 refine Ar ?_
 obtain ⟨w, nr, il⟩ := Az nq
 refine jE (((bw, ce #[vI n, vI n2, sL dk ef dm, sL dp eg dq, sL dr eh dt] 26) :: ((b1, ce #[vI Af, vI Ac, sL Am Ah.length Al, sL Ae Ab.length Ad, sL Ao Ak.length An] 26) :: (bp ++ (bq ++ (br ++ (ao ++ []))))))) [(3, pO b1), (7, pO bw), (10, vI w), (14, sL ax ay az)] ?_ ?_
 ·clear il
  obtain ⟨k3, im, fi⟩ := Az nr
  refine jE (((bw, ce #[vI n, vI n2, sL dk ef dm, sL dp eg dq, sL dr eh dt] 26) :: ((b1, ce #[vI Af, vI Ac, sL Am Ah.length Al, sL Ae Ab.length Ad, sL Ao Ak.length An] 26) :: (bp ++ (bq ++ (br ++ (ao ++ []))))))) [(3, pO b1), (7, pO bw), (10, vI n5), (14, sL ax ay az), (132, .bool k3)] ?_ ?_
  ·clear fi
   refine Aq (um ?_)
   refine uv (Bx rfl rfl) (um ?_)
   by_cases bl : n5 = 0
   ·have ns := A2 im bl
    refine nT bl (um (nT bl ?_))
    refine uv ((AJ underlying34 rfl).i (AI.FE ae)) (nT bl (uv (Bx rfl rfl) (uv (AK (Ba rfl bl) rfl) (Aa ?_))))
    obtain rfl := AL ns
    exact mi (kc (kc (kx (ka (ka (ka (ka kn))))))) ⟨rfl, rfl, z5⟩
   have nt := A3 im bl
   refine fF bl (fF bl (fF bl ?_))
   refine uv (AE (AR rfl bl) rfl) (Aa ?_)
   obtain rfl := AL nt
   exact mi (kc (kc (kx (ka (ka (ka (ka kn))))))) ⟨rfl, rfl, z5⟩
  refine AV rfl (fun fj => ?_) (fun fj => ?_)
  ·have nu := bt fi fj
   refine Aq (ua (Aa ?_))
   obtain rfl := AL nu
   exact mi kr ⟨rfl, rfl, z4⟩
  have nv := bf fi fj
  refine Ar ?_
  obtain rfl := AL nv
  exact mi kr ⟨rfl, rfl, z4⟩
 refine AG (uv (Cv isAgg26 sizeOf26 0) ?_)
 obtain ⟨ub, uc, nw, ny⟩ := Ca il
 refine GH rfl call30 rfl rfl rfl (pT ((fC (fC fP)).trans (pA ((fC (fC fP)).trans (pA ((fC (fC fP)).trans (pA pR)))))) (ln (lp (lp (lp (ln rfl)))))) (fun F2 h2 h3 => by rw [(AI.A1 ak).1]; rw [(AI.A1 aj).1]; rw [(AI.A1 ai).1]; exact KY (ak.row (Ay kJ) h2 (aL h3)) (aj.row kI h2 (aL (aR h3))) (ai.row (Ai kI kP) h2 (aL (aR (aR h3)))) nw) (fun _ _ _ _ hq => by obtain ⟨nz, o0, o1, ej, rfl, rfl, al⟩ := hq; exact ⟨_, _, _, _, rfl, rfl, al.flat (fun _ _ h => h)⟩) ?_; rintro _ sq _ bb iq ir ⟨nz, o0, o1, ej, rfl, rfl, al⟩
 replace ab := ab.mono (Ay kJ) bb
 replace aa := aa.m1 bb
 replace ad := ad.mono (Ai kI kP) bb
 replace ak := ak.mono (Ay kJ) bb
 replace aj := aj.m1 bb
 replace ai := ai.mono (Ai kI kP) bb
 replace ae := ae.m2 bb
 have iu := ND (Lb' := []) (by rfl) iq ir
 replace al := al.new fun p hp => iu p (by simp [hp])
 refine AB (lp (ln (lp (lp (lp (ln rfl)))))) (kO (kf (fS (fS (fS (fS fO)))) (kf (fS (fS (fS (fS fO)))) kr)) ?_)
 refine um (ox rfl rfl rfl (ox rfl rfl rfl (ua (ua (BR ?_)))))
 refine uv (Cv isAgg26 sizeOf26 0) ?_
 obtain rfl := (AI.A1 ak).1
 refine A5 (Nat.le_refl _) (Ay kJ) (fC (fC (fS fP))) ak ?_; intro ss bc cb
 replace ab := ab.mono (Ay kJ) bc
 replace aa := aa.m1 bc
 replace ad := ad.mono (Ai kI kP) bc
 replace aj := aj.m1 bc
 replace ai := ai.mono (Ai kI kP) bc
 replace ae := ae.m2 bc
 replace al := al.m1 bc
 obtain rfl := (AI.A1 aj).1
 refine A5 (Nat.le_refl _) kI (fC (fC (fS fP))) aj ?_; intro su bd cn
 replace ab := ab.mono (Ay kJ) bd
 replace aa := aa.m1 bd
 replace ad := ad.mono (Ai kI kP) bd
 replace cb := cb.mono (Ay kJ) bd
 replace ai := ai.mono (Ai kI kP) bd
 replace ae := ae.m2 bd
 replace al := al.m1 bd
 obtain rfl := (AI.A1 ai).1
 refine A5 (Nat.le_refl _) (Ai kI kP) (fC (fC (fS fP))) ai ?_; intro sv bg dv
 replace ab := ab.mono (Ay kJ) bg
 replace aa := aa.m1 bg
 replace ad := ad.mono (Ai kI kP) bg
 replace cb := cb.mono (Ay kJ) bg
 replace cn := cn.m1 bg
 replace ae := ae.m2 bg
 replace al := al.m1 bg
 obtain ⟨iv, ud, o2, o3⟩ := Ca ny
 refine c0 call31 (KZ cb cn dv o2) ?_; rintro _ o4 _ aw iw ⟨dw, dx, dy, bh, rfl, rfl, aq⟩
 replace ab := ab.mono (Ay kJ) aw
 replace aa := aa.m1 aw
 replace ad := ad.mono (Ai kI kP) aw
 replace cb := cb.mono (Ay kJ) aw
 replace cn := cn.m1 aw
 replace dv := dv.mono (Ai kI kP) aw
 replace ae := ae.m2 aw
 replace al := al.m1 aw
 replace aq := aq.new fun p hp => iw p (by simp [hp])
 refine AB (lp (ln rfl)) (kO (kf (fS fO) (kf (fS fO) kr)) ?_)
 refine um (ox rfl rfl rfl (ox rfl rfl rfl (ua (ua (Aa (Au (AG (um (um ?_)))))))))
 refine uv (BU rfl rfl) (um ?_)
 obtain ⟨dz, o7⟩ := AF o3
 refine nF dz (um (nF dz (um (nF dz ?_))))
 refine uv (BU rfl rfl) (uv (AE (AR rfl dz) rfl) (um ?_))
 obtain ⟨cw, o8⟩ := AF o7
 refine nF cw (uv (Cv isAgg26 sizeOf26 0) (nF cw (uv (Cv isAgg26 sizeOf26 1) (nF cw ?_))))
 obtain ⟨ue, o9, oc⟩ := Az o8
 refine cV call19 (EE cb cn dv ab aa ad o9) (nF cw (uv (Bo rfl) (uv (AE (AR rfl cw) rfl) (Aa ?_))))
 obtain ⟨od, iy⟩ := AF oc
 refine AV rfl (fun iz => absurd (od.symm.trans iz) (by decide)) (fun iz => ?_)
 refine Ar (Au (AG (um ?_)))
 refine uv (BU rfl rfl) (Aa ?_)
 refine cQ (fun fk => ?_) fun fk => ?_
 ·have oe := A2 iy fk
  refine AG (um ?_)
  refine uv ((AJ underlying22 rfl).i (AI.FE al)) (um (uv ((AJ underlying34 rfl).i (AI.FE aq)) ?_))
  obtain ⟨og, oh⟩ := AF oe
  refine uv (A4 rfl rfl og) (uv (Bx rfl rfl) (um ?_))
  obtain ⟨j0, oi⟩ := AF oh
  refine nT j0 ?_
  obtain ⟨uf, oj, oo⟩ := Az oi
  refine cV call13 (CA oj) (uv (AK (Ba rfl j0) rfl) ?_)
  refine ua (Aa ?_)
  refine kW kn ?_
  refine Aw (Av ?_)
  refine B7 results6 ?_
  obtain rfl := AL oo
  exact rfl
 have oq := A3 iy fk
 refine Ar (Au (AG (um (um ?_))))
 obtain ⟨x, j1, j2, ot⟩ := BG oq
 obtain ⟨sw, sx, sy, qe, j3, j4, ou, ⟨tc, td, rfl, ow⟩, qf, j5⟩ := AI.at kJ ae (L := (bw, ce #[vI n, vI n2, sL dk l.length dm, sL dp l2.length dq, sL dr l3.length dt] 26) :: ((b1, ce #[vI Af, vI Ac, sL Am Ah.length Al, sL Ae Ab.length Ad, sL Ao Ak.length An] 26) :: (bh ++ (ej ++ (ao ++ []))))) (fC (fC (fS (fS fP)))) j1.1 j2
 refine uv (C0 underlying34 sizeOf22 j3 (AI.idx ae j1)) (uv (AS isAgg22 rfl j4 (j5 0 (by decide))) ?_)
 obtain ⟨te, oy, oz⟩ := Az ot
 refine Bh rfl call25 rfl rfl rfl (pT ((fC (fC (fS fP))).trans (pA pR)) (lp (ln rfl))) (fun F2 h2 h3 => by rw [(AI.A1 al).1]; exact Bv (al.row kI h2 (aL h3)) (ow.mono kI h2) oy) ?_
 refine uv (Bo rfl) (um ?_)
 obtain ⟨cf, p0⟩ := AF oz
 refine nB cf (um (nB cf ?_))
 refine uv ((AJ underlying34 rfl).i (AI.FE aq)) (nB cf (uv (Ap CB rfl) (nB cf (uv (Co isAgg22 1) (nB cf (uv (AJ underlying22 rfl) (nB cf ?_)))))))
 refine uv (BU rfl rfl) (uv (AE (FK rfl cf) rfl) (Aa ?_))
 obtain ⟨p3, p4⟩ := AF p0
 refine B9 rfl (fun j6 => absurd j6 p3) (fun j6 => ?_)
 refine Ar ?_
 obtain ⟨p5, j7⟩ := IK p4
 refine jF ([]) [] ?_ fun tf qg => ?_
 ·clear j7
  refine AG (um ?_)
  refine uv ((AJ underlying34 rfl).i (AI.FE aq)) ?_
  refine um (Aa ?_)
  refine As (kW (kd (kd (ka (kx kr)))) ?_)
  refine A6 (fun qh e1 F1 L1 => LA iv qh fun tl k4 => CU BT tl k4 = some () ∧ AQ o4 F1 ∧ L1 = (ao ++ (bh ++ [])) ∧ e1.sub [(14, sL ax ay az), (182, sL dw dx dy), (183, vI (iv.length : Int)), (184, vI k4)]) _ (m0 (kg (fS fP) kr) ⟨_, _, rfl, Bq.start _, p5, AQ.refl _, rfl, z4⟩) ?_
  rintro qh e1 p6 _ ⟨tl, k4, j8, cx, eb, cj, rfl, j9⟩
  refine AA _ j9 ?_
  replace ae := ae.m2 cj
  replace aq := aq.m2 cj
  refine AG (uv (AY rfl rfl) ?_)
  refine Aa (Au ?_)
  refine cQ (fun ec => ?_) fun ec => ?_
  ·obtain ⟨x2, ug, rfl, ja, jb, jc⟩ := Bq.succ cx ec
   rw [CU] at eb
   refine Ar ?_
   obtain ⟨p7, jd⟩ := IK eb
   refine jF ((ao ++ (bh ++ []))) [(14, sL ax ay az), (182, sL dw dx dy), (183, vI (iv.length : Int)), (184, vI k4)] ?_ fun tg en => ?_
   ·clear jd
    refine As ?_
    refine AG (um ?_)
    obtain ⟨th, ti, tj, qi, je, jf, p8, ⟨jg, jh, rfl, fl⟩, qj, ji⟩ := AI.at kJ aq (L := ao ++ (bh ++ [])) (fS fP) jb.1 ja
    refine uv (C0 underlying34 sizeOf22 je (AI.idx aq jb)) (uv (AS isAgg22 rfl jf (ji 0 (by decide))) ?_)
    refine ua (ua (BR (ua (Aa ?_))))
    obtain ⟨want, p9, jj⟩ := Az p7
    refine AO (fun e1 F1 L1 => ∃ (fm : Option Addr) (fo : Nat) (fp : Nat) (cy : LH), AQ p6 F1 ∧ L1 = (ao ++ (cy ++ (bh ++ []))) ∧ e1.sub [(14, sL ax ay az), (22, sL jg x2.length jh), (23, sL fm fo fp), (182, sL dw dx dy), (183, vI (iv.length : Int)), (184, vI k4)] ∧ AI K.w0.heap.size 3 1 eI F1 fm fo fp want cy) ?_ ?_
    ·clear jj
     refine AG (um (um ?_))
     obtain ⟨qk, pa, pb⟩ := Az p9
     refine GH rfl call28 rfl rfl rfl (pT pR (ln (lp (ln rfl)))) (fun F2 h2 h3 => by rw [(AI.A1 ae).1]; exact Kk (ae.row kJ h2 (aL h3)) pa) (fun _ _ _ _ hq => by obtain ⟨jk, jl, jm, cz, rfl, rfl, au⟩ := hq; exact ⟨_, _, _, _, rfl, rfl, au.flat (fun _ _ h => h)⟩) ?_; rintro _ pd _ jn jo jq ⟨jk, jl, jm, cz, rfl, rfl, au⟩
     have jr := ND (Lb' := []) (by rfl) jo jq
     replace au := au.new fun p hp => jr p (by simp [hp])
     refine AB (lp (ln (lp (ln rfl)))) (uv ((AJ underlying22 rfl).i (AI.FE au)) ?_)
     refine um (Aa ?_)
     refine As ?_
     refine A6 (fun ql e1 F1 L1 => LA qk ql fun qn k5 => ∃ (cc : List Int) (da : Option Addr) (db : Nat) (dd : Nat) (bo : LH), Cr qn k5 cc = some want ∧ pd = F1 ∧ L1 = (ao ++ (bo ++ (bh ++ (cz ++ [])))) ∧ e1.sub [(14, sL ax ay az), (22, sL jg x2.length jh), (23, sL da db dd), (182, sL dw dx dy), (183, vI (iv.length : Int)), (184, vI k4), (191, sL jk jl jm), (192, vI (qk.length : Int)), (193, vI k5)] ∧ AI K.w0.heap.size 3 1 eI F1 da db dd cc bo) _ (m0 (kg (fS fP) (ke (kg (fS fP) kr))) ⟨_, _, rfl, Bq.start _, [], none, 0, 0, [], pb, rfl, rfl, (sc rfl z8), AI.nil _ _ _ _ _⟩) ?_
     rintro ql e1 _ _ ⟨qn, k5, eo, ck, cc, da, db, dd, bo, de, rfl, rfl, js, df⟩
     refine AA _ js (AG (uv (AY rfl rfl) ?_))
     refine Aa (Au ?_)
     refine cQ (fun dg => ?_) fun dg => ?_
     ·obtain ⟨x3, uh, rfl, jt, ju, ep⟩ := Bq.succ ck dg
      rw [Cr] at de
      refine Ar (Au ?_)
      refine As ?_
      refine AG (um ?_)
      obtain ⟨tk, tm, tn, qo, jv, jw, pe, rfl, qp, jx⟩ := AI.at kI au (L := ao ++ (bo ++ (bh ++ (cz ++ [])))) (fS (fS (fS fP))) ju.1 jt
      refine uv (C0 underlying22 sizeOf3 jv (AI.idx au ju)) (uv (AS isAgg3 rfl jw (jx 0 (by decide))) ?_)
      refine ua (ua (BR (um ?_)))
      refine uv (C2 rfl rfl) (Aa ?_)
      refine cQ (fun fq => ?_) fun fq => ?_
      ·have pf := A2 de fq
       refine Aq (um (um ?_))
       refine bA (cs := #[vI k5]) Bm [vI k5] ?_; intro tp qq
       obtain ⟨er, pg, ph, pj⟩ := Ea pf
       refine CJ (xs := cc) (ys := [k5]) (zs := er) rfl Bm rfl rfl (Nat.le_refl _) (fun _ => .c (.s .h)) df (FL.box (vss := [[vI k5]]) (ys := [k5]) 0 rfl kI (.cons rfl .nil) rfl rfl) pg ph (by decide) ?_; intro pk pn po jz kb
       refine kO (kd kr) ?_
       refine ua (Aa (AD (id := 3) (Aq ?_)))
       refine uv (A4 rfl rfl (Bq.CE ck dg (AI.Po au))) ?_
       refine um (Aa ?_)
       subst eo; exact le kr ⟨_, _, rfl, ep, er, pk, pn, po, jz, pj, rfl, rfl, (sc rfl z8), kb⟩
      have pq := A3 de fq
      refine Ar (AD (id := 3) (Aq ?_))
      refine uv (A4 rfl rfl (Bq.CE ck dg (AI.Po au))) ?_
      refine um (Aa ?_)
      subst eo; exact le kr ⟨_, _, rfl, ep, cc, da, db, dd, bo, pq, rfl, rfl, (sc rfl z8), df⟩
     obtain rfl := Bq.zero ck dg
     rw [Cr] at de
     refine AM (Aj (Aj ?_))
     refine Ax ?_
     obtain rfl := AL de
     exact mi (ka (ka (ka kn))) ⟨da, db, dd, bo, jn, rfl, z6, df⟩
    rintro e1 tq _ ⟨fm, fo, fp, cy, et, rfl, kh, eu⟩
    refine AA _ kh ?_
    replace fl := fl.m1 et
    refine AG (um (um ?_))
    obtain ⟨tr, pr, pt⟩ := Az jj
    refine Bh rfl call25 rfl rfl rfl (pT ((fS fP).trans (pA pR)) (lp (ln rfl))) (fun F2 h2 h3 => by rw [(AI.A1 eu).1]; exact Bv (fl.mono kI h2) (eu.row kI h2 (aL h3)) pr) ?_
    refine uv (Bo rfl) (Aa ?_)
    obtain ⟨pv, pw⟩ := AF pt
    refine AV rfl (fun kj => absurd (pv.symm.trans kj) (by decide)) (fun kj => ?_)
    refine Ar (AD (id := 1) ?_)
    clear pw
    exact mi (ka (kx kr)) ⟨et, rfl, z4⟩
   replace aq := aq.m2 en
   refine Aq (uv (A4 rfl rfl (Bq.CE cx ec (AI.Po aq))) ?_)
   refine um (Aa ?_)
   subst j8; exact le kr ⟨_, _, rfl, jc, jd, (cj.trans en), rfl, z4⟩
  obtain rfl := Bq.zero cx ec
  rw [CU] at eb
  refine AM (Aj (Aj ?_))
  refine Ax ?_
  clear eb
  exact mi kn ⟨cj, rfl, (sn _)⟩
 refine AG ?_
 obtain ⟨tt, px, py⟩ := Az j7
 refine cV call13 (CA px) ?_
 refine ua (Aa (Aw ?_))
 refine B7 results6 ?_
 obtain rfl := AL py
 exact rfl
set_option maxHeartbeats 1000000 in
theorem ID (ae : At 1 (CM 1 eJ) F Am Al Ah) (_h_readings : At 1 eI F Ae Ad Ab) (ab : At 3 (Br eI eP) F Ao An Ak) (ad : At 1 eI F Bl Bk AW) {r : Bool} (hr : Hn Af Ac Ah Ab Ak AW CY AP = some r) :
    Bp Tryz.prog 83 #[.agg #[vI Af, vI Ac, sL Am Ah.length Al, sL Ae Ab.length Ad, sL Ao Ak.length An], sL Bl AW.length Bk, vI CY, vI AP] F (.bool r) := by
 refine sp func83 ntmps83 fun K _ _ => ?_
 rw [Hn] at hr
 refine AG ?_
 refine BB rfl rfl ?_; intro b1 df
 refine ua (Aa ?_)
 refine AO (fun e1 F1 L1 => Jh = some r ∧ F = F1 ∧ L1 = [] ∧ e1.sub []) ?_ ?_
 ·refine AG (ua (Aa ?_))
  refine As ?_
  refine A6 (fun bk e1 F1 L1 => LA Ak bk fun tl i => GD Ah AW CY AP tl = some r ∧ F = F1 ∧ L1 = [(b1, ce #[vI Af, vI Ac, sL Am Ah.length Al, sL Ae Ab.length Ad, sL Ao Ak.length An] 50)] ∧ e1.sub [(1, sL Bl AW.length Bk), (2, vI CY), (3, vI AP), (4, pO b1), (9, vI i)]) _ (m0 kr ⟨_, _, rfl, Bq.start _, hr, rfl, rfl, z5⟩) ?_
  rintro bk e1 _ _ ⟨tl, i, bx, ai, r4, rfl, rfl, bz⟩
  refine AA _ bz ?_
  refine Au (AG (um ?_))
  refine uv (Ap IA rfl) (uv (Co isAgg48 0) (uv (AJ underlying48 rfl) (uv (AY rfl rfl) (Aa ?_))))
  refine cQ (fun c7 => ?_) fun c7 => ?_
  ·obtain ⟨x, dg, rfl, cb, bl, cc⟩ := Bq.succ ai c7
   rw [GD] at r4
   refine Ar (Au ?_)
   refine As (AG (uv (Ap IA rfl) (uv (Co isAgg48 0) (um ?_))))
   obtain ⟨RS, dh, di, cf, aj, ak, ah, ⟨_, _, rfl, rfl, ⟨_, _, rfl, rfl, rfl⟩⟩, al, ao⟩ := At.ta (Ai kI kP) ab bl.1 cb
   refine uv (C0 underlying48 sizeOf110 aj bl) (uv (Bn isAgg110 sizeOf110 rfl (ak _) ah (Bi ah al ao)) ?_)
   refine Bu rfl zeroValue110 ?_; intro dk cg
   refine BD (i := 0) sizeOf110 rfl rfl rfl (by simp [Value.oneCell']) rfl (DD rfl) (AB rfl (Aa ?_))
   obtain ⟨k, bm, aq⟩ := Az r4
   refine jE ([(b1, ce #[vI Af, vI Ac, sL Am Ah.length Al, sL Ae Ab.length Ad, sL Ao Ak.length An] 50)]) [(1, sL Bl AW.length Bk), (2, vI CY), (3, vI AP), (4, pO b1), (9, vI i), (43, .bool k)] ?_ ?_
   ·clear aq
    refine Jb (by kernel_rfl) (by kernel_rfl) (by kernel_rfl) (wv (Ap Pn rfl) (wv (Co isAgg3 0) (wm (wv (Bx rfl rfl) (wm ?_)))))
    by_cases aa : x.2.2 = AP
    ·have cj := A2 bm aa
     refine A0 (b := true) 27 rfl (Env.Gr rfl aa) (wv (Ap Jv rfl) (A0 (b := true) 27 rfl (Env.Gr rfl aa) (wv (Co isAgg23 1) (A0 (b := true) 27 rfl (Env.Gr rfl aa) (wv (Ap Px rfl) (A0 (b := true) 27 rfl (Env.Gr rfl aa) (wv (Co isAgg3 0) ?_)))))))
     refine A0 (b := true) 27 rfl (Env.Gr rfl aa) ?_
     obtain ⟨x2, bn, ar, ck⟩ := BG cj
     obtain ⟨dm, dp, dq, cn, au, av, bo, ⟨dr, dt, rfl, cp⟩, cq, aw⟩ := At.ta (Ay kJ) ae bn.1 ar
     refine wv (C0 underlying23 sizeOf34 au bn) (A0 (b := true) 27 rfl (Env.Gr rfl aa) (wv (AS isAgg34 rfl (av _) (aw 0 (by decide))) ?_))
     refine A0 (b := true) 27 rfl (Env.Gr rfl aa) (wm (A0 (b := true) 27 rfl (Env.Gr rfl aa) ?_))
     refine wv (Ap Pp rfl) (A0 (b := true) 27 rfl (Env.Gr rfl aa) (wv (Co isAgg3 0) (A0 (b := true) 27 rfl (Env.Gr rfl aa) ?_)))
     obtain ⟨x3, bp, ax, cr⟩ := BG ck
     obtain ⟨du, dv, dw, ct, ay, az, bq, rfl, cu, ba⟩ := At.ta kI ad bp.1 ax
     refine wv (C0 underlying22 sizeOf3 ay bp) (A0 (b := true) 27 rfl (Env.Gr rfl aa) (wv (AS isAgg3 rfl (az _) (ba 0 (by decide))) (A0 (b := true) 27 rfl (Env.Gr rfl aa) ?_)))
     obtain ⟨x4, br, bb, cv⟩ := BG cr
     obtain ⟨dx, dy, dz, cw, bc, bd, bu, ⟨eb, ec, rfl, cx⟩, cy, bg⟩ := At.ta kJ cp br.1 bb
     refine wv (C0 underlying34 sizeOf22 bc br) (A0 (b := true) 27 rfl (Env.Gr rfl aa) (wv (AS isAgg22 rfl (bd _) (bg 0 (by decide))) ?_))
     refine A0 (b := true) 27 rfl (Env.Gr rfl aa) (wm (A0 (b := true) 27 rfl (Env.Gr rfl aa) ?_))
     obtain ⟨ok, cz, da⟩ := Az cv
     refine Dy rfl call102 rfl rfl rfl (Lg cx cz) (wv (AK (Ba rfl aa) rfl) (B6 ?_))
     obtain rfl := AL da
     exact mi (kd kr) ⟨rfl, rfl, z6⟩
    have db := A3 bm aa
    refine AX (b' := false) 27 rfl (Env.Fs rfl aa) rfl rfl (AX (b' := false) 27 rfl (Env.Fs rfl aa) rfl rfl (AX (b' := false) 27 rfl (Env.Fs rfl aa) rfl rfl (AX (b' := false) 27 rfl (Env.Fs rfl aa) rfl rfl (AX (b' := false) 27 rfl (Env.Fs rfl aa) rfl rfl (AX (b' := false) 27 rfl (Env.Fs rfl aa) rfl rfl (AX (b' := false) 27 rfl (Env.Fs rfl aa) rfl rfl (AX (b' := false) 27 rfl (Env.Fs rfl aa) rfl rfl (AX (b' := false) 27 rfl (Env.Fs rfl aa) rfl rfl (AX (b' := false) 27 rfl (Env.Fs rfl aa) rfl rfl ?_)))))))))
    refine AX (b' := false) 27 rfl (Env.Fs rfl aa) rfl rfl (AX (b' := false) 27 rfl (Env.Fs rfl aa) rfl rfl (AX (b' := false) 27 rfl (Env.Fs rfl aa) rfl rfl (AX (b' := false) 27 rfl (Env.Fs rfl aa) rfl rfl (AX (b' := false) 27 rfl (Env.Fs rfl aa) rfl rfl ?_))))
    refine wv (AE (AR rfl aa) rfl) (B6 ?_)
    obtain rfl := AL db
    exact mi (kd kr) ⟨rfl, rfl, z6⟩
   refine AV rfl (fun bh => ?_) (fun bh => ?_)
   ·have dd := bt aq bh
    refine AG (ua (Aa ?_))
    refine kW kn ?_
    refine Aw (AH (Av (Av (AH (Av ?_)))))
    refine B7 results83 ?_
    obtain rfl := AL dd
    exact rfl
   have de := bf aq bh
   refine Ar (AD (id := 1) (Aq (um ?_)))
   refine uv (A4 rfl rfl (Bq.CE ai c7 (At.lt ab))) ?_
   refine ua (Aa ?_)
   subst bx; exact le kr ⟨_, _, rfl, cc, de, rfl, rfl, z5⟩
  obtain rfl := Bq.zero ai c7
  rw [GD] at r4
  refine AM (Aj (Aj ?_))
  refine Ax ?_
  exact mi kn ⟨r4, rfl, rfl, (sn _)⟩
 rintro e1 _ _ ⟨bw, rfl, rfl, bj⟩
 refine AA _ bj ?_
 rw [Jh] at bw
 refine AG (ua (Aa (Aw ?_)))
 refine B7 results83 ?_
 obtain rfl := AL bw
 exact rfl
set_option maxHeartbeats 1000000 in
theorem MN (ah : At 1 (CM 1 eJ) F Am Al Ah) (aa : At 1 eI F Ae Ad Ab) (ai : At 3 (Br eI eP) F Ao An Ak) (ab : At 1 eI F Bl Bk AW) {r : List (List Int)} (hr : Jk Af Ac Ah Ab Ak AW = some r) :
    SH.Spec Tryz.prog 32 #[.agg #[vI Af, vI Ac, sL Am Ah.length Al, sL Ae Ab.length Ad, sL Ao Ak.length An], sL Bl AW.length Bk] F [] fun F' L' v => ∃ (ra : Option Addr) (rc : Nat), v = sL ra r.length rc ∧ L' = [] ∧ At 1 eJ F' ra rc r := by
 refine sp func32 ntmps32 fun K _ _ => ?_
 rw [Jk] at hr
 refine AG ?_
 refine BB rfl rfl ?_; intro b1 ew
 refine ua (BR ?_)
 refine uv (Ap KU rfl) (uv (Co isAgg3 0) ?_)
 obtain ⟨g2, r3⟩ := AF hr
 obtain ⟨l, h4, r5⟩ := BI r3
 refine Ft (R := LR) (z0 := (none, 0, 0)) (zs := List.replicate (Af : Int).toNat (none, 0, 0)) rfl FI (by decide) DP (fun _ => rfl) rfl g2 rfl (fun _ => .c .n) ?_; intro a6 n9 cz bq
 have dp : Ev K.w0.heap.size 22 3 1 eI F a6 n9 n9 l cz := Ev.made bq h4
 refine ua (Aa ?_)
 obtain ⟨out, dq, da⟩ := Az r5
 refine AO (fun e1 F1 L1 => ∃ (au : LH), F = F1 ∧ L1 = (au ++ []) ∧ e1.sub [(5, sL a6 n9 n9)] ∧ Ev K.w0.heap.size 22 3 1 eI F1 a6 n9 n9 out au) ?_ ?_
 ·clear da
  refine AG (ua (Aa ?_))
  refine As ?_
  obtain ⟨dr, dt⟩ := AF dq
  refine A6 (fun bl e1 F1 L1 => ∃ (h : Int), B0 0 Af h bl ∧ ∃ (aj : List (List Int)) (ad : LH), EM Af Ac Ah Ab Ak AW bl h aj = some out ∧ F = F1 ∧ L1 = ((b1, ce #[vI Af, vI Ac, sL Am Ah.length Al, sL Ae Ab.length Ad, sL Ao Ak.length An] 50) :: (ad ++ [])) ∧ e1.sub [(1, sL Bl AW.length Bk), (2, pO b1), (5, sL a6 n9 n9), (6, vI h)] ∧ Ev K.w0.heap.size 22 3 1 eI F1 a6 n9 n9 aj ad) _ (m0 kr ⟨_, B0.start _ _, l, cz, dt, rfl, rfl, z4, dp⟩) ?_
  rintro bl e1 _ _ ⟨h, av, aj, ad, bm, rfl, rfl, br, ay⟩
  refine AA _ br ?_
  refine Au (AG (um ?_))
  refine uv (Ap KU rfl) (uv (Co isAgg3 0) (uv (AY rfl rfl) (Aa ?_)))
  refine cQ (fun bn => ?_) fun bn => ?_
  ·obtain ⟨bl, rfl, bu⟩ := B0.succ av bn
   rw [EM] at bm
   refine Ar ?_
   obtain ⟨aw, du, db⟩ := Az bm
   refine AO (fun e1 F1 L1 => ∃ (ak : LH), F = F1 ∧ L1 = ((b1, ce #[vI Af, vI Ac, sL Am Ah.length Al, sL Ae Ab.length Ad, sL Ao Ak.length An] 50) :: (ak ++ [])) ∧ e1.sub [(1, sL Bl AW.length Bk), (2, pO b1), (5, sL a6 n9 n9), (6, vI h)] ∧ Ev K.w0.heap.size 22 3 1 eI F1 a6 n9 n9 aw ak) ?_ ?_
   ·clear db
    refine As ?_
    refine AG (ua (Aa ?_))
    refine As ?_
    obtain ⟨dd, dv⟩ := AF du
    refine A6 (fun bo e1 F1 L1 => ∃ (n : Int), B0 0 Ac n bo ∧ ∃ (al : List (List Int)) (ae : LH), DS Af Ac Ah Ab Ak AW h bo n al = some aw ∧ F = F1 ∧ L1 = ((b1, ce #[vI Af, vI Ac, sL Am Ah.length Al, sL Ae Ab.length Ad, sL Ao Ak.length An] 50) :: (ae ++ [])) ∧ e1.sub [(1, sL Bl AW.length Bk), (2, pO b1), (5, sL a6 n9 n9), (6, vI h), (7, vI n)] ∧ Ev K.w0.heap.size 22 3 1 eI F1 a6 n9 n9 al ae) _ (m0 kr ⟨_, B0.start _ _, aj, ad, dv, rfl, rfl, z5, ay⟩) ?_
    rintro bo e1 _ _ ⟨n, ao, al, ae, bp, rfl, rfl, bw, aq⟩
    refine AA _ bw ?_
    refine Au (AG (um ?_))
    refine uv (Ap MX rfl) (uv (Co isAgg3 0) (uv (AY rfl rfl) (Aa ?_)))
    refine cQ (fun az => ?_) fun az => ?_
    ·obtain ⟨bo, rfl, ba⟩ := B0.succ ao az
     rw [DS] at bp
     refine Ar (Au ?_)
     refine As (AG (uv (Cv isAgg50 sizeOf50 0) ?_))
     refine um (um (um ?_))
     obtain ⟨ok, dw, de⟩ := Az bp
     refine cV call83 (ID ah aa ai ab dw) (Aa ?_)
     refine AV rfl (fun bx => ?_) (fun bx => ?_)
     ·have dx := bt de bx
      refine Aq (um (um (um (um ?_))))
      obtain ⟨x, bb, bz, dy⟩ := BG dx
      have ax := (Ev.A1 aq).1
      refine KK (fC fP) aq bz ?_; intro cb bc bd ey ez fa cc bg ar cf cg
      refine kO (kf (fS (fS (fS fO))) kr) ?_
      obtain ⟨fb, fe, ff, dz, cj, ck, df, rfl, eb, cn⟩ := AI.at DP ar (L := (b1, ce #[vI Af, vI Ac, sL Am Ah.length Al, sL Ae Ab.length Ad, sL Ao Ak.length An] 50) :: (bc ++ (cc ++ (bd ++ [])))) (fC fP) bb.1 bg
      refine uv (C0 underlying34 sizeOf22 cj (N6 ax bb)) (uv (AS isAgg22 rfl ck (cn 0 (by decide))) (um ?_))
      refine bA (cs := #[vI n]) Bm [vI n] ?_; intro fg ec
      obtain ⟨l2, ef, eg, eh⟩ := Ea dy
      refine CJ (xs := x) (ys := [n]) (zs := l2) rfl Bm rfl rfl (Nat.le_refl _) (fun _ => .c (.c (.s .h))) cf (FL.box (vss := [[vI n]]) (ys := [n]) 0 rfl kI (.cons rfl .nil) rfl rfl) ef eg (by decide) ?_; intro dg dh di cp cq
      refine kO (kd kr) ?_
      obtain ⟨fh, fi, fj, ei, bh, ej, dk, rfl, en, eo⟩ := AI.at DP ar (L := (b1, ce #[vI Af, vI Ac, sL Am Ah.length Al, sL Ae Ab.length Ad, sL Ao Ak.length An] 50) :: (bc ++ (cp ++ (bd ++ [])))) (fC fP) bb.1 bg
      refine uv (C0 underlying34 sizeOf22 bh (N6 ax bb)) ?_
      refine Dq (zs := cb.set (h : Int).toNat (dg, dh, di)) (u := (dg, dh, di)) sizeOf22 DP rfl bh rfl rfl (fun _ => .c .h) ar rfl (RG ax ar bb) ?_; intro ep cr
      obtain ⟨bj, er, et⟩ := BI eh
      refine Ij (p := fun X => Ev K.w0.heap.size 22 3 1 eI F a6 n9 n9 bj X) (Mz.back cg cr cq er) (pT ((fC fP).trans (pA ((fC fP).trans (pA ((fC fP).trans (pA pR)))))) (lp (lp (lp (ln rfl))))) ?_; intro ct cu
      refine kO (kf (fS fO) kr) ?_
      refine Aa (AD (id := 3) (Aq (um ?_)))
      refine uv (A4 rfl rfl (B0.CE ao az dd)) ?_
      refine ua (Aa ?_)
      exact le kr ⟨_, ba, bj, ct, et, rfl, rfl, z5, cu⟩
     have eu := bf de bx
     refine Ar (AD (id := 3) (Aq (um ?_)))
     refine uv (A4 rfl rfl (B0.CE ao az dd)) ?_
     refine ua (Aa ?_)
     exact le kr ⟨_, ba, al, ae, eu, rfl, rfl, z5, aq⟩
    obtain rfl := B0.zero ao az
    rw [DS] at bp
    refine AM (Aj (Aj ?_))
    refine Ax (AD (id := 1) ?_)
    obtain rfl := AL bp
    exact mi kr ⟨ae, rfl, rfl, z4, aq⟩
   rintro e1 _ _ ⟨ak, rfl, rfl, cv, cw⟩
   refine AA _ cv ?_
   refine Aq (um ?_)
   refine uv (A4 rfl rfl (B0.CE av bn dr)) ?_
   refine ua (Aa ?_)
   exact le kr ⟨_, bu, aw, ak, db, rfl, rfl, z4, cw⟩
  obtain rfl := B0.zero av bn
  rw [EM] at bm
  refine AM (Aj (Aj ?_))
  refine Ax ?_
  obtain rfl := AL bm
  exact mi (kd kr) ⟨ad, rfl, rfl, z1, ay⟩
 rintro e1 _ _ ⟨au, rfl, rfl, cx, bk⟩
 refine AA _ cx ?_
 refine AG (um (ua (Aa ?_)))
 obtain rfl := (Ev.A1 bk).1
 refine Km (Nat.le_refl _) kI fP bk ?_; intro fk dm cy
 refine Aw (B7 results32 ?_)
 obtain rfl := AL da
 exact ⟨_, _, rfl, rfl, cy⟩
set_option maxHeartbeats 1000000 in
theorem J5 {Of : Nat} {Qd : Nat × Nat} (ai : F Of = some (.cells #[vI Af, vI Ac, sL Am Ah.length Al, sL Ae Ab.length Ad, sL Ao Ak.length An] 119 Qd)) (ad : At 1 (CM 1 eJ) F Am Al Ah) (ab : At 1 eI F Ae Ad Ab) (ae : At 3 (Br eI eP) F Ao An Ak) (aa : At 1 eI F Bl Bk AW) {r : List Bool} (hr : HV Af Ac Ah Ab Ak AW = some r) :
    SH.Spec Tryz.prog 84 #[pO Of, sL Bl AW.length Bk] F [] fun _ L' v => v = .agg (arr cB r) ∧ L' = [] ∧ r.length = 24 := by
 refine sp func84 ntmps84 fun K _ _ => ?_
 rw [HV] at hr
 refine AG ?_
 refine Bu rfl zeroValue128 ?_; intro b1 bm
 refine AB rfl (BR ?_)
 refine Bu rfl zeroValue128 ?_; intro b2 bn
 refine AB rfl (Aa ?_)
 obtain ⟨g, h4, r5⟩ := Az hr
 refine AO (fun e1 F1 L1 => AQ F F1 ∧ L1 = [(b2, ce (arr cB g) 128), (b1, ce (arr cB (List.replicate 24 false)) 128)] ∧ e1.sub [(4, pO b1), (5, pO b2)] ∧ g.length = 24) ?_ ?_
 ·clear r5
  refine AG (um ?_)
  refine uv (AJ underlying22 rfl) ?_
  refine um (Aa ?_)
  refine As ?_
  refine A6 (fun ay e1 F1 L1 => LA AW ay fun tl k => ∃ (g2 : List Bool), ET Af Ac Ah Ab Ak tl k g2 = some g ∧ AQ F F1 ∧ L1 = [(b2, ce (arr cB g2) 128), (b1, ce (arr cB (List.replicate 24 false)) 128)] ∧ e1.sub [(0, pO Of), (4, pO b1), (5, pO b2), (8, sL Bl AW.length Bk), (9, vI (AW.length : Int)), (10, vI k)] ∧ g2.length = 24) _ (m0 kr ⟨_, _, rfl, Bq.start _, List.replicate 24 false, h4, AQ.refl _, rfl, z6, List.length_replicate⟩) ?_
  rintro ay e1 bo _ ⟨tl, k, bc, al, g2, r9, ah, rfl, ao, h6⟩
  refine AA _ ao ?_
  replace ad := ad.mono (Ay kJ) ah
  replace ab := ab.m1 ah
  replace ae := ae.mono (Ai kI kP) ah
  replace aa := aa.m1 ah
  replace ai := ah _ _ ai
  refine AG (uv (AY rfl rfl) ?_)
  refine Aa (Au ?_)
  refine cQ (fun ak => ?_) fun ak => ?_
  ·obtain ⟨x, bp, rfl, aq, az, ar⟩ := Bq.succ al ak
   rw [ET] at r9
   refine Ar (Au ?_)
   refine As ?_
   refine AG (um ?_)
   obtain ⟨bq, br, bu, bd, au, av, ba, rfl, bg, aw⟩ := At.ta kI aa az.1 aq
   refine uv (C0 underlying22 sizeOf3 au az) (uv (AS isAgg3 rfl (av _) (aw 0 (by decide))) ?_)
   refine ua (ua (Aa (Aq (um ?_))))
   refine uv (K9 isAgg128 sizeOf128 rfl (Has.own 0 rfl) (Gk A8 h6)) ?_
   refine um (um ?_)
   obtain ⟨a, bh, bj⟩ := Az r9
   refine c0 call125 (KN ai ad ab ae h6 bh) ?_; rintro _ bw _ aj bk ⟨rfl, rfl, bb⟩
   replace aa := aa.m1 aj
   refine AB (ln rfl) (GF (i := 0) sizeOf128 rfl rfl rfl (Gk A8 h6) (Gk A8 bb) (LM A8) (AB rfl ?_))
   refine Aa (AD (id := 1) (Aq ?_))
   refine uv (A4 rfl rfl (Bq.CE al ak (At.lt aa))) ?_
   refine um (Aa ?_)
   subst bc; exact le kr ⟨_, _, rfl, ar, a, bj, (ah.trans aj), rfl, z6, bb⟩
  obtain rfl := Bq.zero al ak
  rw [ET] at r9
  refine AM (Aj (Aj ?_))
  refine Ax ?_
  obtain rfl := AL r9
  exact mi kr ⟨ah, rfl, z2, h6⟩
 rintro e1 bx _ ⟨bl, rfl, ax, h3⟩
 refine AA _ ax (AG (uv (K9 isAgg128 sizeOf128 rfl (Has.own 0 rfl) (Gk A8 h3)) (GF (i := 1) sizeOf128 rfl rfl rfl (Gk A8 List.length_replicate) (Gk A8 h3) (LM A8) (AB rfl (Aa (kW (kd kr) (Aw ?_)))))))
 refine Mr results84 (GJ (cs := arr cB g) isAgg128 sizeOf128 rfl (Has.own 0 rfl) (Je (FD (Hl A8 h3))) (Jg (Hl A8 h3) (FD (Hl A8 h3)))) (s1 sr) ?_
 obtain rfl := AL r5
 exact ⟨rfl, rfl, h3⟩
set_option maxHeartbeats 1000000 in
theorem OW {l : List Int} (aq : At 1 (CM 1 eJ) F Am Al Ah) (ab : At 1 eI F Ae Ad Ab) (ar : At 3 (Br eI eP) F Ao An Ak) (cx : At 1 eI F CV CX l) {r : List (List Int)} {r2 : Int} (hr : Mu Af Ac Ah Ab Ak l = some (r, r2)) :
    SH.Spec Tryz.prog 33 #[.agg #[vI Af, vI Ac, sL Am Ah.length Al, sL Ae Ab.length Ad, sL Ao Ak.length An], sL CV l.length CX] F [] fun F' L' v => ∃ (ra : Option Addr) (rc : Nat), v = .tuple #[sL ra r.length rc, vI r2] ∧ L' = [] ∧ At 1 eJ F' ra rc r := by
 refine sp func33 ntmps33 fun K _ _ => ?_
 rw [Mu] at hr
 refine AG ?_
 refine BB rfl rfl ?_; intro b1 iy
 refine ua (ua (BR ?_))
 refine uv (Cv isAgg26 sizeOf26 0) (um ?_)
 obtain ⟨d, n, h2, r3⟩ := Ca hr
 refine c0 call76 (Kr aq ab ar cx h2) ?_; rintro _ F4 _ fj iz ⟨v8, rfl, rfl, fk⟩
 replace cx := cx.m1 fj
 refine AB (ln rfl) ?_
 refine um (ox rfl rfl rfl (ox rfl rfl rfl (ua (ua (Aa (Au (AG (um ?_))))))))
 refine uv (BU rfl rfl) (Aa ?_)
 refine cQ (fun df => ?_) fun df => ?_
 ·have fl := A2 r3 df
  refine AG (um (ua (ua (Aa ?_))))
  refine kW kn ?_
  refine Aw (Av ?_)
  refine BM results33 (AT rfl) (AT rfl) (sr) ?_
  obtain ⟨rfl, rfl⟩ := Cd fl
  exact ⟨_, _, rfl, rfl, At.nil _ _ _⟩
 have fm := A3 r3 df
 refine Ar (AG (um (um ?_)))
 obtain ⟨AU, ah, ba, ae, bb, fo, fp⟩ := Ez fm
 have en := fk; rw [fo] at en; obtain ⟨fq, j0, ft, dg, bc, ⟨_, _, rfl, rfl, ⟨_, _, rfl, rfl, ⟨_, _, rfl, ⟨fv, fw, rfl, fx⟩, ⟨_, _, rfl, ⟨fy, ga, rfl, gb⟩, ⟨gg, gh, rfl, gi⟩⟩⟩⟩⟩⟩ := en; subst dg
 have bc : F4 fq = some (.cells #[vI AU, vI ah, sL fv ba.length fw, sL fy ae.length ga, sL gg bb.length gh] 119 ft) := bc
 obtain ⟨a, gj, gk⟩ := Az fp
 refine c0 call84 (J5 bc fx gb gi cx gj) ?_; rintro _ bj _ gl gm ⟨rfl, rfl, cy⟩
 refine AB (ln rfl) ?_
 refine Bu rfl zeroValue128 ?_; intro al gn
 refine AB (L' := [(al, ce (arr cB (List.replicate 24 false)) 128), (b1, ce #[vI Af, vI Ac, sL Am Ah.length Al, sL Ae Ab.length Ad, sL Ao Ak.length An] 26)]) rfl (GF (i := 0) sizeOf128 rfl rfl rfl (Gk A8 List.length_replicate) (Gk A8 cy) (LM A8) (AB (L' := [(al, ce (arr cB a) 128), (b1, ce #[vI Af, vI Ac, sL Am Ah.length Al, sL Ae Ab.length Ad, sL Ao Ak.length An] 26)]) rfl (BR (uv (Ap Js rfl) (uv (Co isAgg3 1) ?_)))))
 obtain ⟨gp, gq⟩ := AF gk
 obtain ⟨l2, gr, gu⟩ := BI gq
 refine Ft (R := LR) (z0 := (none, 0, 0)) (zs := List.replicate (Af : Int).toNat (none, 0, 0)) rfl FI (by decide) DP (fun _ => rfl) rfl gp rfl (fun _ => .c (.c .n)) ?_; intro ao aa bk dh
 have bl : Ev K.w0.heap.size 22 3 1 eI bj ao aa aa l2 bk := Ev.made dh gr
 refine ua (Aa ?_)
 obtain ⟨out, gv, eo⟩ := Az gu
 refine AO (fun e1 F1 L1 => ∃ (bd : LH), bj = F1 ∧ L1 = (bd ++ []) ∧ e1.sub [(9, sL ao aa aa)] ∧ Ev K.w0.heap.size 22 3 1 eI F1 ao aa aa out bd) ?_ ?_
 ·clear eo
  refine AG (um ?_)
  refine uv ((AJ underlying34 rfl).i (Ev.FE bl)) ?_
  refine um (Aa ?_)
  refine As ?_
  obtain ⟨gw, gz⟩ := AF gv
  refine A6 (fun cz e1 F1 L1 => ∃ (k : Int), B0 0 (l2.length : Int) k cz ∧ ∃ (au : List (List Int)) (ai : LH), HC Ac a cz k au = some out ∧ bj = F1 ∧ L1 = ((al, ce (arr cB a) 128) :: ((b1, ce #[vI Af, vI Ac, sL Am Ah.length Al, sL Ae Ab.length Ad, sL Ao Ak.length An] 26) :: (ai ++ []))) ∧ e1.sub [(2, pO b1), (8, pO al), (9, sL ao aa aa), (28, vI (l2.length : Int)), (29, vI k)] ∧ Ev K.w0.heap.size 22 3 1 eI F1 ao aa aa au ai) _ (m0 kr ⟨_, B0.start _ _, l2, bk, gz, rfl, rfl, z5, bl⟩) ?_
  rintro cz e1 _ _ ⟨k, bg, au, ai, da, rfl, rfl, di, bm⟩
  refine AA _ di (AG (uv (AY rfl rfl) ?_))
  refine Aa (Au ?_)
  refine cQ (fun db => ?_) fun db => ?_
  ·obtain ⟨cz, rfl, dk⟩ := B0.succ bg db
   rw [HC] at da
   refine Ar ?_
   obtain ⟨bh, ia, ep⟩ := Az da
   refine AO (fun e1 F1 L1 => ∃ (av : LH), bj = F1 ∧ L1 = ((al, ce (arr cB a) 128) :: ((b1, ce #[vI Af, vI Ac, sL Am Ah.length Al, sL Ae Ab.length Ad, sL Ao Ak.length An] 26) :: (av ++ []))) ∧ e1.sub [(2, pO b1), (8, pO al), (9, sL ao aa aa), (28, vI (l2.length : Int)), (29, vI k)] ∧ Ev K.w0.heap.size 22 3 1 eI F1 ao aa aa bh av) ?_ ?_
   ·clear ep
    refine As ?_
    refine AG (um (ua (BR ?_)))
    refine uv (Ap Iy rfl) (uv (Co isAgg3 1) ?_)
    refine um (Aa ?_)
    refine As ?_
    obtain ⟨er, ib⟩ := AF ia
    refine A6 (fun dd e1 F1 L1 => ∃ (k2 : Int), B0 0 Ac k2 dd ∧ ∃ (aw : List (List Int)) (aj : LH), GN a k dd k2 aw = some bh ∧ bj = F1 ∧ L1 = ((al, ce (arr cB a) 128) :: ((b1, ce #[vI Af, vI Ac, sL Am Ah.length Al, sL Ae Ab.length Ad, sL Ao Ak.length An] 26) :: (aj ++ []))) ∧ e1.sub [(2, pO b1), (8, pO al), (9, sL ao aa aa), (10, vI k), (28, vI (l2.length : Int)), (29, vI k), (33, vI Ac), (34, vI k2)] ∧ Ev K.w0.heap.size 22 3 1 eI F1 ao aa aa aw aj) _ (m0 kr ⟨_, B0.start _ _, au, ai, ib, rfl, rfl, z8, bm⟩) ?_
    rintro dd e1 _ _ ⟨k2, ax, aw, aj, de, rfl, rfl, dm, ay⟩
    refine AA _ dm (AG (uv (AY rfl rfl) ?_))
    refine Aa (Au ?_)
    refine cQ (fun bn => ?_) fun bn => ?_
    ·obtain ⟨dd, rfl, bo⟩ := B0.succ ax bn
     rw [GN] at de
     refine Ar (Au ?_)
     refine As ?_
     refine AG (um (ua (BR (um (um ?_)))))
     obtain ⟨et, ic⟩ := AF de
     refine uv (D1 underlying128 sizeOf126 rfl rfl et) ?_
     obtain ⟨eu, ie⟩ := AF ic
     obtain ⟨x, j1, dp, ew⟩ := BG ie
     have dq : (k * 4 + k2 : Int).toNat = (k : Int).toNat * 4 + (k2 : Int).toNat := by have := et; have := eu; omega
     have dr := OJ A8 cy dq dp (Oe (FD (Hl A8 cy))) (Je (FD (Hl A8 cy)))
     refine uv (D1 underlying126 sizeOf4 rfl rfl eu) (uv (AS isAgg4 rfl (Has.own 0 rfl) ((dr).2.2 0 (by decide))) (Aa ?_))
     refine AV rfl (fun dt => ?_) (fun dt => ?_)
     ·have ig := bt ew dt
      refine Aq (um (um (um (um ?_))))
      obtain ⟨x2, bp, du, ij⟩ := BG ig
      have ak := (Ev.A1 ay).1
      refine KK (fC (fC fP)) ay du ?_; intro dv bq br j2 j3 j4 dw bu ad bw bx
      refine kO (kf (fS (fS (fS fO))) (kf (fS (fS (fS fO))) kr)) ?_
      obtain ⟨ik, il, im, ey, bz, cb, dx, rfl, ez, cc⟩ := AI.at DP ad (L := (al, ce (arr cB a) 128) :: ((b1, ce #[vI Af, vI Ac, sL Am Ah.length Al, sL Ae Ab.length Ad, sL Ao Ak.length An] 26) :: (bq ++ (dw ++ (br ++ []))))) (fC (fC fP)) bp.1 bu
      refine uv (C0 underlying34 sizeOf22 bz (N6 ak bp)) (uv (AS isAgg22 rfl cb (cc 0 (by decide))) (um ?_))
      refine bA (cs := #[vI k2]) Bm [vI k2] ?_; intro iq fa
      obtain ⟨l3, dy, dz, eb⟩ := Ea ij
      refine CJ (xs := x2) (ys := [k2]) (zs := l3) rfl Bm rfl rfl (Nat.le_refl _) (fun _ => .c (.c (.c (.s .h)))) bw (FL.box (vss := [[vI k2]]) (ys := [k2]) 0 rfl kI (.cons rfl .nil) rfl rfl) dy dz (by decide) ?_; intro cf cg cj ck cn
      refine kO (kd kr) ?_
      obtain ⟨ir, iu, iv, fb, az, fe, ec, rfl, ff, fg⟩ := AI.at DP ad (L := (al, ce (arr cB a) 128) :: ((b1, ce #[vI Af, vI Ac, sL Am Ah.length Al, sL Ae Ab.length Ad, sL Ao Ak.length An] 26) :: (bq ++ (ck ++ (br ++ []))))) (fC (fC fP)) bp.1 bu
      refine uv (C0 underlying34 sizeOf22 az (N6 ak bp)) ?_
      refine Dq (zs := dv.set (k : Int).toNat (cf, cg, cj)) (u := (cf, cg, cj)) sizeOf22 DP rfl az rfl rfl (fun _ => .c (.c .h)) ad rfl (RG ak ad bp) ?_; intro fh cp
      obtain ⟨cq, ef, eg⟩ := BI eb
      refine Ij (p := fun X => Ev K.w0.heap.size 22 3 1 eI bj ao aa aa cq X) (Mz.back bx cp cn ef) (pT ((fC (fC fP)).trans (pA ((fC (fC fP)).trans (pA ((fC (fC fP)).trans (pA pR)))))) (lp (lp (lp (ln rfl))))) ?_; intro cr ct
      refine kO (kf (fS fO) (kf (fS fO) kr)) ?_
      refine Aa (AD (id := 3) (Aq ?_))
      refine uv (A4 rfl rfl (B0.CE ax bn er)) ?_
      refine um (Aa ?_)
      exact le kr ⟨_, bo, cq, cr, eg, rfl, rfl, z8, ct⟩
     have eh := bf ew dt
     refine Ar (AD (id := 3) (Aq ?_))
     refine uv (A4 rfl rfl (B0.CE ax bn er)) ?_
     refine um (Aa ?_)
     exact le kr ⟨_, bo, aw, aj, eh, rfl, rfl, z8, ay⟩
    obtain rfl := B0.zero ax bn
    rw [GN] at de
    refine AM (Aj (Aj ?_))
    refine Ax (AD (id := 1) ?_)
    obtain rfl := AL de
    exact mi kr ⟨aj, rfl, rfl, z5, ay⟩
   rintro e1 _ _ ⟨av, rfl, rfl, cu, ei⟩
   refine AA _ cu (Aq (uv (A4 rfl rfl (B0.CE bg db gw)) ?_))
   refine um (Aa ?_)
   exact le kr ⟨_, dk, bh, av, ep, rfl, rfl, z5, ei⟩
  obtain rfl := B0.zero bg db
  rw [HC] at da
  refine AM (Aj (Aj ?_))
  refine Ax ?_
  obtain rfl := AL da
  exact mi (kd (kd kr)) ⟨ai, rfl, rfl, z1, bm⟩
 rintro e1 _ _ ⟨bd, rfl, rfl, cv, cw⟩
 refine AA _ cv ?_
 refine AG (um (ua (ua (Aa ?_))))
 obtain rfl := (Ev.A1 cw).1
 refine Km (Nat.le_refl _) kI fP cw ?_; intro iw fi ej
 refine Aw (BM results33 (AT rfl) (AT rfl) (sr) ?_)
 obtain ⟨rfl, rfl⟩ := Cd eo
 exact ⟨_, _, rfl, rfl, ej⟩
set_option maxHeartbeats 1000000 in
theorem LJ (ak : At 1 (CM 1 eJ) F Am Al Ah) (ad : At 1 eI F Ae Ad Ab) (al : At 3 (Br eI eP) F Ao An Ak) (ae : At 1 eJ F Ci Cj BT) {r : List (List Int)} (hr : H3 Af Ac Ah Ab Ak BT = some r) :
    SH.Spec Tryz.prog 35 #[.agg #[vI Af, vI Ac, sL Am Ah.length Al, sL Ae Ab.length Ad, sL Ao Ak.length An], sL Ci BT.length Cj] F [] fun F' L' v => ∃ (ra : Option Addr) (rc : Nat), v = sL ra r.length rc ∧ L' = [] ∧ At 1 eJ F' ra rc r := by
 refine sp func35 ntmps35 fun K _ _ => ?_
 rw [H3] at hr
 refine AG ?_
 refine BB rfl rfl ?_; intro b1 ik
 refine ua (BR ?_)
 refine uv (Ap KU rfl) (uv (Co isAgg3 0) ?_)
 obtain ⟨g2, r3⟩ := AF hr
 obtain ⟨l, h4, r5⟩ := BI r3
 refine Ft (R := LR) (z0 := (none, 0, 0)) (zs := List.replicate (Af : Int).toNat (none, 0, 0)) rfl FI (by decide) DP (fun _ => rfl) rfl g2 rfl (fun _ => .c .n) ?_; intro a6 n9 ej cz
 have fp : Ev K.w0.heap.size 22 3 1 eI F a6 n9 n9 l ej := Ev.made cz h4
 refine ua (Aa ?_)
 obtain ⟨out, fq, en⟩ := Az r5
 refine AO (fun e1 F1 L1 => ∃ (aw : LH), F = F1 ∧ L1 = (aw ++ []) ∧ e1.sub [(5, sL a6 n9 n9)] ∧ Ev K.w0.heap.size 22 3 1 eI F1 a6 n9 n9 out aw) ?_ ?_
 ·clear en
  refine AG (ua (Aa ?_))
  refine As ?_
  obtain ⟨ft, fv⟩ := AF fq
  refine A6 (fun cr e1 F1 L1 => ∃ (h : Int), B0 0 Af h cr ∧ ∃ (ao : List (List Int)) (ai : LH), DK Af Ac Ah Ab Ak BT cr h ao = some out ∧ F = F1 ∧ L1 = ((b1, ce #[vI Af, vI Ac, sL Am Ah.length Al, sL Ae Ab.length Ad, sL Ao Ak.length An] 50) :: (ai ++ [])) ∧ e1.sub [(1, sL Ci BT.length Cj), (2, pO b1), (5, sL a6 n9 n9), (6, vI h)] ∧ Ev K.w0.heap.size 22 3 1 eI F1 a6 n9 n9 ao ai) _ (m0 kr ⟨_, B0.start _ _, l, ej, fv, rfl, rfl, z4, fp⟩) ?_
  rintro cr e1 _ _ ⟨h, ax, ao, ai, ct, rfl, rfl, da, bc⟩
  refine AA _ da ?_
  refine Au (AG (um ?_))
  refine uv (Ap KU rfl) (uv (Co isAgg3 0) (uv (AY rfl rfl) (Aa ?_)))
  refine cQ (fun cu => ?_) fun cu => ?_
  ·obtain ⟨cr, rfl, db⟩ := B0.succ ax cu
   rw [DK] at ct
   refine Ar ?_
   obtain ⟨ay, fw, eo⟩ := Az ct
   refine AO (fun e1 F1 L1 => ∃ (aq : LH), F = F1 ∧ L1 = ((b1, ce #[vI Af, vI Ac, sL Am Ah.length Al, sL Ae Ab.length Ad, sL Ao Ak.length An] 50) :: (aq ++ [])) ∧ e1.sub [(1, sL Ci BT.length Cj), (2, pO b1), (5, sL a6 n9 n9), (6, vI h)] ∧ Ev K.w0.heap.size 22 3 1 eI F1 a6 n9 n9 ay aq) ?_ ?_
   ·clear eo
    refine As ?_
    refine AG (ua (Aa ?_))
    refine As ?_
    obtain ⟨fx, fy⟩ := AF fw
    refine A6 (fun cv e1 F1 L1 => ∃ (n : Int), B0 0 Ac n cv ∧ ∃ (az : List (List Int)) (aa : LH), DE Af Ac Ah Ab Ak BT h cv n az = some ay ∧ F = F1 ∧ L1 = ((b1, ce #[vI Af, vI Ac, sL Am Ah.length Al, sL Ae Ab.length Ad, sL Ao Ak.length An] 50) :: (aa ++ [])) ∧ e1.sub [(1, sL Ci BT.length Cj), (2, pO b1), (5, sL a6 n9 n9), (6, vI h), (7, vI n)] ∧ Ev K.w0.heap.size 22 3 1 eI F1 a6 n9 n9 az aa) _ (m0 kr ⟨_, B0.start _ _, ao, ai, fy, rfl, rfl, z5, bc⟩) ?_
    rintro cv e1 _ _ ⟨n, ba, az, aa, cw, rfl, rfl, dd, bb⟩
    refine AA _ dd ?_
    refine Au (AG (um ?_))
    refine uv (Ap MX rfl) (uv (Co isAgg3 0) (uv (AY rfl rfl) (Aa ?_)))
    refine cQ (fun cx => ?_) fun cx => ?_
    ·obtain ⟨cv, rfl, de⟩ := B0.succ ba cx
     rw [DE] at cw
     refine Ar ?_
     obtain ⟨bd, ga, ep⟩ := Az cw
     refine AO (fun e1 F1 L1 => ∃ (ar : LH), F = F1 ∧ L1 = ((b1, ce #[vI Af, vI Ac, sL Am Ah.length Al, sL Ae Ab.length Ad, sL Ao Ak.length An] 50) :: (ar ++ [])) ∧ e1.sub [(1, sL Ci BT.length Cj), (2, pO b1), (5, sL a6 n9 n9), (6, vI h), (7, vI n)] ∧ Ev K.w0.heap.size 22 3 1 eI F1 a6 n9 n9 bd ar) ?_ ?_
     ·clear ep
      refine As ?_
      refine AG (ua (Aa ?_))
      obtain ⟨many, gb, er⟩ := Az ga
      refine jE (((b1, ce #[vI Af, vI Ac, sL Am Ah.length Al, sL Ae Ab.length Ad, sL Ao Ak.length An] 50) :: (aa ++ []))) [(1, sL Ci BT.length Cj), (2, pO b1), (5, sL a6 n9 n9), (6, vI h), (7, vI n), (8, vI many)] ?_ ?_
      ·clear er
       refine AG (ua (Aa ?_))
       refine As ?_
       refine A6 (fun et e1 F1 L1 => LA BT et fun tl i => ∃ (ab : Int), CR Af Ac Ah Ab Ak h n tl ab = some many ∧ F = F1 ∧ L1 = ((b1, ce #[vI Af, vI Ac, sL Am Ah.length Al, sL Ae Ab.length Ad, sL Ao Ak.length An] 50) :: (aa ++ [])) ∧ e1.sub [(1, sL Ci BT.length Cj), (2, pO b1), (5, sL a6 n9 n9), (6, vI h), (7, vI n), (8, vI ab), (9, vI i)]) _ (m0 kr ⟨_, _, rfl, Bq.start _, 0, gb, rfl, rfl, z7⟩) ?_
       rintro et e1 _ _ ⟨tl, i, bg, au, ab, cy, rfl, rfl, df⟩
       refine AA _ df ?_
       refine Au (AG (um (um ?_)))
       refine uv (AJ underlying34 rfl) (uv (AY rfl rfl) (Aa ?_))
       refine cQ (fun bh => ?_) fun bh => ?_
       ·obtain ⟨x, il, rfl, dg, eu, bj⟩ := Bq.succ au bh
        rw [CR] at cy
        refine Ar (Au ?_)
        refine As (dW (wv (Cv isAgg50 sizeOf50 0) ?_))
        refine wm (wm ?_)
        obtain ⟨im, iq, ir, gg, dh, di, ew, ⟨iu, iv, rfl, gh⟩, gi, dk⟩ := At.ta kJ ae eu.1 dg
        refine wv (C0 underlying34 sizeOf22 dh eu) (wv (AS isAgg22 rfl (di _) (dk 0 (by decide))) ?_)
        refine wm (wm ?_)
        obtain ⟨ok, gj, ey⟩ := Az cy
        refine Dy rfl call83 rfl rfl rfl (ID ak ad al gh gj) (B6 ?_)
        refine AV rfl (fun dm => ?_) (fun dm => ?_)
        ·have gk := bt ey dm
         refine Aq (um ?_)
         obtain ⟨gl, gm⟩ := AF gk
         refine uv (A4 rfl rfl gl) ?_
         refine ua (Aa (AD (id := 5) (Aq (um ?_))))
         refine uv (A4 rfl rfl (Bq.CE au bh (At.lt ae))) ?_
         refine ua (Aa ?_)
         subst bg; exact le kr ⟨_, _, rfl, bj, ab + 1, gm, rfl, rfl, z7⟩
        have gn := bf ey dm
        refine Ar (AD (id := 5) (Aq (um ?_)))
        refine uv (A4 rfl rfl (Bq.CE au bh (At.lt ae))) ?_
        refine ua (Aa ?_)
        subst bg; exact le kr ⟨_, _, rfl, bj, ab, gn, rfl, rfl, z7⟩
       obtain rfl := Bq.zero au bh
       rw [CR] at cy
       refine AM (Aj (Aj ?_))
       refine Ax ?_
       obtain rfl := AL cy
       exact mi kr ⟨rfl, rfl, z6⟩
      refine AG (ua (Aa ?_))
      obtain ⟨v, ez, fa⟩ := Az er
      refine jE (((b1, ce #[vI Af, vI Ac, sL Am Ah.length Al, sL Ae Ab.length Ad, sL Ao Ak.length An] 50) :: (aa ++ []))) [(1, sL Ci BT.length Cj), (2, pO b1), (5, sL a6 n9 n9), (6, vI h), (7, vI n), (8, vI many), (10, vI v)] ?_ ?_
      ·clear fa
       refine AG (um ?_)
       refine uv (Bx rfl rfl) (Aa ?_)
       refine cQ (fun dp => ?_) fun dp => ?_
       ·have gp := A2 ez dp
        refine Aq (ua (Aa ?_))
        obtain rfl := AL gp
        exact mi kr ⟨rfl, rfl, z7⟩
       have gq := A3 ez dp
       refine Ar ?_
       obtain rfl := AL gq
       exact mi kr ⟨rfl, rfl, z7⟩
      obtain ⟨v2, fb, fe⟩ := Az fa
      refine jE (((b1, ce #[vI Af, vI Ac, sL Am Ah.length Al, sL Ae Ab.length Ad, sL Ao Ak.length An] 50) :: (aa ++ []))) [(1, sL Ci BT.length Cj), (2, pO b1), (5, sL a6 n9 n9), (6, vI h), (7, vI n), (10, vI v2)] ?_ ?_
      ·clear fe
       refine AG (um (um ?_))
       refine uv (AJ underlying34 rfl) (uv (Bx rfl rfl) (Aa ?_))
       refine cQ (fun dq => ?_) fun dq => ?_
       ·have gr := A2 fb dq
        refine Aq (ua (Aa ?_))
        obtain rfl := AL gr
        exact mi kr ⟨rfl, rfl, z6⟩
       have gu := A3 fb dq
       refine Ar ?_
       obtain rfl := AL gu
       exact mi kr ⟨rfl, rfl, z6⟩
      refine Aq (um (um (um (um ?_))))
      obtain ⟨x2, bk, dr, gv⟩ := BG fe
      have aj := (Ev.A1 bb).1
      refine KK (fC fP) bb dr ?_; intro dt bl bm iw iy iz du bn ah bo bp
      refine kO (kf (fS (fS (fS fO))) kr) ?_
      obtain ⟨gw, gz, ia, ff, bq, br, dv, rfl, fg, bu⟩ := AI.at DP ah (L := (b1, ce #[vI Af, vI Ac, sL Am Ah.length Al, sL Ae Ab.length Ad, sL Ao Ak.length An] 50) :: (bl ++ (du ++ (bm ++ [])))) (fC fP) bk.1 bn
      refine uv (C0 underlying34 sizeOf22 bq (N6 aj bk)) (uv (AS isAgg22 rfl br (bu 0 (by decide))) (um ?_))
      refine bA (cs := #[vI v2]) Bm [vI v2] ?_; intro ib fh
      obtain ⟨l2, dw, dx, dy⟩ := Ea gv
      refine CJ (xs := x2) (ys := [v2]) (zs := l2) rfl Bm rfl rfl (Nat.le_refl _) (fun _ => .c (.c (.s .h))) bo (FL.box (vss := [[vI v2]]) (ys := [v2]) 0 rfl kI (.cons rfl .nil) rfl rfl) dw dx (by decide) ?_; intro bw bx bz cb cc
      refine kO (kd kr) ?_
      obtain ⟨ic, ie, ig, fi, av, fj, dz, rfl, fk, fl⟩ := AI.at DP ah (L := (b1, ce #[vI Af, vI Ac, sL Am Ah.length Al, sL Ae Ab.length Ad, sL Ao Ak.length An] 50) :: (bl ++ (cb ++ (bm ++ [])))) (fC fP) bk.1 bn
      refine uv (C0 underlying34 sizeOf22 av (N6 aj bk)) ?_
      refine Dq (zs := dt.set (h : Int).toNat (bw, bx, bz)) (u := (bw, bx, bz)) sizeOf22 DP rfl av rfl rfl (fun _ => .c .h) ah rfl (RG aj ah bk) ?_; intro fm cf
      obtain ⟨eb, ec, ef⟩ := BI dy
      refine Ij (p := fun X => Ev K.w0.heap.size 22 3 1 eI F a6 n9 n9 eb X) (Mz.back bp cf cc ec) (pT ((fC fP).trans (pA ((fC fP).trans (pA ((fC fP).trans (pA pR)))))) (lp (lp (lp (ln rfl))))) ?_; intro cg cj
      refine kO (kf (fS fO) kr) ?_
      refine Aa (AD (id := 3) ?_)
      obtain rfl := AL ef
      exact mi kr ⟨cg, rfl, rfl, z5, cj⟩
     rintro e1 _ _ ⟨ar, rfl, rfl, ck, eg⟩
     refine AA _ ck ?_
     refine Aq (um ?_)
     refine uv (A4 rfl rfl (B0.CE ba cx fx)) ?_
     refine ua (Aa ?_)
     exact le kr ⟨_, de, bd, ar, ep, rfl, rfl, z5, eg⟩
    obtain rfl := B0.zero ba cx
    rw [DE] at cw
    refine AM (Aj (Aj ?_))
    refine Ax (AD (id := 1) ?_)
    obtain rfl := AL cw
    exact mi kr ⟨aa, rfl, rfl, z4, bb⟩
   rintro e1 _ _ ⟨aq, rfl, rfl, cn, eh⟩
   refine AA _ cn ?_
   refine Aq (um ?_)
   refine uv (A4 rfl rfl (B0.CE ax cu ft)) ?_
   refine ua (Aa ?_)
   exact le kr ⟨_, db, ay, aq, eo, rfl, rfl, z4, eh⟩
  obtain rfl := B0.zero ax cu
  rw [DK] at ct
  refine AM (Aj (Aj ?_))
  refine Ax ?_
  obtain rfl := AL ct
  exact mi (kd kr) ⟨ai, rfl, rfl, z1, bc⟩
 rintro e1 _ _ ⟨aw, rfl, rfl, cp, cq⟩
 refine AA _ cp ?_
 refine AG (um (ua (Aa ?_)))
 obtain rfl := (Ev.A1 cq).1
 refine Km (Nat.le_refl _) kI fP cq ?_; intro ij fo ei
 refine Aw (B7 results35 ?_)
 obtain rfl := AL en
 exact ⟨_, _, rfl, rfl, ei⟩
set_option maxHeartbeats 1000000 in
theorem II (ad : At 1 (CM 1 eJ) F Am Al Ah) (aa : At 1 eI F Ae Ad Ab) (ae : At 3 (Br eI eP) F Ao An Ak) (ab : At 1 eI F Bl Bk AW) {r : Bool} (hr : FN Af Ac Ah Ab Ak AW = some r) :
    Bp Tryz.prog 7 #[.agg #[vI Af, vI Ac, sL Am Ah.length Al, sL Ae Ab.length Ad, sL Ao Ak.length An], sL Bl AW.length Bk] F (.bool r) := by
 refine sp func7 ntmps7 fun K _ _ => ?_
 rw [FN] at hr
 refine AG ?_
 refine BB rfl rfl ?_; intro b1 ph
 refine ua (Aa (Au (AG ?_)))
 refine uv (Cv isAgg26 sizeOf26 0) ?_
 obtain ⟨ok, h2, r3⟩ := Az hr
 refine cV call14 (Fp ad aa ae h2) (um ?_)
 obtain ⟨g4, r5⟩ := AF r3
 refine nB g4 (uv (Cv isAgg26 sizeOf26 0) (nB g4 ?_))
 obtain ⟨pj, h6, r7⟩ := Az r5
 refine cV call20 (Hr ad aa ae h6) (uv (AE (FK rfl g4) rfl) (um ?_))
 obtain ⟨g8, r9⟩ := AF r7
 refine nB g8 (um (nB g8 ?_))
 refine uv (AJ underlying22 rfl) (nB g8 (uv (C2 rfl rfl) (uv (AE (FK rfl g8) rfl) (Aa ?_))))
 obtain ⟨mr, mu⟩ := AF r9
 refine B9 rfl (fun kt => absurd kt mr) (fun kt => ?_)
 refine Ar (Au ?_)
 refine BK [(.pre, 6), (.pre, 7), (.still, 0), (.still, 2), (.still, 4), (.seq, 1), (.seq, 3), (.seq, 5), (.alloc (.cells (.agg #[vI 0, vI 0, sL none 0 0, sL none 0 0, sL none 0 0] : Value).cells 26 (0, 0)) (fun b => pO b) [], 6), (.alloc (.cells (.agg #[vI 0, vI 0, sL none 0 0, sL none 0 0, sL none 0 0] : Value).cells 50 (0, 0)) (fun b => pO b) [], 7), (.seq, 8), (.still, 9), (.seq, 10)] (by kernel_rfl) (by kernel_rfl) (⟨⟨_, _, rfl, rfl, rfl, rfl, rfl, GC zeroValue26⟩, ⟨⟨_, _, rfl, rfl, rfl, rfl, rfl, GC zeroValue50⟩, trivial⟩⟩) (by rfl) (by kernel_rfl) ?_
 refine ⟨⟨[], rfl, sn _, by kernel_rfl⟩, ?_⟩
 refine ⟨⟨[], rfl, sn _, by kernel_rfl⟩, ?_⟩
 refine mL [2] ([(b1, ce #[vI Af, vI Ac, sL Am Ah.length Al, sL Ae Ab.length Ad, sL Ao Ak.length An] 26)]) rfl (s0 sr) (fun H F' L' gb gg => Bn isAgg26 sizeOf26 rfl ((Has.own 0 rfl).ext gb gg) (DD rfl) rfl) (mS [1] rfl (A9 rfl) (mL [2] ([(b1, ce #[vI Af, vI Ac, sL Am Ah.length Al, sL Ae Ab.length Ad, sL Ao Ak.length An] 26)]) rfl (s0 sr) (fun H F' L' gb gg => Bn isAgg26 sizeOf26 rfl ((Has.own 0 rfl).ext gb gg) (DD rfl) rfl) ?_))
 refine ⟨_, [(32, .agg #[vI Af, vI Ac, sL Am Ah.length Al, sL Ae Ab.length Ad, sL Ao Ak.length An])], rfl, rfl, z1, by kernel_rfl, ?_⟩; intro H
 obtain ⟨n, n2, l, l2, l3, mv, mw⟩ := Ez mu
 refine c0 call15 (Fa ad aa ae mv) ?_; rintro _ pk _ br cv ⟨gh, ku, gi, cw, gj, kv, gk, cx, gl, kz, gm, cy, rfl, rfl, bc, aw, ar⟩
 replace ad := ad.mono (Ay kJ) br
 replace aa := aa.m1 br
 replace ae := ae.mono (Ai kI kP) br
 replace ab := ab.m1 br
 replace bc := bc.new fun p hp => cv p (by simp [hp])
 replace aw := aw.new fun p hp => cv p (by simp [hp])
 replace ar := ar.new fun p hp => cv p (by simp [hp])
 refine AB (lp (lp (lp (ln rfl)))) (kO (kf (fS (fS (fS fO))) kr) ?_)
 refine Aa ⟨_, rfl, br, [4, 2], by kernel_rfl, .inl (.inr (fun d h => by cases h; rfl)), (fc (s0 (s2 (s3 (s3 (s3 sr))))) (fc sm nm)), ?_⟩
 refine ⟨_, [(34, sL Bl AW.length Bk)], rfl, rfl, z1, by kernel_rfl, ?_⟩; intro H
 obtain ⟨l4, mx, na⟩ := Az mw
 refine c0 call21 (DO ab mx) ?_; rintro _ pn _ bh gn ⟨nc, nf, ng, cz, rfl, rfl, au⟩
 replace ad := ad.mono (Ay kJ) bh
 replace aa := aa.m1 bh
 replace ae := ae.mono (Ai kI kP) bh
 replace ab := ab.m1 bh
 replace bc := bc.mono (Ay kJ) bh
 replace aw := aw.m1 bh
 replace ar := ar.mono (Ai kI kP) bh
 replace au := au.new fun p hp => gn p (by simp [hp])
 refine AB (lp (ln rfl)) (kO (kf (fS fO) kr) ?_)
 refine Aa ⟨_, rfl, bh, [4], by kernel_rfl, .inl (.inr (fun d h => by cases h; rfl)), (fc (s0 (s2 (s3 (s3 (s3 (s3 sr)))))) nm), ?_⟩
 refine ⟨_, [(36, .agg #[vI Af, vI Ac, sL Am Ah.length Al, sL Ae Ab.length Ad, sL Ao Ak.length An])], rfl, rfl, z1, by kernel_rfl, ?_⟩; intro H
 obtain ⟨n3, n4, l5, l6, l7, nh, ni⟩ := Ez na
 refine c0 call16 (DR ad aa ae nh) ?_; rintro _ nj _ bg gp ⟨l0, ld, lg, lh, fw, nk, fx, dh, rfl, rfl, ay, az, ax⟩
 replace ad := ad.mono (Ay kJ) bg
 replace aa := aa.m1 bg
 replace ae := ae.mono (Ai kI kP) bg
 replace ab := ab.m1 bg
 replace bc := bc.mono (Ay kJ) bg
 replace aw := aw.m1 bg
 replace ar := ar.mono (Ai kI kP) bg
 replace au := au.m1 bg
 replace ax := ax.new fun p hp => gp p (by simp [hp])
 refine AB (lp (ln rfl)) (kO (kf (fS fO) kr) ?_)
 refine Aa ⟨_, rfl, bg, [], by kernel_rfl, .inl (.inl rfl), nm, ?_⟩
 refine HP rfl ?_; intro da np
 refine HK (L' := (da, ce #[vI 0, vI 0, sL none 0 0, sL none 0 0, sL none 0 0] 26) :: ((b1, ce #[vI Af, vI Ac, sL Am Ah.length Al, sL Ae Ab.length Ad, sL Ao Ak.length An] 26) :: (dh ++ (cz ++ (cw ++ (cx ++ (cy ++ []))))))) rfl ?_
 refine HP rfl ?_; intro fy nq
 refine HK (L' := (fy, ce #[vI 0, vI 0, sL none 0 0, sL none 0 0, sL none 0 0] 50) :: ((da, ce #[vI 0, vI 0, sL none 0 0, sL none 0 0, sL none 0 0] 26) :: ((b1, ce #[vI Af, vI Ac, sL Am Ah.length Al, sL Ae Ab.length Ad, sL Ao Ak.length An] 26) :: (dh ++ (cz ++ (cw ++ (cx ++ (cy ++ [])))))))) rfl ?_
 refine ⟨_, [(5, pO da), (33, .agg #[vI n, vI n2, sL gh ku gi, sL gj kv gk, sL gl kz gm])], rfl, rfl, z2, by kernel_rfl, ?_⟩; intro H
 refine BD (i := 1) sizeOf26 rfl rfl rfl (by simp [Value.oneCell']) rfl (DD rfl) (AB rfl ?_)
 refine Aa ⟨undef, rfl, AQ.refl _, [], by kernel_rfl, .inl (.inl rfl), nm, ?_⟩
 refine mS [35] rfl (Da rfl) ?_
 refine ⟨_, [(7, pO fy), (37, .agg #[vI n3, vI n4, sL l0 l5.length ld, sL lg l6.length lh, sL fw nk fx])], rfl, rfl, z2, by kernel_rfl, ?_⟩; intro H
 refine BD (i := 0) sizeOf50 rfl rfl rfl (by simp [Value.oneCell']) rfl (DD rfl) (AB rfl ?_)
 refine Aa ⟨undef, rfl, AQ.refl _, [], by kernel_rfl, .inl (.inl rfl), nm, ?_⟩
 refine Ce (AG (uv (Cv isAgg50 sizeOf50 0) ?_))
 obtain ⟨n5, nr, ns⟩ := Az ni
 refine Bh rfl call17 rfl rfl rfl (pT ((fC (fC (fC fP))).trans (pA pR)) (lp (ln rfl))) (fun F2 h2 h3 => by rw [(AI.A1 ax).1]; exact Ec (ay.mono (Ay kJ) h2) (az.mono kI h2) (ax.row (Ai kI kP) h2 (aL h3)) nr) ?_
 refine ua (BR (um (ua (BR (ua (Aa ?_))))))
 obtain ⟨bm, v, heard, lj, lk⟩ := N7 ns
 refine LO (fun e1 F1 L1 => ∃ (gq : Option Addr) (gr : Nat) (gu : Option Addr) (gv : Nat), AQ nj F1 ∧ L1 = ((fy, ce #[vI n3, vI n4, sL l0 l5.length ld, sL lg l6.length lh, sL gq bm.length gr] 50) :: ((da, ce #[vI n, vI n2, sL gh ku gi, sL gj kv gk, sL gl kz gm] 26) :: ((b1, ce #[vI Af, vI Ac, sL Am Ah.length Al, sL Ae Ab.length Ad, sL Ao Ak.length An] 26) :: (cw ++ (cx ++ (cy ++ (cz ++ []))))))) ∧ e1.sub [(1, sL Bl AW.length Bk), (2, pO b1), (5, pO da), (6, sL nc nf ng), (7, pO fy), (8, vI n5), (9, vI v), (10, sL gu heard.length gv)] ∧ At 3 (Br eI eP) F1 gq gr bm ∧ At 1 eJ F1 gu gv heard) ?_ ?_
 ·clear lk
  refine AG (um ?_)
  refine uv (Bx rfl rfl) (Aa ?_)
  refine cQ (fun gw => ?_) fun gw => ?_
  ·have nt := A2 lj gw
   refine AG (uv (Cv isAgg50 sizeOf50 0) (um ?_))
   obtain ⟨n6, nu, ll⟩ := Az nt
   refine Bh rfl call22 rfl rfl rfl (pT ((fC (fC (fC fP))).trans (pA pR)) (lp (ln rfl))) (fun F2 h2 h3 => by rw [(AI.A1 ax).1]; exact Gp (ay.mono (Ay kJ) h2) (az.mono kI h2) (ax.row (Ai kI kP) h2 (aL h3)) (ab.mono kI h2) nu) ?_
   refine ua (BR (um ?_))
   refine uv (Bx rfl rfl) (Aa ?_)
   refine cQ (fun gz => ?_) fun gz => ?_
   ·have nv := A2 ll gz
    refine Aq (uv (Cv isAgg50 sizeOf50 0) (um ?_))
    obtain rfl := (AI.A1 ax).1
    refine A5 (Nat.le_refl _) (Ai kI kP) (fC (fC (fC fP))) ax ?_; intro po cf ga
    replace ab := ab.m1 cf
    replace ay := ay.mono (Ay kJ) cf
    replace az := az.m1 cf
    obtain ⟨l8, nw, ny⟩ := Az nv
    refine c0 call32 (MN ay az ga ab nw) ?_; rintro _ pq _ di nz ⟨ia, ib, rfl, rfl, ic⟩
    replace ga := ga.mono (Ai kI kP) di
    refine AB (ln rfl) ?_
    refine ua (Aa ?_)
    obtain ⟨rfl, rfl, rfl⟩ := Na ny
    exact mf (kc (kc (kc (kg (fS fP) (kg (fS fP) (kg (fS fP) kr)))))) ⟨fw, fx, ia, ib, (cf.trans di), rfl, z8, ga, ic⟩
   have ie := A3 ll gz
   refine Ar ?_
   obtain rfl := (AI.A1 ax).1
   refine K1 (Nat.le_refl _) (Ai kI kP) (fC (fC (fC fP))) ax ?_; intro o0 dk ig
   obtain ⟨rfl, rfl, rfl⟩ := Na ie
   exact mf (kc (kc (kc (kg (fS fP) (kg (fS fP) (kg (fS fP) kr)))))) ⟨fw, fx, none, 0, dk, rfl, z8, ig, At.nil _ _ _⟩
  have ij := A3 lj gw
  refine Ar ?_
  obtain rfl := (AI.A1 ax).1
  refine K1 (Nat.le_refl _) (Ai kI kP) (fC (fC (fC fP))) ax ?_; intro o1 dm ik
  obtain ⟨rfl, rfl, rfl⟩ := Na ij
  exact mf (kc (kc (kc (kg (fS fP) (kg (fS fP) (kg (fS fP) kr)))))) ⟨fw, fx, none, 0, dm, rfl, z8, ik, At.nil _ _ _⟩
 rintro e1 o2 _ ⟨gq, gr, gu, gv, ao, rfl, dp, bl, bu⟩
 refine AA _ dp ?_
 replace ad := ad.mono (Ay kJ) ao
 replace aa := aa.m1 ao
 replace ae := ae.mono (Ai kI kP) ao
 replace ab := ab.m1 ao
 replace ay := ay.mono (Ay kJ) ao
 replace az := az.m1 ao
 replace bc := bc.mono (Ay kJ) ao
 replace aw := aw.m1 ao
 replace ar := ar.mono (Ai kI kP) ao
 replace au := au.m1 ao
 refine AG (uv (Cv isAgg26 sizeOf26 1) (um ?_))
 obtain rfl := (AI.A1 bc).1
 refine A5 (Nat.le_refl _) (Ay kJ) (fC (fC (fC fP))) bc ?_; intro o3 ai aq
 replace ad := ad.mono (Ay kJ) ai
 replace aa := aa.m1 ai
 replace ae := ae.mono (Ai kI kP) ai
 replace ab := ab.m1 ai
 replace ay := ay.mono (Ay kJ) ai
 replace az := az.m1 ai
 replace bl := bl.mono (Ai kI kP) ai
 replace bu := bu.m2 ai
 replace aw := aw.m1 ai
 replace ar := ar.mono (Ai kI kP) ai
 replace au := au.m1 ai
 obtain rfl := (AI.A1 aw).1
 refine A5 (Nat.le_refl _) kI (fC (fC (fC fP))) aw ?_; intro o4 aj av
 replace ad := ad.mono (Ay kJ) aj
 replace aa := aa.m1 aj
 replace ae := ae.mono (Ai kI kP) aj
 replace ab := ab.m1 aj
 replace ay := ay.mono (Ay kJ) aj
 replace az := az.m1 aj
 replace bl := bl.mono (Ai kI kP) aj
 replace bu := bu.m2 aj
 replace aq := aq.mono (Ay kJ) aj
 replace ar := ar.mono (Ai kI kP) aj
 replace au := au.m1 aj
 obtain rfl := (AI.A1 ar).1
 refine A5 (Nat.le_refl _) (Ai kI kP) (fC (fC (fC fP))) ar ?_; intro o7 ak ba
 replace ad := ad.mono (Ay kJ) ak
 replace aa := aa.m1 ak
 replace ae := ae.mono (Ai kI kP) ak
 replace ab := ab.m1 ak
 replace ay := ay.mono (Ay kJ) ak
 replace az := az.m1 ak
 replace bl := bl.mono (Ai kI kP) ak
 replace bu := bu.m2 ak
 replace aq := aq.mono (Ay kJ) ak
 replace av := av.m1 ak
 replace au := au.m1 ak
 obtain rfl := (AI.A1 au).1
 refine A5 (Nat.le_refl _) kI (fC (fC (fC fP))) au ?_; intro o8 al cg
 replace ad := ad.mono (Ay kJ) al
 replace aa := aa.m1 al
 replace ae := ae.mono (Ai kI kP) al
 replace ab := ab.m1 al
 replace ay := ay.mono (Ay kJ) al
 replace az := az.m1 al
 replace bl := bl.mono (Ai kI kP) al
 replace bu := bu.m2 al
 replace aq := aq.mono (Ay kJ) al
 replace av := av.m1 al
 replace ba := ba.mono (Ai kI kP) al
 obtain ⟨l9, n7, il, im⟩ := Ca lk
 refine c0 call33 (OW aq av ba cg il) ?_; rintro _ iq _ ah lq ⟨o9, oc, rfl, rfl, ir⟩
 replace ad := ad.mono (Ay kJ) ah
 replace aa := aa.m1 ah
 replace ae := ae.mono (Ai kI kP) ah
 replace ab := ab.m1 ah
 replace ay := ay.mono (Ay kJ) ah
 replace az := az.m1 ah
 replace bl := bl.mono (Ai kI kP) ah
 replace bu := bu.m2 ah
 replace aq := aq.mono (Ay kJ) ah
 replace av := av.m1 ah
 replace ba := ba.mono (Ai kI kP) ah
 replace cg := cg.m1 ah
 refine AB (ln rfl) ?_
 refine um (ox rfl rfl rfl (ox rfl rfl rfl (ua (ua (Aa (Au (AG (um (um ?_)))))))))
 refine uv (BU rfl rfl) (um ?_)
 obtain ⟨bw, iu⟩ := AF im
 refine nF bw (um (nF bw (um (nF bw ?_))))
 obtain ⟨pr, iv, iw⟩ := Az iu
 refine cV call34 (Gt ir bu iv) (nF bw (uv (Bo rfl) (uv (AE (AR rfl bw) rfl) (um ?_))))
 obtain ⟨bx, iy⟩ := AF iw
 refine nB bx (um (nB bx (um (nB bx ?_))))
 obtain ⟨pt, iz, j0⟩ := Az iy
 refine cV call25 (Bv cg ab iz) (nB bx (uv (Bo rfl) (uv (AE (FK rfl bx) rfl) (Aa ?_))))
 obtain ⟨j1, j2⟩ := AF j0
 refine AV rfl (fun dq => absurd (j1.symm.trans dq) (by decide)) (fun dq => ?_)
 refine Ar (AG (ua (Aa ?_)))
 obtain ⟨w, want, dr, dt⟩ := Ca j2
 refine AO (fun e1 F1 L1 => ∃ (bo : Option Addr) (bp : Nat), AQ iq F1 ∧ L1 = [(da, ce #[vI n, vI n2, sL gh l.length gi, sL gj l2.length gk, sL gl l3.length gm] 26), (b1, ce #[vI Af, vI Ac, sL Am Ah.length Al, sL Ae Ab.length Ad, sL Ao Ak.length An] 26)] ∧ e1.sub [(2, pO b1), (5, pO da), (8, vI w), (13, sL bo want.length bp)] ∧ At 1 eJ F1 bo bp want) ?_ ?_
 ·clear dt
  refine AG (um ?_)
  refine uv (Bx rfl rfl) (Aa ?_)
  refine cQ (fun db => ?_) fun db => ?_
  ·have j3 := A2 dr db
   refine AG (uv (Cv isAgg50 sizeOf50 0) ?_)
   obtain ⟨pv, j4, j5⟩ := Az j3
   refine c0 call26 ((HM FU) ay az bl (At.nil _ _ _) j4) ?_; rintro _ od _ bj du ⟨oe, og, oh, lr, rfl, rfl, bn⟩
   replace ay := ay.mono (Ay kJ) bj
   replace az := az.m1 bj
   replace bl := bl.mono (Ai kI kP) bj
   replace bn := bn.new fun p hp => du p (by simp [hp])
   refine AB (lp (ln rfl)) (kO (kf (fS fO) (kf (fS fO) (kf (fS fO) kr))) ?_)
   refine ua (BR ?_)
   refine uv (Cv isAgg50 sizeOf50 0) (um ?_)
   obtain rfl := (AI.A1 bn).1
   refine A5 (Nat.le_refl _) kJ (fC (fC (fC fP))) bn ?_; intro oi bk j6
   replace ay := ay.mono (Ay kJ) bk
   replace az := az.m1 bk
   replace bl := bl.mono (Ai kI kP) bk
   obtain ⟨pw, j7, dv⟩ := Az j5
   refine c0 call35 (LJ ay az bl j6 j7) ?_; rintro _ oj _ ct lu ⟨j8, j9, rfl, rfl, ja⟩
   refine AB (ln rfl) ?_
   refine ua (BR (um ?_))
   refine uv (AJ underlying34 rfl) (uv (Bx rfl rfl) (Aa ?_))
   refine cQ (fun dd => ?_) fun dd => ?_
   ·have jb := A2 dv dd
    refine Aq (ua (ua (Aa ?_)))
    obtain ⟨rfl, rfl⟩ := Cd jb
    exact mi (kd kr) ⟨none, 0, ((bj.trans bk).trans ct), rfl, z4, At.nil _ _ _⟩
   have jc := A3 dv dd
   refine Ar ?_
   obtain ⟨rfl, rfl⟩ := Cd jc
   exact mi (kd kr) ⟨j8, j9, ((bj.trans bk).trans ct), rfl, z4, ja⟩
  have jd := A3 dr db
  refine Ar ?_
  obtain ⟨rfl, rfl⟩ := Cd jd
  exact mi (kd kr) ⟨none, 0, AQ.refl _, rfl, z4, At.nil _ _ _⟩
 rintro e1 oo _ ⟨bo, bp, bd, rfl, dw, cj⟩
 refine AA _ dw ?_
 replace ad := ad.mono (Ay kJ) bd
 replace aa := aa.m1 bd
 replace ae := ae.mono (Ai kI kP) bd
 replace aq := aq.mono (Ay kJ) bd
 replace av := av.m1 bd
 replace ba := ba.mono (Ai kI kP) bd
 refine AG (uv (Cv isAgg26 sizeOf26 0) ?_)
 obtain ⟨de, n8, je, jf⟩ := Ca dt
 refine c0 call36 (La aq av ba je) ?_; rintro _ dx _ bb lv ⟨df, dg, rfl, rfl, dy⟩
 replace ad := ad.mono (Ay kJ) bb
 replace aa := aa.m1 bb
 replace ae := ae.mono (Ai kI kP) bb
 replace aq := aq.mono (Ay kJ) bb
 replace av := av.m1 bb
 replace ba := ba.mono (Ai kI kP) bb
 replace cj := cj.m2 bb
 refine AB (ln rfl) ?_
 refine um (ox rfl rfl rfl (ox rfl rfl rfl (ua (ua (Aa (Au (AG (um (um ?_)))))))))
 refine uv (BU rfl rfl) (um ?_)
 obtain ⟨bq, jg⟩ := AF jf
 refine nF bq (um (nF bq ?_))
 refine uv (AJ underlying74 rfl) ?_
 refine nF bq (um (nF bq ?_))
 refine uv (AJ underlying34 rfl) (nF bq (uv (BU rfl rfl) (uv (AE (AR rfl bq) rfl) (um ?_))))
 obtain ⟨bz, jh⟩ := AF jg
 refine nF bz (uv (Cv isAgg26 sizeOf26 0) (nF bz (uv (Cv isAgg26 sizeOf26 1) (nF bz ?_))))
 obtain ⟨px, ji, jj⟩ := Az jh
 refine cV call19 (EE aq av ba ad aa ae ji) (nF bz (uv (Bo rfl) (uv (AE (AR rfl bz) rfl) (Aa ?_))))
 obtain ⟨jk, jl⟩ := AF jj
 refine AV rfl (fun dz => absurd (jk.symm.trans dz) (by decide)) (fun dz => ?_)
 refine Ar ?_
 obtain ⟨jm, eb⟩ := IK jl
 refine jE ([]) [] ?_ ?_
 ·clear eb
  refine AG (um ?_)
  refine uv (AJ underlying74 rfl) ?_
  refine um (Aa ?_)
  refine As (kW kn ?_)
  refine A6 (fun lx e1 F1 L1 => LA de lx fun tl k => Dp want tl k = some () ∧ dx = F1 ∧ L1 = [] ∧ e1.sub [(13, sL bo want.length bp), (103, sL df de.length dg), (104, vI (de.length : Int)), (105, vI k)]) _ (m0 kr ⟨_, _, rfl, Bq.start _, jm, rfl, rfl, z4⟩) ?_
  rintro lx e1 _ _ ⟨tl, k, ec, cb, ck, rfl, rfl, ef⟩
  refine AA _ ef (AG (uv (AY rfl rfl) ?_))
  refine Aa (Au ?_)
  refine cQ (fun cn => ?_) fun cn => ?_
  ·obtain ⟨x, py, rfl, eg, eh, ei⟩ := Bq.succ cb cn
   rw [Dp] at ck
   refine Ar ?_
   obtain ⟨jn, ej⟩ := IK ck
   refine jE ([]) [(13, sL bo want.length bp), (103, sL df de.length dg), (104, vI (de.length : Int)), (105, vI k)] ?_ ?_
   ·clear ej
    refine As ?_
    refine AG (um ?_)
    obtain ⟨oq, ot, ou, ly, en, eo, jo, ⟨jq, jr, rfl, ep⟩, ma, er⟩ := At.ta kJ dy eh.1 eg
    refine uv (C0 underlying74 sizeOf77 en eh) (uv (AS isAgg77 rfl (eo _) (er 0 (by decide))) ?_)
    refine ua (ua (Aa (Au (AG (um ?_)))))
    refine uv (AJ underlying77 rfl) ?_
    refine um (um ?_)
    obtain ⟨x2, cp, cu, js⟩ := BG jn
    obtain ⟨ow, oy, oz, mb, et, eu, jt, ⟨p0, p3, rfl, p4⟩, mc, ew⟩ := At.ta kJ cj cp.1 cu
    refine uv (C0 underlying34 sizeOf22 et cp) (uv (AS isAgg22 rfl (eu _) (ew 0 (by decide))) (uv (AJ underlying22 rfl) (uv (BU rfl rfl) (Aa ?_))))
    obtain ⟨ju, jv⟩ := AF js
    refine B9 rfl (fun ey => absurd ey ju) (fun ey => ?_)
    refine Ar (AG (um ?_))
    refine uv (AJ underlying77 rfl) ?_
    refine um (Aa ?_)
    refine As ?_
    refine A6 (fun me e1 F1 L1 => LA x me fun mg k2 => Dn x2 mg k2 = some () ∧ dx = F1 ∧ L1 = [] ∧ e1.sub [(13, sL bo want.length bp), (16, vI k), (103, sL df de.length dg), (104, vI (de.length : Int)), (105, vI k), (118, sL jq x.length jr), (119, vI (x.length : Int)), (120, vI k2)]) _ (m0 kr ⟨_, _, rfl, Bq.start _, jv, rfl, rfl, z8⟩) ?_
    rintro me e1 _ _ ⟨mg, k2, ez, cc, cq, rfl, rfl, fa⟩
    refine AA _ fa (AG (uv (AY rfl rfl) ?_))
    refine Aa (Au ?_)
    refine cQ (fun cr => ?_) fun cr => ?_
    ·obtain ⟨x3, pz, rfl, fb, fe, ff⟩ := Bq.succ cc cr
     rw [Dn] at cq
     refine Ar (Au ?_)
     refine As ?_
     refine AG (um ?_)
     obtain ⟨p5, p6, p7, mh, fg, fh, jw, rfl, mj, fi⟩ := At.ta kI ep fe.1 fb
     refine uv (C0 underlying77 sizeOf78 fg fe) (uv (AS isAgg78 rfl (fh _) (fi 0 (by decide))) ?_)
     refine ua (ua (BR (um (um (um ?_)))))
     obtain ⟨p8, p9, pa, ml, fj, fk, jx, ⟨pb, pd, rfl, jz⟩, mn, fl⟩ := At.ta kJ cj cp.1 cu
     refine uv (C0 underlying34 sizeOf22 fj cp) (uv (AS isAgg22 rfl (fk _) (fl 0 (by decide))) (um ?_))
     obtain ⟨x4, fm, fo, kb⟩ := BG cq
     obtain ⟨pe, pf, pg, mo, fp, fq, kh, rfl, mq, ft⟩ := At.ta kI jz fm.1 fo
     refine uv (C0 underlying22 sizeOf3 fp fm) (uv (AS isAgg3 rfl (fq _) (ft 0 (by decide))) (uv (BU rfl rfl) (Aa ?_)))
     obtain ⟨kj, kl⟩ := AF kb
     refine B9 rfl (fun fv => absurd fv kj) (fun fv => ?_)
     refine Ar (AD (id := 3) (Aq ?_))
     refine uv (A4 rfl rfl (Bq.CE cc cr (At.lt ep))) ?_
     refine um (Aa ?_)
     subst ez; exact le kr ⟨_, _, rfl, ff, kl, rfl, rfl, z8⟩
    obtain rfl := Bq.zero cc cr
    rw [Dn] at cq
    refine AM (Aj (Aj ?_))
    refine Ax (AD (id := 1) ?_)
    clear cq
    exact mi kr ⟨rfl, rfl, z4⟩
   refine Aq (uv (A4 rfl rfl (Bq.CE cb cn (At.lt dy))) ?_)
   refine um (Aa ?_)
   subst ec; exact le kr ⟨_, _, rfl, ei, ej, rfl, rfl, z4⟩
  obtain rfl := Bq.zero cb cn
  rw [Dp] at ck
  refine AM (Aj (Aj ?_))
  refine Ax ?_
  clear ck
  exact mi kr ⟨rfl, rfl, (sn _)⟩
 refine AG ?_
 obtain ⟨q0, km, ko⟩ := Az eb
 refine cV call13 (CA km) ?_
 refine ua (Aa (Aw ?_))
 refine B7 results7 ?_
 obtain rfl := AL ko
 exact rfl
set_option maxHeartbeats 1000000 in
theorem KC {l : List (Int × Int × Bool)} (ab : At 3 (Br eI (Br eI bE)) F CV CX l) {r : List (Int × Int × Bool)} (hr : Gw l = some r) :
    SH.Spec Tryz.prog 37 #[sL CV l.length CX] F [] fun F' L' v => ∃ (ra : Option Addr) (rn : Nat) (rc : Nat) (rL : LH), v = sL ra rn rc ∧ L' = rL ++ [] ∧ AI 0 29 3 (Br eI (Br eI bE)) F' ra rn rc r rL := by
 refine sp func37 ntmps37 fun K _ _ => ?_
 rw [Gw] at hr
 refine AG (ua (BR (um ?_)))
 refine uv (AJ underlying30 rfl) ?_
 obtain ⟨g1, r2⟩ := AF hr
 obtain ⟨l2, h3, r4⟩ := BI r2
 refine Ft (R := (Br eI (Br eI bE))) (z0 := (0, 0, false)) (zs := l2) rfl K8 (by decide) (Ai kI (Ai kI Be)) (fun _ => ⟨_, _, rfl, rfl, ⟨_, _, rfl, rfl, rfl⟩⟩) rfl g1 h3 (fun _ => .n) ?_; intro a5 n8 aj ad
 refine ua (BR (um (um ?_)))
 obtain ⟨out, ae, ah⟩ := BI r4
 refine MT (ys := l) (zs := out) rfl K8 (Ai kI (Ai kI Be)) rfl rfl (fun _ => .h) ad (At.src ab) ae ?_; intro ai aa
 refine BR (um (ua (Aa (Aw ?_))))
 refine B7 results37 ?_
 obtain rfl := AL ah
 exact ⟨_, _, _, _, rfl, rfl, aa.any⟩
set_option maxHeartbeats 1000000 in
theorem M9 {l : List (Int × Int × Bool)} (bg : At 3 (Br eI (Br eI bE)) F CV CX l) {r : List (Int × Int × Bool)} (hr : JO l = some r) :
    SH.Spec Tryz.prog 38 #[sL CV l.length CX] F [] fun F' L' v => ∃ (ra : Option Addr) (rn : Nat) (rc : Nat) (rL : LH), v = sL ra rn rc ∧ L' = rL ++ [] ∧ AI 0 136 3 (Br eI (Br eI bE)) F' ra rn rc r rL := by
 refine sp func38 ntmps38 fun K _ _ => ?_
 rw [JO] at hr
 refine AG (ua (BR (ua (Aa ?_))))
 obtain ⟨out, h7, r8⟩ := Az hr
 refine AO (fun e1 F1 L1 => ∃ (a1 : Option Addr) (n5 : Nat) (c2 : Nat) (aq : LH), F = F1 ∧ L1 = (aq ++ []) ∧ e1.sub [(3, sL a1 n5 c2)] ∧ AI K.w0.heap.size 136 3 (Br eI (Br eI bE)) F1 a1 n5 c2 out aq) ?_ ?_
 ·clear r8
  refine AG (um ?_)
  refine uv (AJ underlying30 rfl) ?_
  refine um (Aa ?_)
  refine As ?_
  refine A6 (fun bh e1 F1 L1 => LA l bh fun tl k => ∃ (aa : List (Int × Int × Bool)) (a9 : Option Addr) (aj : Nat) (ak : Nat) (ab : LH), Fx tl aa = some out ∧ F = F1 ∧ L1 = (ab ++ []) ∧ e1.sub [(3, sL a9 aj ak), (6, sL CV l.length CX), (7, vI (l.length : Int)), (8, vI k)] ∧ AI K.w0.heap.size 136 3 (Br eI (Br eI bE)) F1 a9 aj ak aa ab) _ (m0 (ke kr) ⟨_, _, rfl, Bq.start _, [], none, 0, 0, [], h7, rfl, rfl, z4, AI.nil _ _ _ _ _⟩) ?_
  rintro bh e1 _ _ ⟨tl, k, ar, ae, aa, a9, aj, ak, ab, al, rfl, rfl, au, ah⟩
  refine AA _ au (AG (uv (AY rfl rfl) ?_))
  refine Aa (Au ?_)
  refine cQ (fun ao => ?_) fun ao => ?_
  ·obtain ⟨x, bx, rfl, av, bj, aw⟩ := Bq.succ ae ao
   rw [Fx] at al
   refine Ar (Au ?_)
   refine As (AG ?_)
   obtain ⟨bz, cb, cc, bk, ax, ay, ad, ⟨_, _, rfl, rfl, ⟨_, _, rfl, rfl, rfl⟩⟩, az, ba⟩ := At.ta (Ai kI (Ai kI Be)) bg bj.1 av
   refine uv (C0 underlying30 sizeOf29 ax bj) (uv (Bn isAgg29 sizeOf29 rfl (ay _) ad (Bi ad az ba)) ?_)
   refine Bu rfl zeroValue29 ?_; intro cf bl
   refine BD (i := 0) sizeOf29 rfl rfl rfl (by simp [Value.oneCell']) rfl (DD rfl) (AB rfl ?_)
   refine Aa (Aq (um ?_))
   refine uv (Cv isAgg29 sizeOf29 0) ?_
   refine bA (cs := #[vI x.1, vI x.2.1, .bool x.2.2]) OZ [.agg #[vI x.1, vI x.2.1, .bool x.2.2]] ?_; intro cg bm
   obtain ⟨ai, bn, bo, bp⟩ := Ea al
   refine CJ (xs := aa) (ys := [(x.1, x.2.1, x.2.2)]) (zs := ai) rfl OZ rfl rfl (Nat.le_refl _) (fun _ => .c (.c .h)) ah (FL.box (vss := [[vI x.1, vI x.2.1, .bool x.2.2]]) (ys := [(x.1, x.2.1, x.2.2)]) 0 rfl (Ai kI (Ai kI Be)) (.cons ⟨_, _, rfl, rfl, ⟨_, _, rfl, rfl, rfl⟩⟩ .nil) rfl rfl) bn bo (by decide) ?_; intro bq br bu bb bc
   refine kO (kd kr) ?_
   refine ua (Aa (AD (id := 1) (Aq ?_)))
   refine uv (A4 rfl rfl (Bq.CE ae ao (At.lt bg))) ?_
   refine um (Aa ?_)
   subst ar; exact le (kd kr) ⟨_, _, rfl, aw, ai, bq, br, bu, bb, bp, rfl, rfl, z4, bc⟩
  obtain rfl := Bq.zero ae ao
  rw [Fx] at al
  refine AM (Aj (Aj ?_))
  refine Ax ?_
  obtain rfl := AL al
  exact mi kr ⟨a9, aj, ak, ab, rfl, rfl, z1, ah⟩
 rintro e1 _ _ ⟨a1, n5, c2, aq, rfl, rfl, bd, bw⟩
 refine AA _ bd ?_
 refine AG (um (ua (Aa (Aw ?_))))
 refine B7 results38 ?_
 obtain rfl := AL r8
 exact ⟨_, _, _, _, rfl, rfl, bw.any⟩
set_option maxHeartbeats 1000000 in
theorem Im {l : List (Int × Int × Bool)} (_h_hears : At 1 (CM 1 eJ) F Am Al Ah) (_h_readings : At 1 eI F Ae Ad Ab) (_h_cries : At 3 (Br eI eP) F Ao An Ak) (ah : At 3 (Br eI (Br eI bE)) F CV CX l) {r : Int} (hr : Fy Af Ac Ah Ab Ak l = some r) :
    Bp Tryz.prog 39 #[.agg #[vI Af, vI Ac, sL Am Ah.length Al, sL Ae Ab.length Ad, sL Ao Ak.length An], sL CV l.length CX] F (vI r) := by
 refine sp func39 ntmps39 fun K _ _ => ?_
 rw [Fy] at hr
 refine AG ?_
 refine BB rfl rfl ?_; intro b1 cf
 refine ua (Aa (Au (AG (um ?_))))
 refine uv (AJ underlying80 rfl) (uv (C2 rfl rfl) (Aa ?_))
 refine cQ (fun c2 => ?_) fun c2 => ?_
 ·have r3 := A2 hr c2
  refine AG (ua (Aa ?_))
  refine kW kn ?_
  refine Aw (Av ?_)
  refine B7 results39 ?_
  obtain rfl := AL r3
  exact rfl
 have r4 := A3 hr c2
 refine Ar ?_
 refine AO (fun e1 F1 L1 => Gi = some r ∧ F = F1 ∧ L1 = [] ∧ e1.sub []) ?_ ?_
 ·refine AG (ua (Aa ?_))
  refine As ?_
  refine A6 (fun ay e1 F1 L1 => LA l ay fun tl i => De Af Ac tl = some r ∧ F = F1 ∧ L1 = [(b1, ce #[vI Af, vI Ac, sL Am Ah.length Al, sL Ae Ab.length Ad, sL Ao Ak.length An] 50)] ∧ e1.sub [(1, sL CV l.length CX), (2, pO b1), (5, vI i)]) _ (m0 kr ⟨_, _, rfl, Bq.start _, r4, rfl, rfl, z3⟩) ?_
  rintro ay e1 _ _ ⟨tl, i, bd, ai, r7, rfl, rfl, bg⟩
  refine AA _ bg ?_
  refine Au (AG (um (um ?_)))
  refine uv (AJ underlying80 rfl) (uv (AY rfl rfl) (Aa ?_))
  refine cQ (fun ad => ?_) fun ad => ?_
  ·obtain ⟨x, cg, rfl, ab, ae, aj⟩ := Bq.succ ai ad
   rw [De] at r7
   refine Ar (Au ?_)
   refine As ?_
   obtain ⟨k, bh, ak⟩ := Az r7
   refine jE ([(b1, ce #[vI Af, vI Ac, sL Am Ah.length Al, sL Ae Ab.length Ad, sL Ao Ak.length An] 50)]) [(1, sL CV l.length CX), (2, pO b1), (5, vI i), (34, .bool k)] ?_ ?_
   ·clear ak
    refine Jb (by kernel_rfl) (by kernel_rfl) (by kernel_rfl) ?_
    refine wm (wm ?_)
    obtain ⟨cj, ck, cn, bj, al, ao, az, ⟨_, _, rfl, rfl, ⟨_, _, rfl, rfl, rfl⟩⟩, bk, aq⟩ := At.ta (Ai kI (Ai kI Be)) ah ae.1 ab
    refine wv (C0 underlying80 sizeOf136 al ae) (wv (Ap PC rfl) (wv (AS isAgg3 rfl (ao _) (aq 0 (by decide))) (wv (Ap KU rfl) (wv (Co isAgg3 0) ?_))))
    obtain ⟨bl, bm⟩ := AF bh
    refine wv (EU rfl rfl bl) ?_
    obtain ⟨ok, bn, ba⟩ := Az bm
    refine Dy rfl call70 rfl rfl rfl (Cb bn) (wm ?_)
    rcases DX ok with aa | aa
    ·have bo := bt ba aa
     refine AX (b' := true) 24 rfl (Cy rfl aa) rfl rfl (AX (b' := true) 24 rfl (Cy rfl aa) rfl rfl (AX (b' := true) 24 rfl (Cy rfl aa) rfl rfl (AX (b' := true) 24 rfl (Cy rfl aa) rfl rfl (AX (b' := true) 24 rfl (Cy rfl aa) rfl rfl (AX (b' := true) 24 rfl (Cy rfl aa) rfl rfl (AX (b' := true) 24 rfl (Cy rfl aa) rfl rfl (AX (b' := true) 24 rfl (Cy rfl aa) rfl rfl (AX (b' := true) 24 rfl (Cy rfl aa) rfl rfl ?_))))))))
     refine wv (AK (FK rfl aa) rfl) (B6 ?_)
     obtain rfl := AL bo
     exact mi kr ⟨rfl, rfl, z4⟩
    have bp := bf ba aa
    refine A0 (b := false) 24 rfl (Cy rfl aa) (wm (A0 (b := false) 24 rfl (Cy rfl aa) (wm (A0 (b := false) 24 rfl (Cy rfl aa) ?_))))
    obtain ⟨cp, cq, cr, bq, ar, au, bb, ⟨_, _, rfl, rfl, ⟨_, _, rfl, rfl, rfl⟩⟩, br, av⟩ := At.ta (Ai kI (Ai kI Be)) ah ae.1 ab
    refine wv (C0 underlying80 sizeOf136 ar ae) (A0 (b := false) 24 rfl (Cy rfl aa) (wv (Ap PD rfl) (A0 (b := false) 24 rfl (Cy rfl aa) (wv (AS isAgg3 rfl (au _) (av 1 (by decide))) (A0 (b := false) 24 rfl (Cy rfl aa) (wv (Ap MX rfl) (A0 (b := false) 24 rfl (Cy rfl aa) ?_)))))))
    refine wv (Co isAgg3 0) (A0 (b := false) 24 rfl (Cy rfl aa) ?_)
    obtain ⟨bu, bw⟩ := AF bp
    refine wv (EU rfl rfl bu) (A0 (b := false) 24 rfl (Cy rfl aa) ?_)
    obtain ⟨ct, bx, bz⟩ := Az bw
    refine Dy rfl call70 rfl rfl rfl (Cb bx) (wv (AE (FK rfl aa) rfl) (B6 ?_))
    obtain rfl := AL bz
    exact mi kr ⟨rfl, rfl, z4⟩
   refine AV rfl (fun aw => ?_) (fun aw => ?_)
   ·have cb := bt ak aw
    refine AG (ua (Aa ?_))
    refine kW kn ?_
    refine Aw (AH (Av (Av (AH (Av ?_)))))
    refine B7 results39 ?_
    obtain rfl := AL cb
    exact rfl
   have cc := bf ak aw
   refine Ar (AD (id := 1) (Aq (um ?_)))
   refine uv (A4 rfl rfl (Bq.CE ai ad (At.lt ah))) ?_
   refine ua (Aa ?_)
   subst bd; exact le kr ⟨_, _, rfl, aj, cc, rfl, rfl, z3⟩
  obtain rfl := Bq.zero ai ad
  rw [De] at r7
  refine AM (Aj (Aj ?_))
  refine Ax ?_
  exact mi kn ⟨r7, rfl, rfl, (sn _)⟩
 rintro e1 _ _ ⟨bc, rfl, rfl, ax⟩
 refine AA _ ax ?_
 rw [Gi] at bc
 refine AG (ua (Aa (Aw ?_)))
 refine B7 results39 ?_
 obtain rfl := AL bc
 exact rfl
set_option maxHeartbeats 1000000 in
theorem G3 {l : List (Int × Int × Bool)} (ah : At 1 (CM 1 eJ) F Am Al Ah) (aa : At 1 eI F Ae Ad Ab) (ai : At 3 (Br eI eP) F Ao An Ak) (aq : At 3 (Br eI (Br eI bE)) F CV CX l) (ab : At 1 eI F Bl Bk AW) {r : List Int} (hr : Fg Af Ac Ah Ab Ak l AW = some r) :
    SH.Spec Tryz.prog 40 #[.agg #[vI Af, vI Ac, sL Am Ah.length Al, sL Ae Ab.length Ad, sL Ao Ak.length An], sL CV l.length CX, sL Bl AW.length Bk] F [] fun F' L' v => ∃ (ra : Option Addr) (rn : Nat) (rc : Nat) (rL : LH), v = sL ra rn rc ∧ L' = rL ++ [] ∧ AI 0 3 1 eI F' ra rn rc r rL := by
 refine sp func40 ntmps40 fun K _ _ => ?_
 rw [Fg] at hr
 refine AG ?_
 refine BB rfl rfl ?_; intro b1 dd
 refine ua (BR (ua (Aa ?_)))
 obtain ⟨out, h8, r9⟩ := Az hr
 refine AO (fun e1 F1 L1 => ∃ (a2 : Option Addr) (n6 : Nat) (c3 : Nat) (bb : LH), F = F1 ∧ L1 = (bb ++ []) ∧ e1.sub [(7, sL a2 n6 c3)] ∧ AI K.w0.heap.size 3 1 eI F1 a2 n6 c3 out bb) ?_ ?_
 ·clear r9
  refine AG (ua (Aa ?_))
  refine As ?_
  refine A6 (fun bw e1 F1 L1 => LA l bw fun tl i => ∃ (ad : List Int) (ar : Option Addr) (au : Nat) (av : Nat) (ae : LH), DQ Af Ac Ah Ab Ak AW tl i ad = some out ∧ F = F1 ∧ L1 = ((b1, ce #[vI Af, vI Ac, sL Am Ah.length Al, sL Ae Ab.length Ad, sL Ao Ak.length An] 50) :: (ae ++ [])) ∧ e1.sub [(1, sL CV l.length CX), (2, sL Bl AW.length Bk), (3, pO b1), (7, sL ar au av), (8, vI i)] ∧ AI K.w0.heap.size 3 1 eI F1 ar au av ad ae) _ (m0 (kc (ke kr)) ⟨_, _, rfl, Bq.start _, [], none, 0, 0, [], h8, rfl, rfl, z5, AI.nil _ _ _ _ _⟩) ?_
  rintro bw e1 _ _ ⟨tl, i, aw, aj, ad, ar, au, av, ae, ba, rfl, rfl, bc, ak⟩
  refine AA _ bc ?_
  refine Au (AG (um (um ?_)))
  refine uv (AJ underlying80 rfl) (uv (AY rfl rfl) (Aa ?_))
  refine cQ (fun ax => ?_) fun ax => ?_
  ·obtain ⟨x, de, rfl, al, ao, ay⟩ := Bq.succ aj ax
   rw [DQ] at ba
   refine Ar (Au ?_)
   refine As (dW (wv (Cv isAgg50 sizeOf50 0) ?_))
   refine wm (wm (wm ?_))
   obtain ⟨df, dg, dh, cf, bd, bg, bx, ⟨_, _, rfl, rfl, ⟨_, _, rfl, rfl, rfl⟩⟩, cg, bh⟩ := At.ta (Ai kI (Ai kI Be)) aq ao.1 al
   refine wv (C0 underlying80 sizeOf136 bd ao) (wv (Ap PC rfl) (wv (AS isAgg3 rfl (bg _) (bh 0 (by decide))) ?_))
   refine wm (wm ?_)
   obtain ⟨di, dk, dm, cj, bj, bk, bz, ⟨_, _, rfl, rfl, ⟨_, _, rfl, rfl, rfl⟩⟩, ck, bl⟩ := At.ta (Ai kI (Ai kI Be)) aq ao.1 al
   refine wv (C0 underlying80 sizeOf136 bj ao) (wv (Ap PD rfl) (wv (AS isAgg3 rfl (bk _) (bl 1 (by decide))) ?_))
   obtain ⟨ok, cn, cb⟩ := Az ba
   refine Dy rfl call83 rfl rfl rfl (ID ah aa ai ab cn) ?_
   refine wm (wm ?_)
   obtain ⟨dp, dq, dr, cp, bm, bn, cc, ⟨_, _, rfl, rfl, ⟨_, _, rfl, rfl, rfl⟩⟩, cq, bo⟩ := At.ta (Ai kI (Ai kI Be)) aq ao.1 al
   refine wv (C0 underlying80 sizeOf136 bm ao) (wv (Ap Rj rfl) (wv (AS isAgg4 rfl (bn _) (bo 2 (by decide))) (wv (JG underlying4 rfl rfl) (B6 ?_))))
   refine cQ (fun bp => ?_) fun bp => ?_
   ·have cr := A2 cb bp
    refine Aq (um (um ?_))
    refine bA (cs := #[vI i]) Bm [vI i] ?_; intro dt ct
    obtain ⟨az, cu, cv, cw⟩ := Ea cr
    refine CJ (xs := ad) (ys := [i]) (zs := az) rfl Bm rfl rfl (Nat.le_refl _) (fun _ => .c (.c .h)) ak (FL.box (vss := [[vI i]]) (ys := [i]) 0 rfl kI (.cons rfl .nil) rfl rfl) cu cv (by decide) ?_; intro cx cy cz bq br
    refine kO (kd kr) ?_
    refine ua (Aa (AD (id := 1) (Aq (um ?_))))
    refine uv (A4 rfl rfl (Bq.CE aj ax (At.lt aq))) ?_
    refine ua (Aa ?_)
    subst aw; exact le kr ⟨_, _, rfl, ay, az, cx, cy, cz, bq, cw, rfl, rfl, z5, br⟩
   have da := A3 cb bp
   refine Ar (AD (id := 1) (Aq (um ?_)))
   refine uv (A4 rfl rfl (Bq.CE aj ax (At.lt aq))) ?_
   refine ua (Aa ?_)
   subst aw; exact le kr ⟨_, _, rfl, ay, ad, ar, au, av, ae, da, rfl, rfl, z5, ak⟩
  obtain rfl := Bq.zero aj ax
  rw [DQ] at ba
  refine AM (Aj (Aj ?_))
  refine Ax ?_
  obtain rfl := AL ba
  exact mi (kd kr) ⟨ar, au, av, ae, rfl, rfl, z1, ak⟩
 rintro e1 _ _ ⟨a2, n6, c3, bb, rfl, rfl, bu, db⟩
 refine AA _ bu ?_
 refine AG (um (ua (Aa (Aw ?_))))
 refine B7 results40 ?_
 obtain rfl := AL r9
 exact ⟨_, _, _, _, rfl, rfl, db.any⟩
set_option maxHeartbeats 1000000 in
theorem Pb {l : List Int} (ad : At 1 (CM 1 eJ) F Am Al Ah) (ab : At 1 eI F Ae Ad Ab) (ae : At 3 (Br eI eP) F Ao An Ak) (aa : At 3 (Br eI (Br eI bE)) F Bw By AN) (ar : At 1 eI F CV CX l) {r : List Int} {r2 : Int} (hr : Mw Af Ac Ah Ab Ak AN l = some (r, r2)) :
    SH.Spec Tryz.prog 41 #[.agg #[vI Af, vI Ac, sL Am Ah.length Al, sL Ae Ab.length Ad, sL Ao Ak.length An], sL Bw AN.length By, sL CV l.length CX] F [] fun F' L' v => ∃ (ra : Option Addr) (rn : Nat) (rc : Nat) (rL : LH), v = .tuple #[sL ra rn rc, vI r2] ∧ L' = rL ++ [] ∧ AI 0 3 1 eI F' ra rn rc r rL := by
 refine sp func41 ntmps41 fun K _ _ => ?_
 rw [Mw] at hr
 refine AG ?_
 refine BB rfl rfl ?_; intro b1 ck
 refine ua (ua (Aa (Au (AG ?_))))
 refine uv (Cv isAgg26 sizeOf26 0) (um ?_)
 obtain ⟨n, h2, r3⟩ := Az hr
 refine cV call87 (Kl ad ab ae aa h2) ?_
 refine ua (BR (um ?_))
 refine uv (BU rfl rfl) (Aa ?_)
 refine cQ (fun c4 => ?_) fun c4 => ?_
 ·have r5 := A2 r3 c4
  refine AG (um (ua (ua (Aa ?_))))
  refine kW kn ?_
  refine Aw (Av ?_)
  refine BM results41 (AT rfl) (AT rfl) (sr) ?_
  obtain ⟨rfl, rfl⟩ := Cd r5
  exact ⟨_, _, _, [], rfl, rfl, AI.nil _ _ _ _ _⟩
 have r6 := A3 r3 c4
 refine Ar (AG ?_)
 refine uv (Cv isAgg26 sizeOf26 0) (um ?_)
 obtain ⟨d, n2, h7, r8⟩ := Ca r6
 refine c0 call76 (Kr ad ab ae ar h7) ?_; rintro _ F9 _ aq ba ⟨cn, rfl, rfl, au⟩
 replace aa := aa.mono (Ai kI (Ai kI Be)) aq
 replace ar := ar.m1 aq
 refine AB (ln rfl) ?_
 refine um (ox rfl rfl rfl (ox rfl rfl rfl (ua (ua (Aa (Au (AG (um ?_))))))))
 refine uv (BU rfl rfl) (Aa ?_)
 refine cQ (fun av => ?_) fun av => ?_
 ·have bb := A2 r8 av
  refine AG (um (ua (ua (Aa ?_))))
  refine kW kn ?_
  refine Aw (Av ?_)
  refine BM results41 (AT rfl) (AT rfl) (sr) ?_
  obtain ⟨rfl, rfl⟩ := Cd bb
  exact ⟨_, _, _, [], rfl, rfl, AI.nil _ _ _ _ _⟩
 have bc := A3 r8 av
 refine Ar (AG (um (um (um ?_))))
 obtain ⟨AU, ai, aj, ah, ak, bd, bg⟩ := Ez bc
 have az := au; rw [bd] at az; obtain ⟨bh, cp, bj, aw, al, ⟨_, _, rfl, rfl, ⟨_, _, rfl, rfl, ⟨_, _, rfl, ⟨bk, bl, rfl, bm⟩, ⟨_, _, rfl, ⟨bn, bo, rfl, bp⟩, ⟨bq, br, rfl, bu⟩⟩⟩⟩⟩⟩ := az; subst aw
 have al : F9 bh = some (.cells #[vI AU, vI ai, sL bk aj.length bl, sL bn ah.length bo, sL bq ak.length br] 119 bj) := al
 obtain ⟨a, bw, bx⟩ := Az bg
 refine c0 call84 (J5 al bm bp bu ar bw) ?_; rintro _ cq _ ax bz ⟨rfl, rfl, cb⟩
 replace aa := aa.mono (Ai kI (Ai kI Be)) ax
 refine AB (ln rfl) ?_
 obtain ⟨l2, cc, cf⟩ := Az bx
 refine c0 call88 (Jz aa cb cc) ?_; rintro _ cr _ cg ay ⟨ct, cu, cv, cj, rfl, rfl, ao⟩
 replace ao := ao.new fun p hp => ay p (by simp [hp])
 refine AB (lp (ln rfl)) (kO (kf (fS fO) kr) ?_)
 refine ua (ua (Aa ?_))
 refine kW (kd kr) (Aw (BM results41 (AT rfl) (AT rfl) (sr) ?_))
 obtain ⟨rfl, rfl⟩ := Cd cf
 exact ⟨_, _, _, _, rfl, rfl, ao.any⟩
set_option maxHeartbeats 1000000 in
theorem Ja {l : List (Int × Int × Bool)} (ad : At 1 (CM 1 eJ) F Am Al Ah) (aa : At 1 eI F Ae Ad Ab) (ae : At 3 (Br eI eP) F Ao An Ak) (ak : At 3 (Br eI (Br eI bE)) F CV CX l) (ab : At 1 eJ F Ci Cj BT) {r : Bool} (hr : Gs Af Ac Ah Ab Ak l BT = some r) :
    Bp Tryz.prog 42 #[.agg #[vI Af, vI Ac, sL Am Ah.length Al, sL Ae Ab.length Ad, sL Ao Ak.length An], sL CV l.length CX, sL Ci BT.length Cj] F (.bool r) := by
 refine sp func42 ntmps42 fun K _ _ => ?_
 rw [Gs] at hr
 refine AG ?_
 refine BB rfl rfl ?_; intro b1 bz
 refine ua (Aa ?_)
 refine AO (fun e1 F1 L1 => GS = some r ∧ AQ F F1 ∧ L1 = [] ∧ e1.sub []) ?_ ?_
 ·refine AG (ua (Aa ?_))
  refine As ?_
  refine A6 (fun bb e1 F1 L1 => LA BT bb fun tl i => DF Af Ac Ah Ab Ak l tl = some r ∧ AQ F F1 ∧ L1 = [(b1, ce #[vI Af, vI Ac, sL Am Ah.length Al, sL Ae Ab.length Ad, sL Ao Ak.length An] 50)] ∧ e1.sub [(1, sL CV l.length CX), (2, sL Ci BT.length Cj), (3, pO b1), (7, vI i)]) _ (m0 kr ⟨_, _, rfl, Bq.start _, hr, AQ.refl _, rfl, z4⟩) ?_
  rintro bb e1 F6 _ ⟨tl, i, bj, al, r4, ah, rfl, bk⟩
  refine AA _ bk ?_
  replace ad := ad.mono (Ay kJ) ah
  replace aa := aa.m1 ah
  replace ae := ae.mono (Ai kI kP) ah
  replace ak := ak.mono (Ai kI (Ai kI Be)) ah
  replace ab := ab.m2 ah
  refine Au (AG (um (um ?_)))
  refine uv (AJ underlying34 rfl) (uv (AY rfl rfl) (Aa ?_))
  refine cQ (fun c9 => ?_) fun c9 => ?_
  ·obtain ⟨x, cb, rfl, ao, bc, aq⟩ := Bq.succ al c9
   rw [DF] at r4
   refine Ar (Au ?_)
   refine As (Au (BK [(.still, 0), (.still, 1), (.still, 2), (.still, 3), (.still, 4), (.still, 5), (.seq, 6), (.still, 7), (.still, 8)] (by kernel_rfl) (by kernel_rfl) (trivial) (by rfl) (by kernel_rfl) (mL [3] ([(b1, ce #[vI Af, vI Ac, sL Am Ah.length Al, sL Ae Ab.length Ad, sL Ao Ak.length An] 50)]) rfl (s0 sr) (fun H F' L' ar au => Bn isAgg50 sizeOf50 rfl ((Has.own 0 rfl).ext ar au) (DD rfl) rfl) (mS [1] rfl (A9 rfl) (mS [2] rfl (A9 rfl) (mS [7] rfl (A9 rfl) ?_))))))
   obtain ⟨cc, cf, cg, bl, av, aw, bd, ⟨bm, bn, rfl, bo⟩, bp, ax⟩ := At.ta kJ ab bc.1 ao
   refine mS [16, 17] rfl (BZ underlying34 sizeOf22 rfl av rfl bc) (mL [18] ([]) rfl sm (fun H F' L' ar au => AS isAgg22 rfl ((aw _).ext ar au) (ax 0 (by decide))) ?_)
   refine ⟨_, [(14, .agg #[vI Af, vI Ac, sL Am Ah.length Al, sL Ae Ab.length Ad, sL Ao Ak.length An]), (15, sL CV l.length CX), (19, sL bm x.length bn)], rfl, rfl, z3, by kernel_rfl, ?_⟩; intro H
   obtain ⟨l2, bq, bg⟩ := Az r4
   refine c0 call40 (G3 ad aa ae ak bo bq) ?_; rintro _ cj _ ai ay ⟨ck, cn, cp, br, rfl, rfl, aj⟩
   replace ab := ab.m2 ai
   replace aj := aj.new fun p hp => ay p (by simp [hp])
   refine AB (lp (ln rfl)) (kO (kf (fS fO) kr) ?_)
   refine Aa ⟨_, rfl, ai, [], by kernel_rfl, .inl (.inl rfl), nm, ?_⟩
   refine mS [20] rfl ((AJ underlying22 rfl).i (AI.FE aj)) (mS (v := .bool (decide ((l2.length : Int) = 0))) [21] rfl (Bx rfl rfl) (Ce ?_))
   refine cQ (fun az => ?_) fun az => ?_
   ·have bu := A2 bg az
    refine AG (ua (Aa ?_))
    refine kW kn ?_
    refine Aw (AH (Av (Av (AH (Av ?_)))))
    refine B7 results42 ?_
    obtain rfl := AL bu
    exact rfl
   have bw := A3 bg az
   refine Ar (AD (id := 1) (Aq (um ?_)))
   refine uv (A4 rfl rfl (Bq.CE al c9 (At.lt ab))) ?_
   refine ua (Aa ?_)
   subst bj; exact le (kc kn) ⟨_, _, rfl, aq, bw, (ah.trans ai), rfl, z4⟩
  obtain rfl := Bq.zero al c9
  rw [DF] at r4
  refine AM (Aj (Aj ?_))
  refine Ax ?_
  exact mi kn ⟨r4, ah, rfl, (sn _)⟩
 rintro e1 cq _ ⟨bh, bx, rfl, ba⟩
 refine AA _ ba ?_
 rw [GS] at bh
 refine AG (ua (Aa (Aw ?_)))
 refine B7 results42 ?_
 obtain rfl := AL bh
 exact rfl
set_option maxHeartbeats 1000000 in
theorem G5 {l : List (Int × Int × Bool)} (ad : At 1 (CM 1 eJ) F Am Al Ah) (aa : At 1 eI F Ae Ad Ab) (ae : At 3 (Br eI eP) F Ao An Ak) (aj : At 3 (Br eI (Br eI bE)) F CV CX l) (ab : At 1 eI F Bl Bk AW) {r : Bool} (hr : E9 Af Ac Ah Ab Ak l AW = some r) :
    Bp Tryz.prog 45 #[.agg #[vI Af, vI Ac, sL Am Ah.length Al, sL Ae Ab.length Ad, sL Ao Ak.length An], sL CV l.length CX, sL Bl AW.length Bk] F (.bool r) := by
 refine sp func45 ntmps45 fun K _ _ => ?_
 rw [E9] at hr
 refine AG ?_
 refine BB rfl rfl ?_; intro b1 ar
 refine ua (BR ?_)
 refine uv (Cv isAgg50 sizeOf50 0) (um ?_)
 obtain ⟨n, h2, r3⟩ := Az hr
 refine cV call22 (Gp ad aa ae ab h2) (uv (Bx rfl rfl) (um ?_))
 obtain ⟨g4, r5⟩ := AF r3
 refine nT g4 (uv (Cv isAgg50 sizeOf50 0) ?_)
 refine nT g4 (um (nT g4 ?_))
 obtain ⟨ok, h6, r7⟩ := Az r5
 refine cV call24 (IV ad aa ae ab h6) (uv (AK (Ba rfl g4) rfl) (um ?_))
 obtain ⟨g8, r9⟩ := AF r7
 refine nB g8 (uv (Cv isAgg50 sizeOf50 0) ?_)
 refine nB g8 (um (nB g8 (um (nB g8 ?_))))
 obtain ⟨l2, ak, al⟩ := Az r9
 refine c0 call40 (G3 ad aa ae aj ab ak) ?_; rintro _ au _ ao ai ⟨av, aw, ax, aq, rfl, rfl, ah⟩
 replace ah := ah.new fun p hp => ai p (by simp [hp])
 refine AB (lp (ln rfl)) (kO (kf (fS fO) kr) (nB g8 (uv ((AJ underlying22 rfl).i (AI.FE ah)) (nB g8 (uv (Bx rfl rfl) (uv (AK (FK rfl g8) rfl) ?_))))))
 refine ua (Aa ?_)
 refine kW kn (Aw (B7 results45 ?_))
 obtain rfl := AL al
 exact rfl
set_option maxHeartbeats 1000000 in
theorem H8 {a b : List Int} (ah : At 1 eI F P3 P9 a) (bd : At 1 eI F PT P6 b) {r : Bool} (hr : Ge a b = some r) :
    Bp Tryz.prog 89 #[sL P3 a.length P9, sL PT b.length P6] F (.bool r) := by
 refine sp func89 ntmps89 fun K _ _ => ?_
 rw [Ge] at hr
 refine AG (ua (Aa (Au (AG (um ?_)))))
 refine uv (AJ underlying22 rfl) (um (uv (AJ underlying22 rfl) (uv (BU rfl rfl) (Aa ?_))))
 refine cQ (fun c1 => ?_) fun c1 => ?_
 ·have r2 := A2 hr c1
  refine AG (um ?_)
  refine uv (AJ underlying22 rfl) (um (uv (AJ underlying22 rfl) (uv (AY rfl rfl) ?_)))
  refine ua (Aa (Aw (Av ?_)))
  refine B7 results89 ?_
  obtain rfl := AL r2
  exact rfl
 have r3 := A3 hr c1
 refine Ar ?_
 refine AO (fun e1 F1 L1 => Hw = some r ∧ F = F1 ∧ L1 = [] ∧ e1.sub []) ?_ ?_
 ·refine AG (ua (Aa ?_))
  refine As ?_
  refine A6 (fun bg e1 F1 L1 => LA a bg fun tl i => Et b tl i = some r ∧ F = F1 ∧ L1 = [] ∧ e1.sub [(0, sL P3 a.length P9), (1, sL PT b.length P6), (5, vI i)]) _ (m0 kr ⟨_, _, rfl, Bq.start _, r3, rfl, rfl, z3⟩) ?_
  rintro bg e1 _ _ ⟨tl, i, bo, ai, r6, rfl, rfl, bp⟩
  refine AA _ bp ?_
  refine Au (AG (um (um ?_)))
  refine uv (AJ underlying22 rfl) (uv (AY rfl rfl) (Aa ?_))
  refine cQ (fun c9 => ?_) fun c9 => ?_
  ·obtain ⟨x, cj, rfl, aa, ad, aj⟩ := Bq.succ ai c9
   rw [Et] at r6
   refine Ar (Au ?_)
   refine As (dW ?_)
   refine wm (wm ?_)
   obtain ⟨ck, cn, cp, bq, ak, al, bh, rfl, br, ao⟩ := At.ta kI ah ad.1 aa
   refine wv (C0 underlying22 sizeOf3 ak ad) (wv (AS isAgg3 rfl (al _) (ao 0 (by decide))) ?_)
   refine wm (wm ?_)
   obtain ⟨x2, ae, ab, bj⟩ := BG r6
   obtain ⟨cq, cr, ct, bu, aq, ar, bk, rfl, bw, au⟩ := At.ta kI bd ae.1 ab
   refine wv (C0 underlying22 sizeOf3 aq ae) (wv (AS isAgg3 rfl (ar _) (au 0 (by decide))) (wv (BU rfl rfl) (B6 ?_)))
   refine cQ (fun av => ?_) fun av => ?_
   ·have bx := A2 bj av
    refine dW ?_
    refine wm (wm ?_)
    obtain ⟨cu, cv, cw, bz, aw, ax, bl, rfl, cb, ay⟩ := At.ta kI ah ad.1 aa
    refine wv (C0 underlying22 sizeOf3 aw ad) (wv (AS isAgg3 rfl (ax _) (ay 0 (by decide))) ?_)
    refine wm (wm ?_)
    obtain ⟨cx, cy, cz, cc, az, ba, bm, rfl, cf, bb⟩ := At.ta kI bd ae.1 ab
    refine wv (C0 underlying22 sizeOf3 az ae) (wv (AS isAgg3 rfl (ba _) (bb 0 (by decide))) (wv (AY rfl rfl) ?_))
    refine wa (B6 (Aw (AH (Av (Av (AH (Av ?_)))))))
    refine B7 results89 ?_
    obtain rfl := AL bx
    exact rfl
   have cg := A3 bj av
   refine Ar (AD (id := 1) (Aq (um ?_)))
   refine uv (A4 rfl rfl (Bq.CE ai c9 (At.lt ah))) ?_
   refine ua (Aa ?_)
   subst bo; exact le kr ⟨_, _, rfl, aj, cg, rfl, rfl, z3⟩
  obtain rfl := Bq.zero ai c9
  rw [Et] at r6
  refine AM (Aj (Aj ?_))
  refine Ax ?_
  exact mi kr ⟨r6, rfl, rfl, (sn _)⟩
 rintro e1 _ _ ⟨bn, rfl, rfl, bc⟩
 refine AA _ bc ?_
 rw [Hw] at bn
 refine AG (ua (Aa (Aw ?_)))
 refine B7 results89 ?_
 obtain rfl := AL bn
 exact rfl
set_option maxHeartbeats 1000000 in
theorem Mj {l : List (Int × Int × Bool)} (ad : At 1 (CM 1 eJ) F Am Al Ah) (aa : At 1 eI F Ae Ad Ab) (ae : At 3 (Br eI eP) F Ao An Ak) (bd : At 3 (Br eI (Br eI bE)) F CV CX l) (ab : At 1 eJ F Ci Cj BT) {r : List Int} (hr : IL Af Ac Ah Ab Ak l BT = some r) :
    SH.Spec Tryz.prog 46 #[.agg #[vI Af, vI Ac, sL Am Ah.length Al, sL Ae Ab.length Ad, sL Ao Ak.length An], sL CV l.length CX, sL Ci BT.length Cj] F [] fun F' L' v => ∃ (ra : Option Addr) (rn : Nat) (rc : Nat) (rL : LH), v = sL ra rn rc ∧ L' = rL ++ [] ∧ AI 0 3 1 eI F' ra rn rc r rL := by
 refine sp func46 ntmps46 fun K _ _ => ?_
 rw [IL] at hr
 refine AG ?_
 refine BB rfl rfl ?_; intro b1 dd
 refine ua (BR (ua (Aa ?_)))
 obtain ⟨ax, h8, r9⟩ := Az hr
 refine AO (fun e1 F1 L1 => ∃ (a2 : Option Addr) (n6 : Nat) (c3 : Nat) (bg : LH), AQ F F1 ∧ L1 = (bg ++ []) ∧ e1.sub [(7, sL a2 n6 c3)] ∧ AI K.w0.heap.size 3 1 eI F1 a2 n6 c3 ax bg) ?_ ?_
 ·clear r9
  refine AG (ua (Aa ?_))
  refine As ?_
  refine A6 (fun br e1 F1 L1 => LA BT br fun tl i => ∃ (ai : List Int) (au : Option Addr) (av : Nat) (aw : Nat) (aj : LH), Dx Af Ac Ah Ab Ak l tl i ai = some ax ∧ AQ F F1 ∧ L1 = ((b1, ce #[vI Af, vI Ac, sL Am Ah.length Al, sL Ae Ab.length Ad, sL Ao Ak.length An] 50) :: (aj ++ [])) ∧ e1.sub [(1, sL CV l.length CX), (2, sL Ci BT.length Cj), (3, pO b1), (7, sL au av aw), (8, vI i)] ∧ AI K.w0.heap.size 3 1 eI F1 au av aw ai aj) _ (m0 (kc (ke kr)) ⟨_, _, rfl, Bq.start _, [], none, 0, 0, [], h8, AQ.refl _, rfl, z5, AI.nil _ _ _ _ _⟩) ?_
  rintro br e1 de _ ⟨tl, i, ay, ar, ai, au, av, aw, aj, bc, ah, rfl, bh, ak⟩
  refine AA _ bh ?_
  replace ad := ad.mono (Ay kJ) ah
  replace aa := aa.m1 ah
  replace ae := ae.mono (Ai kI kP) ah
  replace bd := bd.mono (Ai kI (Ai kI Be)) ah
  replace ab := ab.m2 ah
  refine Au (AG (um (um ?_)))
  refine uv (AJ underlying34 rfl) (uv (AY rfl rfl) (Aa ?_))
  refine cQ (fun az => ?_) fun az => ?_
  ·obtain ⟨x, df, rfl, bj, bu, ba⟩ := Bq.succ ar az
   rw [Dx] at bc
   refine Ar (Au ?_)
   refine As (Au (BK [(.still, 0), (.still, 1), (.still, 2), (.still, 3), (.still, 4), (.still, 5), (.seq, 6), (.still, 7)] (by kernel_rfl) (by kernel_rfl) (trivial) (by rfl) (by kernel_rfl) (mA [3] isAgg50 sizeOf50 0 rfl rfl rfl rfl (mS [1] rfl (A9 rfl) (mS [2] rfl (A9 rfl) (mS [8] rfl (A9 rfl) ?_))))))
   obtain ⟨dg, dh, di, cf, bk, bl, bw, ⟨cg, cj, rfl, ck⟩, cn, bm⟩ := At.ta kJ ab bu.1 bj
   refine mS [18, 19] rfl (BZ underlying34 sizeOf22 rfl bk rfl bu) (mL [20] ([]) rfl sm (fun H F' L' cp cq => AS isAgg22 rfl ((bl _).ext cp cq) (bm 0 (by decide))) ?_)
   refine ⟨_, [(16, .agg #[vI Af, vI Ac, sL Am Ah.length Al, sL Ae Ab.length Ad, sL Ao Ak.length An]), (17, sL CV l.length CX), (21, sL cg x.length cj)], rfl, rfl, z3, by kernel_rfl, ?_⟩; intro H
   obtain ⟨l2, cr, ct⟩ := Az bc
   refine c0 call40 (G3 ad aa ae bd ck cr) ?_; rintro _ dk _ al bn ⟨bx, bz, cb, bb, rfl, rfl, ao⟩
   replace ab := ab.m2 al
   replace ak := ak.m1 al
   replace ao := ao.new fun p hp => bn p (by simp [hp])
   refine AB (lp (ln rfl)) (kO (kf (fS fO) kr) ?_)
   refine Aa ⟨_, rfl, al, [], by kernel_rfl, .inl (.inl rfl), nm, ?_⟩
   refine mS [22] rfl (Da rfl) (Ce ?_)
   obtain ⟨k, cc, bo⟩ := Az ct
   refine jE (((b1, ce #[vI Af, vI Ac, sL Am Ah.length Al, sL Ae Ab.length Ad, sL Ao Ak.length An] 50) :: (aj ++ (bb ++ [])))) [(1, sL CV l.length CX), (2, sL Ci BT.length Cj), (3, pO b1), (7, sL au av aw), (8, vI i), (9, sL bx bz cb), (29, .bool k)] ?_ ?_
   ·clear bo
    refine Aq (um ?_)
    refine uv (Bx rfl rfl) (um ?_)
    by_cases aq : i = 0
    ·have cu := A2 cc aq
     refine fT aq (fT aq (fT aq ?_))
     refine uv (AK (Ba rfl aq) rfl) (Aa ?_)
     obtain rfl := AL cu
     exact mi (kc (kg (fS fP) kr)) ⟨rfl, rfl, z7⟩
    have cv := A3 cc aq
    refine nF aq (um (nF aq (um (nF aq ?_))))
    obtain ⟨ok, cw, cx⟩ := Az cv
    refine Bh rfl call89 rfl rfl rfl (pT ((fC fP).trans (pA ((fC fP).trans (pA pR)))) (lp (lp (ln rfl)))) (fun F2 h2 h3 => by rw [(AI.A1 ao).1]; rw [(AI.A1 ak).1]; exact H8 (ao.row kI h2 (aL h3)) (ak.row kI h2 (aL (aR h3))) cw) ?_
    refine uv (AE (AR rfl aq) rfl) (Aa ?_)
    obtain rfl := AL cx
    exact mi (kc (kg (fS fP) kr)) ⟨rfl, rfl, z7⟩
   refine AV rfl (fun bp => ?_) (fun bp => ?_)
   ·have cy := bt bo bp
    refine Aq (um (ua (Aa (AD (id := 1) (Aq (um ?_))))))
    refine uv (A4 rfl rfl (Bq.CE ar az (At.lt ab))) ?_
    refine ua (Aa ?_)
    subst ay; exact le (kc (kx kr)) ⟨_, _, rfl, ba, l2, bx, bz, cb, bb, cy, (ah.trans al), rfl, z5, ao⟩
   have cz := bf bo bp
   refine Ar (AD (id := 1) (Aq (um ?_)))
   refine uv (A4 rfl rfl (Bq.CE ar az (At.lt ab))) ?_
   refine ua (Aa ?_)
   subst ay; exact le (kc (ka kn)) ⟨_, _, rfl, ba, ai, au, av, aw, aj, cz, (ah.trans al), rfl, z5, ak⟩
  obtain rfl := Bq.zero ar az
  rw [Dx] at bc
  refine AM (Aj (Aj ?_))
  refine Ax ?_
  obtain rfl := AL bc
  exact mi (kd kr) ⟨au, av, aw, aj, ah, rfl, z1, ak⟩
 rintro e1 dm _ ⟨a2, n6, c3, bg, da, rfl, bq, db⟩
 refine AA _ bq ?_
 refine AG (um (ua (Aa (Aw ?_))))
 refine B7 results46 ?_
 obtain rfl := AL r9
 exact ⟨_, _, _, _, rfl, rfl, db.any⟩
set_option maxHeartbeats 1000000 in
theorem JZ {n : Int} {r : List Int} (hr : Hm n many = some r) :
    SH.Spec Tryz.prog 90 #[vI n, vI many] F [] fun F' L' v => ∃ (ra : Option Addr) (rn : Nat) (rc : Nat) (rL : LH), v = sL ra rn rc ∧ L' = rL ++ [] ∧ AI 0 3 1 eI F' ra rn rc r rL := by
 refine sp func90 ntmps90 fun K _ _ => ?_
 rw [Hm] at hr
 refine AG (ua (BR (ua (Aa ?_))))
 obtain ⟨out, h7, r8⟩ := Az hr
 refine AO (fun e1 F1 L1 => ∃ (a1 : Option Addr) (n5 : Nat) (c2 : Nat) (ar : LH), F = F1 ∧ L1 = (ar ++ []) ∧ e1.sub [(5, sL a1 n5 c2)] ∧ AI K.w0.heap.size 3 1 eI F1 a1 n5 c2 out ar) ?_ ?_
 ·clear r8
  refine AG (ua (Aa ?_))
  refine As ?_
  obtain ⟨az, ba⟩ := AF h7
  refine A6 (fun aq e1 F1 L1 => ∃ (i : Int), B0 0 many i aq ∧ ∃ (n2 : Int) (aa : List Int) (a9 : Option Addr) (ah : Nat) (ai : Nat) (ab : LH), Dz aq i n2 aa = some out ∧ F = F1 ∧ L1 = (ab ++ []) ∧ e1.sub [(0, vI n2), (1, vI many), (5, sL a9 ah ai), (6, vI i)] ∧ AI K.w0.heap.size 3 1 eI F1 a9 ah ai aa ab) _ (m0 (ke kr) ⟨_, B0.start _ _, n, [], none, 0, 0, [], ba, rfl, rfl, z4, AI.nil _ _ _ _ _⟩) ?_
  rintro aq e1 _ _ ⟨i, ad, n2, aa, a9, ah, ai, ab, aj, rfl, rfl, au, ae⟩
  refine AA _ au ?_
  refine Au (AG (um (um ?_)))
  refine uv (AY rfl rfl) (Aa ?_)
  refine cQ (fun ak => ?_) fun ak => ?_
  ·obtain ⟨aq, rfl, al⟩ := B0.succ ad ak
   rw [Dz] at aj
   refine Ar (Au ?_)
   refine As ?_
   refine Au (AG (um ?_))
   refine uv (Dh rfl rfl (by decide)) (uv (Bx rfl rfl) (Aa ?_))
   refine cQ (fun av => ?_) fun av => ?_
   ·have bb := A2 aj av
    refine Aq (um (um ?_))
    refine bA (cs := #[vI i]) Bm [vI i] ?_; intro bu bc
    obtain ⟨ao, bd, bg, bh⟩ := Ea bb
    refine CJ (xs := aa) (ys := [i]) (zs := ao) rfl Bm rfl rfl (Nat.le_refl _) (fun _ => .c .h) ae (FL.box (vss := [[vI i]]) (ys := [i]) 0 rfl kI (.cons rfl .nil) rfl rfl) bd bg (by decide) ?_; intro bj bk bl aw ax
    refine kO (kd kr) ?_
    refine ua (Aa (Aq (um ?_)))
    obtain ⟨bm, bn⟩ := AF bh
    refine uv (Mf rfl rfl bm) ?_
    refine ua (Aa (AD (id := 1) (Aq (um ?_))))
    refine uv (A4 rfl rfl (B0.CE ad ak az)) ?_
    refine ua (Aa ?_)
    exact le kr ⟨_, al, Int.tdiv n2 2, ao, bj, bk, bl, aw, bn, rfl, rfl, z4, ax⟩
   have bo := A3 aj av
   refine Ar (Aq (um ?_))
   obtain ⟨bp, bq⟩ := AF bo
   refine uv (Mf rfl rfl bp) ?_
   refine ua (Aa (AD (id := 1) (Aq (um ?_))))
   refine uv (A4 rfl rfl (B0.CE ad ak az)) ?_
   refine ua (Aa ?_)
   exact le kr ⟨_, al, Int.tdiv n2 2, aa, a9, ah, ai, ab, bq, rfl, rfl, z4, ae⟩
  obtain rfl := B0.zero ad ak
  rw [Dz] at aj
  refine AM (Aj (Aj ?_))
  refine Ax ?_
  obtain rfl := AL aj
  exact mi kr ⟨a9, ah, ai, ab, rfl, rfl, z1, ae⟩
 rintro e1 _ _ ⟨a1, n5, c2, ar, rfl, rfl, ay, br⟩
 refine AA _ ay ?_
 refine AG (um (ua (Aa (Aw ?_))))
 refine B7 results90 ?_
 obtain rfl := AL r8
 exact ⟨_, _, _, _, rfl, rfl, br.any⟩
set_option maxHeartbeats 1000000 in
theorem Lu {l : List (Int × Int × Bool)} (ad : At 1 (CM 1 eJ) F Am Al Ah) (aa : At 1 eI F Ae Ad Ab) (ae : At 3 (Br eI eP) F Ao An Ak) (bl : At 3 (Br eI (Br eI bE)) F CV CX l) (ah : At 1 eJ F Ci Cj BT) {r : List Int} {r2 : Bool} (hr : Ia Af Ac Ah Ab Ak l BT = some (r, r2)) :
    SH.Spec Tryz.prog 47 #[.agg #[vI Af, vI Ac, sL Am Ah.length Al, sL Ae Ab.length Ad, sL Ao Ak.length An], sL CV l.length CX, sL Ci BT.length Cj] F [] fun F' L' v => ∃ (ra : Option Addr) (rn : Nat) (rc : Nat) (rL : LH), v = .tuple #[sL ra rn rc, .bool r2] ∧ L' = rL ++ [] ∧ AI 0 3 1 eI F' ra rn rc r rL := by
 refine sp func47 ntmps47 fun K _ _ => ?_
 rw [Ia] at hr
 refine AG ?_
 refine BB rfl rfl ?_; intro b1 gk
 refine ua (ua (BR (ua (BR (ua (Aa ?_))))))
 obtain ⟨bm, found, h8, r9⟩ := Ca hr
 refine AO (fun e1 F1 L1 => ∃ (a2 : Option Addr) (n6 : Nat) (c3 : Nat) (cx : LH), AQ F F1 ∧ L1 = (cx ++ []) ∧ e1.sub [(8, sL a2 n6 c3), (9, .bool found)] ∧ AI K.w0.heap.size 3 1 eI F1 a2 n6 c3 bm cx) ?_ ?_
 ·clear r9
  refine AG (ua (Aa ?_))
  refine As ?_
  refine A6 (fun cc e1 F1 L1 => ∃ (au : List Int) (ab : Bool) (n : Int) (az : Option Addr) (ba : Nat) (bb : Nat) (ai : LH), DH Af Ac Ah Ab Ak l BT cc au ab n = some (bm, found) ∧ AQ F F1 ∧ L1 = ((b1, ce #[vI Af, vI Ac, sL Am Ah.length Al, sL Ae Ab.length Ad, sL Ao Ak.length An] 50) :: (ai ++ [])) ∧ e1.sub [(1, sL CV l.length CX), (2, sL Ci BT.length Cj), (3, pO b1), (8, sL az ba bb), (9, .bool ab), (10, vI n)] ∧ AI K.w0.heap.size 3 1 eI F1 az ba bb au ai) FU (m0 (kc (ke kr)) ⟨[], false, 0, none, 0, 0, [], h8, AQ.refl _, rfl, z6, AI.nil _ _ _ _ _⟩) ?_
  rintro cc e1 fg _ ⟨au, ab, n, az, ba, bb, ai, cf, ao, rfl, cy, aq⟩
  refine AA _ cy ?_
  replace ad := ad.mono (Ay kJ) ao
  replace aa := aa.m1 ao
  replace ae := ae.mono (Ai kI kP) ao
  replace bl := bl.mono (Ai kI (Ai kI Be)) ao
  replace ah := ah.m2 ao
  rcases cc with _ | cc
  ·rw [DH] at cf; cases cf
  rw [DH] at cf
  refine Au (AG (um (um ?_)))
  refine uv (AJ underlying80 rfl) ?_
  obtain ⟨fh, er⟩ := AF cf
  refine uv (RO rfl rfl fh) (uv (AY rfl rfl) (Aa ?_))
  refine cQ (fun cz => ?_) fun cz => ?_
  ·have fi := A2 er cz
   refine Ar ?_
   obtain ⟨bd, av, fj, et⟩ := Ca fi
   refine AO (fun e1 F1 L1 => ∃ (cg : Option Addr) (cj : Nat) (ck : Nat) (bc : LH), AQ fg F1 ∧ L1 = ((b1, ce #[vI Af, vI Ac, sL Am Ah.length Al, sL Ae Ab.length Ad, sL Ao Ak.length An] 50) :: (bc ++ [])) ∧ e1.sub [(1, sL CV l.length CX), (2, sL Ci BT.length Cj), (3, pO b1), (8, sL cg cj ck), (9, .bool av), (10, vI n)] ∧ AI K.w0.heap.size 3 1 eI F1 cg cj ck bd bc) ?_ ?_
   ·clear et
    refine As ?_
    refine AG (um (um ?_))
    refine uv (AJ underlying80 rfl) ?_
    obtain ⟨l2, fk, fl⟩ := Az fj
    refine c0 call90 (JZ fk) ?_; rintro _ eu _ aj da ⟨cn, cp, cq, aw, rfl, rfl, ak⟩
    replace ad := ad.mono (Ay kJ) aj
    replace aa := aa.m1 aj
    replace ae := ae.mono (Ai kI kP) aj
    replace bl := bl.mono (Ai kI (Ai kI Be)) aj
    replace ah := ah.m2 aj
    replace aq := aq.m1 aj
    replace ak := ak.new fun p hp => da p (by simp [hp])
    refine AB (lp (ln rfl)) (kO (kf (fS fO) kr) ?_)
    refine ua (Aa (Au ?_))
    obtain ⟨k, ew, db⟩ := Az fl
    refine jE (((b1, ce #[vI Af, vI Ac, sL Am Ah.length Al, sL Ae Ab.length Ad, sL Ao Ak.length An] 50) :: (ai ++ (aw ++ [])))) [(1, sL CV l.length CX), (2, sL Ci BT.length Cj), (3, pO b1), (8, sL az ba bb), (9, .bool ab), (10, vI n), (11, sL cn cp cq), (31, .bool k)] ?_ ?_
    ·clear db
     refine Aq (um (um ?_))
     rcases DX ab with ar | ar
     ·have fm := bt ew ar
      refine nB ar (um (nB ar (um (nB ar ?_))))
      obtain ⟨ok, fo, fp⟩ := Az fm
      refine Bh rfl call89 rfl rfl rfl (pT ((fC fP).trans (pA ((fC fP).trans (pA pR)))) (lp (lp (ln rfl)))) (fun F2 h2 h3 => by rw [(AI.A1 ak).1]; rw [(AI.A1 aq).1]; exact H8 (ak.row kI h2 (aL h3)) (aq.row kI h2 (aL (aR h3))) fo) ?_
      refine nB ar (uv (Bo rfl) (uv (AK (FK rfl ar) rfl) (Aa ?_)))
      obtain rfl := AL fp
      exact mi (kc (kg (fS fP) kr)) ⟨rfl, rfl, z8⟩
     have fq := bf ew ar
     refine fB ar (fB ar (fB ar (fB ar ?_)))
     refine uv (AE (FK rfl ar) rfl) (Aa ?_)
     obtain rfl := AL fq
     exact mi (kc (kg (fS fP) kr)) ⟨rfl, rfl, z8⟩
    refine AV rfl (fun dd => ?_) (fun dd => ?_)
    ·have ft := bt db dd
     refine AM (Aj ?_)
     refine Ax ?_
     obtain ⟨rfl, rfl⟩ := Cd ft
     exact mi (kc (ka kn)) ⟨az, ba, bb, ai, aj, rfl, z6, aq⟩
    have fv := bf db dd
    refine Ar (AG (ua (Aa ?_)))
    obtain ⟨some_, fw, CE⟩ := Az fv
    refine AO (fun e1 F1 L1 => ∃ (de : Option Addr) (df : Nat) (dg : Nat) (bh : LH), eu = F1 ∧ L1 = ((b1, ce #[vI Af, vI Ac, sL Am Ah.length Al, sL Ae Ab.length Ad, sL Ao Ak.length An] 50) :: (ai ++ (aw ++ (bh ++ [])))) ∧ e1.sub [(1, sL CV l.length CX), (2, sL Ci BT.length Cj), (3, pO b1), (8, sL az ba bb), (9, .bool ab), (10, vI n), (11, sL cn cp cq), (12, sL de df dg)] ∧ AI K.w0.heap.size 136 3 (Br eI (Br eI bE)) F1 de df dg some_ bh) ?_ ?_
    ·clear CE
     refine AG (ua (Aa ?_))
     refine As ?_
     refine A6 (fun ey e1 F1 L1 => LA l2 ey fun tl i => ∃ (al : List (Int × Int × Bool)) (cr : Option Addr) (ct : Nat) (cu : Nat) (ax : LH), DG l tl al = some some_ ∧ eu = F1 ∧ L1 = ((b1, ce #[vI Af, vI Ac, sL Am Ah.length Al, sL Ae Ab.length Ad, sL Ao Ak.length An] 50) :: (ai ++ (aw ++ (ax ++ [])))) ∧ e1.sub [(1, sL CV l.length CX), (2, sL Ci BT.length Cj), (3, pO b1), (8, sL az ba bb), (9, .bool ab), (10, vI n), (11, sL cn cp cq), (12, sL cr ct cu), (13, vI i)] ∧ AI K.w0.heap.size 136 3 (Br eI (Br eI bE)) F1 cr ct cu al ax) _ (m0 (kc (ka (ka (ke kr)))) ⟨_, _, rfl, Bq.start _, [], none, 0, 0, [], fw, rfl, rfl, (sc rfl z8), AI.nil _ _ _ _ _⟩) ?_
     rintro ey e1 _ _ ⟨tl, i, dh, bj, al, cr, ct, cu, ax, cv, rfl, rfl, di, bn⟩
     refine AA _ di ?_
     refine Au (AG (um (um ?_)))
     refine uv ((AJ underlying22 rfl).i (AI.FE ak)) (uv (AY rfl rfl) (Aa ?_))
     refine cQ (fun cw => ?_) fun cw => ?_
     ·obtain ⟨x, gl, rfl, dk, ez, dm⟩ := Bq.succ bj cw
      rw [DG] at cv
      refine Ar (Au ?_)
      refine As ?_
      refine Aq (um (um (um (um ?_))))
      obtain ⟨gm, gn, gp, fx, dp, dq, fa, rfl, fy, dr⟩ := AI.at kI ak (L := (b1, ce #[vI Af, vI Ac, sL Am Ah.length Al, sL Ae Ab.length Ad, sL Ao Ak.length An] 50) :: (ai ++ (aw ++ (ax ++ [])))) (fC (fS fP)) ez.1 dk
      refine uv (C0 underlying22 sizeOf3 dp (AI.idx ak ez)) (uv (AS isAgg3 rfl dq (dr 0 (by decide))) ?_)
      obtain ⟨x2, fb, dt, ga⟩ := BG cv
      obtain ⟨gq, gr, gu, gb, du, dv, bg, ⟨_, _, rfl, rfl, ⟨_, _, rfl, rfl, rfl⟩⟩, dw, bo⟩ := At.ta (Ai kI (Ai kI Be)) bl fb.1 dt
      refine uv (C0 underlying80 sizeOf136 du fb) (uv (Bn isAgg136 sizeOf136 rfl (dv _) bg (Bi bg dw bo)) ?_)
      refine bA (cs := #[vI x2.1, vI x2.2.1, .bool x2.2.2]) OZ [.agg #[vI x2.1, vI x2.2.1, .bool x2.2.2]] ?_; intro gg fe
      obtain ⟨ay, dx, dy, dz⟩ := Ea ga
      refine CJ (xs := al) (ys := [(x2.1, x2.2.1, x2.2.2)]) (zs := ay) rfl OZ rfl rfl (Nat.le_refl _) (fun _ => .c (.c (.s (.s .h)))) bn (FL.box (vss := [[vI x2.1, vI x2.2.1, .bool x2.2.2]]) (ys := [(x2.1, x2.2.1, x2.2.2)]) 0 rfl (Ai kI (Ai kI Be)) (.cons ⟨_, _, rfl, rfl, ⟨_, _, rfl, rfl, rfl⟩⟩ .nil) rfl rfl) dx dy (by decide) ?_; intro eb ec ef bp bq
      refine kO (kd kr) ?_
      refine ua (Aa (AD (id := 3) (Aq (um ?_))))
      refine uv (A4 rfl rfl (Bq.CE bj cw (AI.Po ak))) ?_
      refine ua (Aa ?_)
      subst dh; exact le kr ⟨_, _, rfl, dm, ay, eb, ec, ef, bp, dz, rfl, rfl, (sc rfl z8), bq⟩
     obtain rfl := Bq.zero bj cw
     rw [DG] at cv
     refine AM (Aj (Aj ?_))
     refine Ax ?_
     obtain rfl := AL cv
     exact mi kr ⟨cr, ct, cu, ax, rfl, rfl, z8, bn⟩
    rintro e1 _ _ ⟨de, df, dg, bh, rfl, rfl, br, bu⟩
    refine AA _ br (AG (uv (Cv isAgg50 sizeOf50 0) ?_))
    refine um (um ?_)
    obtain ⟨gv, eg, bw⟩ := Az CE
    refine Bh rfl call42 rfl rfl rfl (pT ((fC (fS (fS fP))).trans (pA pR)) (lp (ln rfl))) (fun F2 h2 h3 => by rw [(AI.A1 bu).1]; exact Ja (ad.mono (Ay kJ) h2) (aa.mono kI h2) (ae.mono (Ai kI kP) h2) (bu.row (Ai kI (Ai kI Be)) h2 (aL h3)) (ah.mono kJ h2) eg) ?_
    refine uv (Bo rfl) (Aa ?_)
    refine AV rfl (fun bk => ?_) (fun bk => ?_)
    ·have eh := bt bw bk
     refine Aq (um (ua (ua (Aa (AD (id := 1) ?_)))))
     obtain ⟨rfl, rfl⟩ := Cd eh
     exact mi (kc (kx (ka kn))) ⟨cn, cp, cq, aw, aj, rfl, z6, ak⟩
    have ei := bf bw bk
    refine Ar (AD (id := 1) ?_)
    obtain ⟨rfl, rfl⟩ := Cd ei
    exact mi (kc (ka kn)) ⟨az, ba, bb, ai, aj, rfl, z6, aq⟩
   rintro e1 gh _ ⟨cg, cj, ck, bc, bx, rfl, bz, ej⟩
   refine AA _ bz ?_
   refine Aq (um ?_)
   obtain ⟨en, eo⟩ := AF et
   refine uv (A4 rfl rfl en) ?_
   refine ua (Aa ?_)
   exact le kr ⟨bd, av, n + 1, cg, cj, ck, bc, eo, (ao.trans bx), rfl, z6, ej⟩
  have ep := A3 er cz
  refine AM (Aj (Aj ?_))
  refine Ax ?_
  obtain ⟨rfl, rfl⟩ := Cd ep
  exact mi (kd kr) ⟨az, ba, bb, ai, ao, rfl, z2, aq⟩
 rintro e1 gi _ ⟨a2, n6, c3, cx, ff, rfl, cb, gj⟩
 refine AA _ cb ?_
 refine AG (um (um (ua (ua (Aa (Aw ?_))))))
 refine BM results47 (AT rfl) (AT rfl) (sr) ?_
 obtain ⟨rfl, rfl⟩ := Cd r9
 exact ⟨_, _, _, _, rfl, rfl, gj.any⟩
set_option maxHeartbeats 1000000 in
theorem E7 (ab : At 3 (Br eI (Br eI bE)) F E4 E3 s_) (ao : J2 Tryz.prog F L4 L8 LZ (PO (Br eI (Br eI bE))) Value.bool f) {r : Int} (hr : B8 s_ f = some r) :
    Bp Tryz.prog 128 #[sL E4 s_.length E3, .func (.func L4) L8 LZ] F (vI r) := by
 refine sp func128 ntmps128 fun K _ _ => ?_
 rw [B8] at hr
 refine AG (ua (Aa ?_))
 refine AO (fun e1 F1 L1 => B2 = some r ∧ F = F1 ∧ L1 = [] ∧ e1.sub []) ?_ ?_
 ·refine AG (um ?_)
  refine uv (AJ underlying30 rfl) ?_
  refine um (Aa ?_)
  refine As ?_
  refine A6 (fun aq e1 F1 L1 => LA s_ aq fun tl k => Bt f tl k = some r ∧ F = F1 ∧ L1 = [] ∧ e1.sub [(0, sL E4 s_.length E3), (1, .func (.func L4) L8 LZ), (7, vI (s_.length : Int)), (8, vI k)]) _ (m0 kr ⟨_, _, rfl, Bq.start _, hr, rfl, rfl, z4⟩) ?_
  rintro aq e1 _ _ ⟨tl, k, av, ad, r3, rfl, rfl, aw⟩
  refine AA _ aw (AG (uv (AY rfl rfl) ?_))
  refine Aa (Au ?_)
  refine cQ (fun c6 => ?_) fun c6 => ?_
  ·obtain ⟨x, bd, rfl, ax, g9, ay⟩ := Bq.succ ad c6
   rw [Bt] at r3
   refine Ar (Au ?_)
   refine As ?_
   refine AG (um (ua (BR (um (um (um ?_))))))
   obtain ⟨N4, bg, bh, az, ae, ah, aa, ⟨_, _, rfl, rfl, ⟨_, _, rfl, rfl, rfl⟩⟩, ai, aj⟩ := At.ta (Ai kI (Ai kI Be)) ab g9.1 ax
   refine uv (C0 underlying30 sizeOf29 ae g9) (uv (Bn isAgg29 sizeOf29 rfl (ah _) aa (Bi aa ai aj)) ?_)
   obtain ⟨ok, ba, ar⟩ := Az r3
   refine Gx rfl ao.1 rfl rfl rfl (ao.2 _ (AQ.refl _) _ _ _ ⟨_, rfl, ⟨_, _, rfl, rfl, ⟨_, _, rfl, rfl, rfl⟩⟩⟩ ba) (Aa ?_)
   refine AV rfl (fun ak => ?_) (fun ak => ?_)
   ·have bb := bt ar ak
    refine AG (um (ua (Aa (Aw (AH (Av (Av (AH (Av ?_)))))))))
    refine B7 results128 ?_
    obtain rfl := AL bb
    exact rfl
   have bc := bf ar ak
   refine Ar (AD (id := 1) (Aq ?_))
   refine uv (A4 rfl rfl (Bq.CE ad c6 (At.lt ab))) ?_
   refine um (Aa ?_)
   subst av; exact le kr ⟨_, _, rfl, ay, bc, rfl, rfl, z4⟩
  obtain rfl := Bq.zero ad c6
  rw [Bt] at r3
  refine AM (Aj (Aj ?_))
  refine Ax ?_
  exact mi kr ⟨r3, rfl, rfl, (sn _)⟩
 rintro e1 _ _ ⟨au, rfl, rfl, al⟩
 refine AA _ al ?_
 rw [B2] at au
 refine AG (ua (Aa (Aw ?_)))
 refine B7 results128 ?_
 obtain rfl := AL au
 exact rfl
set_option maxHeartbeats 1000000 in
theorem EI (aa : At 3 (Br eI (Br eI bE)) F E4 E3 s_) (ab : J2 Tryz.prog F L4 L8 LZ (PO (Br eI (Br eI bE))) Value.bool f) {r : Bool} (hr : B1 s_ f = some r) :
    Bp Tryz.prog 99 #[sL E4 s_.length E3, .func (.func L4) L8 LZ] F (.bool r) := by
 refine sp func99 ntmps99 fun K _ _ => ?_
 rw [B1] at hr
 refine AG (ua (BR (um (um ?_))))
 obtain ⟨n, h1, r2⟩ := Az hr
 refine cV call128 (E7 aa ab h1) (uv (Hu rfl rfl) ?_)
 refine ua (Aa (Aw ?_))
 refine B7 results99 ?_
 obtain rfl := AL r2
 exact rfl
set_option maxHeartbeats 1000000 in
theorem Lh {aj : Nat} {ab : Nat × Nat} (ad : F PR = some (.cells #[sL Qu x.length Qh] 30 Pq)) (al : At 3 (Br eI (Br eI bE)) F Qu Qh x) (ae : F aj = some (.cells (arr cB g) 128 ab)) (ak : g.length = 24) {r : Bool} (hr : FR i x g = some r) :
    Bp Tryz.prog 97 #[vI i, pO PR, pO aj] F (.bool r) := by
 refine sp func97 ntmps97 fun K _ _ => ?_
 rw [FR] at hr
 refine AG (ua ?_)
 refine dN (wv (AS isAgg30 rfl (Has.frozen ad) rfl) (wm ?_))
 obtain ⟨x2, g1, ao, r3⟩ := BG hr
 obtain ⟨b4, o5, c6, aw, aq, ar, aa, ⟨_, _, rfl, rfl, ⟨_, _, rfl, rfl, rfl⟩⟩, ah, ai⟩ := At.ta (Ai kI (Ai kI Be)) al g1.1 ao
 refine wv (C0 underlying30 sizeOf29 aq g1) (wv (Bn isAgg29 sizeOf29 rfl (ar _) aa (Bi aa ah ai)) (wv (K9 isAgg128 sizeOf128 rfl (Has.frozen ae) (Gk A8 ak)) ?_))
 obtain ⟨ok, au, av⟩ := Az r3
 refine Dy rfl call98 rfl rfl rfl (Jo ak au) ?_
 refine wa (B6 (Aw ?_))
 refine B7 results97 ?_
 obtain rfl := AL av
 exact rfl
set_option maxHeartbeats 1000000 in
theorem LQ {ab : Nat} {ad : Nat × Nat} (al : g.length = 24) (ae : F ab = some (.cells #[sL Ki own.length Kh] 22 ad)) (aa : At 1 eI F Ki Kh own) (ah : F PR = some (.cells #[sL Qu x.length Qh] 30 Pq)) (ai : At 3 (Br eI (Br eI bE)) F Qu Qh x) {r : Bool} (hr : GY g own x = some r) :
    Bp Tryz.prog 96 #[.agg (arr cB g), pO ab, pO PR] F (.bool r) := by
 refine sp func96 ntmps96 fun K _ _ => ?_
 rw [GY] at hr
 refine AG ?_
 refine BB rfl rfl ?_; intro b1 ao
 refine ua (BR ?_)
 refine uv (AS isAgg22 rfl (Has.frozen ae) rfl) (uv (CP rfl rfl) ?_)
 refine Bj 0 rfl ao ?_; intro F2 aj aq
 refine AB rfl ?_
 replace aa := aa.m1 aj
 replace ai := ai.mono (Ai kI (Ai kI Be)) aj
 replace ah := aj _ _ ah
 have ar : J2 Tryz.prog F2 97 #[] #[pO PR, pO b1] eI Value.bool (fun ak : Int => FR ak x g) := ⟨call97, fun F2 h2 vs ak r ha hr => by obtain rfl := ha; exact Lh (h2 _ _ ah) (ai.mono (Ai kI (Ai kI Be)) h2) (h2 _ _ aq) al hr⟩
 obtain ⟨ok, h6, r7⟩ := Az hr
 refine cV call58 (GX aa ar h6) ?_
 refine ua (Aa (Aw ?_))
 refine B7 results96 ?_
 obtain rfl := AL r7
 exact rfl
set_option maxHeartbeats 1000000 in
theorem LW {heard : Bool} {ak : Nat} {ab : Nat × Nat} (ad : F PR = some (.cells #[sL Qu x.length Qh] 30 Pq)) (al : At 3 (Br eI (Br eI bE)) F Qu Qh x) (ae : F ak = some (.cells #[vI i] 3 ab)) {r : Bool} (hr : G1 CY AP heard x i = some r) :
    Bp Tryz.prog 100 #[.agg #[vI CY, vI AP, .bool heard], pO PR, pO ak] F (.bool r) := by
 refine sp func100 ntmps100 fun K _ _ => ?_
 rw [G1] at hr
 refine AG ?_
 refine BB rfl rfl ?_; intro b1 bb
 refine ua (dN (wv (Cv isAgg29 sizeOf29 0) (wv (AS isAgg30 rfl (Has.frozen ad) rfl) (wv (AS isAgg3 rfl (Has.frozen ae) rfl) ?_))))
 obtain ⟨x2, g2, ao, r4⟩ := BG hr
 obtain ⟨b5, o6, c7, bc, aq, ah, aa, ⟨_, _, rfl, rfl, ⟨_, _, rfl, rfl, rfl⟩⟩, ai, aj⟩ := At.ta (Ai kI (Ai kI Be)) al g2.1 ao
 refine wv (C0 underlying30 sizeOf29 aq g2) (wv (Bn isAgg29 sizeOf29 rfl (ah _) aa (Bi aa ai aj)) ?_)
 obtain ⟨ar, au⟩ := AF r4
 obtain ⟨av, aw⟩ := AF au
 obtain ⟨ax, ay⟩ := AF aw
 obtain ⟨az, ba⟩ := AF ay
 refine wv (RR (R3 _ _ _ _) (fun w => Pz (QU (CY, AP, heard) (x2.1, x2.2.1, x2.2.2) ⟨ar, av⟩ ⟨ax, az⟩ w)) rfl rfl) ?_
 refine wa (B6 ?_)
 refine kW kn (Aw (B7 results100 ?_))
 obtain rfl := AL ba
 exact rfl
set_option maxHeartbeats 1000000 in
theorem Ml {av : (List Int) → Int → Int → (List (Int × Int × Bool)) → (List ((List Bool) × (List Int))) → Option ((List Int))} (bq : ∀ {Ki : Option Addr} {Kh : Nat} {own : List Int} {from_ many : Int} {ab : Nat} {Bw : Option Addr} {By : Nat} {AN : List (Int × Int × Bool)} {ah : Nat × Nat} {ax : Nat} {CV : Option Addr} {CX : Nat} {l : List ((List Bool) × (List Int))} {ba : Nat × Nat} {ai : Nat} {ak : Nat × Nat} {F : FS} (_ : At 1 eI F Ki Kh own) (_ : F ab = some (.cells #[sL Bw AN.length By] 30 ah)) (_ : At 3 (Br eI (Br eI bE)) F Bw By AN) (_ : F ax = some (.cells #[sL CV l.length CX] 131 ba)) (_ : At 25 (Br (J4 24 cB) eJ) F CV CX l) (_ : F ai = some (.cells (#[.func (.func 95) #[] #[pO ab, pO ax, pO ai]]) 147 ak)) {r : List Int} , av own from_ many AN l = some r → SH.Spec Tryz.prog 95 #[sL Ki own.length Kh, vI from_, vI many, pO ab, pO ax, pO ai] F [] fun F' L' v => ∃ (ra : Option Addr) (rc : Nat), v = sL ra r.length rc ∧ L' = [] ∧ At 1 eI F' ra rc r ∧ (ra = none ↔ r = [])) {from_ : Int} {ab : Nat} {ah : Nat × Nat} {ax : Nat} {l : List ((List Bool) × (List Int))} {ba : Nat × Nat} {ai : Nat} {ak : Nat × Nat} (aj : At 1 eI F Ki Kh own) (aa : F ab = some (.cells #[sL Bw AN.length By] 30 ah)) (ad : At 3 (Br eI (Br eI bE)) F Bw By AN) (al : F ax = some (.cells #[sL CV l.length CX] 131 ba)) (au : At 25 (Br (J4 24 cB) eJ) F CV CX l) (ae : F ai = some (.cells (#[.func (.func 95) #[] #[pO ab, pO ax, pO ai]]) 147 ak)) {r : List Int} (hr : IX av own from_ many AN l = some r) :
    SH.Spec Tryz.prog 95 #[sL Ki own.length Kh, vI from_, vI many, pO ab, pO ax, pO ai] F [] fun F' L' v => ∃ (ra : Option Addr) (rc : Nat), v = sL ra r.length rc ∧ L' = [] ∧ At 1 eI F' ra rc r ∧ (ra = none ↔ r = []) := by
 refine sp func95 ntmps95 fun K _ _ => ?_
 rw [IX] at hr
 refine AG ?_
 refine BB rfl rfl ?_; intro b1 cw
 refine ua (Aa (Au (AG (um ?_))))
 refine uv (Bx rfl rfl) (Aa ?_)
 refine cQ (fun c2 => ?_) fun c2 => ?_
 ·have r3 := A2 hr c2
  refine AG (uv (CP rfl rfl) ?_)
  refine uv (BX (v := .agg (#[.func (.func 96) #[] #[pO b1, pO ab]])) rfl (by intro w; kernel_rfl)) ?_
  refine Bu rfl zeroValue144 ?_; intro b4 fo
  refine BD (i := 0) sizeOf144 rfl rfl rfl (by simp [Value.oneCell']) rfl (DD rfl) (AB rfl ?_)
  refine Aa (Au (AG ?_))
  refine uv (Cv isAgg144 sizeOf144 0) (uv (AS isAgg131 rfl (Has.frozen al) rfl) ?_)
  refine Bj 1 rfl cw ?_; intro F5 bo bp
  refine AB rfl ?_
  replace aj := aj.m1 bo
  replace ad := ad.mono (Ai kI (Ai kI Be)) bo
  replace au := au.mono (Ai (BF (n := 24) (sz := 1) A8) kJ) bo
  replace aa := bo _ _ aa
  have cx : J2 Tryz.prog F5 96 #[] #[pO b1, pO ab] (PO (J4 24 cB)) Value.bool (fun bb : (List Bool) => GY bb own AN) := ⟨call96, fun F2 h2 vs bb r ha hr => by obtain ⟨_, rfl, ⟨rfl, h8⟩⟩ := ha; exact LQ h8 (h2 _ _ bp) (aj.mono kI h2) (h2 _ _ aa) (ad.mono (Ai kI (Ai kI Be)) h2) hr⟩
  obtain ⟨l2, cy, cp⟩ := Az r3
  refine c0 call93 (I2 cx au cy) ?_; rintro _ fp _ bd cz ⟨fq, ft, rfl, rfl, fv, br⟩
  replace aj := aj.m1 bd
  replace bp := bd _ _ bp
  refine AB (ln rfl) (uv ((Ly underlying22 rfl).b (MO br)) (Aa ?_))
  refine cQ (fun bu => ?_) fun bu => ?_
  ·have da := A2 cp bu
   refine AG (uv (AS isAgg22 rfl (Has.frozen bp) rfl) ?_)
   refine ua (Aa ?_)
   obtain ⟨db, dd⟩ := AF da
   refine kW kn ?_
   refine Aw (Av (Av ?_))
   refine B7 results95 ?_
   obtain rfl := AL dd
   exact ⟨_, _, rfl, rfl, aj, At.nn aj db⟩
  have de := A3 cp bu
  refine Ar (AG (ua (Aa ?_)))
  refine kW kn ?_
  refine Aw (Av ?_)
  refine B7 results95 ?_
  obtain rfl := AL de
  exact ⟨_, _, rfl, rfl, At.nil _ _ _, NU⟩
 have df := A3 hr c2
 refine Ar ?_
 refine AO (fun e1 F1 L1 => Hv = some r ∧ AQ F F1 ∧ L1 = [] ∧ e1.sub []) ?_ ?_
 ·refine AG (um ?_)
  refine Bu rfl zeroValue3 ?_; intro dg bw
  refine BL (i := 0) sizeOf3 rfl rfl rfl rfl (DD rfl) (AB rfl (Aa (As ?_)))
  refine A6 (fun bg e1 F1 L1 => ∃ (i : Int) (aw : Nat), CN own from_ many AN l av bg i = some r ∧ AQ F F1 ∧ L1 = [(aw, ce #[vI i] 3), (b1, ce #[sL Ki own.length Kh] 22)] ∧ e1.sub [(1, vI from_), (2, vI many), (3, pO ab), (5, pO ai), (6, pO b1), (11, pO aw)] ∧ K.w0.heap.size ≤ aw) FU (m0 kr ⟨from_, dg, df, AQ.refl _, rfl, z6, bw⟩) ?_
  rintro bg e1 dh _ ⟨i, aw, bh, ao, rfl, bx, di⟩
  refine AA _ bx ?_
  replace aj := aj.m1 ao
  replace ad := ad.mono (Ai kI (Ai kI Be)) ao
  replace au := au.mono (Ai (BF (n := 24) (sz := 1) A8) kJ) ao
  replace aa := ao _ _ aa
  replace al := ao _ _ al
  replace ae := ao _ _ ae
  rcases bg with _ | bg
  ·rw [CN] at bh; cases bh
  rw [CN] at bh
  refine Au (AG ?_)
  refine uv (Co isAgg3 0) (uv (AS isAgg30 rfl (Has.frozen aa) rfl) (uv (AJ underlying30 rfl) (uv (AY rfl rfl) (Aa ?_))))
  refine cQ (fun bz => ?_) fun bz => ?_
  ·have dk := A2 bh bz
   refine Ar ?_
   refine AO (fun e1 F1 L1 => FP i (CN own from_ many AN l av bg) = some r ∧ AQ dh F1 ∧ L1 = [(aw, ce #[vI i] 3), (b1, ce #[sL Ki own.length Kh] 22)] ∧ e1.sub [(1, vI from_), (2, vI many), (3, pO ab), (5, pO ai), (6, pO b1), (11, pO aw)]) ?_ ?_
   ·refine As ?_
    refine Au (AG ?_)
    refine uv (AS isAgg30 rfl (Has.frozen aa) rfl) (um (uv (Co isAgg3 0) ?_))
    obtain ⟨dm, dp⟩ := AF dk
    obtain ⟨ay, dq, dr⟩ := BI dp
    obtain ⟨fw, fx, dt, az⟩ := At.slice (Ai kI (Ai kI Be)) ad dm dq
    refine uv ((I3 (l := from_) (h := i) underlying30 sizeOf29 rfl (.inr ⟨_, rfl, rfl⟩) (.inr ⟨_, rfl, rfl⟩) az.1).eq az.2) (uv (CP rfl rfl) ?_)
    obtain ⟨ok, du, cq⟩ := Az dr
    refine cT call99 (pT pR (lb (ln rfl))) (fun F2 h2 h3 => by exact EI (dt.mono (Ai kI (Ai kI Be)) h2) (show J2 Tryz.prog F2 100 #[] #[pO ab, pO aw] (PO (Br eI (Br eI bE))) Value.bool (fun bb : (Int × Int × Bool) => G1 bb.1 bb.2.1 bb.2.2 AN i) from ⟨call100, fun F3 h4 vs bb r ha hr => by obtain ⟨_, rfl, ⟨_, _, rfl, rfl, ⟨_, _, rfl, rfl, rfl⟩⟩⟩ := ha; exact LW ((h2.trans h4) _ _ aa) (ad.mono (Ai kI (Ai kI Be)) (h2.trans h4)) (h4 _ _ (h3 (aw, ce #[vI i] 3) mz)) hr⟩) du) ?_
    refine Aa ?_
    refine AV rfl (fun cb => ?_) (fun cb => ?_)
    ·have dv := bt cq cb
     refine AM (Aj ?_)
     refine Ax ?_
     exact mi kr ⟨dv, AQ.refl _, rfl, z6⟩
    have dw := bf cq cb
    refine Ar (Au ?_)
    refine BK [(.still, 0), (.still, 1), (.still, 3), (.pre, 4), (.still, 6), (.still, 7), (.still, 8), (.still, 9), (.seq, 2), (.alloc (ce #[vI i] 3) (fun b => sL (aD b) 1 1) [(38, vI i)], 4), (.seq, 5), (.seq, 10), (.still, 11)] (by kernel_rfl) (by kernel_rfl) (⟨⟨_, _, rfl, rfl, rfl, rfl, rfl, JL rfl (DZ Bm [vI i] rfl (by decide) (by simp [Value.cells]) (by decide))⟩, trivial⟩) (by rfl) (by kernel_rfl) (mL [5] ([]) rfl sm (fun H F' L' dx dy => AS isAgg147 rfl ((Has.frozen ae).ext dx dy) rfl) (mK [6] isAgg22 1 rfl rfl rfl rfl (mK [11] isAgg3 0 rfl rfl rfl rfl ?_)))
    refine ⟨⟨_, rfl, z1, by kernel_rfl⟩, ?_⟩
    refine mK [11] isAgg3 0 rfl rfl rfl rfl ?_
    obtain ⟨dz, eb⟩ := AF dw
    refine mS (v := vI (i + 1)) [41] rfl (A4 rfl rfl dz) (mS [2] rfl (A9 rfl) ?_)
    obtain ⟨ec, ef⟩ := AF eb
    refine mS (v := vI (many - 1)) [43] rfl (EU rfl rfl ec) ?_
    refine ⟨_, [(36, sL Ki own.length Kh)], rfl, rfl, z1, by kernel_rfl, ?_⟩; intro H
    obtain ⟨l3, eg, eh⟩ := Az ef
    refine c0 call72 (CG aj eg) ?_; rintro _ fy _ aq cc ⟨ei, ej, en, cf, rfl, rfl, bc⟩
    replace ad := ad.mono (Ai kI (Ai kI Be)) aq
    replace au := au.mono (Ai (BF (n := 24) (sz := 1) A8) kJ) aq
    replace aa := aq _ _ aa
    replace al := aq _ _ al
    replace ae := aq _ _ ae
    replace bc := bc.new fun p hp => cc p (by simp [hp])
    refine AB (lp (ln rfl)) (kO (kf (fS fO) (kf (fS fO) kr)) ?_)
    refine Aa ⟨_, rfl, aq, [9, 8, 7, 6, 3, 0], by kernel_rfl, .inl (.inr (fun d h => by cases h; rfl)), (fc sm (fc sm (fc sm (fc (s0 (s2 (s1 (s3 sr)))) (fc (s0 (s2 (s1 (s3 sr)))) (fc sm nm)))))), ?_⟩
    refine K7 rfl ?_; intro cr eo
    refine HK (L' := (cr, ce #[vI i] 3) :: ((aw, ce #[vI i] 3) :: ((b1, ce #[sL Ki own.length Kh] 22) :: (cf ++ [])))) rfl ?_
    refine ⟨_, [(37, sL ei ej en), (39, sL (aD cr) 1 1)], rfl, rfl, z2, by kernel_rfl, ?_⟩; intro H
    obtain ⟨l4, ep, er, et⟩ := Ea eh
    refine CJ (xs := l3) (ys := [i]) (zs := l4) rfl Bm rfl rfl (Nat.le_refl _) (fun _ => .c (.c (.c .h))) bc (FL.box (vss := [[vI i]]) (ys := [i]) 0 rfl kI (.cons rfl .nil) rfl rfl) ep er (by decide) ?_; intro eu ew ey ez bj
    refine kO (kd kr) ?_
    refine Aa ⟨_, rfl, AQ.refl _, [9, 8, 7, 6, 0], by kernel_rfl, .inl (.inr (fun d h => by cases h; rfl)), (fc sm (fc sm (fc sm (fc (s0 (s2 (s1 (s3 sr)))) (fc sm nm))))), ?_⟩
    refine ⟨_, [(35, .func (.func 95) #[] #[pO ab, pO ax, pO ai]), (40, sL eu ew ey), (42, vI (i + 1)), (44, vI (many - 1))], rfl, rfl, z4, by kernel_rfl, ?_⟩; intro H
    obtain rfl := (AI.A1 bj).1
    refine A5 (Nat.le_refl _) kI (fC (fC fP)) bj ?_; intro ga ar fa
    replace ad := ad.mono (Ai kI (Ai kI Be)) ar
    replace au := au.mono (Ai (BF (n := 24) (sz := 1) A8) kJ) ar
    replace aa := ar _ _ aa
    replace al := ar _ _ al
    replace ae := ar _ _ ae
    obtain ⟨l5, fb, ct⟩ := Az et
    refine c0 call95 (bq fa aa ad al au ae fb) ?_; rintro _ gb _ bk fe ⟨gg, gh, rfl, rfl, ff, bl⟩
    refine AB (ln rfl) ?_
    refine Aa ⟨_, rfl, (ar.trans bk), [], by kernel_rfl, .inl (.inl rfl), nm, ?_⟩
    refine mS [45] rfl (Da rfl) (Ce ?_)
    refine AG (um ?_)
    refine uv ((PM underlying22 rfl).b (Ow bl)) (Aa ?_)
    refine cQ (fun cg => ?_) fun cg => ?_
    ·have fg := A2 ct cg
     refine AG (um (ua (Aa ?_)))
     refine kW kn ?_
     refine Aw (AH (Av (Av (AH (Av ?_)))))
     refine B7 results95 ?_
     obtain rfl := AL fg
     exact ⟨_, _, rfl, rfl, ff, bl⟩
    have fh := A3 ct cg
    refine Ar (AD (id := 1) ?_)
    exact mi kr ⟨fh, ((aq.trans ar).trans bk), rfl, z6⟩
   rintro e1 gi _ ⟨cu, cj, rfl, ck⟩
   refine AA _ ck ?_
   rw [FP] at cu
   refine Au (AG ?_)
   refine uv (Co isAgg3 0) ?_
   refine Aa (Aq ?_)
   refine Bu rfl zeroValue3 ?_; intro fi cn
   refine BL (i := 0) sizeOf3 rfl rfl rfl rfl (DD rfl) (AB rfl ?_)
   refine Aa (Aq ?_)
   refine uv (Co isAgg3 0) ?_
   obtain ⟨fj, fk⟩ := AF cu
   refine uv (A4 rfl rfl fj) (BL (i := 0) sizeOf3 rfl rfl rfl rfl (DD rfl) (AB rfl (Aa ?_)))
   exact le (kc (kd kr)) ⟨i + 1, fi, fk, (ao.trans cj), rfl, z6, cn⟩
  have fl := A3 bh bz
  refine AM (Aj (Aj ?_))
  refine Ax ?_
  exact mi kn ⟨fl, ao, rfl, (sn _)⟩
 rintro e1 fm _ ⟨bm, cv, rfl, bn⟩
 refine AA _ bn ?_
 rw [Hv] at bm
 refine AG (ua (Aa (Aw ?_)))
 refine B7 results95 ?_
 obtain rfl := AL bm
 exact ⟨_, _, rfl, rfl, At.nil _ _ _, NU⟩
set_option maxHeartbeats 1000000 in
theorem MI : ∀ (fu : Nat) {Ki : Option Addr} {Kh : Nat} {own : List Int} {from_ many : Int} {aa : Nat} {Bw : Option Addr} {By : Nat} {AN : List (Int × Int × Bool)} {ab : Nat × Nat} {ah : Nat} {CV : Option Addr} {CX : Nat} {l : List ((List Bool) × (List Int))} {ai : Nat × Nat} {ad : Nat} {ae : Nat × Nat} {F : FS} (_ : At 1 eI F Ki Kh own) (_ : F aa = some (.cells #[sL Bw AN.length By] 30 ab)) (_ : At 3 (Br eI (Br eI bE)) F Bw By AN) (_ : F ah = some (.cells #[sL CV l.length CX] 131 ai)) (_ : At 25 (Br (J4 24 cB) eJ) F CV CX l) (_ : F ad = some (.cells (#[.func (.func 95) #[] #[pO aa, pO ah, pO ad]]) 147 ae)) {r : List Int} , GB fu own from_ many AN l = some r → SH.Spec Tryz.prog 95 #[sL Ki own.length Kh, vI from_, vI many, pO aa, pO ah, pO ad] F [] fun F' L' v => ∃ (ra : Option Addr) (rc : Nat), v = sL ra r.length rc ∧ L' = [] ∧ At 1 eI F' ra rc r ∧ (ra = none ↔ r = []) := by
  intro fu
  induction fu with
  | zero => intros; rename_i hr; rw [GB] at hr; cases hr
  | succ fu ih => intros; rename_i hr; rw [GB] at hr; exact Ml ih (by assumption) (by assumption) (by assumption) (by assumption) (by assumption) (by assumption) hr
set_option maxHeartbeats 1000000 in
theorem NC (ak : At 1 (CM 1 eJ) F Am Al Ah) (ad : At 1 eI F Ae Ad Ab) (al : At 3 (Br eI eP) F Ao An Ak) (aa : At 3 (Br eI (Br eI bE)) F Bw By AN) {r : List Int} {r2 : Int} (hr : KD Af Ac Ah Ab Ak AN = some (r, r2)) :
    SH.Spec Tryz.prog 50 #[.agg #[vI Af, vI Ac, sL Am Ah.length Al, sL Ae Ab.length Ad, sL Ao Ak.length An], sL Bw AN.length By] F [] fun F' L' v => ∃ (ra : Option Addr) (rc : Nat), v = .tuple #[sL ra r.length rc, vI r2] ∧ L' = [] ∧ At 1 eI F' ra rc r := by
 refine sp func50 ntmps50 fun K _ _ => ?_
 rw [KD] at hr
 refine AG ?_
 refine BB rfl rfl ?_; intro b1 cq
 refine BB rfl rfl ?_; intro b2 bm
 refine ua (ua (BR ?_))
 refine uv (Cv isAgg26 sizeOf26 1) (uv (Co isAgg30 0) ?_)
 obtain ⟨l, n, h3, r4⟩ := Ca hr
 refine c0 call91 (KX ak ad al aa h3) ?_; rintro _ F5 _ bn bo ⟨a9, cr, ct, bp, rfl, rfl, ae⟩
 replace aa := aa.mono (Ai kI (Ai kI Be)) bn
 replace ae := ae.new fun p hp => bo p (by simp [hp])
 refine AB (lp (ln rfl)) (kO (kf (fS fO) (kf (fS fO) kr)) ?_)
 refine um (ox rfl rfl rfl (ox rfl rfl rfl ?_))
 refine Bu rfl zeroValue131 ?_; intro bq ax
 refine BL (i := 0) sizeOf131 rfl rfl rfl rfl (DD rfl) (AB rfl ?_)
 refine ua (Aa (Au (AG (um ?_))))
 refine uv (BU rfl rfl) (Aa ?_)
 refine cQ (fun ay => ?_) fun ay => ?_
 ·have br := A2 r4 ay
  refine AG (um (ua (ua (Aa ?_))))
  refine kW kn ?_
  refine Aw (Av ?_)
  refine BM results50 (AT rfl) (AT rfl) (sr) ?_
  obtain ⟨rfl, rfl⟩ := Cd br
  exact ⟨_, _, rfl, rfl, At.nil _ _ _⟩
 have bu := A3 r4 ay
 refine Ar ?_
 refine AO (fun e1 F1 L1 => IS = some (r, r2) ∧ AQ F5 F1 ∧ L1 = [] ∧ e1.sub []) ?_ ?_
 ·refine AG (ua (Aa ?_))
  refine As (kW (kc (kc (kd kr))) ?_)
  refine BN 1 rfl bm ?_; intro cu aq ab
  refine E5 rfl ?_
  replace aa := aa.mono (Ai kI (Ai kI Be)) aq
  replace ae := ae.mono (Ai (BF (n := 24) (sz := 1) A8) kJ) aq
  obtain rfl := (AI.A1 ae).1
  refine Ih (Nat.le_refl _) (Ai (BF (n := 24) (sz := 1) A8) kJ) (fC fP) ae ?_; intro cv ar au
  replace aa := aa.mono (Ai kI (Ai kI Be)) ar
  replace ab := ar _ _ ab
  refine BN 0 rfl ax ?_; intro bw ao ai
  refine E5 rfl ?_
  replace aa := aa.mono (Ai kI (Ai kI Be)) ao
  replace au := au.mono (Ai (BF (n := 24) (sz := 1) A8) kJ) ao
  replace ab := ao _ _ ab
  refine MP (fun aw e1 F1 L1 => ∃ (many : Int), Gj AN l aw many = some (r, r2) ∧ AQ bw F1 ∧ L1 = [] ∧ e1.sub [(3, pO b2), (6, pO bq), (8, vI many)]) FU (m0 kr ⟨1, bu, AQ.refl _, rfl, z3⟩) ?_
  rintro aw e1 cw _ ⟨many, av, ah, rfl, az⟩
  refine AA _ az ?_
  replace aa := aa.mono (Ai kI (Ai kI Be)) ah
  replace au := au.mono (Ai (BF (n := 24) (sz := 1) A8) kJ) ah
  replace ab := ah _ _ ab
  replace ai := ah _ _ ai
  rcases aw with _ | aw
  ·rw [Gj] at av; cases av
  rw [Gj] at av
  refine Au (AG (um ?_))
  refine uv (AS isAgg30 rfl (Has.frozen ab) rfl) (uv (AJ underlying30 rfl) (uv (Pc rfl rfl) (Aa ?_)))
  refine cQ (fun ba => ?_) fun ba => ?_
  ·have bx := A2 av ba
   refine Ar (Au ?_)
   refine As (AG ?_)
   refine Bu rfl zeroValue147 ?_; intro cx bb
   refine BR (uv (CP rfl rfl) (BL (i := 0) sizeOf147 rfl rfl rfl rfl (DD rfl) (AB rfl (BR (uv (Co isAgg147 0) (um ?_))))))
   refine Bj 0 rfl bb ?_; intro cy aj bc
   refine AB rfl ?_
   replace aa := aa.mono (Ai kI (Ai kI Be)) aj
   replace au := au.mono (Ai (BF (n := 24) (sz := 1) A8) kJ) aj
   replace ab := aj _ _ ab
   replace ai := aj _ _ ai
   obtain ⟨l2, bz, bk⟩ := Az bx
   refine c0 call95 ((MI FU) (At.nil _ _ _) ab aa ai au bc bz) ?_; rintro _ cz _ bd cb ⟨da, db, rfl, rfl, cc, bg⟩
   refine AB (ln rfl) ?_
   refine ua (BR (um ?_))
   refine uv ((PM underlying22 rfl).b (Ow bg)) (Aa ?_)
   refine cQ (fun bh => ?_) fun bh => ?_
   ·have cf := A2 bk bh
    refine AG (um (ua (ua (Aa (Aw (AH (Av (Av (AH ?_)))))))))
    refine Av (BM results50 (AT rfl) (AT rfl) (sr) ?_)
    obtain ⟨rfl, rfl⟩ := Cd cf
    exact ⟨_, _, rfl, rfl, cc⟩
   have cg := A3 bk bh
   refine Ar (AD (id := 1) (Aq (um ?_)))
   obtain ⟨cj, ck⟩ := AF cg
   refine uv (A4 rfl rfl cj) ?_
   refine ua (Aa ?_)
   refine lf ?_
   exact mf kr ⟨many + 1, ck, ((ah.trans aj).trans bd), rfl, z3⟩
  have cn := A3 av ba
  refine AM (Aj (Aj ?_))
  refine Ax ?_
  exact mi kr ⟨cn, (((aq.trans ar).trans ao).trans ah), rfl, (sn _)⟩
 rintro e1 dd _ ⟨bl, cp, rfl, bj⟩
 refine AA _ bj ?_
 rw [IS] at bl
 refine AG (ua (ua (Aa (Aw ?_))))
 refine BM results50 (AT rfl) (AT rfl) (sr) ?_
 obtain ⟨rfl, rfl⟩ := Cd bl
 exact ⟨_, _, rfl, rfl, At.nil _ _ _⟩
set_option maxHeartbeats 1000000 in
theorem Gc {IH : Option Addr} {IF : Nat} {s1 : List (Int × Int × Bool)} {IU : Option Addr} {I0 : Nat} {s2 : List (Int × Int × Bool)} (ad : At 3 (Br eI (Br eI bE)) F IH IF s1) (ah : At 3 (Br eI (Br eI bE)) F IU I0 s2) {r : Bool} (hr : Cp s1 s2 = some r) :
    Bp Tryz.prog 101 #[sL IH s1.length IF, sL IU s2.length I0] F (.bool r) := by
 refine sp func101 ntmps101 fun K _ _ => ?_
 rw [Cp] at hr
 refine AG (ua (Aa (Au (AG (um ?_)))))
 refine uv (AJ underlying30 rfl) (um (uv (AJ underlying30 rfl) (uv (BU rfl rfl) (Aa ?_))))
 obtain ⟨g2, r3⟩ := AF hr
 refine B9 rfl (fun c4 => absurd c4 g2) (fun c4 => ?_)
 refine Ar ?_
 obtain ⟨h5, r6⟩ := IK r3
 refine jE ([]) [] ?_ ?_
 ·clear r6
  refine AG (um ?_)
  refine uv (AJ underlying30 rfl) ?_
  refine um (Aa ?_)
  refine As ?_
  refine A6 (fun ba e1 F1 L1 => LA s1 ba fun tl k => BC s2 tl k = some () ∧ F = F1 ∧ L1 = [] ∧ e1.sub [(0, sL IH s1.length IF), (1, sL IU s2.length I0), (12, vI (s1.length : Int)), (13, vI k)]) _ (m0 kr ⟨_, _, rfl, Bq.start _, h5, rfl, rfl, z4⟩) ?_
  rintro ba e1 _ _ ⟨tl, k, bg, ai, r9, rfl, rfl, aj⟩
  refine AA _ aj (AG (uv (AY rfl rfl) ?_))
  refine Aa (Au ?_)
  refine cQ (fun ae => ?_) fun ae => ?_
  ·obtain ⟨x, bz, rfl, ak, bb, al⟩ := Bq.succ ai ae
   rw [BC] at r9
   refine Ar (Au ?_)
   refine As ?_
   refine AG (um (ua ?_))
   refine dN ?_
   refine wm (wm ?_)
   obtain ⟨cb, cc, cf, bh, ao, aq, aa, ⟨_, _, rfl, rfl, ⟨_, _, rfl, rfl, rfl⟩⟩, ar, au⟩ := At.ta (Ai kI (Ai kI Be)) ad bb.1 ak
   refine wv (C0 underlying30 sizeOf29 ao bb) (wv (Bn isAgg29 sizeOf29 rfl (aq _) aa (Bi aa ar au)) ?_)
   refine wm (wm ?_)
   obtain ⟨x2, bc, av, bj⟩ := BG r9
   obtain ⟨cg, cj, ck, bk, aw, ax, ab, ⟨_, _, rfl, rfl, ⟨_, _, rfl, rfl, rfl⟩⟩, ay, az⟩ := At.ta (Ai kI (Ai kI Be)) ah bc.1 av
   refine wv (C0 underlying30 sizeOf29 aw bc) (wv (Bn isAgg29 sizeOf29 rfl (ax _) ab (Bi ab ay az)) ?_)
   obtain ⟨bl, bm⟩ := AF bj
   obtain ⟨bn, bo⟩ := AF bm
   obtain ⟨bp, bq⟩ := AF bo
   obtain ⟨br, bu⟩ := AF bq
   refine wv (RW (Rw _ _ _ _) (fun w => QT (QU (x.1, x.2.1, x.2.2) (x2.1, x2.2.1, x2.2.2) ⟨bl, bn⟩ ⟨bp, br⟩ w)) rfl rfl) (B6 ?_)
   obtain ⟨bw, bx⟩ := AF bu
   refine B9 rfl (fun bd => absurd bd bw) (fun bd => ?_)
   refine Ar (AD (id := 1) (Aq ?_))
   refine uv (A4 rfl rfl (Bq.CE ai ae (At.lt ad))) ?_
   refine um (Aa ?_)
   subst bg; exact le kr ⟨_, _, rfl, al, bx, rfl, rfl, z4⟩
  obtain rfl := Bq.zero ai ae
  rw [BC] at r9
  refine AM (Aj (Aj ?_))
  refine Ax ?_
  clear r9
  exact mi kr ⟨rfl, rfl, (sn _)⟩
 refine AG (ua (Aa (Aw ?_)))
 refine B7 results101 ?_
 obtain rfl := AL r6
 exact rfl
set_option maxHeartbeats 1000000 in
theorem Ks {a b : List (Int × Int × Bool)} (aa : At 3 (Br eI (Br eI bE)) F P3 P9 a) (ab : At 3 (Br eI (Br eI bE)) F PT P6 b) {r : Bool} (hr : Gz a b = some r) :
    Bp Tryz.prog 51 #[sL P3 a.length P9, sL PT b.length P6] F (.bool r) := by
 refine sp func51 ntmps51 fun K _ _ => ?_
 rw [Gz] at hr
 refine AG (ua (BR (um (um ?_))))
 obtain ⟨ok, h1, r2⟩ := Az hr
 refine cV call101 (Gc aa ab h1) ?_
 refine ua (Aa (Aw ?_))
 refine B7 results51 ?_
 obtain rfl := AL r2
 exact rfl
set_option maxHeartbeats 1000000 in
theorem DJ {l : List (Int × Int × Bool)} (ab : At 1 (CM 1 eJ) F Am Al Ah) (aa : At 1 eI F Ae Ad Ab) (ad : At 3 (Br eI eP) F Ao An Ak) (aq : At 3 (Br eI (Br eI bE)) F CV CX l) (ae : At 1 eI F Bl Bk AW) {r : Bool} (hr : Cs Af Ac Ah Ab Ak l AW = some r) :
    Bp Tryz.prog 8 #[.agg #[vI Af, vI Ac, sL Am Ah.length Al, sL Ae Ab.length Ad, sL Ao Ak.length An], sL CV l.length CX, sL Bl AW.length Bk] F (.bool r) := by
 refine sp func8 ntmps8 fun K _ _ => ?_
 rw [Cs] at hr
 refine AG ?_
 refine BB rfl rfl ?_; intro b1 hb1
 refine ua (Aa (Au (AG ?_)))
 refine uv (Cv isAgg26 sizeOf26 0) ?_
 obtain ⟨ok, h2, r3⟩ := Az hr
 refine cV call14 (Fp ab aa ad h2) (um ?_)
 obtain ⟨g4, r5⟩ := AF r3
 refine nB g4 (uv (Cv isAgg26 sizeOf26 0) (nB g4 ?_))
 obtain ⟨ok2, h6, r7⟩ := Az r5
 refine cV call20 (Hr ab aa ad h6) (uv (AE (FK rfl g4) rfl) (um ?_))
 obtain ⟨g8, r9⟩ := AF r7
 refine nB g8 (um (nB g8 ?_))
 refine uv (AJ underlying22 rfl) (nB g8 (uv (C2 rfl rfl) (uv (AE (FK rfl g8) rfl) (um ?_))))
 obtain ⟨oq, w4⟩ := AF r9
 refine nF oq (um (nF oq ?_))
 refine uv (AJ underlying30 rfl) (nF oq (uv (C2 rfl rfl) (uv (AE (AR rfl oq) rfl) (Aa ?_))))
 refine cQ (fun oy => ?_) fun oy => ?_
 ·have r13 := A2 w4 oy
  refine AG ?_
  obtain ⟨ok3, h14, r15⟩ := Az r13
  refine cV call13 (CA h14) ?_
  refine ua (Aa ?_)
  refine kW kn ?_
  refine Aw (Av ?_)
  refine B7 results8 ?_
  obtain rfl := AL r15
  exact rfl
 have r16 := A3 w4 oy
 refine Ar (Au ?_)
 refine BK [(.pre, 10), (.pre, 11), (.still, 0), (.still, 2), (.still, 4), (.still, 6), (.still, 8), (.seq, 1), (.seq, 3), (.seq, 5), (.seq, 7), (.seq, 9), (.alloc (.cells (.agg #[vI 0, vI 0, sL none 0 0, sL none 0 0, sL none 0 0] : Value).cells 26 (0, 0)) (fun b => pO b) [], 10), (.alloc (.cells (.agg #[vI 0, vI 0, sL none 0 0, sL none 0 0, sL none 0 0] : Value).cells 50 (0, 0)) (fun b => pO b) [], 11), (.seq, 12), (.still, 13), (.still, 14), (.seq, 15), (.still, 16)] (by kernel_rfl) (by kernel_rfl) (⟨⟨_, _, rfl, rfl, rfl, rfl, rfl, GC zeroValue26⟩, ⟨⟨_, _, rfl, rfl, rfl, rfl, rfl, GC zeroValue50⟩, trivial⟩⟩) (by rfl) (by kernel_rfl) ?_
 refine ⟨⟨[], rfl, sn _, by kernel_rfl⟩, ?_⟩
 refine ⟨⟨[], rfl, sn _, by kernel_rfl⟩, ?_⟩
 refine mL [3] ([(b1, ce #[vI Af, vI Ac, sL Am Ah.length Al, sL Ae Ab.length Ad, sL Ao Ak.length An] 26)]) rfl (s0 sr) (fun H F' L' oz p0 => Bn isAgg26 sizeOf26 rfl ((Has.own 0 rfl).ext oz p0) (DD rfl) rfl) (mS [1] rfl (A9 rfl) (mS [2] rfl (A9 rfl) (mL [3] ([(b1, ce #[vI Af, vI Ac, sL Am Ah.length Al, sL Ae Ab.length Ad, sL Ao Ak.length An] 26)]) rfl (s0 sr) (fun H F' L' oz p0 => Bn isAgg26 sizeOf26 rfl ((Has.own 0 rfl).ext oz p0) (DD rfl) rfl) (mS [1] rfl (A9 rfl) ?_))))
 refine ⟨_, [(51, .agg #[vI Af, vI Ac, sL Am Ah.length Al, sL Ae Ab.length Ad, sL Ao Ak.length An])], rfl, rfl, z1, by kernel_rfl, ?_⟩; intro H
 obtain ⟨n, n2, l2, l3, l4, h17, r18⟩ := Ez r16
 refine c0 call15 (Fa ab aa ad h17) ?_; rintro _ F19 _ ga j5 ⟨fi, ot, fj, gn, fk, ou, fl, gp, fm, ow, fo, gq, rfl, rfl, bg, aw, ar⟩
 replace ab := ab.mono (Ay kJ) ga
 replace aa := aa.m1 ga
 replace ad := ad.mono (Ai kI kP) ga
 replace aq := aq.mono (Ai kI (Ai kI Be)) ga
 replace ae := ae.m1 ga
 replace bg := bg.new fun p hp => j5 p (by simp [hp])
 replace aw := aw.new fun p hp => j5 p (by simp [hp])
 replace ar := ar.new fun p hp => j5 p (by simp [hp])
 refine AB (lp (lp (lp (ln rfl)))) (kO (kf (fS (fS (fS fO))) kr) ?_)
 refine Aa ⟨_, rfl, ga, [8, 6, 4, 2], by kernel_rfl, .inl (.inr (fun d h => by cases h; rfl)), (fc sm (fc (s0 (s2 (s3 (s3 (s3 sr))))) (fc sm (fc sm nm)))), ?_⟩
 refine ⟨_, [(53, sL CV l.length CX)], rfl, rfl, z1, by kernel_rfl, ?_⟩; intro H
 obtain ⟨l5, h41, r42⟩ := Az r18
 refine c0 call37 (KC aq h41) ?_; rintro _ F43 _ eg p3 ⟨eh, fh, ei, bp, rfl, rfl, ax⟩
 replace ab := ab.mono (Ay kJ) eg
 replace aa := aa.m1 eg
 replace ad := ad.mono (Ai kI kP) eg
 replace aq := aq.mono (Ai kI (Ai kI Be)) eg
 replace ae := ae.m1 eg
 replace bg := bg.mono (Ay kJ) eg
 replace aw := aw.m1 eg
 replace ar := ar.mono (Ai kI kP) eg
 replace ax := ax.new fun p hp => p3 p (by simp [hp])
 refine AB (lp (ln rfl)) (kO (kf (fS fO) kr) ?_)
 refine Aa ⟨_, rfl, eg, [8, 6, 4], by kernel_rfl, .inl (.inr (fun d h => by cases h; rfl)), (fc sm (fc (s0 (s2 (s3 (s3 (s3 (s3 sr)))))) (fc sm nm))), ?_⟩
 refine ⟨_, [(55, sL Bl AW.length Bk)], rfl, rfl, z1, by kernel_rfl, ?_⟩; intro H
 obtain ⟨l6, h53, r54⟩ := Az r42
 refine c0 call21 (DO ae h53) ?_; rintro _ F55 _ di p4 ⟨w7, w8, w9, iu, rfl, rfl, cr⟩
 replace ab := ab.mono (Ay kJ) di
 replace aa := aa.m1 di
 replace ad := ad.mono (Ai kI kP) di
 replace aq := aq.mono (Ai kI (Ai kI Be)) di
 replace ae := ae.m1 di
 replace bg := bg.mono (Ay kJ) di
 replace aw := aw.m1 di
 replace ar := ar.mono (Ai kI kP) di
 replace ax := ax.mono (Ai kI (Ai kI Be)) di
 replace cr := cr.new fun p hp => p4 p (by simp [hp])
 refine AB (lp (ln rfl)) (kO (kf (fS fO) kr) ?_)
 refine Aa ⟨_, rfl, di, [8, 6], by kernel_rfl, .inl (.inr (fun d h => by cases h; rfl)), (fc sm (fc (s0 (s2 (s3 (s3 (s3 (s3 (s3 sr))))))) nm)), ?_⟩
 refine ⟨_, [(57, .agg #[vI Af, vI Ac, sL Am Ah.length Al, sL Ae Ab.length Ad, sL Ao Ak.length An])], rfl, rfl, z1, by kernel_rfl, ?_⟩; intro H
 obtain ⟨n3, n4, l7, l8, l9, h65, r66⟩ := Ez r54
 refine c0 call16 (DR ab aa ad h65) ?_; rintro _ F67 _ df p5 ⟨eu, ew, ey, ez, jw, p6, jx, iv, rfl, rfl, ay, az, bh⟩
 replace ab := ab.mono (Ay kJ) df
 replace aa := aa.m1 df
 replace ad := ad.mono (Ai kI kP) df
 replace aq := aq.mono (Ai kI (Ai kI Be)) df
 replace ae := ae.m1 df
 replace bg := bg.mono (Ay kJ) df
 replace aw := aw.m1 df
 replace ar := ar.mono (Ai kI kP) df
 replace ax := ax.mono (Ai kI (Ai kI Be)) df
 replace cr := cr.m1 df
 replace bh := bh.new fun p hp => p5 p (by simp [hp])
 refine AB (lp (ln rfl)) (kO (kf (fS fO) kr) ?_)
 refine Aa ⟨_, rfl, df, [8], by kernel_rfl, .inl (.inr (fun d h => by cases h; rfl)), (fc sm nm), ?_⟩
 refine ⟨_, [(59, sL CV l.length CX)], rfl, rfl, z1, by kernel_rfl, ?_⟩; intro H
 obtain ⟨ir, h83, r84⟩ := Az r66
 refine c0 call38 (M9 aq h83) ?_; rintro _ F85 _ ct p7 ⟨fw, p8, fx, gr, rfl, rfl, bj⟩
 replace ab := ab.mono (Ay kJ) ct
 replace aa := aa.m1 ct
 replace ad := ad.mono (Ai kI kP) ct
 replace aq := aq.mono (Ai kI (Ai kI Be)) ct
 replace ae := ae.m1 ct
 replace ay := ay.mono (Ay kJ) ct
 replace az := az.m1 ct
 replace bg := bg.mono (Ay kJ) ct
 replace aw := aw.m1 ct
 replace ar := ar.mono (Ai kI kP) ct
 replace ax := ax.mono (Ai kI (Ai kI Be)) ct
 replace cr := cr.m1 ct
 replace bh := bh.mono (Ai kI kP) ct
 replace bj := bj.new fun p hp => p7 p (by simp [hp])
 refine AB (lp (ln rfl)) (kO (kf (fS fO) kr) ?_)
 refine Aa ⟨_, rfl, ct, [], by kernel_rfl, .inl (.inl rfl), nm, ?_⟩
 refine HP rfl ?_; intro bk hb95
 refine HK (L' := (bk, ce #[vI 0, vI 0, sL none 0 0, sL none 0 0, sL none 0 0] 26) :: ((b1, ce #[vI Af, vI Ac, sL Am Ah.length Al, sL Ae Ab.length Ad, sL Ao Ak.length An] 26) :: (gr ++ (iv ++ (iu ++ (bp ++ (gn ++ (gp ++ (gq ++ []))))))))) rfl ?_
 refine HP rfl ?_; intro bw hb96
 refine HK (L' := (bw, ce #[vI 0, vI 0, sL none 0 0, sL none 0 0, sL none 0 0] 50) :: ((bk, ce #[vI 0, vI 0, sL none 0 0, sL none 0 0, sL none 0 0] 26) :: ((b1, ce #[vI Af, vI Ac, sL Am Ah.length Al, sL Ae Ab.length Ad, sL Ao Ak.length An] 26) :: (gr ++ (iv ++ (iu ++ (bp ++ (gn ++ (gp ++ (gq ++ [])))))))))) rfl ?_
 refine ⟨_, [(7, pO bk), (52, .agg #[vI n, vI n2, sL fi ot fj, sL fk ou fl, sL fm ow fo])], rfl, rfl, z2, by kernel_rfl, ?_⟩; intro H
 refine BD (i := 1) sizeOf26 rfl rfl rfl (by simp [Value.oneCell']) rfl (DD rfl) (AB rfl ?_)
 refine Aa ⟨undef, rfl, AQ.refl _, [], by kernel_rfl, .inl (.inl rfl), nm, ?_⟩
 refine mS [54] rfl (Da rfl) (mS [56] rfl (Da rfl) ?_)
 refine ⟨_, [(10, pO bw), (58, .agg #[vI n3, vI n4, sL eu l7.length ew, sL ey l8.length ez, sL jw p6 jx])], rfl, rfl, z2, by kernel_rfl, ?_⟩; intro H
 refine BD (i := 0) sizeOf50 rfl rfl rfl (by simp [Value.oneCell']) rfl (DD rfl) (AB rfl ?_)
 refine Aa ⟨undef, rfl, AQ.refl _, [], by kernel_rfl, .inl (.inl rfl), nm, ?_⟩
 refine mS [60] rfl (Da rfl) (Ce (AG (uv (Cv isAgg50 sizeOf50 0) ?_)))
 obtain ⟨n5, h97, r98⟩ := Az r84
 refine Bh rfl call17 rfl rfl rfl (pT ((fC (fC (fC (fS fP)))).trans (pA pR)) (lp (ln rfl))) (fun F2 h2 h3 => by rw [(AI.A1 bh).1]; exact Ec (ay.mono (Ay kJ) h2) (az.mono kI h2) (bh.row (Ai kI kP) h2 (aL h3)) h97) ?_
 refine ua (BR (um (ua (Aa ?_))))
 obtain ⟨u, wb, jz⟩ := Az r98
 refine jE (((bw, ce #[vI n3, vI n4, sL eu l7.length ew, sL ey l8.length ez, sL jw p6 jx] 50) :: ((bk, ce #[vI n, vI n2, sL fi ot fj, sL fk ou fl, sL fm ow fo] 26) :: ((b1, ce #[vI Af, vI Ac, sL Am Ah.length Al, sL Ae Ab.length Ad, sL Ao Ak.length An] 26) :: (gn ++ (gp ++ (gq ++ (bp ++ (iu ++ (iv ++ (gr ++ []))))))))))) [(1, sL CV l.length CX), (2, sL Bl AW.length Bk), (3, pO b1), (7, pO bk), (8, sL eh fh ei), (9, sL w7 w8 w9), (10, pO bw), (11, sL fw p8 fx), (12, vI n5), (13, vI u)] ?_ ?_
 ·clear jz
  refine AG (um ?_)
  refine uv (Bx rfl rfl) (Aa ?_)
  refine cQ (fun j6 => ?_) fun j6 => ?_
  ·have p9 := A2 wb j6
   refine Aq (uv (Cv isAgg50 sizeOf50 0) (um ?_))
   obtain ⟨n6, pa, pb⟩ := Az p9
   refine Bh rfl call39 rfl rfl rfl (pT ((fC (fC (fC (fS fP)))).trans (pA ((fC (fC (fC fP))).trans (pA pR)))) (lp (lp (ln rfl)))) (fun F2 h2 h3 => by rw [(AI.A1 bh).1]; rw [(AI.A1 bj).1]; exact Im (ay.mono (Ay kJ) h2) (az.mono kI h2) (bh.row (Ai kI kP) h2 (aL h3)) (bj.row (Ai kI (Ai kI Be)) h2 (aL (aR h3))) pa) ?_
   refine ua (Aa ?_)
   obtain rfl := AL pb
   exact mi (kc (kc (kc (kg (fS (fS (fS (fS fP)))) (kg (fS (fS (fS (fS fP)))) (kg (fS (fS (fS (fS fP)))) (kg (fS (fS (fS fP))) (kg (fS (fS fP)) (kg (fS fP) kr))))))))) ⟨rfl, rfl, (sc rfl (sc rfl z8))⟩
  have pd := A3 wb j6
  refine Ar ?_
  obtain rfl := AL pd
  exact mi (kc (kc (kc (kg (fS (fS (fS (fS fP)))) (kg (fS (fS (fS (fS fP)))) (kg (fS (fS (fS (fS fP)))) (kg (fS (fS (fS fP))) (kg (fS (fS fP)) (kg (fS fP) kr))))))))) ⟨rfl, rfl, (sc rfl (sc rfl z8))⟩
 refine AG (um (ua (BR (ua (Aa ?_)))))
 obtain ⟨v, kb, kh, kj⟩ := Ca jz
 refine AO (fun e1 F1 L1 => ∃ (j7 : Option Addr) (j8 : Nat) (j9 : Nat) (gu : LH), AQ F85 F1 ∧ L1 = ((bw, ce #[vI n3, vI n4, sL eu l7.length ew, sL ey l8.length ez, sL jw p6 jx] 50) :: ((bk, ce #[vI n, vI n2, sL fi ot fj, sL fk ou fl, sL fm ow fo] 26) :: ((b1, ce #[vI Af, vI Ac, sL Am Ah.length Al, sL Ae Ab.length Ad, sL Ao Ak.length An] 26) :: (gn ++ (gp ++ (gq ++ (bp ++ (iu ++ (iv ++ (gr ++ (gu ++ []))))))))))) ∧ e1.sub [(1, sL CV l.length CX), (2, sL Bl AW.length Bk), (3, pO b1), (7, pO bk), (8, sL eh fh ei), (9, sL w7 w8 w9), (10, pO bw), (11, sL fw p8 fx), (12, vI n5), (13, vI u), (14, vI v), (15, sL j7 j8 j9)] ∧ AI K.w0.heap.size 3 1 eI F1 j7 j8 j9 kb gu) ?_ ?_
 ·clear kj
  refine AG (um ?_)
  refine uv (Bx rfl rfl) (Aa ?_)
  refine cQ (fun ja => ?_) fun ja => ?_
  ·have pe := A2 kh ja
   refine AG (uv (Cv isAgg50 sizeOf50 0) (um ?_))
   obtain ⟨n7, pf, kl⟩ := Az pe
   refine Bh rfl call22 rfl rfl rfl (pT ((fC (fC (fC (fS (fS (fS (fS (fS fP)))))))).trans (pA pR)) (lp (ln rfl))) (fun F2 h2 h3 => by rw [(AI.A1 bh).1]; exact Gp (ay.mono (Ay kJ) h2) (az.mono kI h2) (bh.row (Ai kI kP) h2 (aL h3)) (ae.mono kI h2) pf) ?_
   refine ua (BR (um ?_))
   refine uv (Bx rfl rfl) (Aa ?_)
   refine cQ (fun jb => ?_) fun jb => ?_
   ·have pg := A2 kl jb
    refine Aq (uv (Cv isAgg50 sizeOf50 0) ?_)
    refine um (um ?_)
    obtain ⟨l11, ph, pj⟩ := Az pg
    refine GH rfl call40 rfl rfl rfl (pT ((fC (fC (fC (fS (fS (fS (fS (fS fP)))))))).trans (pA ((fC (fC (fC (fS (fS (fS (fS (fS fP)))))))).trans (pA pR)))) (ln (lp (lp (ln rfl))))) (fun F2 h2 h3 => by rw [(AI.A1 bh).1]; rw [(AI.A1 bj).1]; exact G3 (ay.mono (Ay kJ) h2) (az.mono kI h2) (bh.row (Ai kI kP) h2 (aL h3)) (bj.row (Ai kI (Ai kI Be)) h2 (aL (aR h3))) (ae.mono kI h2) ph) (fun _ _ _ _ hq => by obtain ⟨km, ko, kt, j3, rfl, rfl, fa⟩ := hq; exact ⟨_, _, _, _, rfl, rfl, fa.flat (fun _ _ h => h)⟩) ?_; rintro _ F123 _ ku kv kz ⟨km, ko, kt, j3, rfl, rfl, fa⟩
    have l0 := ND (Lb' := []) (by rfl) kv kz
    replace fa := fa.new fun p hp => l0 p (by simp [hp])
    refine AB (lp (ln (lp (lp (ln rfl))))) (kO (kf (fS (fS (fS fO))) (kf (fS (fS (fS fO))) (kf (fS (fS (fS fO))) kr))) ?_)
    refine ua (Aa ?_)
    obtain ⟨rfl, rfl⟩ := Cd pj
    exact mi (kc (kc (kc (kg (fS (fS (fS fP))) (kg (fS (fS (fS fP))) (kg (fS (fS (fS fP))) (kg (fS (fS (fS fP))) (kg (fS (fS (fS fP))) (kg (fS fP) (kg (fS fP) kr)))))))))) ⟨km, ko, kt, j3, ku, rfl, (sc rfl (sc rfl (sc rfl (sc rfl z8)))), fa⟩
   have pk := A3 kl jb
   refine Ar ?_
   obtain ⟨rfl, rfl⟩ := Cd pk
   exact mi (kc (kc (kc (ka (ka (ka (ka (ka (ka (ka (ke kr))))))))))) ⟨none, 0, 0, [], AQ.refl _, rfl, (sc rfl (sc rfl (sc rfl (sc rfl z8)))), AI.nil _ _ _ _ _⟩
  have pn := A3 kh ja
  refine Ar ?_
  obtain ⟨rfl, rfl⟩ := Cd pn
  exact mi (kc (kc (kc (ka (ka (ka (ka (ka (ka (ka (ke kr))))))))))) ⟨none, 0, 0, [], AQ.refl _, rfl, (sc rfl (sc rfl (sc rfl (sc rfl z8)))), AI.nil _ _ _ _ _⟩
 rintro e1 F137 _ ⟨j7, j8, j9, gu, bc, rfl, ld, fy⟩
 refine AA _ ld ?_
 replace ab := ab.mono (Ay kJ) bc
 replace aa := aa.m1 bc
 replace ad := ad.mono (Ai kI kP) bc
 replace aq := aq.mono (Ai kI (Ai kI Be)) bc
 replace ae := ae.m1 bc
 replace ay := ay.mono (Ay kJ) bc
 replace az := az.m1 bc
 replace bg := bg.mono (Ay kJ) bc
 replace aw := aw.m1 bc
 replace ar := ar.mono (Ai kI kP) bc
 replace ax := ax.mono (Ai kI (Ai kI Be)) bc
 replace cr := cr.m1 bc
 replace bh := bh.mono (Ai kI kP) bc
 replace bj := bj.mono (Ai kI (Ai kI Be)) bc
 refine AG (uv (Cv isAgg26 sizeOf26 1) ?_)
 refine um (um ?_)
 obtain ⟨l12, n8, po, pq⟩ := Ca kj
 refine GH rfl call41 rfl rfl rfl (pT ((fC (fC (fC fP))).trans (pA ((fC (fC (fC fP))).trans (pA ((fC (fC (fC fP))).trans (pA ((fC (fC (fC fP))).trans (pA ((fC (fC (fC fP))).trans (pA pR)))))))))) (ln (lp (lp (lp (lp (lp (ln rfl)))))))) (fun F2 h2 h3 => by rw [(AI.A1 bg).1]; rw [(AI.A1 aw).1]; rw [(AI.A1 ar).1]; rw [(AI.A1 ax).1]; rw [(AI.A1 cr).1]; exact Pb (bg.row (Ay kJ) h2 (aL h3)) (aw.row kI h2 (aL (aR h3))) (ar.row (Ai kI kP) h2 (aL (aR (aR h3)))) (ax.row (Ai kI (Ai kI Be)) h2 (aL (aR (aR (aR h3))))) (cr.row kI h2 (aL (aR (aR (aR (aR h3)))))) po) (fun _ _ _ _ hq => by obtain ⟨pr, pt, pv, lg, rfl, rfl, dx⟩ := hq; exact ⟨_, _, _, _, rfl, rfl, dx.flat (fun _ _ h => h)⟩) ?_; rintro _ pw _ au lh lj ⟨pr, pt, pv, lg, rfl, rfl, dx⟩
 replace ab := ab.mono (Ay kJ) au
 replace aa := aa.m1 au
 replace ad := ad.mono (Ai kI kP) au
 replace aq := aq.mono (Ai kI (Ai kI Be)) au
 replace ae := ae.m1 au
 replace ay := ay.mono (Ay kJ) au
 replace az := az.m1 au
 replace bg := bg.mono (Ay kJ) au
 replace aw := aw.m1 au
 replace ar := ar.mono (Ai kI kP) au
 replace ax := ax.mono (Ai kI (Ai kI Be)) au
 replace cr := cr.m1 au
 replace bh := bh.mono (Ai kI kP) au
 replace bj := bj.mono (Ai kI (Ai kI Be)) au
 replace fy := fy.m1 au
 have lk := ND (Lb' := []) (by rfl) lh lj
 replace dx := dx.new fun p hp => lk p (by simp [hp])
 refine AB (lp (ln (lp (lp (lp (lp (lp (ln rfl)))))))) (kO (kf (fS (fS (fS (fS (fS (fS fO)))))) (kf (fS (fS (fS (fS (fS (fS fO)))))) (kf (fS (fS (fS (fS (fS (fS fO)))))) kr))) ?_)
 refine um (ox rfl rfl rfl (ox rfl rfl rfl (ua (ua (Aa (Au (AG (um (um ?_)))))))))
 refine uv (BU rfl rfl) (um ?_)
 obtain ⟨gv, px⟩ := AF pq
 refine nF gv (um (nF gv (um (nF gv ?_))))
 obtain ⟨ok4, py, pz⟩ := Az px
 refine Bh rfl call25 rfl rfl rfl (pT ((fC (fC (fC fP))).trans (pA ((fC (fC (fC (fS (fS (fS (fS (fS (fS (fS fP)))))))))).trans (pA pR)))) (lp (lp (ln rfl)))) (fun F2 h2 h3 => by rw [(AI.A1 dx).1]; rw [(AI.A1 fy).1]; exact Bv (dx.row kI h2 (aL h3)) (fy.row kI h2 (aL (aR h3))) py) ?_
 refine nF gv (uv (Bo rfl) (uv (AE (AR rfl gv) rfl) (um ?_)))
 obtain ⟨gw, q0⟩ := AF pz
 refine nB gw (um (nB gw (um (nB gw ?_))))
 obtain ⟨ok5, qb, qc⟩ := Az q0
 refine Bh rfl call25 rfl rfl rfl (pT ((fC (fC (fC (fS (fS (fS (fS (fS fP)))))))).trans (pA pR)) (lp (ln rfl))) (fun F2 h2 h3 => by rw [(AI.A1 cr).1]; exact Bv (cr.row kI h2 (aL h3)) (ae.mono kI h2) qb) ?_
 refine nB gw (uv (Bo rfl) (uv (AE (FK rfl gw) rfl) (Aa ?_)))
 obtain ⟨qd, qe⟩ := AF qc
 refine AV rfl (fun ll => absurd (qd.symm.trans ll) (by decide)) (fun ll => ?_)
 refine Ar (AG (ua (Aa ?_)))
 obtain ⟨ai, BT, lq, lr⟩ := Ca qe
 refine LO (fun e1 F1 L1 => ∃ (bx : Option Addr) (bz : Nat) (cn : Option Addr) (cp : Nat) (cq : Nat) (av : LH), AQ pw F1 ∧ L1 = ((bw, ce #[vI n3, vI n4, sL eu l7.length ew, sL ey l8.length ez, sL bx ai.length bz] 50) :: ((bk, ce #[vI n, vI n2, sL fi ot fj, sL fk ou fl, sL fm ow fo] 26) :: ((b1, ce #[vI Af, vI Ac, sL Am Ah.length Al, sL Ae Ab.length Ad, sL Ao Ak.length An] 26) :: (gn ++ (gp ++ (gq ++ (bp ++ (gr ++ (av ++ []))))))))) ∧ e1.sub [(1, sL CV l.length CX), (3, pO b1), (7, pO bk), (8, sL eh fh ei), (10, pO bw), (11, sL fw p8 fx), (12, vI n5), (13, vI u), (18, sL cn cp cq)] ∧ At 3 (Br eI eP) F1 bx bz ai ∧ AI K.w0.heap.size 22 1 eJ F1 cn cp cq BT av) ?_ ?_
 ·clear lr
  refine AG (um ?_)
  refine uv (Bx rfl rfl) (Aa ?_)
  refine cQ (fun jc => ?_) fun jc => ?_
  ·have qf := A2 lq jc
   refine Aq (uv (Cv isAgg50 sizeOf50 0) ?_)
   obtain rfl := (AI.A1 bh).1
   refine A5 (Nat.le_refl _) (Ai kI kP) (fC (fC (fC (fS (fS (fS (fS (fS (fS fP))))))))) bh ?_; intro F180 gz iw
   replace ay := ay.mono (Ay kJ) gz
   replace az := az.m1 gz
   obtain ⟨l13, qg, qh⟩ := Az qf
   refine c0 call26 ((HM FU) ay az iw (At.nil _ _ _) qg) ?_; rintro _ F185 _ j4 lu ⟨qi, qj, qk, lv, rfl, rfl, ia⟩
   replace iw := iw.mono (Ai kI kP) j4
   replace ia := ia.new fun p hp => lu p (by simp [hp])
   refine AB (lp (ln rfl)) (kO (kf (fS fO) (kf (fS fO) (kf (fS fO) kr))) ?_)
   refine ua (Aa ?_)
   obtain ⟨rfl, rfl⟩ := Cd qh
   exact mf (kc (kc (kc (kg (fS (fS fP)) (kg (fS (fS fP)) (kg (fS (fS fP)) (kg (fS (fS fP)) (kg (fS (fS (fS fP))) (ka kn))))))))) ⟨jw, jx, qi, qj, qk, lv, (gz.trans j4), rfl, (sc rfl z8), iw, ia⟩
  have ql := A3 lq jc
  refine Ar ?_
  obtain rfl := (AI.A1 bh).1
  refine K1 (Nat.le_refl _) (Ai kI kP) (fC (fC (fC (fS (fS (fS (fS (fS (fS fP))))))))) bh ?_; intro F196 lx qn
  obtain ⟨rfl, rfl⟩ := Cd ql
  exact mf (kc (kc (kc (kx (ka (ka (ka (ka (kx (ka (ke kn))))))))))) ⟨jw, jx, none, 0, 0, [], lx, rfl, (sc rfl z8), qn, AI.nil _ _ _ _ _⟩
 rintro e1 qo _ ⟨bx, bz, cn, cp, cq, av, bq, rfl, ly, ao, al⟩
 refine AA _ ly ?_
 replace ab := ab.mono (Ay kJ) bq
 replace aa := aa.m1 bq
 replace ad := ad.mono (Ai kI kP) bq
 replace aq := aq.mono (Ai kI (Ai kI Be)) bq
 replace ay := ay.mono (Ay kJ) bq
 replace az := az.m1 bq
 replace bg := bg.mono (Ay kJ) bq
 replace aw := aw.m1 bq
 replace ar := ar.mono (Ai kI kP) bq
 replace ax := ax.mono (Ai kI (Ai kI Be)) bq
 replace bj := bj.mono (Ai kI (Ai kI Be)) bq
 obtain ⟨aj, ah, ak, y, qp, ma⟩ := RM lr
 refine AO (fun e1 F1 L1 => ∃ (ej : Option Addr) (en : Nat) (eo : Option Addr) (ep : Nat) (er : Option Addr) (et : Nat) (gb : Option Addr) (gg : Nat), AQ qo F1 ∧ L1 = ((bw, ce #[vI n3, vI n4, sL eu l7.length ew, sL ey l8.length ez, sL bx ai.length bz] 50) :: ((bk, ce #[vI n, vI n2, sL ej aj.length en, sL eo ah.length ep, sL er ak.length et] 26) :: ((b1, ce #[vI Af, vI Ac, sL Am Ah.length Al, sL Ae Ab.length Ad, sL Ao Ak.length An] 26) :: (bp ++ (av ++ []))))) ∧ e1.sub [(1, sL CV l.length CX), (3, pO b1), (7, pO bk), (8, sL eh fh ei), (10, pO bw), (11, sL gb y.length gg), (13, vI u), (18, sL cn cp cq)] ∧ At 1 (CM 1 eJ) F1 ej en aj ∧ At 1 eI F1 eo ep ah ∧ At 3 (Br eI eP) F1 er et ak ∧ At 3 (Br eI (Br eI bE)) F1 gb gg y) ?_ ?_
 ·clear ma
  refine AG (um ?_)
  refine uv (AJ underlying30 rfl) ?_
  refine um (Aa ?_)
  refine As ?_
  obtain rfl := (AI.A1 bg).1
  refine Ih (Nat.le_refl _) (Ay kJ) (fC (fC (fC fP))) bg ?_; intro F216 cb dd
  replace aq := aq.mono (Ai kI (Ai kI Be)) cb
  replace ay := ay.mono (Ay kJ) cb
  replace az := az.m1 cb
  replace ao := ao.mono (Ai kI kP) cb
  replace aw := aw.m1 cb
  replace ar := ar.mono (Ai kI kP) cb
  replace bj := bj.mono (Ai kI (Ai kI Be)) cb
  replace al := al.m2 cb
  obtain rfl := (AI.A1 aw).1
  refine Ih (Nat.le_refl _) kI (fC (fC (fC fP))) aw ?_; intro F219 cc dk
  replace aq := aq.mono (Ai kI (Ai kI Be)) cc
  replace ay := ay.mono (Ay kJ) cc
  replace az := az.m1 cc
  replace ao := ao.mono (Ai kI kP) cc
  replace dd := dd.mono (Ay kJ) cc
  replace ar := ar.mono (Ai kI kP) cc
  replace bj := bj.mono (Ai kI (Ai kI Be)) cc
  replace al := al.m2 cc
  obtain rfl := (AI.A1 ar).1
  refine Ih (Nat.le_refl _) (Ai kI kP) (fC (fC (fC fP))) ar ?_; intro F222 cf fb
  replace aq := aq.mono (Ai kI (Ai kI Be)) cf
  replace ay := ay.mono (Ay kJ) cf
  replace az := az.m1 cf
  replace ao := ao.mono (Ai kI kP) cf
  replace dd := dd.mono (Ay kJ) cf
  replace dk := dk.m1 cf
  replace bj := bj.mono (Ai kI (Ai kI Be)) cf
  replace al := al.m2 cf
  obtain rfl := (AI.A1 bj).1
  refine Ih (Nat.le_refl _) (Ai kI (Ai kI Be)) (fC (fC (fC (fS fP)))) bj ?_; intro qq cg dm
  replace aq := aq.mono (Ai kI (Ai kI Be)) cg
  replace ay := ay.mono (Ay kJ) cg
  replace az := az.m1 cg
  replace ao := ao.mono (Ai kI kP) cg
  replace dd := dd.mono (Ay kJ) cg
  replace dk := dk.m1 cg
  replace fb := fb.mono (Ai kI kP) cg
  replace al := al.m2 cg
  refine MP (fun wc e1 F1 L1 => LA l wc fun tl k => Dw n n2 l2 l3 l4 n3 n4 l7 l8 ir n5 ai BT tl k = some (aj, ah, ak, y) ∧ AQ qq F1 ∧ L1 = ((bw, ce #[vI n3, vI n4, sL eu l7.length ew, sL ey l8.length ez, sL bx ai.length bz] 50) :: ((bk, ce #[vI n, vI n2, sL fi l2.length fj, sL fk l3.length fl, sL fm l4.length fo] 26) :: ((b1, ce #[vI Af, vI Ac, sL Am Ah.length Al, sL Ae Ab.length Ad, sL Ao Ak.length An] 26) :: (bp ++ (av ++ []))))) ∧ e1.sub [(1, sL CV l.length CX), (3, pO b1), (7, pO bk), (8, sL eh fh ei), (10, pO bw), (11, sL fw ir.length fx), (12, vI n5), (13, vI u), (18, sL cn cp cq), (107, sL CV l.length CX), (108, vI (l.length : Int)), (109, vI k)]) _ (m0 kr ⟨_, _, rfl, Bq.start _, qp, AQ.refl _, rfl, (sc rfl (sc rfl (sc rfl (sc rfl z8))))⟩) ?_
  rintro wc e1 F232 _ ⟨tl, k, mb, dg, ib, bn, rfl, mc⟩
  refine AA _ mc ?_
  replace aq := aq.mono (Ai kI (Ai kI Be)) bn
  replace ay := ay.mono (Ay kJ) bn
  replace az := az.m1 bn
  replace ao := ao.mono (Ai kI kP) bn
  replace dd := dd.mono (Ay kJ) bn
  replace dk := dk.m1 bn
  replace fb := fb.mono (Ai kI kP) bn
  replace dm := dm.mono (Ai kI (Ai kI Be)) bn
  replace al := al.m2 bn
  refine AG (uv (AY rfl rfl) ?_)
  refine Aa (Au ?_)
  refine cQ (fun fe => ?_) fun fe => ?_
  ·obtain ⟨x, tl2, rfl, me, mg, mh⟩ := Bq.succ dg fe
   rw [Dw] at ib
   refine Ar (Au ?_)
   refine As ?_
   refine AG (um ?_)
   obtain ⟨b239, o240, c241, we, mj, ml, ic, ⟨_, _, rfl, rfl, ⟨_, _, rfl, rfl, rfl⟩⟩, mn, mo⟩ := At.ta (Ai kI (Ai kI Be)) aq mg.1 me
   refine uv (C0 underlying30 sizeOf29 mj mg) (uv (Bn isAgg29 sizeOf29 rfl (ml _) ic (Bi ic mn mo)) ?_)
   refine Bu rfl zeroValue29 ?_; intro cu wg
   refine ua (BD (i := 0) sizeOf29 rfl rfl rfl (by simp [Value.oneCell']) rfl (DD rfl) (AB rfl ?_))
   refine Aa (Au (AG (um ?_)))
   refine uv (C2 rfl rfl) (Aa ?_)
   refine cQ (fun jd => ?_) fun jd => ?_
   ·have qs := A2 ib jd
    refine AM (Aj ?_)
    refine Kv rfl ?_
    refine Aj (Aj ?_)
    refine Ax ?_
    obtain ⟨rfl, rfl, rfl, rfl⟩ := Rs qs
    exact mi (kd kr) ⟨fi, fj, fk, fl, fm, fo, fw, fx, ((((cb.trans cc).trans cf).trans cg).trans bn), rfl, z8, dd, dk, fb, dm⟩
   have qt := A3 ib jd
   refine Ar (AG (um (ua (Aa ?_))))
   obtain ⟨t, mq, mr⟩ := Az qt
   refine jE (((cu, ce #[vI x.1, vI x.2.1, .bool x.2.2] 29) :: ((bw, ce #[vI n3, vI n4, sL eu l7.length ew, sL ey l8.length ez, sL bx ai.length bz] 50) :: ((bk, ce #[vI n, vI n2, sL fi l2.length fj, sL fk l3.length fl, sL fm l4.length fo] 26) :: ((b1, ce #[vI Af, vI Ac, sL Am Ah.length Al, sL Ae Ab.length Ad, sL Ao Ak.length An] 26) :: (bp ++ (av ++ []))))))) [(1, sL CV l.length CX), (3, pO b1), (7, pO bk), (8, sL eh fh ei), (10, pO bw), (11, sL fw ir.length fx), (12, vI n5), (13, vI u), (18, sL cn cp cq), (19, vI k), (20, pO cu), (21, vI t), (107, sL CV l.length CX), (108, vI (l.length : Int)), (109, vI k)] ?_ ?_
   ·clear mr
    refine AG (um ?_)
    refine uv (Bx rfl rfl) (Aa ?_)
    refine cQ (fun je => ?_) fun je => ?_
    ·have qu := A2 mq je
     refine Jb (by kernel_rfl) (by kernel_rfl) (by kernel_rfl) (wv (Cv isAgg50 sizeOf50 1) ?_)
     refine wm (wm (wm ?_))
     refine wv (A4 rfl rfl (Bq.CE dg fe (At.lt aq))) ?_
     obtain ⟨qw, qx⟩ := AF qu
     obtain ⟨l10_2, qy, qz⟩ := BI qx
     obtain ⟨a260, c261, r0, ie⟩ := At.slice (Ai kI (Ai kI Be)) dm qw qy
     refine wv ((I3 (l := k) (h := k + 1) underlying80 sizeOf136 rfl (.inr ⟨_, rfl, rfl⟩) (.inr ⟨_, rfl, rfl⟩) ie.1).eq ie.2) ?_
     obtain ⟨n9, rb, re⟩ := Az qz
     refine Dy rfl call39 rfl rfl rfl (Im ay az ao r0 rb) ?_
     refine wa (B6 ?_)
     obtain rfl := AL re
     exact mi kr ⟨rfl, rfl, (sc rfl (sc rfl (sc rfl (sc rfl (sc rfl (sc rfl (sc rfl z8)))))))⟩
    have rf := A3 mq je
    refine Ar ?_
    obtain rfl := AL rf
    exact mi kr ⟨rfl, rfl, (sc rfl (sc rfl (sc rfl (sc rfl (sc rfl (sc rfl (sc rfl z8)))))))⟩
   obtain ⟨t2, rh, mu⟩ := Az mr
   refine jE (((cu, ce #[vI x.1, vI x.2.1, .bool x.2.2] 29) :: ((bw, ce #[vI n3, vI n4, sL eu l7.length ew, sL ey l8.length ez, sL bx ai.length bz] 50) :: ((bk, ce #[vI n, vI n2, sL fi l2.length fj, sL fk l3.length fl, sL fm l4.length fo] 26) :: ((b1, ce #[vI Af, vI Ac, sL Am Ah.length Al, sL Ae Ab.length Ad, sL Ao Ak.length An] 26) :: (bp ++ (av ++ []))))))) [(1, sL CV l.length CX), (3, pO b1), (7, pO bk), (8, sL eh fh ei), (10, pO bw), (11, sL fw ir.length fx), (12, vI n5), (13, vI u), (18, sL cn cp cq), (19, vI k), (20, pO cu), (21, vI t2), (107, sL CV l.length CX), (108, vI (l.length : Int)), (109, vI k)] ?_ ?_
   ·clear mu
    obtain ⟨k2, mv, jf⟩ := Az rh
    refine jE (((cu, ce #[vI x.1, vI x.2.1, .bool x.2.2] 29) :: ((bw, ce #[vI n3, vI n4, sL eu l7.length ew, sL ey l8.length ez, sL bx ai.length bz] 50) :: ((bk, ce #[vI n, vI n2, sL fi l2.length fj, sL fk l3.length fl, sL fm l4.length fo] 26) :: ((b1, ce #[vI Af, vI Ac, sL Am Ah.length Al, sL Ae Ab.length Ad, sL Ao Ak.length An] 26) :: (bp ++ (av ++ []))))))) [(1, sL CV l.length CX), (3, pO b1), (7, pO bk), (8, sL eh fh ei), (10, pO bw), (11, sL fw ir.length fx), (12, vI n5), (13, vI u), (18, sL cn cp cq), (19, vI k), (20, pO cu), (21, vI t), (107, sL CV l.length CX), (108, vI (l.length : Int)), (109, vI k), (132, .bool k2)] ?_ ?_
    ·clear jf
     refine Aq (um ?_)
     refine uv (Bx rfl rfl) (um ?_)
     by_cases dp : t = 0
     ·have ri := A2 mv dp
      refine nT dp (um (nT dp ?_))
      refine uv ((AJ underlying34 rfl).i (AI.FE al)) (nT dp (uv (Bx rfl rfl) (uv (AK (Ba rfl dp) rfl) (Aa ?_))))
      obtain rfl := AL ri
      exact mi kr ⟨rfl, rfl, (sc rfl (sc rfl (sc rfl (sc rfl (sc rfl (sc rfl (sc rfl (sc rfl z8))))))))⟩
     have rj := A3 mv dp
     refine fF dp (fF dp (fF dp ?_))
     refine uv (AE (AR rfl dp) rfl) (Aa ?_)
     obtain rfl := AL rj
     exact mi kr ⟨rfl, rfl, (sc rfl (sc rfl (sc rfl (sc rfl (sc rfl (sc rfl (sc rfl (sc rfl z8))))))))⟩
    refine AV rfl (fun jg => ?_) (fun jg => ?_)
    ·have rk := bt jf jg
     refine Aq (ua (Aa ?_))
     obtain rfl := AL rk
     exact mi kr ⟨rfl, rfl, (sc rfl (sc rfl (sc rfl (sc rfl (sc rfl (sc rfl (sc rfl z8)))))))⟩
    have rl := bf jf jg
    refine Ar ?_
    obtain rfl := AL rl
    exact mi kr ⟨rfl, rfl, (sc rfl (sc rfl (sc rfl (sc rfl (sc rfl (sc rfl (sc rfl z8)))))))⟩
   obtain ⟨can, mw, mx⟩ := Az mu
   refine jE (((cu, ce #[vI x.1, vI x.2.1, .bool x.2.2] 29) :: ((bw, ce #[vI n3, vI n4, sL eu l7.length ew, sL ey l8.length ez, sL bx ai.length bz] 50) :: ((bk, ce #[vI n, vI n2, sL fi l2.length fj, sL fk l3.length fl, sL fm l4.length fo] 26) :: ((b1, ce #[vI Af, vI Ac, sL Am Ah.length Al, sL Ae Ab.length Ad, sL Ao Ak.length An] 26) :: (bp ++ (av ++ []))))))) [(1, sL CV l.length CX), (3, pO b1), (7, pO bk), (8, sL eh fh ei), (10, pO bw), (11, sL fw ir.length fx), (12, vI n5), (13, vI u), (18, sL cn cp cq), (19, vI k), (20, pO cu), (21, vI t2), (22, .bool can), (107, sL CV l.length CX), (108, vI (l.length : Int)), (109, vI k)] ?_ ?_
   ·clear mx
    refine Jb (by kernel_rfl) (by kernel_rfl) (by kernel_rfl) (wm (wv (Bx rfl rfl) (wm ?_)))
    by_cases bl : t2 = 0
    ·have rm := A2 mw bl
     refine A0 (b := true) 135 rfl (Env.Gr rfl bl) (wv (Cv isAgg50 sizeOf50 1) ?_)
     refine A0 (b := true) 135 rfl (Env.Gr rfl bl) (wm (A0 (b := true) 135 rfl (Env.Gr rfl bl) (wm (A0 (b := true) 135 rfl (Env.Gr rfl bl) (wm (A0 (b := true) 135 rfl (Env.Gr rfl bl) ?_))))))
     refine wv (A4 rfl rfl (Bq.CE dg fe (At.lt aq))) (A0 (b := true) 135 rfl (Env.Gr rfl bl) ?_)
     obtain ⟨rp, rq⟩ := AF rm
     obtain ⟨l10_3, rr, ru⟩ := BI rq
     obtain ⟨a288, c289, ry, ig⟩ := At.slice (Ai kI (Ai kI Be)) dm rp rr
     refine wv ((I3 (l := k) (h := k + 1) underlying80 sizeOf136 rfl (.inr ⟨_, rfl, rfl⟩) (.inr ⟨_, rfl, rfl⟩) ig.1).eq ig.2) ?_
     refine A0 (b := true) 135 rfl (Env.Gr rfl bl) (wm (A0 (b := true) 135 rfl (Env.Gr rfl bl) ?_))
     obtain ⟨ok6, rz, s5⟩ := Az ru
     refine Ox rfl call42 rfl rfl rfl (pT ((fC (fC (fC (fC (fS fP))))).trans (pA pR)) (lp (ln rfl))) (fun F2 h2 h3 => by rw [(AI.A1 al).1]; exact Ja (ay.mono (Ay kJ) h2) (az.mono kI h2) (ao.mono (Ai kI kP) h2) (ry.mono (Ai kI (Ai kI Be)) h2) (al.row kJ h2 (aL h3)) rz) ?_
     refine wv (AK (Ba rfl bl) rfl) ?_
     refine wa (B6 ?_)
     obtain rfl := AL s5
     exact mi kr ⟨rfl, rfl, (sc rfl (sc rfl (sc rfl (sc rfl (sc rfl (sc rfl (sc rfl (sc rfl z8))))))))⟩
    have s6 := A3 mw bl
    refine AX (b' := false) 135 rfl (Env.Fs rfl bl) rfl rfl (AX (b' := false) 135 rfl (Env.Fs rfl bl) rfl rfl (AX (b' := false) 135 rfl (Env.Fs rfl bl) rfl rfl (AX (b' := false) 135 rfl (Env.Fs rfl bl) rfl rfl (AX (b' := false) 135 rfl (Env.Fs rfl bl) rfl rfl (AX (b' := false) 135 rfl (Env.Fs rfl bl) rfl rfl (AX (b' := false) 135 rfl (Env.Fs rfl bl) rfl rfl (AX (b' := false) 135 rfl (Env.Fs rfl bl) rfl rfl ?_)))))))
    refine wv (AE (AR rfl bl) rfl) ?_
    refine wa (B6 ?_)
    obtain rfl := AL s6
    exact mi kr ⟨rfl, rfl, (sc rfl (sc rfl (sc rfl (sc rfl (sc rfl (sc rfl (sc rfl (sc rfl z8))))))))⟩
   refine AG (uv (Cv isAgg26 sizeOf26 2) (uv (Cv isAgg29 sizeOf29 0) ?_))
   obtain ⟨ok7, n10, s7, s8⟩ := Ca mx
   refine cV call43 (LG dd dk fb s7) ?_
   refine um (ox rfl rfl rfl (ox rfl rfl rfl (ua (ua (Aa (Au ?_))))))
   obtain ⟨k3, s9, na⟩ := Az s8
   refine jE (((cu, ce #[vI x.1, vI x.2.1, .bool x.2.2] 29) :: ((bw, ce #[vI n3, vI n4, sL eu l7.length ew, sL ey l8.length ez, sL bx ai.length bz] 50) :: ((bk, ce #[vI n, vI n2, sL fi l2.length fj, sL fk l3.length fl, sL fm l4.length fo] 26) :: ((b1, ce #[vI Af, vI Ac, sL Am Ah.length Al, sL Ae Ab.length Ad, sL Ao Ak.length An] 26) :: (bp ++ (av ++ []))))))) [(1, sL CV l.length CX), (3, pO b1), (7, pO bk), (8, sL eh fh ei), (10, pO bw), (11, sL fw ir.length fx), (12, vI n5), (13, vI u), (18, sL cn cp cq), (19, vI k), (20, pO cu), (21, vI t2), (22, .bool can), (107, sL CV l.length CX), (108, vI (l.length : Int)), (109, vI k), (163, .bool k3)] ?_ ?_
   ·clear na
    refine Aq (um (um ?_))
    refine uv (BU rfl rfl) (um ?_)
    obtain ⟨dq, nc⟩ := AF s9
    refine nF dq (um (nF dq (um (nF dq ?_))))
    refine uv (Bx rfl rfl) ?_
    refine nF dq (um ?_)
    by_cases ff : t2 = 0
    ·have sa := A2 nc ff
     refine nT ff (um (nT ff ?_))
     refine uv (Bo rfl) (nF dq (uv (AK (Ba rfl ff) rfl) (nF dq (uv (JG underlying4 rfl rfl) (uv (AE (AR rfl dq) rfl) (Aa ?_))))))
     obtain rfl := AL sa
     exact mi kr ⟨rfl, rfl, (sc rfl (sc rfl (sc rfl (sc rfl (sc rfl (sc rfl (sc rfl (sc rfl (sc rfl z8)))))))))⟩
    have sb := A3 nc ff
    refine fF ff (fF ff (nF dq ?_))
    refine uv (AE (AR rfl ff) rfl) (nF dq (uv (JG underlying4 rfl rfl) (uv (AE (AR rfl dq) rfl) (Aa ?_))))
    obtain rfl := AL sb
    exact mi kr ⟨rfl, rfl, (sc rfl (sc rfl (sc rfl (sc rfl (sc rfl (sc rfl (sc rfl (sc rfl (sc rfl z8)))))))))⟩
   obtain ⟨sd, se⟩ := AF na
   refine AV rfl (fun nf => absurd (sd.symm.trans nf) (by decide)) (fun nf => ?_)
   refine Ar ?_
   obtain ⟨t3, sf, ng⟩ := Az se
   refine jE (((cu, ce #[vI x.1, vI x.2.1, .bool x.2.2] 29) :: ((bw, ce #[vI n3, vI n4, sL eu l7.length ew, sL ey l8.length ez, sL bx ai.length bz] 50) :: ((bk, ce #[vI n, vI n2, sL fi l2.length fj, sL fk l3.length fl, sL fm l4.length fo] 26) :: ((b1, ce #[vI Af, vI Ac, sL Am Ah.length Al, sL Ae Ab.length Ad, sL Ao Ak.length An] 26) :: (bp ++ (av ++ []))))))) [(1, sL CV l.length CX), (3, pO b1), (7, pO bk), (8, sL eh fh ei), (10, pO bw), (11, sL fw ir.length fx), (12, vI n5), (13, vI u), (18, sL cn cp cq), (19, vI k), (20, pO cu), (21, vI t3), (107, sL CV l.length CX), (108, vI (l.length : Int)), (109, vI k)] ?_ ?_
   ·clear ng
    obtain ⟨k4, nh, jh⟩ := Az sf
    refine jE (((cu, ce #[vI x.1, vI x.2.1, .bool x.2.2] 29) :: ((bw, ce #[vI n3, vI n4, sL eu l7.length ew, sL ey l8.length ez, sL bx ai.length bz] 50) :: ((bk, ce #[vI n, vI n2, sL fi l2.length fj, sL fk l3.length fl, sL fm l4.length fo] 26) :: ((b1, ce #[vI Af, vI Ac, sL Am Ah.length Al, sL Ae Ab.length Ad, sL Ao Ak.length An] 26) :: (bp ++ (av ++ []))))))) [(1, sL CV l.length CX), (3, pO b1), (7, pO bk), (8, sL eh fh ei), (10, pO bw), (11, sL fw ir.length fx), (12, vI n5), (13, vI u), (18, sL cn cp cq), (19, vI k), (20, pO cu), (21, vI t2), (107, sL CV l.length CX), (108, vI (l.length : Int)), (109, vI k), (169, .bool k4)] ?_ ?_
    ·clear jh
     refine Aq (um ?_)
     refine uv (Bx rfl rfl) (um ?_)
     by_cases fg : t2 = 0
     ·have sg := A2 nh fg
      refine nT fg (um (nT fg ?_))
      refine uv (Bo rfl) (uv (AK (Ba rfl fg) rfl) (Aa ?_))
      obtain rfl := AL sg
      exact mi kr ⟨rfl, rfl, (sc rfl (sc rfl (sc rfl (sc rfl (sc rfl (sc rfl (sc rfl (sc rfl z8))))))))⟩
     have sh := A3 nh fg
     refine fF fg (fF fg ?_)
     refine uv (AE (AR rfl fg) rfl) (Aa ?_)
     obtain rfl := AL sh
     exact mi kr ⟨rfl, rfl, (sc rfl (sc rfl (sc rfl (sc rfl (sc rfl (sc rfl (sc rfl (sc rfl z8))))))))⟩
    refine AV rfl (fun ji => ?_) (fun ji => ?_)
    ·have si := bt jh ji
     refine Aq (ua (Aa ?_))
     obtain rfl := AL si
     exact mi kr ⟨rfl, rfl, (sc rfl (sc rfl (sc rfl (sc rfl (sc rfl (sc rfl (sc rfl z8)))))))⟩
    have sj := bf jh ji
    refine Ar ?_
    obtain rfl := AL sj
    exact mi kr ⟨rfl, rfl, (sc rfl (sc rfl (sc rfl (sc rfl (sc rfl (sc rfl (sc rfl z8)))))))⟩
   refine AG (uv (Cv isAgg26 sizeOf26 2) (uv (Cv isAgg29 sizeOf29 0) ?_))
   obtain ⟨l14, sk, sq, ss⟩ := Ca ng
   refine c0 call44 (J1 dd dk fb sq) ?_; rintro _ F324 _ dy hn326 ⟨a328, c329, rfl, rfl, ni⟩
   replace aq := aq.mono (Ai kI (Ai kI Be)) dy
   replace ay := ay.mono (Ay kJ) dy
   replace az := az.m1 dy
   replace ao := ao.mono (Ai kI kP) dy
   replace dm := dm.mono (Ai kI (Ai kI Be)) dy
   refine AB (ln rfl) ?_
   refine um (ox rfl rfl rfl (ox rfl rfl rfl (ua (ua (Aa ?_)))))
   obtain ⟨k5, su, nj⟩ := Az ss
   refine jE (((bw, ce #[vI n3, vI n4, sL eu l7.length ew, sL ey l8.length ez, sL bx ai.length bz] 50) :: ((bk, ce #[vI n, vI n2, sL fi l2.length fj, sL fk l3.length fl, sL fm l4.length fo] 26) :: ((b1, ce #[vI Af, vI Ac, sL Am Ah.length Al, sL Ae Ab.length Ad, sL Ao Ak.length An] 26) :: (bp ++ (av ++ [])))))) [(1, sL CV l.length CX), (3, pO b1), (7, pO bk), (8, sL eh fh ei), (10, pO bw), (11, sL fw ir.length fx), (12, vI n5), (13, vI u), (18, sL cn cp cq), (107, sL CV l.length CX), (108, vI (l.length : Int)), (109, vI k), (202, .bool k5)] ?_ ?_
   ·clear nj
    refine Jb (by kernel_rfl) (by kernel_rfl) (by kernel_rfl) ?_
    refine wm (wm ?_)
    refine wv (BU rfl rfl) (wm ?_)
    obtain ⟨fp, nk⟩ := AF su
    refine A0 (b := false) 179 rfl (Env.Fs rfl fp) (wm (A0 (b := false) 179 rfl (Env.Fs rfl fp) ?_))
    refine wv (BU rfl rfl) ?_
    refine A0 (b := false) 179 rfl (Env.Fs rfl fp) (wm ?_)
    by_cases dr : sk ≠ 0
    ·have sv := A2 nk dr
     refine A0 (b := true) 182 rfl (Env.Gr rfl dr) (wm (A0 (b := true) 182 rfl (Env.Gr rfl dr) ?_))
     refine wv (AJ underlying22 rfl) (A0 (b := true) 182 rfl (Env.Gr rfl dr) (wv (C2 rfl rfl) (A0 (b := false) 179 rfl (Env.Fs rfl fp) (wv (AK (Ba rfl dr) rfl) (wv (AE (AR rfl fp) rfl) (wm ?_))))))
     obtain ⟨fq, np⟩ := AF sv
     refine A0 (b := false) 188 rfl (Env.Fs rfl fq) (wm (A0 (b := false) 188 rfl (Env.Fs rfl fq) ?_))
     refine wv (Bx rfl rfl) ?_
     refine A0 (b := false) 188 rfl (Env.Fs rfl fq) (wm ?_)
     by_cases ba : sk = 0
     ·have sw := A2 np ba
      refine A0 (b := true) 191 rfl (Env.Gr rfl ba) (wv (Cv isAgg50 sizeOf50 1) ?_)
      refine A0 (b := true) 191 rfl (Env.Gr rfl ba) (wm (A0 (b := true) 191 rfl (Env.Gr rfl ba) (wm (A0 (b := true) 191 rfl (Env.Gr rfl ba) (wm (A0 (b := true) 191 rfl (Env.Gr rfl ba) ?_))))))
      refine wv (A4 rfl rfl (Bq.CE dg fe (At.lt aq))) (A0 (b := true) 191 rfl (Env.Gr rfl ba) ?_)
      obtain ⟨sx, sy⟩ := AF sw
      obtain ⟨l10_4, tc, td⟩ := BI sy
      obtain ⟨a345, c346, te, ij⟩ := At.slice (Ai kI (Ai kI Be)) dm sx tc
      refine wv ((I3 (l := k) (h := k + 1) underlying80 sizeOf136 rfl (.inr ⟨_, rfl, rfl⟩) (.inr ⟨_, rfl, rfl⟩) ij.1).eq ij.2) ?_
      refine A0 (b := true) 191 rfl (Env.Gr rfl ba) (wm (A0 (b := true) 191 rfl (Env.Gr rfl ba) ?_))
      obtain ⟨ok8, tf, tg⟩ := Az td
      refine Dy rfl call45 rfl rfl rfl (G5 ay az ao te ni tf) (A0 (b := true) 191 rfl (Env.Gr rfl ba) (wv (Bo rfl) (A0 (b := false) 188 rfl (Env.Fs rfl fq) (wv (AK (Ba rfl ba) rfl) (wv (AE (AR rfl fq) rfl) (B6 ?_))))))
      obtain rfl := AL tg
      exact mi (kd kr) ⟨rfl, rfl, (sc rfl (sc rfl (sc rfl (sc rfl (sc rfl z8)))))⟩
     have th := A3 np ba
     refine AX (b' := false) 191 rfl (Env.Fs rfl ba) rfl rfl (AX (b' := false) 191 rfl (Env.Fs rfl ba) rfl rfl (AX (b' := false) 191 rfl (Env.Fs rfl ba) rfl rfl (AX (b' := false) 191 rfl (Env.Fs rfl ba) rfl rfl (AX (b' := false) 191 rfl (Env.Fs rfl ba) rfl rfl (AX (b' := false) 191 rfl (Env.Fs rfl ba) rfl rfl (AX (b' := false) 191 rfl (Env.Fs rfl ba) rfl rfl (AX (b' := false) 191 rfl (Env.Fs rfl ba) rfl rfl (AX (b' := false) 191 rfl (Env.Fs rfl ba) rfl rfl (A0 (b := false) 188 rfl (Env.Fs rfl fq) ?_)))))))))
     refine wv (AE (AR rfl ba) rfl) (wv (AE (AR rfl fq) rfl) (B6 ?_))
     obtain rfl := AL th
     exact mi (kd kr) ⟨rfl, rfl, (sc rfl (sc rfl (sc rfl (sc rfl (sc rfl z8)))))⟩
    have nq := A3 nk dr
    refine AX (b' := false) 182 rfl (Env.Fs rfl dr) rfl rfl (AX (b' := false) 182 rfl (Env.Fs rfl dr) rfl rfl (AX (b' := false) 182 rfl (Env.Fs rfl dr) rfl rfl (A0 (b := false) 179 rfl (Env.Fs rfl fp) ?_)))
    refine wv (AE (AR rfl dr) rfl) (wv (AE (AR rfl fp) rfl) ?_)
    refine wm (A0 (b := false) 188 rfl rfl (wm (A0 (b := false) 188 rfl rfl ?_)))
    refine wv (Bx rfl rfl) ?_
    refine A0 (b := false) 188 rfl rfl (wm ?_)
    by_cases bb : sk = 0
    ·have ti := A2 nq bb
     refine A0 (b := true) 191 rfl (Env.Gr rfl bb) (wv (Cv isAgg50 sizeOf50 1) ?_)
     refine A0 (b := true) 191 rfl (Env.Gr rfl bb) (wm (A0 (b := true) 191 rfl (Env.Gr rfl bb) (wm (A0 (b := true) 191 rfl (Env.Gr rfl bb) (wm (A0 (b := true) 191 rfl (Env.Gr rfl bb) ?_))))))
     refine wv (A4 rfl rfl (Bq.CE dg fe (At.lt aq))) (A0 (b := true) 191 rfl (Env.Gr rfl bb) ?_)
     obtain ⟨tj, tk⟩ := AF ti
     obtain ⟨l10_5, tm, tn⟩ := BI tk
     obtain ⟨a359, c360, tp, ik⟩ := At.slice (Ai kI (Ai kI Be)) dm tj tm
     refine wv ((I3 (l := k) (h := k + 1) underlying80 sizeOf136 rfl (.inr ⟨_, rfl, rfl⟩) (.inr ⟨_, rfl, rfl⟩) ik.1).eq ik.2) ?_
     refine A0 (b := true) 191 rfl (Env.Gr rfl bb) (wm (A0 (b := true) 191 rfl (Env.Gr rfl bb) ?_))
     obtain ⟨ok9, tq, tr⟩ := Az tn
     refine Dy rfl call45 rfl rfl rfl (G5 ay az ao tp ni tq) (A0 (b := true) 191 rfl (Env.Gr rfl bb) (wv (Bo rfl) (A0 (b := false) 188 rfl rfl (wv (AK (Ba rfl bb) rfl) (wv (AE rfl rfl) (B6 ?_))))))
     obtain rfl := AL tr
     exact mi (kd kr) ⟨rfl, rfl, (sc rfl (sc rfl (sc rfl (sc rfl (sc rfl z8)))))⟩
    have tt := A3 nq bb
    refine AX (b' := false) 191 rfl (Env.Fs rfl bb) rfl rfl (AX (b' := false) 191 rfl (Env.Fs rfl bb) rfl rfl (AX (b' := false) 191 rfl (Env.Fs rfl bb) rfl rfl (AX (b' := false) 191 rfl (Env.Fs rfl bb) rfl rfl (AX (b' := false) 191 rfl (Env.Fs rfl bb) rfl rfl (AX (b' := false) 191 rfl (Env.Fs rfl bb) rfl rfl (AX (b' := false) 191 rfl (Env.Fs rfl bb) rfl rfl (AX (b' := false) 191 rfl (Env.Fs rfl bb) rfl rfl (AX (b' := false) 191 rfl (Env.Fs rfl bb) rfl rfl (A0 (b := false) 188 rfl rfl ?_)))))))))
    refine wv (AE (AR rfl bb) rfl) (wv (AE rfl rfl) (B6 ?_))
    obtain rfl := AL tt
    exact mi (kd kr) ⟨rfl, rfl, (sc rfl (sc rfl (sc rfl (sc rfl (sc rfl z8)))))⟩
   obtain ⟨tu, tv⟩ := AF nj
   refine AV rfl (fun nr => absurd (tu.symm.trans nr) (by decide)) (fun nr => ?_)
   refine Ar (AD (id := 1) (Aq ?_))
   refine uv (A4 rfl rfl (Bq.CE dg fe (At.lt aq))) ?_
   refine um (Aa ?_)
   subst mb; refine lf ?_
   exact mf kr ⟨_, _, rfl, mh, tv, (bn.trans dy), rfl, (sc rfl (sc rfl (sc rfl (sc rfl z8))))⟩
  obtain rfl := Bq.zero dg fe
  rw [Dw] at ib
  refine AM (Aj (Aj ?_))
  refine Ax ?_
  obtain ⟨rfl, rfl, rfl, rfl⟩ := Rs ib
  exact mi kr ⟨fi, fj, fk, fl, fm, fo, fw, fx, ((((cb.trans cc).trans cf).trans cg).trans bn), rfl, z8, dd, dk, fb, dm⟩
 rintro e1 tw _ ⟨ej, en, eo, ep, er, et, gb, gg, cv, rfl, ns, cw, cx, cy, de⟩
 refine AA _ ns ?_
 replace ab := ab.mono (Ay kJ) cv
 replace aa := aa.m1 cv
 replace ad := ad.mono (Ai kI kP) cv
 replace aq := aq.mono (Ai kI (Ai kI Be)) cv
 replace ay := ay.mono (Ay kJ) cv
 replace az := az.m1 cv
 replace ao := ao.mono (Ai kI kP) cv
 replace ax := ax.mono (Ai kI (Ai kI Be)) cv
 replace al := al.m2 cv
 obtain ⟨u2, tx, nt⟩ := Az ma
 refine jE (((bw, ce #[vI n3, vI n4, sL eu l7.length ew, sL ey l8.length ez, sL bx ai.length bz] 50) :: ((bk, ce #[vI n, vI n2, sL ej aj.length en, sL eo ah.length ep, sL er ak.length et] 26) :: ((b1, ce #[vI Af, vI Ac, sL Am Ah.length Al, sL Ae Ab.length Ad, sL Ao Ak.length An] 26) :: (bp ++ (av ++ [])))))) [(1, sL CV l.length CX), (3, pO b1), (7, pO bk), (8, sL eh fh ei), (10, pO bw), (11, sL gb y.length gg), (13, vI u2), (18, sL cn cp cq)] ?_ ?_
 ·clear nt
  obtain ⟨k6, nu, jj⟩ := Az tx
  refine jE (((bw, ce #[vI n3, vI n4, sL eu l7.length ew, sL ey l8.length ez, sL bx ai.length bz] 50) :: ((bk, ce #[vI n, vI n2, sL ej aj.length en, sL eo ah.length ep, sL er ak.length et] 26) :: ((b1, ce #[vI Af, vI Ac, sL Am Ah.length Al, sL Ae Ab.length Ad, sL Ao Ak.length An] 26) :: (bp ++ (av ++ [])))))) [(1, sL CV l.length CX), (3, pO b1), (7, pO bk), (8, sL eh fh ei), (10, pO bw), (11, sL gb y.length gg), (13, vI u), (18, sL cn cp cq), (210, .bool k6)] ?_ ?_
  ·clear jj
   refine Aq (um ?_)
   refine uv (Bx rfl rfl) (um ?_)
   by_cases dt : u = 0
   ·have tz := A2 nu dt
    refine nT dt (um (nT dt ?_))
    refine uv ((AJ underlying34 rfl).i (AI.FE al)) (nT dt (uv (Bx rfl rfl) (uv (AK (Ba rfl dt) rfl) (Aa ?_))))
    obtain rfl := AL tz
    exact mi kr ⟨rfl, rfl, (sc rfl z8)⟩
   have u0 := A3 nu dt
   refine fF dt (fF dt (fF dt ?_))
   refine uv (AE (AR rfl dt) rfl) (Aa ?_)
   obtain rfl := AL u0
   exact mi kr ⟨rfl, rfl, (sc rfl z8)⟩
  refine AV rfl (fun jk => ?_) (fun jk => ?_)
  ·have u1 := bt jj jk
   refine Aq (ua (Aa ?_))
   obtain rfl := AL u1
   exact mi kr ⟨rfl, rfl, z8⟩
  have u5 := bf jj jk
  refine Ar ?_
  obtain rfl := AL u5
  exact mi kr ⟨rfl, rfl, z8⟩
 refine AG (ua (ua (BR (um (ua (Aa ?_))))))
 obtain ⟨few, some_, t4, nv, nw⟩ := N7 nt
 refine AO (fun e1 F1 L1 => ∃ (gh : Option Addr) (gi : Nat) (gj : Nat) (dz : LH) (gk : Option Addr) (gl : Nat) (gm : Nat) (eb : LH), AQ tw F1 ∧ L1 = ((bw, ce #[vI n3, vI n4, sL eu l7.length ew, sL ey l8.length ez, sL bx ai.length bz] 50) :: ((bk, ce #[vI n, vI n2, sL ej aj.length en, sL eo ah.length ep, sL er ak.length et] 26) :: ((b1, ce #[vI Af, vI Ac, sL Am Ah.length Al, sL Ae Ab.length Ad, sL Ao Ak.length An] 26) :: (bp ++ (dz ++ (eb ++ [])))))) ∧ e1.sub [(1, sL CV l.length CX), (3, pO b1), (7, pO bk), (8, sL eh fh ei), (10, pO bw), (11, sL gb y.length gg), (13, vI u2), (26, sL gh gi gj), (27, sL gk gl gm), (28, vI t4)] ∧ AI K.w0.heap.size 3 1 eI F1 gh gi gj few dz ∧ AI K.w0.heap.size 3 1 eI F1 gk gl gm some_ eb) ?_ ?_
 ·clear nw
  refine AG (um ?_)
  refine uv (Bx rfl rfl) (Aa ?_)
  refine cQ (fun jl => ?_) fun jl => ?_
  ·have u6 := A2 nv jl
   refine AG (uv (Cv isAgg50 sizeOf50 0) ?_)
   refine um (um ?_)
   obtain ⟨l15, u7, u9⟩ := Az u6
   refine GH rfl call46 rfl rfl rfl (pT ((fC (fC (fC (fS fP)))).trans (pA pR)) (ln (lp (ln rfl)))) (fun F2 h2 h3 => by rw [(AI.A1 al).1]; exact Mj (ay.mono (Ay kJ) h2) (az.mono kI h2) (ao.mono (Ai kI kP) h2) (de.mono (Ai kI (Ai kI Be)) h2) (al.row kJ h2 (aL h3)) u7) (fun _ _ _ _ hq => by obtain ⟨jm, jn, jo, il, rfl, rfl, db⟩ := hq; exact ⟨_, _, _, _, rfl, rfl, db.flat (fun _ _ h => h)⟩) ?_; rintro _ F404 _ dh ny nz ⟨jm, jn, jo, il, rfl, rfl, db⟩
   replace ay := ay.mono (Ay kJ) dh
   replace az := az.m1 dh
   replace ao := ao.mono (Ai kI kP) dh
   replace de := de.mono (Ai kI (Ai kI Be)) dh
   replace al := al.m2 dh
   have o0 := ND (Lb' := []) (by rfl) ny nz
   replace db := db.new fun p hp => o0 p (by simp [hp])
   refine AB (lp (ln (lp (ln rfl)))) (kO (kf (fS (fS fO)) (kf (fS (fS fO)) (kf (fS (fS fO)) kr))) ?_)
   refine ua (BR (ua (BR ?_)))
   refine uv (Cv isAgg50 sizeOf50 0) ?_
   refine um (um ?_)
   obtain ⟨l16, ok10, ub, o1⟩ := Ca u9
   refine GH rfl call47 rfl rfl rfl (pT ((fC (fC (fC (fS fP)))).trans (pA pR)) (ln (lp (ln rfl)))) (fun F2 h2 h3 => by rw [(AI.A1 al).1]; exact Lu (ay.mono (Ay kJ) h2) (az.mono kI h2) (ao.mono (Ai kI kP) h2) (de.mono (Ai kI (Ai kI Be)) h2) (al.row kJ h2 (aL h3)) ub) (fun _ _ _ _ hq => by obtain ⟨jq, jr, js, im, rfl, rfl, ec⟩ := hq; exact ⟨_, _, _, _, rfl, rfl, ec.flat (fun _ _ h => h)⟩) ?_; rintro _ F417 _ iq o2 o3 ⟨jq, jr, js, im, rfl, rfl, ec⟩
   replace db := db.m1 iq
   have o4 := ND (Lb' := []) (by rfl) o2 o3
   replace ec := ec.new fun p hp => o4 p (by simp [hp])
   refine AB (lp (ln (lp (ln rfl)))) (kO (kf (fS (fS fO)) (kf (fS (fS fO)) (kf (fS (fS fO)) kr))) ?_)
   refine um (ox rfl rfl rfl (ox rfl rfl rfl (ua (ua (BR (um (Aa ?_)))))))
   refine AV rfl (fun jt => ?_) (fun jt => ?_)
   ·have uc := bt o1 jt
    refine Aq (ua (Aa ?_))
    obtain ⟨rfl, rfl, rfl⟩ := Na uc
    exact mi (kc (kc (kc (kg (fS (fS (fS fP))) (kg (fS (fS fP)) (ka kn)))))) ⟨jm, jn, jo, il, jq, jr, js, im, (dh.trans iq), rfl, (sc rfl (sc rfl z8)), db, ec⟩
   have ud := bf o1 jt
   refine Ar ?_
   obtain ⟨rfl, rfl, rfl⟩ := Na ud
   exact mi (kc (kc (kc (kg (fS (fS (fS fP))) (kg (fS (fS fP)) (ka kn)))))) ⟨jm, jn, jo, il, jq, jr, js, im, (dh.trans iq), rfl, (sc rfl (sc rfl z8)), db, ec⟩
  have r431 := A3 nv jl
  refine Ar ?_
  obtain ⟨rfl, rfl, rfl⟩ := Na r431
  exact mi (kc (kc (kc (ka (ke (ke kn)))))) ⟨none, 0, 0, [], none, 0, 0, [], AQ.refl _, rfl, (sc rfl (sc rfl z8)), AI.nil _ _ _ _ _, AI.nil _ _ _ _ _⟩
 rintro e1 F433 _ ⟨gh, gi, gj, dz, gk, gl, gm, eb, bo, rfl, o7, cj, br⟩
 refine AA _ o7 ?_
 replace ab := ab.mono (Ay kJ) bo
 replace aa := aa.m1 bo
 replace ad := ad.mono (Ai kI kP) bo
 replace aq := aq.mono (Ai kI (Ai kI Be)) bo
 replace ay := ay.mono (Ay kJ) bo
 replace az := az.m1 bo
 replace ao := ao.mono (Ai kI kP) bo
 replace cw := cw.mono (Ay kJ) bo
 replace cx := cx.m1 bo
 replace cy := cy.mono (Ai kI kP) bo
 replace de := de.mono (Ai kI (Ai kI Be)) bo
 replace ax := ax.mono (Ai kI (Ai kI Be)) bo
 refine AG (uv (Cv isAgg26 sizeOf26 1) (um ?_))
 obtain rfl := (AI.A1 ax).1
 refine A5 (Nat.le_refl _) (Ai kI (Ai kI Be)) (fC (fC (fC fP))) ax ?_; intro F435 bm du
 replace ab := ab.mono (Ay kJ) bm
 replace aa := aa.m1 bm
 replace ad := ad.mono (Ai kI kP) bm
 replace aq := aq.mono (Ai kI (Ai kI Be)) bm
 replace ay := ay.mono (Ay kJ) bm
 replace az := az.m1 bm
 replace ao := ao.mono (Ai kI kP) bm
 replace cw := cw.mono (Ay kJ) bm
 replace cx := cx.m1 bm
 replace cy := cy.mono (Ai kI kP) bm
 replace de := de.mono (Ai kI (Ai kI Be)) bm
 replace br := br.m1 bm
 replace cj := cj.m1 bm
 obtain ⟨l17, ue, uf, ug⟩ := Ca nw
 refine c0 call48 (Lf cw cx cy du uf) ?_; rintro _ F440 _ bd hn442 ⟨a444, c445, rfl, rfl, o8⟩
 replace ab := ab.mono (Ay kJ) bd
 replace aa := aa.m1 bd
 replace ad := ad.mono (Ai kI kP) bd
 replace aq := aq.mono (Ai kI (Ai kI Be)) bd
 replace ay := ay.mono (Ay kJ) bd
 replace az := az.m1 bd
 replace ao := ao.mono (Ai kI kP) bd
 replace cw := cw.mono (Ay kJ) bd
 replace cx := cx.m1 bd
 replace cy := cy.mono (Ai kI kP) bd
 replace de := de.mono (Ai kI (Ai kI Be)) bd
 replace du := du.mono (Ai kI (Ai kI Be)) bd
 replace br := br.m1 bd
 replace cj := cj.m1 bd
 refine AB (ln rfl) ?_
 refine um (ox rfl rfl rfl (ox rfl rfl rfl (ua (ua (Aa (Au ?_))))))
 obtain ⟨k7, uh, o9⟩ := Az ug
 refine jE (((bk, ce #[vI n, vI n2, sL ej aj.length en, sL eo ah.length ep, sL er ak.length et] 26) :: ((b1, ce #[vI Af, vI Ac, sL Am Ah.length Al, sL Ae Ab.length Ad, sL Ao Ak.length An] 26) :: (dz ++ (eb ++ []))))) [(1, sL CV l.length CX), (3, pO b1), (7, pO bk), (8, sL eh l5.length ei), (13, vI u2), (26, sL gh gi gj), (27, sL gk gl gm), (254, .bool k7)] ?_ ?_
 ·clear o9
  refine Aq (um (um ?_))
  refine uv (BU rfl rfl) (um ?_)
  obtain ⟨ft, oc⟩ := AF uh
  refine nF ft (um (nF ft ?_))
  refine uv (BU rfl rfl) ?_
  refine nF ft (um ?_)
  by_cases dv : ue ≠ 0
  ·have ui := A2 oc dv
   refine nT dv (um (nT dv ?_))
   refine uv (AJ underlying22 rfl) (nT dv (uv (C2 rfl rfl) (nF ft (uv (AK (Ba rfl dv) rfl) (uv (AE (AR rfl ft) rfl) (um ?_))))))
   obtain ⟨fv, od⟩ := AF ui
   refine nF fv (um (nF fv ?_))
   refine uv (Bx rfl rfl) ?_
   refine nF fv (um ?_)
   by_cases cz : ue = 0
   ·have uj := A2 od cz
    refine nT cz (uv (Cv isAgg50 sizeOf50 0) ?_)
    refine nT cz (um (nT cz (um (nT cz ?_))))
    obtain ⟨ok11, uk, uo⟩ := Az uj
    refine cV call45 (G5 ay az ao de o8 uk) (nT cz (uv (Bo rfl) (nF fv (uv (AK (Ba rfl cz) rfl) (uv (AE (AR rfl fv) rfl) (Aa ?_))))))
    obtain rfl := AL uo
    exact mi (kd kr) ⟨rfl, rfl, z8⟩
   have uq := A3 od cz
   refine fF cz (fF cz (fF cz (fF cz (fF cz (nF fv ?_)))))
   refine uv (AE (AR rfl cz) rfl) (uv (AE (AR rfl fv) rfl) (Aa ?_))
   obtain rfl := AL uq
   exact mi (kd kr) ⟨rfl, rfl, z8⟩
  have oe := A3 oc dv
  refine fF dv (fF dv (fF dv (nF ft ?_)))
  refine uv (AE (AR rfl dv) rfl) (uv (AE (AR rfl ft) rfl) ?_)
  refine um (IY (b := false) 244 rfl rfl (um (IY (b := false) 244 rfl rfl ?_)))
  refine uv (Bx rfl rfl) ?_
  refine IY (b := false) 244 rfl rfl (um ?_)
  by_cases da : ue = 0
  ·have ur := A2 oe da
   refine nT da (uv (Cv isAgg50 sizeOf50 0) ?_)
   refine nT da (um (nT da (um (nT da ?_))))
   obtain ⟨ok12, uu, uw⟩ := Az ur
   refine cV call45 (G5 ay az ao de o8 uu) (nT da (uv (Bo rfl) (IY (b := false) 244 rfl rfl (uv (AK (Ba rfl da) rfl) (uv (AE rfl rfl) (Aa ?_))))))
   obtain rfl := AL uw
   exact mi (kd kr) ⟨rfl, rfl, z8⟩
  have ux := A3 oe da
  refine fF da (fF da (fF da (fF da (fF da (IY (b := false) 244 rfl rfl ?_)))))
  refine uv (AE (AR rfl da) rfl) (uv (AE rfl rfl) (Aa ?_))
  obtain rfl := AL ux
  exact mi (kd kr) ⟨rfl, rfl, z8⟩
 obtain ⟨uy, uz⟩ := AF o9
 refine AV rfl (fun og => absurd (uy.symm.trans og) (by decide)) (fun og => ?_)
 refine Ar ?_
 obtain ⟨t5, va, oh⟩ := Az uz
 refine jE (((bk, ce #[vI n, vI n2, sL ej aj.length en, sL eo ah.length ep, sL er ak.length et] 26) :: ((b1, ce #[vI Af, vI Ac, sL Am Ah.length Al, sL Ae Ab.length Ad, sL Ao Ak.length An] 26) :: (dz ++ (eb ++ []))))) [(1, sL CV l.length CX), (3, pO b1), (7, pO bk), (8, sL eh l5.length ei), (13, vI u2), (26, sL gh gi gj), (27, sL gk gl gm), (28, vI t5)] ?_ ?_
 ·clear oh
  refine AG (um (ua (Aa ?_)))
  obtain ⟨k8, oi, ju⟩ := Az va
  refine jE (((bk, ce #[vI n, vI n2, sL ej aj.length en, sL eo ah.length ep, sL er ak.length et] 26) :: ((b1, ce #[vI Af, vI Ac, sL Am Ah.length Al, sL Ae Ab.length Ad, sL Ao Ak.length An] 26) :: (dz ++ (eb ++ []))))) [(1, sL CV l.length CX), (3, pO b1), (7, pO bk), (8, sL eh l5.length ei), (13, vI u2), (26, sL gh gi gj), (27, sL gk gl gm), (28, vI u2), (262, .bool k8)] ?_ ?_
  ·clear ju
   refine Aq (um ?_)
   refine uv (Bx rfl rfl) (um ?_)
   by_cases dw : u2 = 0
   ·have vb := A2 oi dw
    refine nT dw (um (nT dw ?_))
    refine uv ((AJ underlying22 rfl).i (AI.FE br)) (nT dw (uv (Bx rfl rfl) (uv (AK (Ba rfl dw) rfl) (Aa ?_))))
    obtain rfl := AL vb
    exact mi kr ⟨rfl, rfl, (sc rfl z8)⟩
   have vc := A3 oi dw
   refine fF dw (fF dw (fF dw ?_))
   refine uv (AE (AR rfl dw) rfl) (Aa ?_)
   obtain rfl := AL vc
   exact mi kr ⟨rfl, rfl, (sc rfl z8)⟩
  refine AV rfl (fun jv => ?_) (fun jv => ?_)
  ·have vd := bt ju jv
   refine Aq (ua (Aa ?_))
   obtain rfl := AL vd
   exact mi kr ⟨rfl, rfl, z8⟩
  have ve := bf ju jv
  refine Ar ?_
  obtain rfl := AL ve
  exact mi kr ⟨rfl, rfl, z8⟩
 refine AG (uv (Cv isAgg26 sizeOf26 0) (um ?_))
 obtain ⟨l18, n13, vf, vg⟩ := Ca oh
 refine c0 call49 (Mb cw cx cy du vf) ?_; rintro _ F485 _ ck oj ⟨a489, n493, c490, Lb491, rfl, rfl, ef⟩
 replace ab := ab.mono (Ay kJ) ck
 replace aa := aa.m1 ck
 replace ad := ad.mono (Ai kI kP) ck
 replace aq := aq.mono (Ai kI (Ai kI Be)) ck
 replace cw := cw.mono (Ay kJ) ck
 replace cx := cx.m1 ck
 replace cy := cy.mono (Ai kI kP) ck
 replace du := du.mono (Ai kI (Ai kI Be)) ck
 replace cj := cj.m1 ck
 replace br := br.m1 ck
 replace ef := ef.new fun p hp => oj p (by simp [hp])
 refine AB (lp (ln rfl)) (kO (kf (fS fO) (kf (fS fO) kr)) ?_)
 refine um (ox rfl rfl rfl (ox rfl rfl rfl (ua (ua (BR ?_)))))
 refine uv (Cv isAgg26 sizeOf26 0) (um ?_)
 obtain ⟨l19, n14, vh, vi⟩ := Ca vg
 refine c0 call50 (NC cw cx cy du vh) ?_; rintro _ F497 _ bu hn499 ⟨a501, c502, rfl, rfl, vj⟩
 replace ab := ab.mono (Ay kJ) bu
 replace aa := aa.m1 bu
 replace ad := ad.mono (Ai kI kP) bu
 replace aq := aq.mono (Ai kI (Ai kI Be)) bu
 replace cw := cw.mono (Ay kJ) bu
 replace cx := cx.m1 bu
 replace cy := cy.mono (Ai kI kP) bu
 replace du := du.mono (Ai kI (Ai kI Be)) bu
 replace cj := cj.m1 bu
 replace br := br.m1 bu
 replace ef := ef.m1 bu
 refine AB (ln rfl) ?_
 refine um (ox rfl rfl rfl (ox rfl rfl rfl (ua (ua (BR (um (um ?_)))))))
 refine uv (Bx rfl rfl) (um ?_)
 obtain ⟨iy, r505⟩ := AF vi
 refine nT iy (um (nT iy (um (nT iy ?_))))
 refine uv (Bx rfl rfl) (uv (AK (Ba rfl iy) rfl) (um ?_))
 obtain ⟨iz, vk⟩ := AF r505
 refine nT iz (um (nT iz (um (nT iz ?_))))
 obtain ⟨ok13, vl, vm⟩ := Az vk
 refine Bh rfl call25 rfl rfl rfl (pT ((fC (fC fP)).trans (pA ((fC (fC fP)).trans (pA pR)))) (lp (lp (ln rfl)))) (fun F2 h2 h3 => by rw [(AI.A1 ef).1]; rw [(AI.A1 cj).1]; exact Bv (ef.row kI h2 (aL h3)) (cj.row kI h2 (aL (aR h3))) vl) ?_
 refine uv (AK (Ba rfl iz) rfl) (um ?_)
 obtain ⟨j0, vn⟩ := AF vm
 refine nB j0 (um (nB j0 (um (nB j0 ?_))))
 obtain ⟨ok14, vo, vp⟩ := Az vn
 refine Bh rfl call25 rfl rfl rfl (pT ((fC (fC (fS (fS fP)))).trans (pA pR)) (lp (ln rfl))) (fun F2 h2 h3 => by rw [(AI.A1 br).1]; exact Bv (vj.mono kI h2) (br.row kI h2 (aL h3)) vo) ?_
 refine uv (AK (FK rfl j0) rfl) (um ?_)
 obtain ⟨j1, vq⟩ := AF vp
 refine nB j1 (uv (Cv isAgg26 sizeOf26 0) (nB j1 (uv (Cv isAgg26 sizeOf26 1) (nB j1 ?_))))
 obtain ⟨ok15, vr, vt⟩ := Az vq
 refine cV call19 (EE cw cx cy ab aa ad vr) (uv (AK (FK rfl j1) rfl) (um ?_))
 obtain ⟨j2, vu⟩ := AF vt
 refine nB j2 (um (nB j2 (um (nB j2 ?_))))
 obtain ⟨ok16, vv, vw⟩ := Az vu
 refine cV call51 (Ks du aq vv) (uv (AK (FK rfl j2) rfl) (um ?_))
 obtain ⟨oo, vx⟩ := AF vw
 refine nB oo ?_
 obtain ⟨ok17, vy, vz⟩ := Az vx
 refine cV call13 (CA vy) (uv (AK (FK rfl oo) rfl) ?_)
 refine ua (Aa ?_)
 refine kW kn (Aw (B7 results8 ?_))
 obtain rfl := AL vz
 exact rfl
end Go.Proofs.YtdhookifhfkcpaaGreat
