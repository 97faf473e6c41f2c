/- The walks that this claim needs, printed by a program of mine; part 4. -/
import Derived.Test.YtbeeigejcihadaaGreatZRNR3
namespace Go.Proofs.YtbeeigejcihadaaGreat
open Go.SH Go.PL
open Tryz 
variable {F : FS} {Ae minute n AW r3 start : Int} {Ab : List ((List Int) × Int × Int)} {AE : List (Int × Int)} {Af walks : List (List Int)} {Al Ac A2 Ai : Nat} {Ak Ad A3 Aj : Option Addr}
set_option maxHeartbeats 1000000 in
theorem GP (ad : Ar 1 eJ F Aj Ai walks) (ae : Ar 1 eJ F Ak Al Af) (aa : Ar 3 eN F Ad Ac Ab) (ab : Ar 2 eP F A3 A2 AE) {r : Bool} (hr : DU walks Af Ae start Ab AE = some r) :
    Bv Tryz.prog 9 #[.agg #[sL Aj walks.length Ai, sL Ak Af.length Al, vI Ae, vI start, sL Ad Ab.length Ac], sL A3 AE.length A2] F (.bool r) := by
 refine sp func9 ntmps9 fun K _ _ => ?_
 rw [DU] at hr
 refine AJ ?_
 refine Bx rfl rfl ?_; intro b1 r0
 refine ua (Aa (Aq (AJ ?_)))
 refine uv (CA isAgg26 sizeOf26 0) ?_
 obtain ⟨ok, h2, r3⟩ := Av hr
 refine cV call15 (DQ ad ae aa h2) (um ?_)
 obtain ⟨g4, r5⟩ := AB r3
 refine nB g4 (uv (CA isAgg26 sizeOf26 0) (nB g4 ?_))
 obtain ⟨rb, h6, r7⟩ := Av r5
 refine cV call45 (IM ad ae aa h6) (uv (AD (Gl rfl g4) rfl) (um ?_))
 obtain ⟨g8, r9⟩ := AB r7
 refine nB g8 (um (nB g8 ?_))
 refine uv (AQ underlying41 rfl) (nB g8 (uv (CQ rfl rfl) (uv (AD (Gl rfl g8) rfl) (Aa ?_))))
 obtain ⟨pj, pk⟩ := AB r9
 refine BP rfl (fun ou => absurd ou pj) (fun ou => ?_)
 refine Ao (Aq ?_)
 refine Bg [(.pre, 6), (.pre, 7), (.still, 0), (.still, 2), (.still, 4), (.seq, 1), (.seq, 3), (.seq, 5), (.alloc (.cells (.agg #[sL none 0 0, sL none 0 0, vI 0, vI 0, sL none 0 0] : Value).cells 26 (0, 0)) (fun b => pO b) [], 6), (.alloc (.cells (.agg #[sL none 0 0, sL none 0 0, vI 0, vI 0, sL none 0 0] : Value).cells 50 (0, 0)) (fun b => pO b) [], 7), (.seq, 8), (.still, 9), (.seq, 10)] (by kernel_rfl) (by kernel_rfl) (⟨⟨_, _, rfl, rfl, rfl, rfl, rfl, EI zeroValue26⟩, ⟨⟨_, _, rfl, rfl, rfl, rfl, rfl, EI zeroValue50⟩, trivial⟩⟩) (by rfl) (by kernel_rfl) ?_
 refine ⟨⟨[], rfl, sn _, by kernel_rfl⟩, ?_⟩
 refine ⟨⟨[], rfl, sn _, by kernel_rfl⟩, ?_⟩
 refine mL [2] ([(b1, ce #[sL Aj walks.length Ai, sL Ak Af.length Al, vI Ae, vI start, sL Ad Ab.length Ac] 26)]) rfl (s0 sr) (fun H F' L' ar au => AZ isAgg26 sizeOf26 rfl ((Has.own 0 rfl).ext ar au) (B2 rfl) rfl) (mS [1] rfl (AO rfl) (mL [2] ([(b1, ce #[sL Aj walks.length Ai, sL Ak Af.length Al, vI Ae, vI start, sL Ad Ab.length Ac] 26)]) rfl (s0 sr) (fun H F' L' ar au => AZ isAgg26 sizeOf26 rfl ((Has.own 0 rfl).ext ar au) (B2 rfl) rfl) ?_))
 refine ⟨_, [(35, .agg #[sL Aj walks.length Ai, sL Ak Af.length Al, vI Ae, vI start, sL Ad Ab.length Ac])], rfl, rfl, z1, by kernel_rfl, ?_⟩; intro H
 obtain ⟨l, l2, n, n2, l3, pn, po⟩ := Fx pk
 refine c0 call16 (DX ad ae aa pn) ?_; rintro _ re _ du fa ⟨ct, cu, cv, bb, cw, cx, cy, bc, cz, da, db, bd, rfl, rfl, ai, aj, ak⟩
 replace ad := ad.m2 du
 replace ae := ae.m2 du
 replace aa := aa.m3 du
 replace ab := ab.m4 du
 replace ai := ai.new fun p hp => fa p (by simp [hp])
 replace aj := aj.new fun p hp => fa p (by simp [hp])
 replace ak := ak.new fun p hp => fa p (by simp [hp])
 refine Aw (lp (lp (lp (ln rfl)))) (kO (kf (fS (fS (fS fO))) kr) ?_)
 refine Aa ⟨_, rfl, du, [4, 2], by kernel_rfl, .inl (.inr (fun d h => by cases h; rfl)), (fc (s0 (s2 (s3 (s3 (s3 sr))))) (fc sm nm)), ?_⟩
 refine ⟨_, [(37, sL A3 AE.length A2)], rfl, rfl, z1, by kernel_rfl, ?_⟩; intro H
 obtain ⟨l4, pq, pr⟩ := Av po
 refine c0 call46 (LR ab pq) ?_; rintro _ rf _ dd jt ⟨de, df, dg, bg, rfl, rfl, av⟩
 replace ad := ad.m2 dd
 replace ae := ae.m2 dd
 replace aa := aa.m3 dd
 replace ab := ab.m4 dd
 replace ai := ai.m2 dd
 replace aj := aj.m2 dd
 replace ak := ak.m3 dd
 replace av := av.new fun p hp => jt p (by simp [hp])
 refine Aw (lp (ln rfl)) (kO (kf (fS fO) kr) ?_)
 refine Aa ⟨_, rfl, dd, [4], by kernel_rfl, .inl (.inr (fun d h => by cases h; rfl)), (fc (s0 (s2 (s3 (s3 (s3 (s3 sr)))))) nm), ?_⟩
 refine ⟨_, [(39, .agg #[sL Aj walks.length Ai, sL Ak Af.length Al, vI Ae, vI start, sL Ad Ab.length Ac])], rfl, rfl, z1, by kernel_rfl, ?_⟩; intro H
 obtain ⟨l5, l6, n3, n4, l7, pt, pv⟩ := Fx pr
 refine c0 call17 (CP ad ae aa pt) ?_; rintro _ rh _ cp ju ⟨bo, bp, bq, br, bu, bw, bx, bh, rfl, rfl, bj, bk, ah⟩
 replace ad := ad.m2 cp
 replace ae := ae.m2 cp
 replace aa := aa.m3 cp
 replace ab := ab.m4 cp
 replace ai := ai.m2 cp
 replace aj := aj.m2 cp
 replace ak := ak.m3 cp
 replace av := av.m4 cp
 replace ah := ah.new fun p hp => ju p (by simp [hp])
 refine Aw (lp (ln rfl)) (kO (kf (fS fO) kr) ?_)
 refine Aa ⟨_, rfl, cp, [], by kernel_rfl, .inl (.inl rfl), nm, ?_⟩
 refine FT rfl ?_; intro ba pw
 refine GI (L' := (ba, ce #[sL none 0 0, sL none 0 0, vI 0, vI 0, sL none 0 0] 26) :: ((b1, ce #[sL Aj walks.length Ai, sL Ak Af.length Al, vI Ae, vI start, sL Ad Ab.length Ac] 26) :: (bh ++ (bg ++ (bb ++ (bc ++ (bd ++ []))))))) rfl ?_
 refine FT rfl ?_; intro az px
 refine GI (L' := (az, ce #[sL none 0 0, sL none 0 0, vI 0, vI 0, sL none 0 0] 50) :: ((ba, ce #[sL none 0 0, sL none 0 0, vI 0, vI 0, sL none 0 0] 26) :: ((b1, ce #[sL Aj walks.length Ai, sL Ak Af.length Al, vI Ae, vI start, sL Ad Ab.length Ac] 26) :: (bh ++ (bg ++ (bb ++ (bc ++ (bd ++ [])))))))) rfl ?_
 refine ⟨_, [(5, pO ba), (36, .agg #[sL ct cu cv, sL cw cx cy, vI n, vI n2, sL cz da db])], rfl, rfl, z2, by kernel_rfl, ?_⟩; intro H
 refine A8 (i := 1) sizeOf26 rfl rfl rfl (by simp [Value.oneCell']) rfl (B2 rfl) (Aw rfl ?_)
 refine Aa ⟨undef, rfl, AN.refl _, [], by kernel_rfl, .inl (.inl rfl), nm, ?_⟩
 refine mS [38] rfl (BB rfl) ?_
 refine ⟨_, [(7, pO az), (40, .agg #[sL bo l5.length bp, sL bq l6.length br, vI n3, vI n4, sL bu bw bx])], rfl, rfl, z2, by kernel_rfl, ?_⟩; intro H
 refine A8 (i := 0) sizeOf50 rfl rfl rfl (by simp [Value.oneCell']) rfl (B2 rfl) (Aw rfl ?_)
 refine Aa ⟨undef, rfl, AN.refl _, [], by kernel_rfl, .inl (.inl rfl), nm, ?_⟩
 refine Bo (AJ (uv (CA isAgg50 sizeOf50 0) ?_))
 obtain ⟨n5, py, pz⟩ := Av pv
 refine Bn rfl call18 rfl rfl rfl (pT ((fC (fC (fC fP))).trans (pA pR)) (lp (ln rfl))) (fun F2 h2 h3 => by rw [(AM.A6 ah).1]; exact C1 (bj.mono kJ h2) (bk.mono kJ h2) (ah.row kN h2 (aL h3)) py) ?_
 refine ua (BL ?_)
 refine uv (CA isAgg26 sizeOf26 1) ?_
 obtain ⟨l8, n6, n7, q0, qb⟩ := Ia pz
 refine BU rfl call47 rfl rfl rfl (pT ((fC (fC (fC (fS (fS fP))))).trans (pA ((fC (fC (fC (fS (fS fP))))).trans (pA ((fC (fC (fC (fS (fS fP))))).trans (pA pR)))))) (ln (lp (lp (lp (ln rfl)))))) (fun F2 h2 h3 => by rw [(AM.A6 ai).1]; rw [(AM.A6 aj).1]; rw [(AM.A6 ak).1]; exact KZ (ai.row kJ h2 (aL h3)) (aj.row kJ h2 (aL (aR h3))) (ak.row kN h2 (aL (aR (aR h3)))) q0) (fun _ _ _ _ hq => by obtain ⟨fj, fk, fl, ec, rfl, rfl, al⟩ := hq; exact ⟨_, _, _, _, rfl, rfl, al.flat (fun _ _ h => h)⟩) ?_; rintro _ ri _ bl jv jw ⟨fj, fk, fl, ec, rfl, rfl, al⟩
 replace ad := ad.m2 bl
 replace ae := ae.m2 bl
 replace aa := aa.m3 bl
 replace ab := ab.m4 bl
 replace bj := bj.m2 bl
 replace bk := bk.m2 bl
 replace ai := ai.m2 bl
 replace aj := aj.m2 bl
 replace ak := ak.m3 bl
 replace av := av.m4 bl
 replace ah := ah.m3 bl
 have jx := HD (Lb' := []) (by rfl) jv jw
 replace al := al.new fun p hp => jx p (by simp [hp])
 refine Aw (lp (ln (lp (lp (lp (ln rfl)))))) (kO (kf (fS (fS (fS (fS fO)))) (kf (fS (fS (fS (fS fO)))) (kf (fS (fS (fS (fS fO)))) kr))) ?_)
 refine um (ox rfl rfl rfl (ox rfl rfl rfl (ox rfl rfl rfl (ua (ua (ua (BL (um (ua ?_)))))))))
 refine ua (Aa ?_)
 obtain ⟨v, k, ow, oy⟩ := BT qb
 refine jF (((az, ce #[sL bo l5.length bp, sL bq l6.length br, vI n3, vI n4, sL bu bw bx] 50) :: ((ba, ce #[sL ct cu cv, sL cw cx cy, vI n, vI n2, sL cz da db] 26) :: ((b1, ce #[sL Aj walks.length Ai, sL Ak Af.length Al, vI Ae, vI start, sL Ad Ab.length Ac] 26) :: (bb ++ (bc ++ (bd ++ (bg ++ (bh ++ (ec ++ [])))))))))) [(1, sL A3 AE.length A2), (2, pO b1), (5, pO ba), (6, sL de df dg), (7, pO az), (8, vI n5), (9, sL fj fk fl), (10, vI n6), (11, vI n7), (12, vI v), (13, vI k)] ?_ fun qc ao => ?_
 ·clear oy
  refine AJ (um ?_)
  refine uv (BO rfl rfl) (Aa ?_)
  refine cQ (fun jz => ?_) fun jz => ?_
  ·have qd := A5 ow jz
   refine Aq (Bg [(.still, 0), (.still, 1), (.seq, 2), (.seq, 3), (.seq, 4)] (by kernel_rfl) (by kernel_rfl) (trivial) (by rfl) (by kernel_rfl) (mL [7] ([(az, ce #[sL bo l5.length bp, sL bq l6.length br, vI n3, vI n4, sL bu bw bx] 50)]) rfl (s0 (s2 (s1 (s1 (s3 (s3 (s3 (s3 (s3 (s3 sr)))))))))) (fun H F' L' ar au => AZ isAgg50 sizeOf50 rfl ((Has.own 0 rfl).ext ar au) (B2 rfl) rfl) (mL [7] ([(az, ce #[sL bo l5.length bp, sL bq l6.length br, vI n3, vI n4, sL bu bw bx] 50)]) rfl (s0 (s2 (s1 (s1 (s3 (s3 (s3 (s3 (s3 (s3 sr)))))))))) (fun H F' L' ar au => AZ isAgg50 sizeOf50 rfl ((Has.own 0 rfl).ext ar au) (B2 rfl) rfl) ?_)))
   refine ⟨_, [(53, .agg #[sL bo l5.length bp, sL bq l6.length br, vI n3, vI n4, sL bu bw bx])], rfl, rfl, z1, by kernel_rfl, ?_⟩; intro H
   obtain ⟨l9, qe, qf⟩ := Av qd
   refine BU rfl call22 rfl rfl rfl (pT ((fC (fC (fC (fS (fS (fS (fS fP))))))).trans (pA pR)) (ln (lp (ln rfl)))) (fun F2 h2 h3 => by rw [(AM.A6 ah).1]; exact Cg (bj.mono kJ h2) (bk.mono kJ h2) (ah.row kN h2 (aL h3)) qe) (fun _ _ _ _ hq => by obtain ⟨oz, p0, p3, kb, rfl, rfl, dp⟩ := hq; exact ⟨_, _, _, _, rfl, rfl, dp.flat (fun _ _ h => h)⟩) ?_; rintro _ rj _ dq kh kj ⟨oz, p0, p3, kb, rfl, rfl, dp⟩
   replace bj := bj.m2 dq
   replace bk := bk.m2 dq
   replace ah := ah.m3 dq
   have fm := HD (Lb' := []) (by rfl) kh kj
   replace dp := dp.new fun p hp => fm p (by simp [hp])
   refine Aw (lp (ln (lp (ln rfl)))) (kO (kf (fS (fS fO)) (kf (fS (fS fO)) (kf (fS (fS fO)) kr))) ?_)
   refine Aa ⟨_, rfl, dq, [0], by kernel_rfl, .inl (.inr (fun d h => by cases h; rfl)), (fc (s0 (s2 (s1 (s1 (s3 (s3 (s3 (s3 (s3 (s3 (s3 sr))))))))))) nm), ?_⟩
   refine ⟨_, [(52, .agg #[sL bo l5.length bp, sL bq l6.length br, vI n3, vI n4, sL bu bw bx]), (54, sL oz p0 p3)], rfl, rfl, z2, by kernel_rfl, ?_⟩; intro H
   obtain ⟨n8, kl, fo⟩ := Av qf
   refine Bn rfl call48 rfl rfl rfl (pT ((fC (fC (fC (fS fP)))).trans (pA ((fC (fC (fC fP))).trans (pA pR)))) (lp (lp (ln rfl)))) (fun F2 h2 h3 => by rw [(AM.A6 ah).1]; rw [(AM.A6 dp).1]; exact DI (bj.mono kJ h2) (bk.mono kJ h2) (ah.row kN h2 (aL h3)) (dp.row kP h2 (aL (aR h3))) kl) ?_
   refine Aa ⟨_, rfl, AN.refl _, [], by kernel_rfl, .inl (.inl rfl), nm, ?_⟩
   refine ⟨_, [(55, vI n8)], rfl, rfl, z1, by kernel_rfl, ?_⟩; intro H
   refine ua ?_
   refine Aa ⟨_, rfl, AN.refl _, [], by kernel_rfl, .inl (.inl rfl), nm, ?_⟩
   refine Bo ?_
   refine AJ (um ?_)
   refine uv (AV rfl rfl) (Aa ?_)
   refine cQ (fun fb => ?_) fun fb => ?_
   ·have km := A5 fo fb
    refine An (ua (ua (Aa ?_)))
    obtain ⟨rfl, rfl⟩ := B9 km
    exact mi (kc (kc (kc (kx (kg (fS (fS fP)) (kg (fS (fS fP)) (kg (fS (fS fP)) (kg (fS (fS fP)) kr)))))))) ⟨dq, rfl, (sc rfl (sc rfl (sc rfl z8)))⟩
   have ko := A4 fo fb
   refine Ao ?_
   obtain ⟨rfl, rfl⟩ := B9 ko
   exact mi (kc (kc (kc (kx (kg (fS (fS fP)) (kg (fS (fS fP)) (kg (fS (fS fP)) (kg (fS (fS fP)) kr)))))))) ⟨dq, rfl, (sc rfl (sc rfl (sc rfl z8)))⟩
  have kt := A4 ow jz
  refine Ao ?_
  obtain ⟨rfl, rfl⟩ := B9 kt
  exact mi (kc (kc (kc (kg (fS fP) (kg (fS fP) (kg (fS fP) (kg (fS (fS fP)) (kg (fS fP) kr)))))))) ⟨AN.refl _, rfl, (sc rfl (sc rfl (sc rfl z8)))⟩
 replace ad := ad.m2 ao
 replace ae := ae.m2 ao
 replace aa := aa.m3 ao
 replace ab := ab.m4 ao
 replace bj := bj.m2 ao
 replace bk := bk.m2 ao
 replace ai := ai.m2 ao
 replace aj := aj.m2 ao
 replace ak := ak.m3 ao
 replace av := av.m4 ao
 replace ah := ah.m3 ao
 replace al := al.m4 ao
 refine Aq ?_
 obtain ⟨k2, ku, fp⟩ := Av oy
 refine jE (((az, ce #[sL bo l5.length bp, sL bq l6.length br, vI n3, vI n4, sL bu bw bx] 50) :: ((ba, ce #[sL ct cu cv, sL cw cx cy, vI n, vI n2, sL cz da db] 26) :: ((b1, ce #[sL Aj walks.length Ai, sL Ak Af.length Al, vI Ae, vI start, sL Ad Ab.length Ac] 26) :: (bb ++ (bc ++ (bd ++ (bg ++ (bh ++ (ec ++ [])))))))))) [(1, sL A3 AE.length A2), (2, pO b1), (5, pO ba), (6, sL de df dg), (7, pO az), (8, vI n5), (9, sL fj fk fl), (10, vI n6), (12, vI v), (74, .bool k2)] ?_ ?_
 ·clear fp
  refine An (um (um ?_))
  refine uv (Bt rfl rfl) (um ?_)
  obtain ⟨ef, kv⟩ := AB ku
  refine nF ef (um (nF ef (um (nF ef ?_))))
  refine uv (Bt rfl rfl) (uv (AD (AL rfl ef) rfl) (um ?_))
  obtain ⟨dh, fq⟩ := AB kv
  refine nF dh (um (nF dh ?_))
  refine uv (Bt rfl rfl) ?_
  refine nF dh (um ?_)
  by_cases bz : v ≠ 0
  ·have kz := A5 fq bz
   refine nT bz (um (nT bz ?_))
   refine uv ((AQ underlying30 rfl).i (AM.Gh al)) (nT bz (uv (CQ rfl rfl) (nF dh (uv (AF (AX rfl bz) rfl) (uv (AD (AL rfl dh) rfl) (Aa ?_))))))
   obtain rfl := AP kz
   exact mi kr ⟨rfl, rfl, (sc rfl (sc rfl z8))⟩
  have l0 := A4 fq bz
  refine fF bz (fF bz (fF bz (nF dh ?_)))
  refine uv (AD (AL rfl bz) rfl) (uv (AD (AL rfl dh) rfl) (Aa ?_))
  obtain rfl := AP l0
  exact mi kr ⟨rfl, rfl, (sc rfl (sc rfl z8))⟩
 obtain ⟨la, ld⟩ := AB fp
 refine AR rfl (fun fs => absurd (la.symm.trans fs) (by decide)) (fun fs => ?_)
 refine Ao ?_
 obtain ⟨ft, fv⟩ := Ij ld
 refine jF (((az, ce #[sL bo l5.length bp, sL bq l6.length br, vI n3, vI n4, sL bu bw bx] 50) :: ((ba, ce #[sL ct cu cv, sL cw cx cy, vI n, vI n2, sL cz da db] 26) :: ((b1, ce #[sL Aj walks.length Ai, sL Ak Af.length Al, vI Ae, vI start, sL Ad Ab.length Ac] 26) :: (bb ++ (bc ++ (bd ++ (bg ++ (bh ++ []))))))))) [(1, sL A3 AE.length A2), (2, pO b1), (5, pO ba), (6, sL de df dg), (7, pO az), (8, vI n5)] ?_ fun fe aw => ?_
 ·clear fv
  refine AJ (um ?_)
  refine uv (BO rfl rfl) (Aa ?_)
  refine cQ (fun ff => ?_) fun ff => ?_
  ·have lg := A5 ft ff
   refine Aq (Bg [(.still, 0), (.still, 1), (.seq, 2), (.seq, 3), (.still, 4), (.still, 5), (.still, 6), (.still, 7), (.still, 8)] (by kernel_rfl) (by kernel_rfl) (trivial) (by rfl) (by kernel_rfl) (mL [7] ([(az, ce #[sL bo l5.length bp, sL bq l6.length br, vI n3, vI n4, sL bu bw bx] 50)]) rfl (s0 (s2 (s1 (s1 (s3 (s3 (s3 (s3 (s3 (s3 sr)))))))))) (fun H F' L' ar au => AZ isAgg50 sizeOf50 rfl ((Has.own 0 rfl).ext ar au) (B2 rfl) rfl) (mS [9] rfl (AO rfl) ?_)))
   refine ⟨_, [(79, sL fj fk fl)], rfl, rfl, z1, by kernel_rfl, ?_⟩; intro H
   obtain ⟨rk, lh, lj⟩ := Av lg
   refine BU rfl call32 rfl rfl rfl (pT ((fC (fC (fC (fS (fS (fS (fS (fS fP)))))))).trans (pA pR)) (ln (lp (ln rfl)))) (fun F2 h2 h3 => by rw [(AM.A6 al).1]; exact Fu (al.row kP h2 (aL h3)) lh) (fun _ _ _ _ hq => by obtain ⟨fw, fx, fy, eu, rfl, rfl, cf⟩ := hq; exact ⟨_, _, _, _, rfl, rfl, cf.flat (fun _ _ h => h)⟩) ?_; rintro _ qg _ cg g0 ga ⟨fw, fx, fy, eu, rfl, rfl, cf⟩
   replace bj := bj.m2 cg
   replace bk := bk.m2 cg
   replace ah := ah.m3 cg
   replace al := al.m4 cg
   have gb := HD (Lb' := []) (by rfl) g0 ga
   replace cf := cf.new fun p hp => gb p (by simp [hp])
   refine Aw (lp (ln (lp (ln rfl)))) (kO (kf (fS (fS fO)) (kf (fS (fS fO)) (kf (fS (fS fO)) kr))) ?_)
   refine Aa ⟨_, rfl, cg, [0], by kernel_rfl, .inl (.inr (fun d h => by cases h; rfl)), (fc (s0 (s2 (s1 (s1 (s3 (s3 (s3 (s3 (s3 (s3 (s3 sr))))))))))) nm), ?_⟩
   refine ⟨_, [(78, .agg #[sL bo l5.length bp, sL bq l6.length br, vI n3, vI n4, sL bu bw bx]), (80, sL fw fx fy)], rfl, rfl, z2, by kernel_rfl, ?_⟩; intro H
   obtain ⟨rl, n9, lk, ll⟩ := BT lj
   refine BU rfl call38 rfl rfl rfl (pT ((fC (fC (fC (fS (fS (fS (fS (fS (fS fP))))))))).trans (pA ((fC (fC (fC fP))).trans (pA pR)))) (ln (lp (lp (ln rfl))))) (fun F2 h2 h3 => by rw [(AM.A6 ah).1]; rw [(AM.A6 cf).1]; exact JD (bj.mono kJ h2) (bk.mono kJ h2) (ah.row kN h2 (aL h3)) (cf.row kP h2 (aL (aR h3))) lk) (fun _ _ _ _ hq => by obtain ⟨gg, gh, gi, ew, rfl, rfl, ax⟩ := hq; exact ⟨_, _, _, _, rfl, rfl, ax.flat (fun _ _ h => h)⟩) ?_; rintro _ qh _ cj gj gk ⟨gg, gh, gi, ew, rfl, rfl, ax⟩
   replace bj := bj.m2 cj
   replace bk := bk.m2 cj
   replace ah := ah.m3 cj
   replace al := al.m4 cj
   have gl := HD (Lb' := []) (by rfl) gj gk
   replace ax := ax.new fun p hp => gl p (by simp [hp])
   refine Aw (lp (ln (lp (lp (ln rfl))))) (kO (kf (fS (fS (fS fO))) (kf (fS (fS (fS fO))) (kf (fS (fS (fS fO))) kr))) ?_)
   refine Aa ⟨_, rfl, cj, [], by kernel_rfl, .inl (.inl rfl), nm, ?_⟩
   refine mS [81] rfl (AO rfl) (mS (v := sL gg gh gi) [77] rfl (CF rfl rfl) (mS (v := vI n9) [77] rfl (CF rfl rfl) (mS [82] rfl (BB rfl) (mS [83] rfl (BB rfl) (Bo (Aq (Bg [(.still, 0), (.still, 1), (.seq, 2), (.seq, 3), (.still, 4), (.still, 5), (.still, 6), (.still, 7), (.still, 8)] (by kernel_rfl) (by kernel_rfl) (trivial) (by rfl) (by kernel_rfl) ?_)))))))
   refine mL [7] ([(az, ce #[sL bo l5.length bp, sL bq l6.length br, vI n3, vI n4, sL bu bw bx] 50)]) rfl (s0 (s2 (s1 (s1 (s3 (s3 (s3 (s3 (s3 (s3 (s3 (s3 sr)))))))))))) (fun H F' L' ar au => AZ isAgg50 sizeOf50 rfl ((Has.own 0 rfl).ext ar au) (B2 rfl) rfl) (mS [9] rfl (AO rfl) ?_)
   refine ⟨_, [(86, sL fj fk fl)], rfl, rfl, z1, by kernel_rfl, ?_⟩; intro H
   obtain ⟨rm, lq, lr⟩ := Av ll
   refine BU rfl call32 rfl rfl rfl (pT ((fC (fC (fC (fS (fS (fS fP)))))).trans (pA pR)) (ln (lp (ln rfl)))) (fun F2 h2 h3 => by rw [(AM.A6 al).1]; exact Fu (al.row kP h2 (aL h3)) lq) (fun _ _ _ _ hq => by obtain ⟨gm, gn, gp, ey, rfl, rfl, ck⟩ := hq; exact ⟨_, _, _, _, rfl, rfl, ck.flat (fun _ _ h => h)⟩) ?_; rintro _ qi _ bm gq gr ⟨gm, gn, gp, ey, rfl, rfl, ck⟩
   replace bj := bj.m2 bm
   replace bk := bk.m2 bm
   replace ah := ah.m3 bm
   replace al := al.m4 bm
   replace ax := ax.m4 bm
   have gu := HD (Lb' := []) (by rfl) gq gr
   replace ck := ck.new fun p hp => gu p (by simp [hp])
   refine Aw (lp (ln (lp (ln rfl)))) (kO (kf (fS (fS fO)) (kf (fS (fS fO)) (kf (fS (fS fO)) kr))) ?_)
   refine Aa ⟨_, rfl, bm, [0], by kernel_rfl, .inl (.inr (fun d h => by cases h; rfl)), (fc (s0 (s2 (s1 (s1 (s3 (s3 (s3 (s3 (s3 (s3 (s3 (s3 (s3 sr))))))))))))) nm), ?_⟩
   refine ⟨_, [(85, .agg #[sL bo l5.length bp, sL bq l6.length br, vI n3, vI n4, sL bu bw bx]), (87, sL gm gn gp)], rfl, rfl, z2, by kernel_rfl, ?_⟩; intro H
   obtain ⟨rp, qj, lu, lv⟩ := BT lr
   refine BU rfl call31 rfl rfl rfl (pT ((fC (fC (fC (fS (fS (fS fP)))))).trans (pA ((fC (fC (fC fP))).trans (pA pR)))) (ln (lp (lp (ln rfl))))) (fun F2 h2 h3 => by rw [(AM.A6 ah).1]; rw [(AM.A6 ck).1]; exact IT (bj.mono kJ h2) (bk.mono kJ h2) (ah.row kN h2 (aL h3)) (ck.row kP h2 (aL (aR h3))) lu) (fun _ _ _ _ hq => by obtain ⟨gv, gw, gz, ez, rfl, rfl, cn⟩ := hq; exact ⟨_, _, _, _, rfl, rfl, cn.flat (fun _ _ h => h)⟩) ?_; rintro _ qk _ dk ia ib ⟨gv, gw, gz, ez, rfl, rfl, cn⟩
   replace al := al.m4 dk
   replace ax := ax.m4 dk
   have ic := HD (Lb' := []) (by rfl) ia ib
   replace cn := cn.new fun p hp => ic p (by simp [hp])
   refine Aw (lp (ln (lp (lp (ln rfl))))) (kO (kf (fS (fS (fS fO))) (kf (fS (fS (fS fO))) (kf (fS (fS (fS fO))) kr))) ?_)
   refine Aa ⟨_, rfl, dk, [], by kernel_rfl, .inl (.inl rfl), nm, ?_⟩
   refine mS [88] rfl (AO rfl) (mS (v := sL gv gw gz) [84] rfl (CF rfl rfl) (mS (v := vI qj) [84] rfl (CF rfl rfl) (mS [89] rfl (BB rfl) (mS [90] rfl (BB rfl) (Bo ?_)))))
   refine AJ (um ?_)
   refine uv (Bt rfl rfl) (um ?_)
   obtain ⟨eg, lx⟩ := AB lv
   refine nF eg (um (nF eg ?_))
   refine uv ((AQ underlying57 rfl).i (AM.Gh ax)) (nF eg (uv (CQ rfl rfl) (uv (AD (AL rfl eg) rfl) (um ?_))))
   obtain ⟨dr, ly⟩ := AB lx
   refine nF dr (um (nF dr ?_))
   refine uv ((AQ underlying30 rfl).i (AM.Gh al)) (nF dr (uv (BO rfl rfl) ?_))
   refine nF dr (um ?_)
   obtain ⟨fg, ma⟩ := AB ly
   refine fF fg (fF fg (nF dr ?_))
   refine uv (AD (AL rfl fg) rfl) (uv (AD (AL rfl dr) rfl) ?_)
   refine um (BV (b := false) 107 rfl rfl (um (BV (b := false) 107 rfl rfl ?_)))
   refine uv ((AQ underlying30 rfl).i (AM.Gh al)) (BV (b := false) 107 rfl rfl (uv (CQ rfl rfl) ?_))
   refine BV (b := false) 107 rfl rfl (um ?_)
   obtain ⟨cq, mb⟩ := AB ma
   refine nT cq (um (nT cq (um (nT cq ?_))))
   refine uv ((AQ underlying30 rfl).i (AM.Gh al)) (nT cq ?_)
   obtain ⟨mc, me⟩ := AB mb
   refine uv (DP rfl rfl mc) (nT cq ?_)
   obtain ⟨x, ie, ig, mg⟩ := Bi me
   obtain ⟨ql, qn, qo, p4, ij, ik, mh, rfl, p5, il⟩ := AM.at kI cn (L := (az, ce #[sL bo l5.length bp, sL bq l6.length br, vI n3, vI n4, sL bu bw bx] 50) :: ((ba, ce #[sL ct cu cv, sL cw cx cy, vI n, vI n2, sL cz da db] 26) :: ((b1, ce #[sL Aj walks.length Ai, sL Ak Af.length Al, vI Ae, vI start, sL Ad Ab.length Ac] 26) :: (ez ++ (bh ++ (ey ++ (ec ++ (ew ++ (eu ++ (bb ++ (bc ++ (bd ++ (bg ++ []))))))))))))) (fC (fC (fC fP))) ie.1 ig
   refine uv (Cx underlying22 sizeOf3 ij (AM.idx cn ie)) (nT cq (uv (AG isAgg3 rfl ik (il 0 (by decide))) ?_))
   refine nT cq (um (nT cq ?_))
   refine uv (Bt rfl rfl) (BV (b := false) 107 rfl rfl (uv (AF (AX rfl cq) rfl) (uv (AD rfl rfl) (Aa ?_))))
   obtain ⟨mj, ml⟩ := AB mg
   refine BP rfl (fun im => absurd im mj) (fun im => ?_)
   refine Ao ?_
   clear ml
   exact mi (kc (kc (kc (kx (kg (fS (fS (fS (fS (fS fP))))) (kg (fS (fS (fS (fS (fS fP))))) (kg (fS (fS (fS (fS (fS fP))))) (kg (fS (fS (fS (fS (fS fP))))) (ka kn))))))))) ⟨(((cg.trans cj).trans bm).trans dk), rfl, z6⟩
  have mn := A4 ft ff
  refine Ao ?_
  clear mn
  exact mi (kc (kc (kc (ka (ka (ka (ka (ka kn)))))))) ⟨AN.refl _, rfl, z6⟩
 replace ad := ad.m2 aw
 replace ae := ae.m2 aw
 replace aa := aa.m3 aw
 replace ab := ab.m4 aw
 replace bj := bj.m2 aw
 replace bk := bk.m2 aw
 replace ai := ai.m2 aw
 replace aj := aj.m2 aw
 replace ak := ak.m3 aw
 replace av := av.m4 aw
 replace ah := ah.m3 aw
 refine AJ (uv (CA isAgg26 sizeOf26 1) (um ?_))
 obtain ⟨cr, di, mo, mq⟩ := BT fv
 refine Bn rfl call49 rfl rfl rfl (pT ((fC (fC (fC fP))).trans (pA ((fC (fC (fC fP))).trans (pA ((fC (fC (fC fP))).trans (pA ((fC (fC (fC fP))).trans (pA pR)))))))) (lp (lp (lp (lp (ln rfl)))))) (fun F2 h2 h3 => by rw [(AM.A6 ai).1]; rw [(AM.A6 aj).1]; rw [(AM.A6 ak).1]; rw [(AM.A6 av).1]; exact M6 (ai.row kJ h2 (aL h3)) (aj.row kJ h2 (aL (aR h3))) (ak.row kN h2 (aL (aR (aR h3)))) (av.row kP h2 (aL (aR (aR (aR h3))))) mo) ?_
 refine um (ox rfl rfl rfl (ox rfl rfl rfl (ua (ua (Aa ?_)))))
 obtain ⟨w, mr, iq⟩ := Av mq
 refine jE (((az, ce #[sL bo l5.length bp, sL bq l6.length br, vI n3, vI n4, sL bu bw bx] 50) :: ((ba, ce #[sL ct cu cv, sL cw cx cy, vI n, vI n2, sL cz da db] 26) :: ((b1, ce #[sL Aj walks.length Ai, sL Ak Af.length Al, vI Ae, vI start, sL Ad Ab.length Ac] 26) :: (bb ++ (bc ++ (bd ++ (bg ++ (bh ++ []))))))))) [(1, sL A3 AE.length A2), (2, pO b1), (5, pO ba), (6, sL de df dg), (7, pO az), (8, vI w), (11, vI di), (18, .bool cr)] ?_ ?_
 ·clear iq
  refine AJ (um ?_)
  refine uv (AQ underlying41 rfl) ?_
  refine um (Aa ?_)
  refine Ap ?_
  refine Bb (fun p6 e1 F1 L1 => LA AE p6 fun tl k3 => ∃ (w2 : Int), Ck AE l5 l6 n3 n4 l7 tl k3 w2 = some w ∧ fe = F1 ∧ L1 = ((az, ce #[sL bo l5.length bp, sL bq l6.length br, vI n3, vI n4, sL bu bw bx] 50) :: ((ba, ce #[sL ct cu cv, sL cw cx cy, vI n, vI n2, sL cz da db] 26) :: ((b1, ce #[sL Aj walks.length Ai, sL Ak Af.length Al, vI Ae, vI start, sL Ad Ab.length Ac] 26) :: (bb ++ (bc ++ (bd ++ (bg ++ (bh ++ [])))))))) ∧ e1.sub [(1, sL A3 AE.length A2), (2, pO b1), (5, pO ba), (6, sL de df dg), (7, pO az), (8, vI w2), (11, vI di), (18, .bool cr), (128, sL A3 AE.length A2), (129, vI (AE.length : Int)), (130, vI k3)]) _ (m0 kr ⟨_, _, rfl, Bl.start _, n5, mr, rfl, rfl, (sc rfl (sc rfl (sc rfl z8)))⟩) ?_
  rintro p6 e1 _ _ ⟨tl, k3, ir, dv, w2, dw, rfl, rfl, iu⟩
  refine Az _ iu (AJ (uv (AV rfl rfl) ?_))
  refine Aa (Aq ?_)
  refine cQ (fun eh => ?_) fun eh => ?_
  ·obtain ⟨x2, p7, rfl, iv, iw, iy⟩ := Bl.succ dv eh
   rw [Ck] at dw
   refine Ao ?_
   refine AU (fun e1 F1 L1 => ∃ (w3 : Int), Gn k3 (Ck AE l5 l6 n3 n4 l7 p7) w3 = some w ∧ fe = F1 ∧ L1 = ((az, ce #[sL bo l5.length bp, sL bq l6.length br, vI n3, vI n4, sL bu bw bx] 50) :: ((ba, ce #[sL ct cu cv, sL cw cx cy, vI n, vI n2, sL cz da db] 26) :: ((b1, ce #[sL Aj walks.length Ai, sL Ak Af.length Al, vI Ae, vI start, sL Ad Ab.length Ac] 26) :: (bb ++ (bc ++ (bd ++ (bg ++ (bh ++ [])))))))) ∧ e1.sub [(1, sL A3 AE.length A2), (2, pO b1), (5, pO ba), (6, sL de df dg), (7, pO az), (8, vI w3), (11, vI di), (18, .bool cr), (128, sL A3 AE.length A2), (129, vI (AE.length : Int)), (130, vI k3)]) ?_ ?_
   ·refine Ap ?_
    refine AJ (um ?_)
    obtain ⟨qp, qq, qs, p8, iz, j0, dx, ⟨_, _, rfl, rfl, rfl⟩, j1, j2⟩ := Ar.ta kP ab iw.1 iv
    refine uv (Cx underlying41 sizeOf32 iz iw) (uv (AZ isAgg32 sizeOf32 rfl (j0 _) dx (Ba dx j1 j2)) ?_)
    refine Bh rfl zeroValue32 ?_; intro dt p9
    refine ua (A8 (i := 0) sizeOf32 rfl rfl rfl (by simp [Value.oneCell']) rfl (B2 rfl) (Aw rfl ?_))
    refine Aa (Aq (AJ (um ?_)))
    refine uv (Bt rfl rfl) (Aa ?_)
    refine cQ (fun fh => ?_) fun fh => ?_
    ·have mu := A5 dw fh
     refine AI (Am ?_)
     refine Ki rfl ?_
     refine Am (Am ?_)
     refine At ?_
     obtain rfl := AP mu
     exact mi (kd kr) ⟨rfl, rfl, z8⟩
    have mv := A4 dw fh
    refine Ao ?_
    obtain ⟨w4, mw, j3⟩ := Av mv
    refine jE (((dt, ce #[vI x2.1, vI x2.2] 32) :: ((az, ce #[sL bo l5.length bp, sL bq l6.length br, vI n3, vI n4, sL bu bw bx] 50) :: ((ba, ce #[sL ct cu cv, sL cw cx cy, vI n, vI n2, sL cz da db] 26) :: ((b1, ce #[sL Aj walks.length Ai, sL Ak Af.length Al, vI Ae, vI start, sL Ad Ab.length Ac] 26) :: (bb ++ (bc ++ (bd ++ (bg ++ (bh ++ [])))))))))) [(1, sL A3 AE.length A2), (2, pO b1), (5, pO ba), (6, sL de df dg), (7, pO az), (8, vI w4), (11, vI di), (18, .bool cr), (19, vI k3), (20, pO dt), (128, sL A3 AE.length A2), (129, vI (AE.length : Int)), (130, vI k3)] ?_ ?_
    ·clear j3
     refine AJ (ua (BL ?_))
     refine uv (CA isAgg50 sizeOf50 1) (uv (CA isAgg32 sizeOf32 0) ?_)
     obtain ⟨rq, mx, j4⟩ := Av mw
     refine Bn rfl call43 rfl rfl rfl (pT ((fC (fC (fC (fC (fS (fS (fS (fS fP)))))))).trans (pA pR)) (lp (ln rfl))) (fun F2 h2 h3 => by rw [(AM.A6 ah).1]; exact Lh (bj.mono kJ h2) (bk.mono kJ h2) (ah.row kN h2 (aL h3)) mx) ?_
     refine Aa ?_
     refine AR rfl (fun fi => ?_) (fun fi => ?_)
     ·have na := bt j4 fi
      refine An (ua (Aa ?_))
      obtain rfl := AP na
      exact mi kr ⟨rfl, rfl, (sc rfl (sc rfl (sc rfl (sc rfl (sc rfl z8)))))⟩
     have nc := bf j4 fi
     refine Ao ?_
     obtain rfl := AP nc
     exact mi kr ⟨rfl, rfl, (sc rfl (sc rfl (sc rfl (sc rfl (sc rfl z8)))))⟩
    refine AJ (um (um ?_))
    obtain ⟨nf, ng⟩ := AB j3
    obtain ⟨bn, nh, ni⟩ := BC ng
    obtain ⟨j5, j6, j7, dy⟩ := Ar.slice kP ab nf nh
    refine uv ((J2 (l := 0) (h := k3) underlying41 sizeOf32 rfl (.inl ⟨rfl, rfl⟩) (.inr ⟨_, rfl, rfl⟩) dy.1).eq dy.2) (uv (AQ underlying41 rfl) ?_)
    refine um (Aa ?_)
    refine Ap ?_
    refine Bb (fun pa e1 F1 L1 => LA bn pa fun pb k4 => DG k3 x2 w4 (Ck AE l5 l6 n3 n4 l7 p7) pb = some w ∧ fe = F1 ∧ L1 = ((dt, ce #[vI x2.1, vI x2.2] 32) :: ((az, ce #[sL bo l5.length bp, sL bq l6.length br, vI n3, vI n4, sL bu bw bx] 50) :: ((ba, ce #[sL ct cu cv, sL cw cx cy, vI n, vI n2, sL cz da db] 26) :: ((b1, ce #[sL Aj walks.length Ai, sL Ak Af.length Al, vI Ae, vI start, sL Ad Ab.length Ac] 26) :: (bb ++ (bc ++ (bd ++ (bg ++ (bh ++ []))))))))) ∧ e1.sub [(1, sL A3 AE.length A2), (2, pO b1), (5, pO ba), (6, sL de df dg), (7, pO az), (8, vI w4), (11, vI di), (18, .bool cr), (20, pO dt), (128, sL A3 AE.length A2), (129, vI (AE.length : Int)), (130, vI k3), (142, sL j5 bn.length j6), (143, vI (bn.length : Int)), (144, vI k4)]) _ (m0 kr ⟨_, _, rfl, Bl.start _, ni, rfl, rfl, (sc rfl (sc rfl (sc rfl (sc rfl (sc rfl (sc rfl (sc rfl z8)))))))⟩) ?_
    rintro pa e1 _ _ ⟨pb, k4, j8, dz, ei, rfl, rfl, j9⟩
    refine Az _ j9 (AJ (uv (AV rfl rfl) ?_))
    refine Aa (Aq ?_)
    refine cQ (fun ej => ?_) fun ej => ?_
    ·obtain ⟨x3, rr, rfl, ja, jb, jc⟩ := Bl.succ dz ej
     rw [DG] at ei
     refine Ao (Aq ?_)
     refine Ap (AJ ?_)
     obtain ⟨qt, qu, qw, pd, jd, je, eb, ⟨_, _, rfl, rfl, rfl⟩, jf, jg⟩ := Ar.ta kP j7 jb.1 ja
     refine uv (Cx underlying41 sizeOf32 jd jb) (uv (AZ isAgg32 sizeOf32 rfl (je _) eb (Ba eb jf jg)) ?_)
     refine Bh rfl zeroValue32 ?_; intro qx pe
     refine A8 (i := 0) sizeOf32 rfl rfl rfl (by simp [Value.oneCell']) rfl (B2 rfl) (Aw rfl (Aa ?_))
     obtain ⟨k5, jh, ji⟩ := Av ei
     refine jE (((dt, ce #[vI x2.1, vI x2.2] 32) :: ((az, ce #[sL bo l5.length bp, sL bq l6.length br, vI n3, vI n4, sL bu bw bx] 50) :: ((ba, ce #[sL ct cu cv, sL cw cx cy, vI n, vI n2, sL cz da db] 26) :: ((b1, ce #[sL Aj walks.length Ai, sL Ak Af.length Al, vI Ae, vI start, sL Ad Ab.length Ac] 26) :: (bb ++ (bc ++ (bd ++ (bg ++ (bh ++ [])))))))))) [(1, sL A3 AE.length A2), (2, pO b1), (5, pO ba), (6, sL de df dg), (7, pO az), (8, vI w4), (11, vI di), (18, .bool cr), (20, pO dt), (128, sL A3 AE.length A2), (129, vI (AE.length : Int)), (130, vI k3), (142, sL j5 bn.length j6), (143, vI (bn.length : Int)), (144, vI k4), (154, .bool k5)] ?_ ?_
     ·clear ji
      refine An (um ?_)
      refine uv (BO rfl rfl) (um ?_)
      by_cases cb : w4 = 0
      ·have nj := A5 jh cb
       refine nT cb (uv (CA isAgg32 sizeOf32 1) (nT cb (uv (CA isAgg32 sizeOf32 0) (nT cb (uv (QJ (QK _ _ _ _) (eq_32 _ _ _ _) rfl rfl) (uv (AF (AX rfl cb) rfl) (Aa ?_)))))))
       obtain rfl := AP nj
       exact mi (kd kr) ⟨rfl, rfl, (sc rfl (sc rfl (sc rfl (sc rfl (sc rfl (sc rfl (sc rfl (sc rfl z8))))))))⟩
      have nk := A4 jh cb
      refine fF cb (fF cb (fF cb ?_))
      refine uv (AD (AL rfl cb) rfl) (Aa ?_)
      obtain rfl := AP nk
      exact mi (kd kr) ⟨rfl, rfl, (sc rfl (sc rfl (sc rfl (sc rfl (sc rfl (sc rfl (sc rfl (sc rfl z8))))))))⟩
     obtain ⟨nn, np⟩ := AB ji
     refine AR rfl (fun jj => absurd (nn.symm.trans jj) (by decide)) (fun jj => ?_)
     refine Ao (Ay (id := 3) (An ?_))
     refine uv (A0 rfl rfl (Bl.Cs dz ej (Ar.lt j7))) ?_
     refine um (Aa ?_)
     subst j8; exact le kr ⟨_, _, rfl, jc, np, rfl, rfl, (sc rfl (sc rfl (sc rfl (sc rfl (sc rfl (sc rfl (sc rfl z8)))))))⟩
    obtain rfl := Bl.zero dz ej
    rw [DG] at ei
    refine AI (Am (Am ?_))
    refine At (Ay (id := 1) ?_)
    exact mi (kd kr) ⟨w4, ei, rfl, rfl, (sc rfl (sc rfl (sc rfl z8)))⟩
   rintro e1 _ _ ⟨w3, jk, rfl, rfl, jl⟩
   refine Az _ jl ?_
   rw [Gn] at jk
   refine An (uv (A0 rfl rfl (Bl.Cs dv eh (Ar.lt ab))) ?_)
   refine um (Aa ?_)
   subst ir; exact le kr ⟨_, _, rfl, iy, w3, jk, rfl, rfl, (sc rfl (sc rfl (sc rfl z8)))⟩
  obtain rfl := Bl.zero dv eh
  rw [Ck] at dw
  refine AI (Am (Am ?_))
  refine At ?_
  obtain rfl := AP dw
  exact mi kr ⟨rfl, rfl, z8⟩
 refine Aq (Bg [(.still, 0), (.still, 1), (.still, 2), (.still, 3), (.still, 4), (.still, 5), (.still, 6), (.still, 7), (.still, 8), (.still, 9), (.seq, 10), (.seq, 11), (.still, 12), (.still, 13), (.still, 14), (.still, 15), (.still, 16), (.still, 17), (.still, 18), (.seq, 19), (.still, 20), (.still, 21), (.still, 22), (.still, 23), (.seq, 24), (.still, 25), (.still, 26), (.seq, 27), (.still, 28), (.still, 29)] (by kernel_rfl) (by kernel_rfl) (Oo (by kernel_rfl)) (by rfl) (by kernel_rfl) (mS [11] rfl (AO rfl) (mS [8] rfl (AO rfl) (mS (v := .bool (decide (di = w))) [157, 158] rfl (BO rfl rfl) (mS [159] rfl (AO rfl) ?_)))))
 obtain ⟨cc, jm⟩ := AB iq
 refine Bq 160 (v := .bool cr) (ek := [(18, .bool cr), (160, .bool (decide (di = w)))]) (Ls := []) rfl rfl (Env.CY rfl cc) rfl rfl rfl (z2) (by kernel_rfl) sm (fun H F' L' ar au => AO rfl) (Bq 160 (v := vI w) (ek := [(8, vI w), (160, .bool (decide (di = w)))]) (Ls := []) rfl rfl (Env.CY rfl cc) rfl rfl rfl (z2) (by kernel_rfl) sm (fun H F' L' ar au => AO rfl) (Bq 160 (v := .bool (decide (w = 0))) (ek := [(160, .bool (decide (di = w))), (162, vI w)]) (Ls := []) rfl rfl (Env.CY rfl cc) rfl rfl rfl (z2) (by kernel_rfl) sm (fun H F' L' ar au => BO rfl rfl) (Bq 160 (v := .bool (decide (w = 0))) (ek := [(160, .bool (decide (di = w))), (163, .bool (decide (w = 0)))]) (Ls := []) rfl rfl (Env.CY rfl cc) rfl rfl rfl (z2) (by kernel_rfl) sm (fun H F' L' ar au => AO rfl) ?_)))
 by_cases ay : w = 0
 ·have nq := A5 jm ay
  refine Bq 164 (v := .agg #[sL bo l5.length bp, sL bq l6.length br, vI n3, vI n4, sL bu bw bx]) (ek := [(7, pO az), (164, .bool (decide (w = 0)))]) (Ls := [(az, ce #[sL bo l5.length bp, sL bq l6.length br, vI n3, vI n4, sL bu bw bx] 50)]) rfl rfl (Env.CY rfl ay) rfl rfl rfl (z2) (by kernel_rfl) (s0 (s2 (s1 (s1 (s3 (s3 (s3 (s3 (s3 sr))))))))) (fun H F' L' ar au => AZ isAgg50 sizeOf50 rfl ((Has.own 0 rfl).ext ar au) (B2 rfl) rfl) (Bq 164 (v := sL A3 AE.length A2) (ek := [(1, sL A3 AE.length A2), (164, .bool (decide (w = 0)))]) (Ls := []) rfl rfl (Env.CY rfl ay) rfl rfl rfl (z2) (by kernel_rfl) sm (fun H F' L' ar au => AO rfl) ?_)
  refine ⟨_, [(164, .bool (decide (w = 0))), (166, sL A3 AE.length A2)], rfl, rfl, z2, by kernel_rfl, ?_⟩; intro H
  refine nT ay ?_
  obtain ⟨ru, nr, ns⟩ := Av nq
  refine c0 call21 (CJ ab nr) ?_; rintro _ qy _ aq jn ⟨nt, nu, nv, pf, rfl, rfl, dm⟩
  replace ad := ad.m2 aq
  replace ae := ae.m2 aq
  replace aa := aa.m3 aq
  replace ab := ab.m4 aq
  replace bj := bj.m2 aq
  replace bk := bk.m2 aq
  replace ai := ai.m2 aq
  replace aj := aj.m2 aq
  replace ak := ak.m3 aq
  replace av := av.m4 aq
  replace ah := ah.m3 aq
  replace dm := dm.new fun p hp => jn p (by simp [hp])
  refine Aw (lp (ln rfl)) (kO (kf (fS fO) (kf (fS fO) (kf (fS fO) kr))) ?_)
  refine Aa ⟨_, rfl, aq, [8, 4], by kernel_rfl, .inl (.inr (fun d h => by cases h; rfl)), (fc (s0 (s2 (s1 (s1 (s3 (s3 (s3 (s3 (s3 (s3 sr)))))))))) (fc sm nm)), ?_⟩
  refine ⟨_, [(164, .bool (decide (w = 0))), (165, .agg #[sL bo l5.length bp, sL bq l6.length br, vI n3, vI n4, sL bu bw bx]), (167, sL nt nu nv)], rfl, rfl, z3, by kernel_rfl, ?_⟩; intro H
  refine nT ay ?_
  obtain ⟨en, nw, ny⟩ := Av ns
  refine Bn rfl call48 rfl rfl rfl (pT ((fC (fC (fC (fS (fS (fS (fS (fS fP)))))))).trans (pA ((fC (fC (fC fP))).trans (pA pR)))) (lp (lp (ln rfl)))) (fun F2 h2 h3 => by rw [(AM.A6 ah).1]; rw [(AM.A6 dm).1]; exact DI (bj.mono kJ h2) (bk.mono kJ h2) (ah.row kN h2 (aL h3)) (dm.row kP h2 (aL (aR h3))) nw) ?_
  refine Aa ⟨_, rfl, AN.refl _, [4], by kernel_rfl, .inl (.inr (fun d h => by cases h; rfl)), (fc sm nm), ?_⟩
  refine Bq 164 (v := .bool (decide (0 ≤ en))) (ek := [(164, .bool (decide (w = 0))), (168, vI en)]) (Ls := []) rfl rfl (Env.CY rfl ay) rfl rfl rfl (z2) (by kernel_rfl) sm (fun H F' L' ar au => HV rfl rfl) (Bq 160 (v := .bool (decide (0 ≤ en))) (ek := [(160, .bool (decide (di = w))), (164, .bool (decide (w = 0))), (169, .bool (decide (0 ≤ en)))]) (Ls := []) rfl rfl (Env.CY rfl cc) rfl rfl rfl (z3) (by kernel_rfl) sm (fun H F' L' ar au => AF (AX rfl ay) rfl) (Bq 160 (v := .bool (decide (cr = (decide (0 ≤ en))))) (ek := [(160, .bool (decide (di = w))), (161, .bool cr), (170, .bool (decide (0 ≤ en)))]) (Ls := []) rfl rfl (Env.CY rfl cc) rfl rfl rfl (z3) (by kernel_rfl) sm (fun H F' L' ar au => QM underlying4 rfl rfl) (mL [160, 171] ([]) rfl sm (fun H F' L' ar au => AF (AX rfl cc) rfl) (mL [172] ([]) rfl sm (fun H F' L' ar au => AO rfl) ?_))))
  obtain ⟨eo, nz⟩ := AB ny
  refine Bq 173 (v := .agg #[sL ct cu cv, sL cw cx cy, vI n, vI n2, sL cz da db]) (ek := [(5, pO ba), (173, .bool (decide (cr = (decide (0 ≤ en)))))]) (Ls := [(ba, ce #[sL ct cu cv, sL cw cx cy, vI n, vI n2, sL cz da db] 26)]) rfl rfl (Env.CY rfl eo) rfl rfl rfl (z2) (by kernel_rfl) (s0 (s1 (s2 (s1 (s3 (s3 (s3 (s3 (s3 (s3 sr)))))))))) (fun H F' L' ar au => AZ isAgg26 sizeOf26 rfl ((Has.own 0 rfl).ext ar au) (B2 rfl) rfl) (Bq 173 (v := .agg #[sL Aj walks.length Ai, sL Ak Af.length Al, vI Ae, vI start, sL Ad Ab.length Ac]) (ek := [(2, pO b1), (173, .bool (decide (cr = (decide (0 ≤ en)))))]) (Ls := [(b1, ce #[sL Aj walks.length Ai, sL Ak Af.length Al, vI Ae, vI start, sL Ad Ab.length Ac] 26)]) rfl rfl (Env.CY rfl eo) rfl rfl rfl (z2) (by kernel_rfl) (s0 (s1 (s1 (s2 (s3 (s3 (s3 (s3 (s3 (s3 sr)))))))))) (fun H F' L' ar au => AZ isAgg26 sizeOf26 rfl ((Has.own 0 rfl).ext ar au) (B2 rfl) rfl) ?_)
  refine ⟨_, [(173, .bool (decide (cr = (decide (0 ≤ en))))), (174, .agg #[sL ct cu cv, sL cw cx cy, vI n, vI n2, sL cz da db]), (175, .agg #[sL Aj walks.length Ai, sL Ak Af.length Al, vI Ae, vI start, sL Ad Ab.length Ac])], rfl, rfl, z3, by kernel_rfl, ?_⟩; intro H
  refine nT eo ?_
  obtain ⟨jr, o0, o1⟩ := Av nz
  refine Bn rfl call24 rfl rfl rfl (pT ((fC (fC (fC (fS fP)))).trans (pA ((fC (fC (fC (fS fP)))).trans (pA ((fC (fC (fC (fS fP)))).trans (pA pR)))))) (lp (lp (lp (ln rfl))))) (fun F2 h2 h3 => by rw [(AM.A6 ai).1]; rw [(AM.A6 aj).1]; rw [(AM.A6 ak).1]; exact CX (ai.row kJ h2 (aL h3)) (aj.row kJ h2 (aL (aR h3))) (ak.row kN h2 (aL (aR (aR h3)))) (ad.mono kJ h2) (ae.mono kJ h2) (aa.mono kN h2) o0) ?_
  refine Aa ⟨_, rfl, AN.refl _, [], by kernel_rfl, .inl (.inl rfl), nm, ?_⟩
  refine mS (v := .bool jr) [173, 176] rfl (AF (AX rfl eo) rfl) (mS [177] rfl (AO rfl) ?_)
  obtain ⟨ep, o2⟩ := AB o1
  refine Bq 178 (v := sL de df dg) (ek := [(6, sL de df dg), (178, .bool jr)]) (Ls := []) rfl rfl (LQ rfl ep) rfl rfl rfl (z2) (by kernel_rfl) sm (fun H F' L' ar au => AO rfl) (Bq 178 (v := sL A3 AE.length A2) (ek := [(1, sL A3 AE.length A2), (178, .bool jr)]) (Ls := []) rfl rfl (LQ rfl ep) rfl rfl rfl (z2) (by kernel_rfl) sm (fun H F' L' ar au => AO rfl) ?_)
  refine ⟨_, [(178, .bool jr), (179, sL de df dg), (180, sL A3 AE.length A2)], rfl, rfl, z3, by kernel_rfl, ?_⟩; intro H
  refine nB ep ?_
  obtain ⟨pg, o3, o4⟩ := Av o2
  refine Bn rfl call50 rfl rfl rfl (pT ((fC (fC (fC (fS (fS (fS (fS fP))))))).trans (pA pR)) (lp (ln rfl))) (fun F2 h2 h3 => by rw [(AM.A6 av).1]; exact HC (av.row kP h2 (aL h3)) (ab.mono kP h2) o3) ?_
  refine Aa ⟨_, rfl, AN.refl _, [], by kernel_rfl, .inl (.inl rfl), nm, ?_⟩
  refine mS (v := .bool pg) [178, 181] rfl (AF (Gl rfl ep) rfl) (mS [182] rfl (AO rfl) ?_)
  obtain ⟨jo, o6⟩ := AB o4
  refine ⟨_, [(183, .bool pg)], rfl, rfl, z1, by kernel_rfl, ?_⟩; intro H
  refine nB jo ?_
  obtain ⟨qz, o7, o8⟩ := Av o6
  refine cV call14 (B0 o7) ?_
  refine Aa ⟨_, rfl, AN.refl _, [], by kernel_rfl, .inl (.inl rfl), nm, ?_⟩
  refine mS (v := .bool qz) [183, 184] rfl (AF (Gl rfl jo) rfl) (mS [185] rfl (BB rfl) (Bo (kW kn (AA (C3 results9 ?_)))))
  obtain rfl := AP o8
  exact rfl
 have o9 := A4 jm ay
 refine Dc (ek := [(164, .bool (decide (w = 0)))]) (b' := false) 164 rfl rfl (Env.C8 rfl ay) rfl rfl rfl rfl z1 (by kernel_rfl) (Dc (ek := [(164, .bool (decide (w = 0)))]) (b' := false) 164 rfl rfl (Env.C8 rfl ay) rfl rfl rfl rfl z1 (by kernel_rfl) ?_)
 refine ⟨_, [(164, .bool (decide (w = 0))), (166, undef)], rfl, rfl, z2, by kernel_rfl, ?_⟩; intro H
 refine fF ay ?_
 refine Aa ⟨_, rfl, AN.refl _, [8, 4], by kernel_rfl, .inl (.inr (fun d h => by cases h; rfl)), (fc sm (fc sm nm)), ?_⟩
 refine ⟨_, [(164, .bool (decide (w = 0))), (165, undef), (167, undef)], rfl, rfl, z3, by kernel_rfl, ?_⟩; intro H
 refine fF ay ?_
 refine Aa ⟨_, rfl, AN.refl _, [4], by kernel_rfl, .inl (.inr (fun d h => by cases h; rfl)), (fc sm nm), ?_⟩
 refine Dc (ek := [(164, .bool (decide (w = 0)))]) (b' := false) 164 rfl rfl (Env.C8 rfl ay) rfl rfl rfl rfl z1 (by kernel_rfl) (Bq 160 (v := .bool false) (ek := [(160, .bool (decide (di = w))), (164, .bool (decide (w = 0))), (169, undef)]) (Ls := []) rfl rfl (Env.CY rfl cc) rfl rfl rfl (z3) (by kernel_rfl) sm (fun H F' L' ar au => AD (AL rfl ay) rfl) (Bq 160 (v := .bool (decide (cr = false))) (ek := [(160, .bool (decide (di = w))), (161, .bool cr), (170, .bool false)]) (Ls := []) rfl rfl (Env.CY rfl cc) rfl rfl rfl (z3) (by kernel_rfl) sm (fun H F' L' ar au => QM underlying4 rfl rfl) (mS (v := .bool (decide (cr = false))) [160, 171] rfl (AF (AX rfl cc) rfl) (mS [172] rfl (AO rfl) ?_))))
 obtain ⟨er, oc⟩ := AB o9
 refine Bq 173 (v := .agg #[sL ct cu cv, sL cw cx cy, vI n, vI n2, sL cz da db]) (ek := [(5, pO ba), (173, .bool (decide (cr = false)))]) (Ls := [(ba, ce #[sL ct cu cv, sL cw cx cy, vI n, vI n2, sL cz da db] 26)]) rfl rfl (Env.CY rfl er) rfl rfl rfl (z2) (by kernel_rfl) (s0 (s1 (s2 (s1 (s3 (s3 (s3 (s3 (s3 sr))))))))) (fun H F' L' ar au => AZ isAgg26 sizeOf26 rfl ((Has.own 0 rfl).ext ar au) (B2 rfl) rfl) (Bq 173 (v := .agg #[sL Aj walks.length Ai, sL Ak Af.length Al, vI Ae, vI start, sL Ad Ab.length Ac]) (ek := [(2, pO b1), (173, .bool (decide (cr = false)))]) (Ls := [(b1, ce #[sL Aj walks.length Ai, sL Ak Af.length Al, vI Ae, vI start, sL Ad Ab.length Ac] 26)]) rfl rfl (Env.CY rfl er) rfl rfl rfl (z2) (by kernel_rfl) (s0 (s1 (s1 (s2 (s3 (s3 (s3 (s3 (s3 sr))))))))) (fun H F' L' ar au => AZ isAgg26 sizeOf26 rfl ((Has.own 0 rfl).ext ar au) (B2 rfl) rfl) ?_)
 refine ⟨_, [(173, .bool (decide (cr = false))), (174, .agg #[sL ct cu cv, sL cw cx cy, vI n, vI n2, sL cz da db]), (175, .agg #[sL Aj walks.length Ai, sL Ak Af.length Al, vI Ae, vI start, sL Ad Ab.length Ac])], rfl, rfl, z3, by kernel_rfl, ?_⟩; intro H
 refine nT er ?_
 obtain ⟨js, od, oe⟩ := Av oc
 refine Bn rfl call24 rfl rfl rfl (pT ((fC (fC (fC fP))).trans (pA ((fC (fC (fC fP))).trans (pA ((fC (fC (fC fP))).trans (pA pR)))))) (lp (lp (lp (ln rfl))))) (fun F2 h2 h3 => by rw [(AM.A6 ai).1]; rw [(AM.A6 aj).1]; rw [(AM.A6 ak).1]; exact CX (ai.row kJ h2 (aL h3)) (aj.row kJ h2 (aL (aR h3))) (ak.row kN h2 (aL (aR (aR h3)))) (ad.mono kJ h2) (ae.mono kJ h2) (aa.mono kN h2) od) ?_
 refine Aa ⟨_, rfl, AN.refl _, [], by kernel_rfl, .inl (.inl rfl), nm, ?_⟩
 refine mS (v := .bool js) [173, 176] rfl (AF (AX rfl er) rfl) (mS [177] rfl (AO rfl) ?_)
 obtain ⟨et, og⟩ := AB oe
 refine Bq 178 (v := sL de df dg) (ek := [(6, sL de df dg), (178, .bool js)]) (Ls := []) rfl rfl (LQ rfl et) rfl rfl rfl (z2) (by kernel_rfl) sm (fun H F' L' ar au => AO rfl) (Bq 178 (v := sL A3 AE.length A2) (ek := [(1, sL A3 AE.length A2), (178, .bool js)]) (Ls := []) rfl rfl (LQ rfl et) rfl rfl rfl (z2) (by kernel_rfl) sm (fun H F' L' ar au => AO rfl) ?_)
 refine ⟨_, [(178, .bool js), (179, sL de df dg), (180, sL A3 AE.length A2)], rfl, rfl, z3, by kernel_rfl, ?_⟩; intro H
 refine nB et ?_
 obtain ⟨ph, oh, oi⟩ := Av og
 refine Bn rfl call50 rfl rfl rfl (pT ((fC (fC (fC (fS (fS (fS fP)))))).trans (pA pR)) (lp (ln rfl))) (fun F2 h2 h3 => by rw [(AM.A6 av).1]; exact HC (av.row kP h2 (aL h3)) (ab.mono kP h2) oh) ?_
 refine Aa ⟨_, rfl, AN.refl _, [], by kernel_rfl, .inl (.inl rfl), nm, ?_⟩
 refine mS (v := .bool ph) [178, 181] rfl (AF (Gl rfl et) rfl) (mS [182] rfl (AO rfl) ?_)
 obtain ⟨jq, oj⟩ := AB oi
 refine ⟨_, [(183, .bool ph)], rfl, rfl, z1, by kernel_rfl, ?_⟩; intro H
 refine nB jq ?_
 obtain ⟨oo, oq, ot⟩ := Av oj
 refine cV call14 (B0 oq) ?_
 refine Aa ⟨_, rfl, AN.refl _, [], by kernel_rfl, .inl (.inl rfl), nm, ?_⟩
 refine mS (v := .bool oo) [183, 184] rfl (AF (Gl rfl jq) rfl) (mS [185] rfl (BB rfl) (Bo (kW kn (AA (C3 results9 ?_)))))
 obtain rfl := AP ot
 exact rfl
set_option maxHeartbeats 1000000 in
theorem Mh {bk : (List (Int × Int)) → Int → Option ((List (List (Int × Int))))} (da : ∀ {ab : Option Addr} {ad : Nat} {ai : List (Int × Int)} {many : Int} {F : FS} (_ : Ar 2 eP F ab ad ai) {r : List (List (Int × Int))} , bk ai many = some r → SH.Spec Tryz.prog 93 #[sL ab ai.length ad, vI many] F [] fun F' L' v => ∃ (ra : Option Addr) (rn : Nat) (rc : Nat) (rL : LH), v = sL ra rn rc ∧ L' = rL ++ [] ∧ AM 0 57 1 (GM 2 eP) F' ra rn rc r rL) {ab : Option Addr} {ad : Nat} {ai : List (Int × Int)} {many : Int} (aa : Ar 2 eP F ab ad ai) {r : List (List (Int × Int))} (hr : IP bk ai many = some r) :
    SH.Spec Tryz.prog 93 #[sL ab ai.length ad, vI many] F [] fun F' L' v => ∃ (ra : Option Addr) (rn : Nat) (rc : Nat) (rL : LH), v = sL ra rn rc ∧ L' = rL ++ [] ∧ AM 0 57 1 (GM 2 eP) F' ra rn rc r rL := by
 refine sp func93 ntmps93 fun K _ _ => ?_
 rw [IP] at hr
 refine AJ (ua (Aa (Aq (AJ (um ?_)))))
 refine uv (BO rfl rfl) (Aa ?_)
 refine cQ (fun c1 => ?_) fun c1 => ?_
 ·have r2 := A5 hr c1
  refine AJ ?_
  refine bA (cs := #[sL none 0 0]) OB [sL none 0 0] ?_; intro b3 fj
  have et : AM K.w0.heap.size 57 1 (GM 2 eP) F (aD b3) 1 1 [[]] [(b3, ce #[sL none 0 0] 57)] := AM.BD (vss := [[sL none 0 0]]) (AT kP) fj (.cons ⟨_, _, rfl, Ar.nil _ _ _⟩ .nil) rfl rfl (by simp [maxLen])
  generalize br : ([(b3, ce #[sL none 0 0] 57)] : LH) = fk at et
  refine BA (L' := fk ++ []) (by rw [← br]; exact fO) ?_
  refine ua (Aa (AA (As ?_)))
  refine C3 results93 ?_
  obtain rfl := AP r2
  exact ⟨_, _, _, _, rfl, rfl, et.any⟩
 have r7 := A4 hr c1
 refine Ao (AJ (ua (Aa ?_)))
 obtain ⟨out, fl, eu⟩ := Av r7
 refine AU (fun e1 F1 L1 => ∃ (a8 : Option Addr) (db : Nat) (c9 : Nat) (bl : LH), AN F F1 ∧ L1 = (bl ++ []) ∧ e1.sub [(5, sL a8 db c9)] ∧ AM K.w0.heap.size 57 1 (GM 2 eP) F1 a8 db c9 out bl) ?_ ?_
 ·clear eu
  refine AJ (ua (Aa ?_))
  refine Ap ?_
  refine Bb (fun ew e1 F1 L1 => LA ai ew fun tl i => ∃ (al : List (List (Int × Int))) (bu : Option Addr) (bw : Nat) (bx : Nat) (aj : LH), ED ai many bk tl i al = some out ∧ AN F F1 ∧ L1 = (aj ++ []) ∧ e1.sub [(0, sL ab ai.length ad), (1, vI many), (5, sL bu bw bx), (6, vI i)] ∧ AM K.w0.heap.size 57 1 (GM 2 eP) F1 bu bw bx al aj) _ (m0 (ke kr) ⟨_, _, rfl, Bl.start _, [], none, 0, 0, [], fl, AN.refl _, rfl, z4, AM.nil _ _ _ _ _⟩) ?_
  rintro ew e1 fm _ ⟨tl, i, dd, ao, al, bu, bw, bx, aj, cu, bm, rfl, de, aq⟩
  refine Az _ de ?_
  replace aa := aa.m4 bm
  refine Aq (AJ (um (um ?_)))
  refine uv (AQ underlying57 rfl) (uv (AV rfl rfl) (Aa ?_))
  refine cQ (fun bz => ?_) fun bz => ?_
  ·obtain ⟨x, gv, rfl, df, ey, dg⟩ := Bl.succ ao bz
   rw [ED] at cu
   refine Ao ?_
   obtain ⟨bn, fo, ez⟩ := Av cu
   refine AU (fun e1 F1 L1 => ∃ (cv : Option Addr) (cw : Nat) (cx : Nat) (ar : LH), AN fm F1 ∧ L1 = (ar ++ []) ∧ e1.sub [(0, sL ab ai.length ad), (1, vI many), (5, sL cv cw cx), (6, vI i)] ∧ AM K.w0.heap.size 57 1 (GM 2 eP) F1 cv cw cx bn ar) ?_ ?_
   ·clear ez
    refine Ap ?_
    refine AJ (um (um ?_))
    refine uv (A0 rfl rfl (Bl.Cs ao bz (Ar.lt aa))) ?_
    obtain ⟨fp, fq⟩ := AB fo
    obtain ⟨fs, ft, fv⟩ := BC fq
    obtain ⟨gw, gz, fw, bc⟩ := Ar.slice kP aa fp ft
    refine uv ((J2 (l := i + 1) (h := (ai.length : Int)) underlying57 sizeOf56 rfl (.inr ⟨_, rfl, rfl⟩) (.inl ⟨rfl, rfl⟩) bc.1).eq bc.2) (um ?_)
    obtain ⟨fx, fy⟩ := AB fv
    refine uv (DP rfl rfl fx) ?_
    obtain ⟨l, g0, ga⟩ := Av fy
    refine c0 call93 (da fw g0) ?_; rintro _ gb _ bo dh ⟨gg, gh, gi, au, rfl, rfl, ae⟩
    replace aa := aa.m4 bo
    replace aq := aq.mono (AT kP) bo
    replace ae := ae.new fun p hp => dh p (by simp [hp])
    refine Aw (lp (ln rfl)) ?_
    refine ua (BL (ua (Aa ?_)))
    refine Ap ?_
    refine Bb (fun fa e1 F1 L1 => LA l fa fun fb k => ∃ (av : List (List (Int × Int))) (cb : Option Addr) (cc : Nat) (cf : Nat) (ak : LH), EK x fb av = some bn ∧ AN gb F1 ∧ L1 = (ak ++ (au ++ [])) ∧ e1.sub [(0, sL ab ai.length ad), (1, vI many), (5, sL cb cc cf), (6, vI i), (7, sL gg gh gi), (8, vI k)] ∧ AM K.w0.heap.size 57 1 (GM 2 eP) F1 cb cc cf av ak) _ (m0 (kg (fS fP) kr) ⟨_, _, rfl, Bl.start _, al, bu, bw, bx, aj, ga, AN.refl _, rfl, z6, aq⟩) ?_
    rintro fa e1 gj _ ⟨fb, k, di, bp, av, cb, cc, cf, ak, cy, aw, rfl, dk, ax⟩
    refine Az _ dk ?_
    replace aa := aa.m4 aw
    replace ae := ae.mono (AT kP) aw
    refine Aq (AJ (um (um ?_)))
    refine uv ((AQ underlying140 rfl).i (AM.Gh ae)) (uv (AV rfl rfl) (Aa ?_))
    refine cQ (fun cz => ?_) fun cz => ?_
    ·obtain ⟨x2, ia, rfl, dm, fe, dp⟩ := Bl.succ bp cz
     rw [EK] at cy
     refine Ao (Aq ?_)
     refine Ap (Bg [(.still, 0), (.still, 1), (.still, 2), (.still, 3), (.still, 4), (.still, 6), (.still, 7), (.still, 8), (.still, 9), (.seq, 5), (.seq, 10), (.seq, 11), (.seq, 12), (.seq, 13)] (by kernel_rfl) (by kernel_rfl) (trivial) (by rfl) (by kernel_rfl) (mS [5] rfl (AO rfl) (mS [0] rfl (AO rfl) (mS [6] rfl (AO rfl) ?_))))
     obtain ⟨ib, ic, ie, gk, dq, dr, bd, ⟨_, _, rfl, rfl, rfl⟩, dt, du⟩ := Ar.ta kP aa ey.1 df
     refine mS [32, 33] rfl (BQ underlying57 sizeOf56 rfl dq rfl ey) (mL [34] ([]) rfl sm (fun H F' L' dv dw => AZ isAgg56 sizeOf56 rfl ((dr _).ext dv dw) bd (Ba bd dt du)) (mS [7] rfl (AO rfl) (mS [8] rfl (AO rfl) ?_)))
     obtain ⟨ig, ij, ik, gl, dx, dy, ff, ⟨gm, gn, rfl, dz⟩, gp, eb⟩ := AM.at (AT kP) ae (L := au ++ []) fP fe.1 dm
     refine mS [37, 38] rfl (BQ underlying140 sizeOf57 rfl dx rfl (AM.idx ae fe)) (mL [39] (au ++ []) rfl (s0 (s3 (s4 sr))) (fun H F' L' dv dw => AG isAgg57 rfl (dy.ext dv dw) (eb 0 (by decide))) ?_)
     refine ⟨_, [(35, .agg #[vI x.1, vI x.2])], rfl, rfl, z1, by kernel_rfl, ?_⟩; intro H
     refine bA (cs := #[vI x.1, vI x.2]) Iq [.agg #[vI x.1, vI x.2]] ?_; intro ay cg
     refine Aa ⟨_, rfl, AN.refl _, [9, 8, 7, 6, 0], by kernel_rfl, .inl (.inr (fun d h => by cases h; rfl)), (fc (s0 (s1 (s3 (s4 sr)))) (fc sm (fc sm (fc sm (fc sm nm))))), ?_⟩
     refine ⟨_, [(36, sL (aD ay) 1 1), (40, sL gm x2.length gn)], rfl, rfl, z2, by kernel_rfl, ?_⟩; intro H
     have bg : AM K.w0.heap.size 56 2 eP gj (aD ay) 1 1 [(x.1, x.2)] [(ay, ce #[vI x.1, vI x.2] 56)] := AM.BD (vss := [[vI x.1, vI x.2]]) kP cg (.cons ⟨_, _, rfl, rfl, rfl⟩ .nil) rfl rfl (by simp [maxLen])
     generalize az : ([(ay, ce #[vI x.1, vI x.2] 56)] : LH) = Lb102 at bg
     refine BA (L' := Lb102 ++ (ak ++ (au ++ []))) (by rw [← az]; exact fO) ?_
     obtain ⟨l2, ec, ef, eg⟩ := DS cy
     refine Cq (xs := [(x.1, x.2)]) (ys := x2) (zs := l2) rfl Iq rfl rfl (Nat.le_refl _) (fun _ => .h) bg (Ar.src dz) ec ef (by decide) ?_; intro ba bq bb fg bh
     refine Aa ⟨_, rfl, AN.refl _, [0], by kernel_rfl, .inl (.inr (fun d h => by cases h; rfl)), (fc sm nm), ?_⟩
     refine ⟨_, [(41, sL ba bq bb)], rfl, rfl, z1, by kernel_rfl, ?_⟩; intro H
     refine bA (cs := #[sL ba bq bb]) OB [sL ba bq bb] ?_; intro eh fh
     refine Aa ⟨_, rfl, AN.refl _, [0], by kernel_rfl, .inl (.inr (fun d h => by cases h; rfl)), (fc sm nm), ?_⟩
     refine ⟨_, [(31, sL cb cc cf), (42, sL (aD eh) 1 1)], rfl, rfl, z2, by kernel_rfl, ?_⟩; intro H
     obtain rfl := (AM.A6 bh).1
     refine B6 (Nat.le_refl _) kP (fC fP) bh ?_; intro gq ah ei
     replace ae := ae.mono (AT kP) ah
     replace ax := ax.mono (AT kP) ah
     obtain ⟨l3, ej, en, eo⟩ := DS eg
     refine Cq (xs := av) (ys := [l2]) (zs := l3) rfl OB rfl rfl (Nat.le_refl _) (fun _ => .c .h) ax (Fg.box (vss := [[sL ba l2.length bb]]) (ys := [l2]) 0 rfl (AT kP) (.cons ⟨_, _, rfl, ei⟩ .nil) rfl rfl) ej en (by decide) ?_; intro cj ck cn cp cq
     refine kO (kd kr) ?_
     refine Aa ⟨_, rfl, ah, [], by kernel_rfl, .inl (.inl rfl), nm, ?_⟩
     refine ⟨_, [(43, sL cj ck cn)], rfl, rfl, z1, by kernel_rfl, ?_⟩; intro H
     refine ua ?_
     refine Aa ⟨_, rfl, AN.refl _, [], by kernel_rfl, .inl (.inl rfl), nm, ?_⟩
     refine Bo ?_
     refine Ay (id := 3) (An (um ?_))
     refine uv (A0 rfl rfl (Bl.Cs bp cz (AM.PI ae))) ?_
     refine ua (Aa ?_)
     subst di; exact le kr ⟨_, _, rfl, dp, l3, cj, ck, cn, cp, eo, (aw.trans ah), rfl, z6, cq⟩
    obtain rfl := Bl.zero bp cz
    rw [EK] at cy
    refine AI (Am (Am ?_))
    refine At (Ay (id := 1) ?_)
    obtain rfl := AP cy
    exact mi (ka kn) ⟨cb, cc, cf, ak, (bo.trans aw), rfl, z4, ax⟩
   rintro e1 gr _ ⟨cv, cw, cx, ar, bj, rfl, cr, ep⟩
   refine Az _ cr ?_
   replace aa := aa.m4 bj
   refine An (um ?_)
   refine uv (A0 rfl rfl (Bl.Cs ao bz (Ar.lt aa))) ?_
   refine ua (Aa ?_)
   subst dd; exact le kr ⟨_, _, rfl, dg, bn, cv, cw, cx, ar, ez, (bm.trans bj), rfl, z4, ep⟩
  obtain rfl := Bl.zero ao bz
  rw [ED] at cu
  refine AI (Am (Am ?_))
  refine At ?_
  obtain rfl := AP cu
  exact mi kr ⟨bu, bw, bx, aj, bm, rfl, z1, aq⟩
 rintro e1 gu _ ⟨a8, db, c9, bl, fi, rfl, ct, er⟩
 refine Az _ ct ?_
 refine AJ (um (ua (Aa (AA ?_))))
 refine C3 results93 ?_
 obtain rfl := AP eu
 exact ⟨_, _, _, _, rfl, rfl, er.any⟩
theorem MP : ∀ (fu : Nat) {aa : Option Addr} {ab : Nat} {ad : List (Int × Int)} {many : Int} {F : FS} (_ : Ar 2 eP F aa ab ad) {r : List (List (Int × Int))} , Gy fu ad many = some r → SH.Spec Tryz.prog 93 #[sL aa ad.length ab, vI many] F [] fun F' L' v => ∃ (ra : Option Addr) (rn : Nat) (rc : Nat) (rL : LH), v = sL ra rn rc ∧ L' = rL ++ [] ∧ AM 0 57 1 (GM 2 eP) F' ra rn rc r rL := by
  intro fu
  induction fu with
  | zero => intros; rename_i hr; rw [Gy] at hr; cases hr
  | succ fu ih => intros; rename_i hr; rw [Gy] at hr; exact Mh ih (by assumption) hr
set_option maxHeartbeats 1000000 in
theorem I5 (ab : Ar 1 eJ F Aj Ai walks) (ad : Ar 1 eJ F Ak Al Af) (aa : Ar 3 eN F Ad Ac Ab) {r : List (Int × Int)} {r2 : Int} (hr : Gu walks Af Ae start Ab = some (r, r2)) :
    SH.Spec Tryz.prog 51 #[.agg #[sL Aj walks.length Ai, sL Ak Af.length Al, vI Ae, vI start, sL Ad Ab.length Ac]] F [] fun F' L' v => ∃ (ra : Option Addr) (rc : Nat), v = .tuple #[sL ra r.length rc, vI r2] ∧ L' = [] ∧ Ar 2 eP F' ra rc r := by
 refine sp func51 ntmps51 fun K _ _ => ?_
 rw [Gu] at hr
 refine AJ ?_
 refine Bx rfl rfl ?_; intro b1 dp
 refine ua (ua (BL ?_))
 refine uv (CA isAgg50 sizeOf50 0) ?_
 obtain ⟨l, h2, r3⟩ := Av hr
 refine c0 call22 (Cg ab ad aa h2) ?_; rintro _ F4 _ ay cg ⟨a8, dq, c9, cj, rfl, rfl, ai⟩
 replace ab := ab.m2 ay
 replace ad := ad.m2 ay
 replace aa := aa.m3 ay
 replace ai := ai.new fun p hp => cg p (by simp [hp])
 refine Aw (lp (ln rfl)) (kO (kf (fS fO) kr) ?_)
 refine ua (Aa ?_)
 refine AU (fun e1 F1 L1 => GR = some (r, r2) ∧ AN F4 F1 ∧ L1 = [] ∧ e1.sub []) ?_ ?_
 ·refine AJ (ua (Aa ?_))
  refine Ap ?_
  obtain rfl := (AM.A6 ai).1
  refine LB (Nat.le_refl _) kP (fC fP) ai ?_; intro ck aj az
  replace ab := ab.m2 aj
  replace ad := ad.m2 aj
  replace aa := aa.m3 aj
  refine NL (fun aq e1 F1 L1 => ∃ (many : Int), CB walks Af Ae start Ab l aq many = some (r, r2) ∧ AN ck F1 ∧ L1 = [(b1, ce #[sL Aj walks.length Ai, sL Ak Af.length Al, vI Ae, vI start, sL Ad Ab.length Ac] 50)] ∧ e1.sub [(1, pO b1), (4, sL a8 l.length c9), (5, vI many)]) FU (m0 kr ⟨0, r3, AN.refl _, rfl, z3⟩) ?_
  rintro aq e1 cn _ ⟨many, ar, ah, rfl, ba⟩
  refine Az _ ba ?_
  replace ab := ab.m2 ah
  replace ad := ad.m2 ah
  replace aa := aa.m3 ah
  replace az := az.m4 ah
  rcases aq with _ | aq
  ·rw [CB] at ar; cases ar
  rw [CB] at ar
  refine Aq (AJ (um (um ?_)))
  refine uv (AQ underlying57 rfl) (uv (KM rfl rfl) (Aa ?_))
  refine cQ (fun bb => ?_) fun bb => ?_
  ·have cp := A5 ar bb
   refine Ao ?_
   refine AU (fun e1 F1 L1 => GU many (CB walks Af Ae start Ab l aq) = some (r, r2) ∧ AN cn F1 ∧ L1 = [(b1, ce #[sL Aj walks.length Ai, sL Ak Af.length Al, vI Ae, vI start, sL Ad Ab.length Ac] 50)] ∧ e1.sub [(1, pO b1), (4, sL a8 l.length c9), (5, vI many)]) ?_ ?_
   ·refine Ap ?_
    refine AJ (um (um ?_))
    obtain ⟨l2, cq, cr⟩ := Av cp
    refine c0 call93 ((MP FU) az cq) ?_; rintro _ ct _ ak bc ⟨cu, cv, cw, al, rfl, rfl, ae⟩
    replace ab := ab.m2 ak
    replace ad := ad.m2 ak
    replace aa := aa.m3 ak
    replace ae := ae.new fun p hp => bc p (by simp [hp])
    refine Aw (lp (ln rfl)) (kO (kf (fS fO) kr) ?_)
    refine ua (BL (ua (Aa ?_)))
    refine Ap ?_
    refine Bb (fun bw e1 F1 L1 => LA l2 bw fun tl i => D5 walks Af Ae start Ab many (CB walks Af Ae start Ab l aq) tl = some (r, r2) ∧ ct = F1 ∧ L1 = ((b1, ce #[sL Aj walks.length Ai, sL Ak Af.length Al, vI Ae, vI start, sL Ad Ab.length Ac] 50) :: (al ++ [])) ∧ e1.sub [(1, pO b1), (4, sL a8 l.length c9), (5, vI many), (6, sL cu cv cw), (7, vI i)]) _ (m0 kr ⟨_, _, rfl, Bl.start _, cr, rfl, rfl, z5⟩) ?_
    rintro bw e1 _ _ ⟨tl, i, bd, ao, av, rfl, rfl, bg⟩
    refine Az _ bg ?_
    refine Aq (AJ (um (um ?_)))
    refine uv ((AQ underlying140 rfl).i (AM.Gh ae)) (uv (AV rfl rfl) (Aa ?_))
    refine cQ (fun aw => ?_) fun aw => ?_
    ·obtain ⟨x, dr, rfl, au, ax, bh⟩ := Bl.succ ao aw
     rw [D5] at av
     refine Ao (Aq ?_)
     refine Ap (dW (wv (CA isAgg50 sizeOf50 0) ?_))
     refine wm (wm ?_)
     obtain ⟨dt, du, dv, cx, bj, bk, bx, ⟨dw, dx, rfl, cy⟩, cz, bl⟩ := AM.at (AT kP) ae (L := (b1, ce #[sL Aj walks.length Ai, sL Ak Af.length Al, vI Ae, vI start, sL Ad Ab.length Ac] 50) :: (al ++ [])) (fC fP) ax.1 au
     refine wv (Cx underlying140 sizeOf57 bj (AM.idx ae ax)) (wv (AG isAgg57 rfl bk (bl 0 (by decide))) ?_)
     obtain ⟨n, da, bz⟩ := Av av
     refine ES rfl call48 rfl rfl rfl (DI ab ad aa cy da) (wv (AV rfl rfl) (B1 ?_))
     refine cQ (fun bm => ?_) fun bm => ?_
     ·have db := A5 bz bm
      refine AJ (um (um ?_))
      obtain ⟨dy, dz, eb, dd, bn, bo, cb, ⟨ec, ef, rfl, de⟩, df, bp⟩ := AM.at (AT kP) ae (L := (b1, ce #[sL Aj walks.length Ai, sL Ak Af.length Al, vI Ae, vI start, sL Ad Ab.length Ac] 50) :: (al ++ [])) (fC fP) ax.1 au
      refine uv (Cx underlying140 sizeOf57 bn (AM.idx ae ax)) (uv (AG isAgg57 rfl bo (bp 0 (by decide))) ?_)
      refine ua (ua (Aa ?_))
      refine kW kn ?_
      refine AA (AK (As (As (AK (AK (As (As (AK (As ?_)))))))))
      refine BG results51 (AH rfl) (AH rfl) (sr) ?_
      obtain ⟨rfl, rfl⟩ := B9 db
      exact ⟨_, _, rfl, rfl, de⟩
     have dg := A4 bz bm
     refine Ao (Ay (id := 3) (An (um ?_)))
     refine uv (A0 rfl rfl (Bl.Cs ao aw (AM.PI ae))) ?_
     refine ua (Aa ?_)
     subst bd; exact le kr ⟨_, _, rfl, bh, dg, rfl, rfl, z5⟩
    obtain rfl := Bl.zero ao aw
    rw [D5] at av
    refine AI (Am (Am ?_))
    refine At (Ay (id := 1) ?_)
    exact mi (kc kn) ⟨av, ak, rfl, z3⟩
   rintro e1 eg _ ⟨cc, bq, rfl, br⟩
   refine Az _ br ?_
   rw [GU] at cc
   refine An (um ?_)
   obtain ⟨dh, di⟩ := AB cc
   refine uv (A0 rfl rfl dh) ?_
   refine ua (Aa ?_)
   refine lf ?_
   exact mf kr ⟨many + 1, di, (ah.trans bq), rfl, z3⟩
  have dk := A4 ar bb
  refine AI (Am (Am ?_))
  refine At ?_
  exact mi kn ⟨dk, (aj.trans ah), rfl, (sn _)⟩
 rintro e1 eh _ ⟨cf, dm, rfl, bu⟩
 refine Az _ bu ?_
 rw [GR] at cf
 refine AJ (ua (ua (Aa (AA ?_))))
 refine BG results51 (AH rfl) (AH rfl) (sr) ?_
 obtain ⟨rfl, rfl⟩ := B9 cf
 exact ⟨_, _, rfl, rfl, Ar.nil _ _ _⟩
theorem M9 (ab : Ar 1 eJ F Aj Ai walks) (ad : Ar 1 eJ F Ak Al Af) (aa : Ar 3 eN F Ad Ac Ab) {r : List (Int × Int)} {r2 : Int} (hr : JP walks Af Ae start Ab = some (r, r2)) :
    SH.Spec Tryz.prog 52 #[.agg #[sL Aj walks.length Ai, sL Ak Af.length Al, vI Ae, vI start, sL Ad Ab.length Ac]] F [] fun F' L' v => ∃ (ra : Option Addr) (rn : Nat) (rc : Nat) (rL : LH), v = .tuple #[sL ra rn rc, vI r2] ∧ L' = rL ++ [] ∧ AM 0 32 2 eP F' ra rn rc r rL := by
 refine sp func52 ntmps52 fun K _ _ => ?_
 rw [JP] at hr
 refine AJ ?_
 refine Bx rfl rfl ?_; intro b1 aj
 refine ua (ua (BL ?_))
 refine uv (CA isAgg26 sizeOf26 0) ?_
 obtain ⟨l, n, h2, r3⟩ := BT hr
 refine c0 call54 (JG ab ad aa h2) ?_; rintro _ F4 _ ak ah ⟨a8, al, c9, ai, rfl, rfl, ae⟩
 replace ae := ae.new fun p hp => ah p (by simp [hp])
 refine Aw (lp (ln rfl)) (kO (kf (fS fO) kr) ?_)
 refine ox rfl rfl rfl (ox rfl rfl rfl (ua (ua (Aa ?_))))
 refine kW (kd kr) (AA (BG results52 (AH rfl) (AH rfl) (sr) ?_))
 obtain ⟨rfl, rfl⟩ := B9 r3
 exact ⟨_, _, _, _, rfl, rfl, ae.any⟩
set_option maxHeartbeats 1000000 in
theorem J5 (ae : Ar 1 eJ F Aj Ai walks) (ah : Ar 1 eJ F Ak Al Af) (ad : Ar 3 eN F Ad Ac Ab) {r r2 : List (List Int)} {r4 : Int} {r5 : List ((List Int) × Int × Int)} (hr : HP walks Af Ae start Ab minute = some (r, r2, r3, r4, r5)) :
    SH.Spec Tryz.prog 53 #[.agg #[sL Aj walks.length Ai, sL Ak Af.length Al, vI Ae, vI start, sL Ad Ab.length Ac], vI minute] F [] fun F' L' v => ∃ (ra : Option Addr) (rc : Nat) (bn : Option Addr) (bo : Nat) (bp : Option Addr) (bq : Nat) (br : Nat) (bu : LH), v = .agg #[sL ra r.length rc, sL bn r2.length bo, vI r3, vI r4, sL bp bq br] ∧ L' = bu ++ [] ∧ Ar 1 eJ F' ra rc r ∧ Ar 1 eJ F' bn bo r2 ∧ AM 0 110 3 eN F' bp bq br r5 bu := by
 refine sp func53 ntmps53 fun K _ _ => ?_
 rw [HP] at hr
 refine AJ ?_
 refine Bx rfl rfl ?_; intro b1 cv
 refine Bh rfl zeroValue50 ?_; intro b2 cw
 refine BL (uv (Ah IZ rfl) (uv (BM isAgg23 1) (uv (Ah Hn rfl) (uv (BM isAgg23 1) (uv (Ah LK rfl) (uv (BM isAgg3 1) (uv (Ah MH rfl) ?_)))))))
 refine uv (BM isAgg3 1) ?_
 refine uv (BI (v := .agg #[sL Aj walks.length Ai, sL Ak Af.length Al, vI Ae, vI start, sL none 0 0]) rfl (by intro w; kernel_rfl)) ?_
 refine Bh rfl zeroValue50 ?_; intro b3 cx
 refine A8 (i := 0) sizeOf50 rfl rfl rfl (by simp [Value.oneCell']) rfl (B2 rfl) (Aw rfl (Aa ?_))
 obtain ⟨ab, cb, bw⟩ := Av hr
 refine AU (fun e1 F1 L1 => ∃ (a4 : Option Addr) (n8 : Nat) (c5 : Nat) (aw : LH), F = F1 ∧ L1 = ((b3, ce #[sL Aj walks.length Ai, sL Ak Af.length Al, vI Ae, vI start, sL a4 n8 c5] 50) :: ((b2, ce #[sL none 0 0, sL none 0 0, vI 0, vI 0, sL none 0 0] 50) :: (aw ++ []))) ∧ e1.sub [(4, pO b2), (5, pO b3)] ∧ AM K.w0.heap.size 110 3 eN F1 a4 n8 c5 ab aw) ?_ ?_
 ·clear bw
  refine AJ (ua (Aa ?_))
  refine Ap ?_
  refine Bb (fun bx e1 F1 L1 => LA Ab bx fun tl n => ∃ (aa : List ((List Int) × Int × Int)) (ao : Option Addr) (aq : Nat) (ar : Nat) (ai : LH), E0 minute tl aa = some ab ∧ F = F1 ∧ L1 = ((b3, ce #[sL Aj walks.length Ai, sL Ak Af.length Al, vI Ae, vI start, sL ao aq ar] 50) :: ((b2, ce #[sL none 0 0, sL none 0 0, vI 0, vI 0, sL none 0 0] 50) :: ((b1, ce #[sL Aj walks.length Ai, sL Ak Af.length Al, vI Ae, vI start, sL Ad Ab.length Ac] 50) :: (ai ++ [])))) ∧ e1.sub [(1, vI minute), (2, pO b1), (4, pO b2), (5, pO b3), (6, vI n)] ∧ AM K.w0.heap.size 110 3 eN F1 ao aq ar aa ai) _ (m0 (kc (kc (kc (ke kr)))) ⟨_, _, rfl, Bl.start _, [], none, 0, 0, [], cb, rfl, rfl, z5, AM.nil _ _ _ _ _⟩) ?_
  rintro bx e1 _ _ ⟨tl, n, ax, ak, aa, ao, aq, ar, ai, au, rfl, rfl, ay, al⟩
  refine Az _ ay ?_
  refine Aq (AJ (um ?_))
  refine uv (Ah C9 rfl) (uv (BM isAgg48 2) (uv (AQ underlying48 rfl) (uv (AV rfl rfl) (Aa ?_))))
  refine cQ (fun av => ?_) fun av => ?_
  ·obtain ⟨x, cy, rfl, az, bz, ba⟩ := Bl.succ ak av
   rw [E0] at au
   refine Ao (Aq ?_)
   refine Ap (AJ (uv (Ah C9 rfl) (uv (BM isAgg48 2) (um ?_))))
   obtain ⟨cz, da, db, cc, bb, bc, aj, ⟨_, _, rfl, ⟨bd, bg, rfl, cf⟩, ⟨_, _, rfl, rfl, rfl⟩⟩, bh, bj⟩ := Ar.ta kN ad bz.1 az
   refine uv (Cx underlying48 sizeOf110 bb bz) (uv (AZ isAgg110 sizeOf110 rfl (bc _) aj (Ba aj bh bj)) ?_)
   refine Bh rfl zeroValue110 ?_; intro dd cg
   refine A8 (i := 0) sizeOf110 rfl rfl rfl (by simp [Value.oneCell']) rfl (B2 rfl) (Aw rfl (BL (uv (Ah JF rfl) (uv (BM isAgg3 0) (um (uv (PA rfl rfl) (uv (Ah JF rfl) ?_)))))))
   refine By (i := 0) sizeOf3 rfl rfl rfl rfl (B2 rfl) (Aw rfl ?_)
   refine Aa (An ?_)
   refine uv (Ah C9 rfl) (uv (BM isAgg48 1) (uv (CA isAgg110 sizeOf110 0) ?_))
   refine bA (cs := #[sL bd x.1.length bg, vI x.2.1, vI (if minute < x.2.2 then minute else x.2.2)]) OV [.agg #[sL bd x.1.length bg, vI x.2.1, vI (if minute < x.2.2 then minute else x.2.2)]] ?_; intro de cj
   obtain ⟨out, ck, cn, cp⟩ := DS au
   refine Cq (xs := aa) (ys := [(x.1, x.2.1, if minute < x.2.2 then minute else x.2.2)]) (zs := out) rfl OV rfl rfl (Nat.le_refl _) (fun _ => .c (.c (.c (.c (.c .h))))) al (Fg.box (vss := [[sL bd x.1.length bg, vI x.2.1, vI (if minute < x.2.2 then minute else x.2.2)]]) (ys := [(x.1, x.2.1, if minute < x.2.2 then minute else x.2.2)]) 0 rfl kN (.cons ⟨_, _, rfl, ⟨_, _, rfl, cf⟩, ⟨_, _, rfl, rfl, rfl⟩⟩ .nil) rfl rfl) ck cn (by decide) ?_; intro cq cr ct bk bl
   refine kO (kd kr) (uv (Ah C9 rfl) (By (i := 1) sizeOf48 rfl rfl rfl rfl (B2 rfl) (Aw rfl ?_)))
   refine Aa (Ay (id := 1) (An (um ?_)))
   refine uv (A0 rfl rfl (Bl.Cs ak av (Ar.lt ad))) ?_
   refine ua (Aa ?_)
   subst ax; exact le (kd kr) ⟨_, _, rfl, ba, out, cq, cr, ct, bk, cp, rfl, rfl, z5, bl⟩
  obtain rfl := Bl.zero ak av
  rw [E0] at au
  refine AI (Am (Am ?_))
  refine At ?_
  obtain rfl := AP au
  exact mi (kc (kc (kd kr))) ⟨ao, aq, ar, ai, rfl, rfl, z2, al⟩
 rintro e1 _ _ ⟨a4, n8, c5, aw, rfl, rfl, bm, cu⟩
 refine Az _ bm (AJ (uv (CA isAgg50 sizeOf50 0) (A8 (i := 1) sizeOf50 rfl rfl rfl (by simp [Value.oneCell']) rfl (B2 rfl) (Aw rfl (Aa (kW (kd kr) (AA ?_)))))))
 refine KY results53 (Fq (cs := #[sL Aj walks.length Ai, sL Ak Af.length Al, vI Ae, vI start, sL a4 n8 c5]) isAgg50 sizeOf50 rfl (Has.own 0 rfl) (B2 rfl) rfl) (s1 (s4 sr)) ?_
 obtain ⟨rfl, rfl, rfl, rfl, rfl⟩ := QN bw
 exact ⟨_, _, _, _, _, _, _, _, rfl, rfl, ae, ah, cu.any⟩
set_option maxHeartbeats 1000000 in
theorem Hv (ab : Ar 1 eJ F Aj Ai walks) (ad : Ar 1 eJ F Ak Al Af) (aa : Ar 3 eN F Ad Ac Ab) {r : Bool} (hr : Ez walks Af Ae start Ab minute = some r) :
    Bv Tryz.prog 10 #[.agg #[sL Aj walks.length Ai, sL Ak Af.length Al, vI Ae, vI start, sL Ad Ab.length Ac], vI minute] F (.bool r) := by
 refine sp func10 ntmps10 fun K _ _ => ?_
 rw [Ez] at hr
 refine AJ ?_
 refine Bx rfl rfl ?_; intro b1 lg
 refine ua (Aa (Aq (AJ ?_)))
 refine uv (CA isAgg26 sizeOf26 0) ?_
 obtain ⟨ok, h2, r3⟩ := Av hr
 refine cV call15 (DQ ab ad aa h2) (um ?_)
 obtain ⟨g4, r5⟩ := AB r3
 refine nB g4 (uv (CA isAgg26 sizeOf26 0) (nB g4 ?_))
 obtain ⟨lh, h6, r7⟩ := Av r5
 refine cV call45 (IM ab ad aa h6) (uv (AD (Gl rfl g4) rfl) (Aa ?_))
 obtain ⟨g9, ja⟩ := AB r7
 refine AR rfl (fun j5 => absurd (g9.symm.trans j5) (by decide)) (fun j5 => ?_)
 refine Ao (Aq ?_)
 refine Bg [(.pre, 4), (.pre, 5), (.still, 0), (.still, 2), (.seq, 1), (.seq, 3), (.alloc (.cells (.agg #[sL none 0 0, sL none 0 0, vI 0, vI 0, sL none 0 0] : Value).cells 26 (0, 0)) (fun b => pO b) [], 4), (.alloc (.cells (.agg #[sL none 0 0, sL none 0 0, vI 0, vI 0, sL none 0 0] : Value).cells 50 (0, 0)) (fun b => pO b) [], 5), (.seq, 6), (.seq, 7)] (by kernel_rfl) (by kernel_rfl) (⟨⟨_, _, rfl, rfl, rfl, rfl, rfl, EI zeroValue26⟩, ⟨⟨_, _, rfl, rfl, rfl, rfl, rfl, EI zeroValue50⟩, trivial⟩⟩) (by rfl) (by kernel_rfl) ?_
 refine ⟨⟨[], rfl, sn _, by kernel_rfl⟩, ?_⟩
 refine ⟨⟨[], rfl, sn _, by kernel_rfl⟩, ?_⟩
 refine mL [2] ([(b1, ce #[sL Aj walks.length Ai, sL Ak Af.length Al, vI Ae, vI start, sL Ad Ab.length Ac] 26)]) rfl (s0 sr) (fun H F' L' ez fa => AZ isAgg26 sizeOf26 rfl ((Has.own 0 rfl).ext ez fa) (B2 rfl) rfl) (mL [2] ([(b1, ce #[sL Aj walks.length Ai, sL Ak Af.length Al, vI Ae, vI start, sL Ad Ab.length Ac] 26)]) rfl (s0 sr) (fun H F' L' ez fa => AZ isAgg26 sizeOf26 rfl ((Has.own 0 rfl).ext ez fa) (B2 rfl) rfl) ?_)
 refine ⟨_, [(19, .agg #[sL Aj walks.length Ai, sL Ak Af.length Al, vI Ae, vI start, sL Ad Ab.length Ac])], rfl, rfl, z1, by kernel_rfl, ?_⟩; intro H
 obtain ⟨l, l2, n, n2, l3, jb, jc⟩ := Fx ja
 refine c0 call16 (DX ab ad aa jb) ?_; rintro _ lj _ br bz ⟨cq, cr, ct, bd, cu, cv, cw, bg, cx, cy, cz, bh, rfl, rfl, ae, ah, ai⟩
 replace ab := ab.m2 br
 replace ad := ad.m2 br
 replace aa := aa.m3 br
 replace ae := ae.new fun p hp => bz p (by simp [hp])
 replace ah := ah.new fun p hp => bz p (by simp [hp])
 replace ai := ai.new fun p hp => bz p (by simp [hp])
 refine Aw (lp (lp (lp (ln rfl)))) (kO (kf (fS (fS (fS fO))) kr) ?_)
 refine Aa ⟨_, rfl, br, [2], by kernel_rfl, .inl (.inr (fun d h => by cases h; rfl)), (fc (s0 (s2 (s3 (s3 (s3 sr))))) nm), ?_⟩
 refine ⟨_, [(21, .agg #[sL Aj walks.length Ai, sL Ak Af.length Al, vI Ae, vI start, sL Ad Ab.length Ac])], rfl, rfl, z1, by kernel_rfl, ?_⟩; intro H
 obtain ⟨l4, l5, n3, n4, l6, jd, je⟩ := Fx jc
 refine c0 call17 (CP ab ad aa jd) ?_; rintro _ jf _ bb fb ⟨er, et, eu, ew, fe, jg, ff, da, rfl, rfl, bl, bm, ay⟩
 replace ab := ab.m2 bb
 replace ad := ad.m2 bb
 replace aa := aa.m3 bb
 replace ae := ae.m2 bb
 replace ah := ah.m2 bb
 replace ai := ai.m3 bb
 replace ay := ay.new fun p hp => fb p (by simp [hp])
 refine Aw (lp (ln rfl)) (kO (kf (fS fO) kr) ?_)
 refine Aa ⟨_, rfl, bb, [], by kernel_rfl, .inl (.inl rfl), nm, ?_⟩
 refine FT rfl ?_; intro bn jh
 refine GI (L' := (bn, ce #[sL none 0 0, sL none 0 0, vI 0, vI 0, sL none 0 0] 26) :: ((b1, ce #[sL Aj walks.length Ai, sL Ak Af.length Al, vI Ae, vI start, sL Ad Ab.length Ac] 26) :: (da ++ (bd ++ (bg ++ (bh ++ [])))))) rfl ?_
 refine FT rfl ?_; intro bw ji
 refine GI (L' := (bw, ce #[sL none 0 0, sL none 0 0, vI 0, vI 0, sL none 0 0] 50) :: ((bn, ce #[sL none 0 0, sL none 0 0, vI 0, vI 0, sL none 0 0] 26) :: ((b1, ce #[sL Aj walks.length Ai, sL Ak Af.length Al, vI Ae, vI start, sL Ad Ab.length Ac] 26) :: (da ++ (bd ++ (bg ++ (bh ++ []))))))) rfl ?_
 refine ⟨_, [(5, pO bn), (20, .agg #[sL cq cr ct, sL cu cv cw, vI n, vI n2, sL cx cy cz])], rfl, rfl, z2, by kernel_rfl, ?_⟩; intro H
 refine A8 (i := 1) sizeOf26 rfl rfl rfl (by simp [Value.oneCell']) rfl (B2 rfl) (Aw rfl ?_)
 refine Aa ⟨undef, rfl, AN.refl _, [], by kernel_rfl, .inl (.inl rfl), nm, ?_⟩
 refine ⟨_, [(6, pO bw), (22, .agg #[sL er l4.length et, sL eu l5.length ew, vI n3, vI n4, sL fe jg ff])], rfl, rfl, z2, by kernel_rfl, ?_⟩; intro H
 refine A8 (i := 0) sizeOf50 rfl rfl rfl (by simp [Value.oneCell']) rfl (B2 rfl) (Aw rfl ?_)
 refine Aa ⟨undef, rfl, AN.refl _, [], by kernel_rfl, .inl (.inl rfl), nm, ?_⟩
 refine Bo (AJ (uv (CA isAgg50 sizeOf50 0) ?_))
 obtain ⟨n5, jj, jk⟩ := Av je
 refine Bn rfl call18 rfl rfl rfl (pT ((fC (fC (fC fP))).trans (pA pR)) (lp (ln rfl))) (fun F2 h2 h3 => by rw [(AM.A6 ay).1]; exact C1 (bl.mono kJ h2) (bm.mono kJ h2) (ay.row kN h2 (aL h3)) jj) ?_
 refine ua (BL (um (ua (BL (ua (Aa ?_))))))
 obtain ⟨aj, v, want, j6, j7⟩ := Ia jk
 refine P0 (fun e1 F1 L1 => ∃ (db : Option Addr) (dd : Nat) (fg : Option Addr) (fh : Nat), AN jf F1 ∧ L1 = ((bw, ce #[sL er l4.length et, sL eu l5.length ew, vI n3, vI n4, sL db aj.length dd] 50) :: ((bn, ce #[sL cq cr ct, sL cu cv cw, vI n, vI n2, sL cx cy cz] 26) :: ((b1, ce #[sL Aj walks.length Ai, sL Ak Af.length Al, vI Ae, vI start, sL Ad Ab.length Ac] 26) :: (bd ++ (bg ++ (bh ++ [])))))) ∧ e1.sub [(1, vI minute), (2, pO b1), (5, pO bn), (6, pO bw), (7, vI n5), (8, vI v), (9, sL fg want.length fh)] ∧ Ar 3 eN F1 db dd aj ∧ Ar 2 eP F1 fg fh want) ?_ ?_
 ·clear j7
  refine AJ (um ?_)
  refine uv (BO rfl rfl) (Aa ?_)
  refine cQ (fun fi => ?_) fun fi => ?_
  ·have jl := A5 j6 fi
   refine An (uv (CA isAgg50 sizeOf50 0) ?_)
   obtain rfl := (AM.A6 ay).1
   refine B6 (Nat.le_refl _) kN (fC (fC (fC fP))) ay ?_; intro lk cb ey
   replace bl := bl.m2 cb
   replace bm := bm.m2 cb
   obtain ⟨l7, n6, jm, jn⟩ := BT jl
   refine c0 call51 (I5 bl bm ey jm) ?_; rintro _ ll _ de jo ⟨jq, jr, rfl, rfl, js⟩
   replace ey := ey.m3 de
   refine Aw (ln rfl) ?_
   refine um (ox rfl rfl rfl (ox rfl rfl rfl (ua (ua (Aa ?_)))))
   obtain ⟨rfl, rfl, rfl⟩ := Kw jn
   exact mf kr ⟨fe, ff, jq, jr, (cb.trans de), rfl, z7, ey, js⟩
  have jt := A4 j6 fi
  refine Ao ?_
  obtain rfl := (AM.A6 ay).1
  refine OS (Nat.le_refl _) kN (fC (fC (fC fP))) ay ?_; intro lq fj ju
  obtain ⟨rfl, rfl, rfl⟩ := Kw jt
  exact mf kr ⟨fe, ff, none, 0, fj, rfl, z7, ju, Ar.nil _ _ _⟩
 rintro e1 lr _ ⟨db, dd, fg, fh, az, rfl, fk, df, dg⟩
 refine Az _ fk ?_
 replace ab := ab.m2 az
 replace ad := ad.m2 az
 replace aa := aa.m3 az
 replace bl := bl.m2 az
 replace bm := bm.m2 az
 replace ae := ae.m2 az
 replace ah := ah.m2 az
 replace ai := ai.m3 az
 refine AJ (uv (CA isAgg26 sizeOf26 1) ?_)
 obtain ⟨l8, n7, jv, jw⟩ := BT j7
 refine BU rfl call52 rfl rfl rfl (pT ((fC (fC (fC fP))).trans (pA ((fC (fC (fC fP))).trans (pA ((fC (fC (fC fP))).trans (pA pR)))))) (ln (lp (lp (lp (ln rfl)))))) (fun F2 h2 h3 => by rw [(AM.A6 ae).1]; rw [(AM.A6 ah).1]; rw [(AM.A6 ai).1]; exact M9 (ae.row kJ h2 (aL h3)) (ah.row kJ h2 (aL (aR h3))) (ai.row kN h2 (aL (aR (aR h3)))) jv) (fun _ _ _ _ hq => by obtain ⟨jx, fl, jz, fm, rfl, rfl, bj⟩ := hq; exact ⟨_, _, _, _, rfl, rfl, bj.flat (fun _ _ h => h)⟩) ?_; rintro _ lu _ ar fo fp ⟨jx, fl, jz, fm, rfl, rfl, bj⟩
 replace ab := ab.m2 ar
 replace ad := ad.m2 ar
 replace aa := aa.m3 ar
 replace bl := bl.m2 ar
 replace bm := bm.m2 ar
 replace df := df.m3 ar
 replace dg := dg.m4 ar
 replace ae := ae.m2 ar
 replace ah := ah.m2 ar
 replace ai := ai.m3 ar
 have dh := HD (Lb' := []) (by rfl) fo fp
 replace bj := bj.new fun p hp => dh p (by simp [hp])
 refine Aw (lp (ln (lp (lp (lp (ln rfl)))))) (kO (kf (fS (fS (fS (fS fO)))) (kf (fS (fS (fS (fS fO)))) (kf (fS (fS (fS (fS fO)))) kr))) ?_)
 refine um (ox rfl rfl rfl (ox rfl rfl rfl (ua (ua (Aa (Aq (AJ (um (um ?_)))))))))
 refine uv (Bt rfl rfl) (um ?_)
 obtain ⟨bk, fq⟩ := AB jw
 refine nF bk (um (nF bk ?_))
 obtain ⟨l9, fs, ft⟩ := Av fq
 refine BU rfl call21 rfl rfl rfl (pT ((fC (fC (fC fP))).trans (pA pR)) (ln (lp (ln rfl)))) (fun F2 h2 h3 => by rw [(AM.A6 bj).1]; exact CJ (bj.row kP h2 (aL h3)) fs) (fun _ _ _ _ hq => by obtain ⟨fv, fw, fx, di, rfl, rfl, au⟩ := hq; exact ⟨_, _, _, _, rfl, rfl, au.flat (fun _ _ h => h)⟩) ?_; rintro _ fy _ ak dk dm ⟨fv, fw, fx, di, rfl, rfl, au⟩
 replace ab := ab.m2 ak
 replace ad := ad.m2 ak
 replace aa := aa.m3 ak
 replace bl := bl.m2 ak
 replace bm := bm.m2 ak
 replace df := df.m3 ak
 replace dg := dg.m4 ak
 replace ae := ae.m2 ak
 replace ah := ah.m2 ak
 replace ai := ai.m3 ak
 have dp := HD (Lb' := []) (by rfl) dk dm
 replace au := au.new fun p hp => dp p (by simp [hp])
 refine Aw (lp (ln (lp (ln rfl)))) (kO (kf (fS (fS fO)) (kf (fS (fS fO)) (kf (fS (fS fO)) kr))) ?_)
 refine nF bk (um (nF bk ?_))
 obtain ⟨lv, g0, ga⟩ := Av ft
 refine Bn rfl call20 rfl rfl rfl (pT ((fC (fC (fC fP))).trans (pA pR)) (lp (ln rfl))) (fun F2 h2 h3 => by rw [(AM.A6 au).1]; exact CL (au.row kP h2 (aL h3)) (dg.mono kP h2) g0) ?_
 refine nF bk (uv (Bz rfl) (uv (AD (AL rfl bk) rfl) (Aa ?_)))
 obtain ⟨gb, gg⟩ := AB ga
 refine AR rfl (fun dq => absurd (gb.symm.trans dq) (by decide)) (fun dq => ?_)
 refine Ao ?_
 obtain ⟨w, gh, dr⟩ := Av gg
 refine jE (((bw, ce #[sL er l4.length et, sL eu l5.length ew, vI n3, vI n4, sL db aj.length dd] 50) :: ((bn, ce #[sL cq cr ct, sL cu cv cw, vI n, vI n2, sL cx cy cz] 26) :: ((b1, ce #[sL Aj walks.length Ai, sL Ak Af.length Al, vI Ae, vI start, sL Ad Ab.length Ac] 26) :: (bd ++ (bg ++ (bh ++ []))))))) [(1, vI minute), (2, pO b1), (5, pO bn), (6, pO bw), (7, vI w), (9, sL none 0 0)] ?_ ?_
 ·clear dr
  refine AJ (ua (Aa ?_))
  obtain ⟨k, dt, cc⟩ := Av gh
  refine jE (((bw, ce #[sL er l4.length et, sL eu l5.length ew, vI n3, vI n4, sL db aj.length dd] 50) :: ((bn, ce #[sL cq cr ct, sL cu cv cw, vI n, vI n2, sL cx cy cz] 26) :: ((b1, ce #[sL Aj walks.length Ai, sL Ak Af.length Al, vI Ae, vI start, sL Ad Ab.length Ac] 26) :: (bd ++ (bg ++ (bh ++ []))))))) [(1, vI minute), (2, pO b1), (5, pO bn), (6, pO bw), (7, vI n5), (9, sL none 0 0), (57, .bool k)] ?_ ?_
  ·clear cc
   refine An (um ?_)
   refine uv (BO rfl rfl) (um ?_)
   by_cases al : n5 = 0
   ·have du := A5 dt al
    refine nT al (um (nT al ?_))
    refine uv (AV rfl rfl) ?_
    refine nT al (um ?_)
    by_cases ba : minute < 0
    ·have gi := A5 du ba
     refine fT ba (fT ba (nT al ?_))
     refine uv (AF (AX rfl ba) rfl) (uv (AF (AX rfl al) rfl) (Aa ?_))
     obtain rfl := AP gi
     exact mi (kc (kc (kc (kx (kx kr))))) ⟨rfl, rfl, z7⟩
    have gj := A4 du ba
    refine nF ba (um (nF ba ?_))
    refine uv (CQ rfl rfl) (nT al (uv (AD (AL rfl ba) rfl) (uv (AF (AX rfl al) rfl) (Aa ?_))))
    obtain rfl := AP gj
    exact mi (kc (kc (kc (kx (kx kr))))) ⟨rfl, rfl, z7⟩
   have gk := A4 dt al
   refine fF al (fF al (fF al (fU (fU (fF al ?_)))))
   refine uv (AD (AL rfl al) rfl) (Aa ?_)
   obtain rfl := AP gk
   exact mi (kc (kc (kc (kx (kx kr))))) ⟨rfl, rfl, z7⟩
  refine AR rfl (fun cf => ?_) (fun cf => ?_)
  ·have gl := bt cc cf
   refine An (ua (Aa ?_))
   obtain rfl := AP gl
   exact mi kr ⟨rfl, rfl, z6⟩
  have gm := bf cc cf
  refine Ao ?_
  obtain rfl := AP gm
  exact mi kr ⟨rfl, rfl, z6⟩
 obtain ⟨w2, bx, dv, dw⟩ := BT dr
 refine AU (fun e1 F1 L1 => ∃ (cg : Option Addr) (cj : Nat), AN fy F1 ∧ L1 = ((bn, ce #[sL cq cr ct, sL cu cv cw, vI n, vI n2, sL cx cy cz] 26) :: ((b1, ce #[sL Aj walks.length Ai, sL Ak Af.length Al, vI Ae, vI start, sL Ad Ab.length Ac] 26) :: (bd ++ (bg ++ (bh ++ []))))) ∧ e1.sub [(1, vI minute), (2, pO b1), (5, pO bn), (7, vI w2), (9, sL cg bx.length cj)] ∧ Ar 2 eP F1 cg cj bx) ?_ ?_
 ·clear dw
  refine AJ (um ?_)
  refine uv (BO rfl rfl) (Aa ?_)
  refine cQ (fun ck => ?_) fun ck => ?_
  ·have gn := A5 dv ck
   refine An (uv (CA isAgg50 sizeOf50 0) (um ?_))
   obtain ⟨lx, ly, n8, n9, ma, gp, gq⟩ := Fx gn
   refine c0 call53 (J5 bl bm df gp) ?_; rintro _ kb _ dx dy ⟨kh, kj, kl, km, ko, kt, ku, j8, rfl, rfl, cn, cp, bc⟩
   replace bc := bc.new fun p hp => dy p (by simp [hp])
   refine Aw (lp (ln rfl)) (kO (kf (fS fO) (kf (fS fO) (kf (fS fO) kr))) ?_)
   obtain rfl := (AM.A6 bc).1
   refine B6 (Nat.le_refl _) kN (fC (fC (fC fP))) bc ?_; intro kv bo gr
   replace cn := cn.m2 bo
   replace cp := cp.m2 bo
   obtain ⟨mb, mc, gu, gv⟩ := BT gq
   refine c0 call51 (I5 cn cp gr gu) ?_; rintro _ kz _ dz j9 ⟨gw, gz, rfl, rfl, ia⟩
   refine Aw (ln rfl) ?_
   refine um (ox rfl rfl rfl (ox rfl rfl rfl (ua (ua (Aa ?_)))))
   obtain ⟨rfl, rfl⟩ := B9 gv
   exact mi (kd kr) ⟨gw, gz, ((dx.trans bo).trans dz), rfl, z5, ia⟩
  have ib := A4 dv ck
  refine Ao ?_
  obtain ⟨rfl, rfl⟩ := B9 ib
  exact mi (kd kr) ⟨none, 0, AN.refl _, rfl, z5, Ar.nil _ _ _⟩
 rintro e1 l0 _ ⟨cg, cj, av, rfl, eb, bp⟩
 refine Az _ eb ?_
 replace ab := ab.m2 av
 replace ad := ad.m2 av
 replace aa := aa.m3 av
 replace ae := ae.m2 av
 replace ah := ah.m2 av
 replace ai := ai.m3 av
 refine AJ (uv (CA isAgg26 sizeOf26 0) (um ?_))
 obtain ⟨me, mg, ic, ie⟩ := BT dw
 refine BU rfl call54 rfl rfl rfl (pT ((fC (fC fP)).trans (pA ((fC (fC fP)).trans (pA ((fC (fC fP)).trans (pA pR)))))) (ln (lp (lp (lp (ln rfl)))))) (fun F2 h2 h3 => by rw [(AM.A6 ae).1]; rw [(AM.A6 ah).1]; rw [(AM.A6 ai).1]; exact JG (ae.row kJ h2 (aL h3)) (ah.row kJ h2 (aL (aR h3))) (ai.row kN h2 (aL (aR (aR h3)))) ic) (fun _ _ _ _ hq => by obtain ⟨ig, ij, ik, ec, rfl, rfl, aw⟩ := hq; exact ⟨_, _, _, _, rfl, rfl, aw.flat (fun _ _ h => h)⟩) ?_; rintro _ la _ ao ef eg ⟨ig, ij, ik, ec, rfl, rfl, aw⟩
 replace ab := ab.m2 ao
 replace ad := ad.m2 ao
 replace aa := aa.m3 ao
 replace bp := bp.m4 ao
 replace ae := ae.m2 ao
 replace ah := ah.m2 ao
 replace ai := ai.m3 ao
 have eh := HD (Lb' := []) (by rfl) ef eg
 replace aw := aw.new fun p hp => eh p (by simp [hp])
 refine Aw (lp (ln (lp (lp (lp (ln rfl)))))) (kO (kf (fS (fS (fS (fS fO)))) (kf (fS (fS (fS (fS fO)))) kr)) ?_)
 refine um (ox rfl rfl rfl (ox rfl rfl rfl (ua (ua (BL (um (um ?_)))))))
 refine uv (BO rfl rfl) (um ?_)
 obtain ⟨bq, il⟩ := AB ie
 refine nT bq (um (nT bq ?_))
 obtain ⟨mh, im, iq⟩ := Av il
 refine BU rfl call21 rfl rfl rfl (pT ((fC (fC fP)).trans (pA pR)) (ln (lp (ln rfl)))) (fun F2 h2 h3 => by rw [(AM.A6 aw).1]; exact CJ (aw.row kP h2 (aL h3)) im) (fun _ _ _ _ hq => by obtain ⟨ir, iu, iv, ei, rfl, rfl, ax⟩ := hq; exact ⟨_, _, _, _, rfl, rfl, ax.flat (fun _ _ h => h)⟩) ?_; rintro _ ld _ aq ej en ⟨ir, iu, iv, ei, rfl, rfl, ax⟩
 replace ab := ab.m2 aq
 replace ad := ad.m2 aq
 replace aa := aa.m3 aq
 replace bp := bp.m4 aq
 replace ae := ae.m2 aq
 replace ah := ah.m2 aq
 replace ai := ai.m3 aq
 have eo := HD (Lb' := []) (by rfl) ej en
 replace ax := ax.new fun p hp => eo p (by simp [hp])
 refine Aw (lp (ln (lp (ln rfl)))) (kO (kf (fS (fS fO)) (kf (fS (fS fO)) kr)) ?_)
 refine nT bq (um (nT bq ?_))
 obtain ⟨mj, iw, iy⟩ := Av iq
 refine Bn rfl call20 rfl rfl rfl (pT ((fC (fC fP)).trans (pA pR)) (lp (ln rfl))) (fun F2 h2 h3 => by rw [(AM.A6 ax).1]; exact CL (ax.row kP h2 (aL h3)) (bp.mono kP h2) iw) ?_
 refine uv (AF (AX rfl bq) rfl) (um ?_)
 obtain ⟨bu, iz⟩ := AB iy
 refine nB bu (uv (CA isAgg26 sizeOf26 0) (nB bu (uv (CA isAgg26 sizeOf26 1) (nB bu ?_))))
 obtain ⟨ml, j0, j1⟩ := Av iz
 refine Bn rfl call24 rfl rfl rfl (pT ((fC (fC (fS (fS fP)))).trans (pA ((fC (fC (fS (fS fP)))).trans (pA ((fC (fC (fS (fS fP)))).trans (pA pR)))))) (lp (lp (lp (ln rfl))))) (fun F2 h2 h3 => by rw [(AM.A6 ae).1]; rw [(AM.A6 ah).1]; rw [(AM.A6 ai).1]; exact CX (ae.row kJ h2 (aL h3)) (ah.row kJ h2 (aL (aR h3))) (ai.row kN h2 (aL (aR (aR h3)))) (ab.mono kJ h2) (ad.mono kJ h2) (aa.mono kN h2) j0) ?_
 refine uv (AF (Gl rfl bu) rfl) (um ?_)
 obtain ⟨ep, j2⟩ := AB j1
 refine nB ep ?_
 obtain ⟨mn, j3, j4⟩ := Av j2
 refine cV call14 (B0 j3) (uv (AF (Gl rfl ep) rfl) ?_)
 refine ua (Aa ?_)
 refine kW kn (AA (C3 results10 ?_))
 obtain rfl := AP j4
 exact rfl
set_option maxHeartbeats 1000000 in
theorem Ky (_h_walks : Ar 1 eJ F Aj Ai walks) (_h_hears : Ar 1 eJ F Ak Al Af) (_h_notices : Ar 3 eN F Ad Ac Ab) {r : List Int} (hr : Iw walks Af Ae start Ab n = some r) :
    SH.Spec Tryz.prog 97 #[.agg #[sL Aj walks.length Ai, sL Ak Af.length Al, vI Ae, vI start, sL Ad Ab.length Ac], vI n] F [] fun F' L' v => ∃ (ra : Option Addr) (rn : Nat) (rc : Nat) (rL : LH), v = sL ra rn rc ∧ L' = rL ++ [] ∧ AM 0 3 1 eI F' ra rn rc r rL := by
 refine sp func97 ntmps97 fun K _ _ => ?_
 rw [Iw] at hr
 refine AJ ?_
 refine Bx rfl rfl ?_; intro b1 bz
 refine ua (BL ?_)
 refine uv (Ah C9 rfl) (uv (BM isAgg48 0) (uv (AQ underlying48 rfl) ?_))
 obtain ⟨g2, r3⟩ := AB hr
 obtain ⟨l, h4, r5⟩ := BC r3
 refine Hs (R := eI) (z0 := 0) (zs := l) rfl Bp (by decide) kI (fun _ => rfl) rfl g2 h4 (fun _ => .c .n) ?_; intro a6 n9 bb ay
 refine ua (Aa ?_)
 obtain ⟨out, bc, az⟩ := Av r5
 refine AU (fun e1 F1 L1 => ∃ (ad : LH), F = F1 ∧ L1 = (ad ++ []) ∧ e1.sub [(5, sL a6 n9 n9)] ∧ AM K.w0.heap.size 3 1 eI F1 a6 n9 n9 out ad) ?_ ?_
 ·clear az
  refine AJ (um ?_)
  refine uv ((AQ underlying22 rfl).i (AM.Gh ay)) ?_
  obtain ⟨bd, bg⟩ := AB bc
  refine uv (DP rfl rfl bd) ?_
  refine ua (Aa ?_)
  refine Ap (kW (kd kr) ?_)
  refine Bb (fun aj e1 F1 L1 => ∃ (n2 : Int) (ae : List Int) (k : Int) (aa : LH), Fy aj n2 ae k = some out ∧ F = F1 ∧ L1 = (aa ++ []) ∧ e1.sub [(1, vI n2), (5, sL a6 n9 n9), (6, vI k)] ∧ AM K.w0.heap.size 3 1 eI F1 a6 n9 n9 ae aa) FU (m0 kr ⟨n, l, (l.length : Int) - 1, bb, bg, rfl, rfl, z3, ay⟩) ?_
  rintro aj e1 _ _ ⟨n2, ae, k, aa, ah, rfl, rfl, ak, ab⟩
  refine Az _ ak ?_
  rcases aj with _ | aj
  ·rw [Fy] at ah; cases ah
  rw [Fy] at ah
  refine Aq (AJ (um ?_))
  refine uv (HV rfl rfl) (Aa ?_)
  refine cQ (fun al => ?_) fun al => ?_
  ·have bh := A5 ah al
   refine Ao (Aq ?_)
   refine Ap ?_
   refine AJ (um (um (um ?_)))
   refine uv (EA rfl rfl (by decide)) ?_
   obtain ⟨x, ao, aq, bj⟩ := Bi bh
   obtain ⟨cb, cc, cf, bk, ai, bl, ba, rfl, bm, bn⟩ := AM.at kI ab (L := aa ++ []) fP ao.1 aq
   refine uv (Cx underlying22 sizeOf3 ai (AM.idx ab ao)) ?_
   obtain ⟨ar, bo, bp⟩ := BC bj
   refine EH (u := Int.tmod n2 2) sizeOf3 kI rfl ai rfl rfl (fun _ => .h) ab bo ao ?_; intro au av
   refine Aa (An (um ?_))
   obtain ⟨bq, br⟩ := AB bp
   refine uv (Mp rfl rfl bq) ?_
   refine ua (Aa (Ay (id := 1) (An (um ?_))))
   obtain ⟨bu, bw⟩ := AB br
   refine uv (DP rfl rfl bu) ?_
   refine ua (Aa ?_)
   exact le kr ⟨Int.tdiv n2 2, ar, k - 1, au, bw, rfl, rfl, z3, av⟩
  have bx := A4 ah al
  refine AI (Am (Am ?_))
  refine At ?_
  obtain rfl := AP bx
  exact mi kr ⟨aa, rfl, rfl, z1, ab⟩
 rintro e1 _ _ ⟨ad, rfl, rfl, aw, ax⟩
 refine Az _ aw ?_
 refine AJ (um (ua (Aa (AA ?_))))
 refine C3 results97 ?_
 obtain rfl := AP az
 exact ⟨_, _, _, _, rfl, rfl, ax.any⟩
set_option maxHeartbeats 1000000 in
theorem JO {kind : Int} (ah : Ar 1 eJ F Aj Ai walks) (ai : Ar 1 eJ F Ak Al Af) (ad : Ar 3 eN F Ad Ac Ab) {r : List (Int × Int)} (hr : Il walks Af Ae start Ab n kind = some r) :
    SH.Spec Tryz.prog 98 #[.agg #[sL Aj walks.length Ai, sL Ak Af.length Al, vI Ae, vI start, sL Ad Ab.length Ac], vI n, vI kind] F [] fun F' L' v => ∃ (ra : Option Addr) (rn : Nat) (rc : Nat) (rL : LH), v = sL ra rn rc ∧ L' = rL ++ [] ∧ AM 0 56 2 eP F' ra rn rc r rL := by
 refine sp func98 ntmps98 fun K _ _ => ?_
 rw [Il] at hr
 refine AJ ?_
 refine Bx rfl rfl ?_; intro b1 ei
 refine ua (BL ?_)
 refine uv (CA isAgg50 sizeOf50 0) ?_
 obtain ⟨l, h2, r3⟩ := Av hr
 refine c0 call22 (Cg ah ai ad h2) ?_; rintro _ F4 _ ej de ⟨a8, bb, c9, ae, rfl, rfl, ab⟩
 replace ab := ab.new fun p hp => de p (by simp [hp])
 refine Aw (lp (ln rfl)) (kO (kf (fS fO) kr) ?_)
 refine ua (BL (ua (Aa ?_)))
 obtain ⟨out, df, cz⟩ := Av r3
 refine AU (fun e1 F1 L1 => ∃ (bo : Option Addr) (bp : Nat) (bq : Nat) (aq : LH), F4 = F1 ∧ L1 = (aq ++ []) ∧ e1.sub [(8, sL bo bp bq)] ∧ AM K.w0.heap.size 56 2 eP F1 bo bp bq out aq) ?_ ?_
 ·clear cz
  refine AJ (ua (Aa ?_))
  refine Ap ?_
  refine Bb (fun da e1 F1 L1 => LA l da fun tl i => ∃ (aj : List (Int × Int)) (ar : Option Addr) (au : Nat) (av : Nat) (aa : LH), GD Ab n kind tl aj = some out ∧ F4 = F1 ∧ L1 = ((b1, ce #[sL Aj walks.length Ai, sL Ak Af.length Al, vI Ae, vI start, sL Ad Ab.length Ac] 50) :: (ae ++ (aa ++ []))) ∧ e1.sub [(1, vI n), (2, vI kind), (3, pO b1), (7, sL a8 bb c9), (8, sL ar au av), (9, vI i)] ∧ AM K.w0.heap.size 56 2 eP F1 ar au av aj aa) _ (m0 (kc (ka (ke kr))) ⟨_, _, rfl, Bl.start _, [], none, 0, 0, [], df, rfl, rfl, z6, AM.nil _ _ _ _ _⟩) ?_
  rintro da e1 _ _ ⟨tl, i, br, aw, aj, ar, au, av, aa, bc, rfl, rfl, bu, ax⟩
  refine Az _ bu ?_
  refine Aq (AJ (um (um ?_)))
  refine uv ((AQ underlying57 rfl).i (AM.Gh ab)) (uv (AV rfl rfl) (Aa ?_))
  refine cQ (fun bd => ?_) fun bd => ?_
  ·obtain ⟨x, en, rfl, az, bg, bw⟩ := Bl.succ aw bd
   rw [GD] at bc
   refine Ao ?_
   obtain ⟨ba, dg, db⟩ := Av bc
   refine AU (fun e1 F1 L1 => ∃ (bh : Option Addr) (bj : Nat) (bk : Nat) (ak : LH), F4 = F1 ∧ L1 = ((b1, ce #[sL Aj walks.length Ai, sL Ak Af.length Al, vI Ae, vI start, sL Ad Ab.length Ac] 50) :: (ae ++ (ak ++ []))) ∧ e1.sub [(1, vI n), (2, vI kind), (3, pO b1), (7, sL a8 bb c9), (8, sL bh bj bk), (9, vI i)] ∧ AM K.w0.heap.size 56 2 eP F1 bh bj bk ba ak) ?_ ?_
   ·clear db
    refine Ap ?_
    refine AJ (um (ua (Aa ?_)))
    obtain ⟨bit, dh, bx⟩ := Av dg
    refine jE (((b1, ce #[sL Aj walks.length Ai, sL Ak Af.length Al, vI Ae, vI start, sL Ad Ab.length Ac] 50) :: (ae ++ (aa ++ [])))) [(1, vI n), (2, vI kind), (3, pO b1), (7, sL a8 bb c9), (8, sL ar au av), (9, vI i), (10, vI bit)] ?_ ?_
    ·clear bx
     refine AJ (um (um ?_))
     obtain ⟨eo, ep, er, di, bz, cb, dd, ⟨_, _, rfl, rfl, rfl⟩, dk, cc⟩ := AM.at kP ab (L := (b1, ce #[sL Aj walks.length Ai, sL Ak Af.length Al, vI Ae, vI start, sL Ad Ab.length Ac] 50) :: (ae ++ (aa ++ []))) (fC fP) bg.1 az
     refine uv (Cx underlying57 sizeOf56 bz (AM.idx ab bg)) (uv (Ah LJ rfl) (uv (AG isAgg3 rfl cb (cc 0 (by decide))) ?_))
     obtain ⟨dm, dp⟩ := AB dh
     refine uv (A0 rfl rfl dm) ?_
     refine ua (Aa ?_)
     refine Ap ?_
     obtain ⟨dq, dr⟩ := AB dp
     refine Bb (fun bl e1 F1 L1 => ∃ (k : Int), CC (x.1 + 1) (Ab.length : Int) k bl ∧ ∃ (al : Int), Gx bl al = some bit ∧ F4 = F1 ∧ L1 = ((b1, ce #[sL Aj walks.length Ai, sL Ak Af.length Al, vI Ae, vI start, sL Ad Ab.length Ac] 50) :: (ae ++ (aa ++ []))) ∧ e1.sub [(1, vI n), (2, vI kind), (3, pO b1), (7, sL a8 bb c9), (8, sL ar au av), (9, vI i), (10, vI al), (11, vI k)]) _ (m0 kr ⟨_, CC.start _ _, n, dr, rfl, rfl, z8⟩) ?_
     rintro bl e1 _ _ ⟨k, ay, al, bm, rfl, rfl, cf⟩
     refine Az _ cf ?_
     refine Aq (AJ (um ?_))
     refine uv (Ah C9 rfl) (uv (BM isAgg48 0) (uv (AQ underlying48 rfl) (uv (AV rfl rfl) (Aa ?_))))
     refine cQ (fun bn => ?_) fun bn => ?_
     ·obtain ⟨bl, rfl, cg⟩ := CC.succ ay bn
      rw [Gx] at bm
      refine Ao (Aq ?_)
      refine Ap ?_
      refine An (um ?_)
      obtain ⟨dt, du⟩ := AB bm
      refine uv (Mp rfl rfl dt) ?_
      refine ua (Aa (Ay (id := 3) (An (um ?_))))
      refine uv (A0 rfl rfl (CC.Cs ay bn dq)) ?_
      refine ua (Aa ?_)
      exact le kr ⟨_, cg, Int.tdiv al 2, du, rfl, rfl, z8⟩
     obtain rfl := CC.zero ay bn
     rw [Gx] at bm
     refine AI (Am (Am ?_))
     refine At ?_
     obtain rfl := AP bm
     exact mi kr ⟨rfl, rfl, z7⟩
    refine AJ (um ?_)
    refine uv (EA rfl rfl (by decide)) (um (uv (BO rfl rfl) (Aa ?_)))
    refine cQ (fun cj => ?_) fun cj => ?_
    ·have dv := A5 bx cj
     refine An (um (um (um ?_)))
     obtain ⟨et, eu, ew, dw, ck, cn, ao, ⟨_, _, rfl, rfl, rfl⟩, cp, cq⟩ := AM.at kP ab (L := (b1, ce #[sL Aj walks.length Ai, sL Ak Af.length Al, vI Ae, vI start, sL Ad Ab.length Ac] 50) :: (ae ++ (aa ++ []))) (fC fP) bg.1 az
     refine uv (Cx underlying57 sizeOf56 ck (AM.idx ab bg)) (uv (AZ isAgg56 sizeOf56 rfl cn ao (Ba ao cp cq)) ?_)
     refine bA (cs := #[vI x.1, vI x.2]) Iq [.agg #[vI x.1, vI x.2]] ?_; intro ey dx
     obtain ⟨cr, dy, dz, eb⟩ := DS dv
     refine Cq (xs := aj) (ys := [(x.1, x.2)]) (zs := cr) rfl Iq rfl rfl (Nat.le_refl _) (fun _ => .c (.c (.s .h))) ax (Fg.box (vss := [[vI x.1, vI x.2]]) (ys := [(x.1, x.2)]) 0 rfl kP (.cons ⟨_, _, rfl, rfl, rfl⟩ .nil) rfl rfl) dy dz (by decide) ?_; intro ec ef eg ct cu
     refine kO (kd kr) ?_
     refine ua (Aa (Ay (id := 1) ?_))
     obtain rfl := AP eb
     exact mi kr ⟨ec, ef, eg, ct, rfl, rfl, z6, cu⟩
    have eh := A4 bx cj
    refine Ao (Ay (id := 1) ?_)
    obtain rfl := AP eh
    exact mi kr ⟨ar, au, av, aa, rfl, rfl, z6, ax⟩
   rintro e1 _ _ ⟨bh, bj, bk, ak, rfl, rfl, cv, cw⟩
   refine Az _ cv ?_
   refine An (um ?_)
   refine uv (A0 rfl rfl (Bl.Cs aw bd (AM.PI ab))) ?_
   refine ua (Aa ?_)
   subst br; exact le kr ⟨_, _, rfl, bw, ba, bh, bj, bk, ak, db, rfl, rfl, z6, cw⟩
  obtain rfl := Bl.zero aw bd
  rw [GD] at bc
  refine AI (Am (Am ?_))
  refine At ?_
  obtain rfl := AP bc
  exact mi (kd (kx kr)) ⟨ar, au, av, aa, rfl, rfl, z1, ax⟩
 rintro e1 _ _ ⟨bo, bp, bq, aq, rfl, rfl, cx, cy⟩
 refine Az _ cx ?_
 refine AJ (um (ua (Aa (AA ?_))))
 refine C3 results98 ?_
 obtain rfl := AP cz
 exact ⟨_, _, _, _, rfl, rfl, cy.any⟩
set_option maxHeartbeats 1000000 in
theorem Ng (ad : Ar 1 eJ F Aj Ai walks) (ae : Ar 1 eJ F Ak Al Af) (aa : Ar 3 eN F Ad Ac Ab) {r : List Int} (hr : JC walks Af Ae start Ab = some r) :
    SH.Spec Tryz.prog 55 #[.agg #[sL Aj walks.length Ai, sL Ak Af.length Al, vI Ae, vI start, sL Ad Ab.length Ac]] F [] fun F' L' v => ∃ (ra : Option Addr) (rn : Nat) (rc : Nat) (rL : LH), v = sL ra rn rc ∧ L' = rL ++ [] ∧ AM 0 3 1 eI F' ra rn rc r rL := by
 refine sp func55 ntmps55 fun K _ _ => ?_
 rw [JC] at hr
 refine AJ ?_
 refine Bx rfl rfl ?_; intro b1 gj
 refine ua (BL (ua (Aa ?_)))
 obtain ⟨bj, h8, r9⟩ := Av hr
 refine AU (fun e1 F1 L1 => ∃ (a2 : Option Addr) (n6 : Nat) (c3 : Nat) (ct : LH), AN F F1 ∧ L1 = (ct ++ []) ∧ e1.sub [(3, sL a2 n6 c3)] ∧ AM K.w0.heap.size 3 1 eI F1 a2 n6 c3 bj ct) ?_ ?_
 ·clear r9
  refine AJ (uv (Ah C9 rfl) (uv (BM isAgg48 0) (uv (AQ underlying48 rfl) ?_)))
  obtain ⟨er, et⟩ := AB h8
  refine uv (Ns rfl rfl er) ?_
  obtain ⟨eu, ew⟩ := AB et
  refine uv (DP rfl rfl eu) ?_
  obtain ⟨n, ey, ez⟩ := BC ew
  refine uv ((BB rfl).i ey) (Aa (Ap ?_))
  refine Bb (fun cn e1 F1 L1 => ∃ (ab : List Int) (n2 : Int) (ba : Option Addr) (bb : Nat) (bc : Nat) (ah : LH), Fw walks Af Ae start Ab cn ab n2 = some bj ∧ AN F F1 ∧ L1 = ((b1, ce #[sL Aj walks.length Ai, sL Ak Af.length Al, vI Ae, vI start, sL Ad Ab.length Ac] 50) :: (ah ++ [])) ∧ e1.sub [(1, pO b1), (3, sL ba bb bc), (4, vI n2)] ∧ AM K.w0.heap.size 3 1 eI F1 ba bb bc ab ah) FU (m0 (kc (ke kr)) ⟨[], n, none, 0, 0, [], ez, AN.refl _, rfl, z3, AM.nil _ _ _ _ _⟩) ?_
  rintro cn e1 fa _ ⟨ab, n2, ba, bb, bc, ah, bk, av, rfl, cu, ak⟩
  refine Az _ cu ?_
  replace ad := ad.m2 av
  replace ae := ae.m2 av
  replace aa := aa.m3 av
  rcases cn with _ | cn
  ·rw [Fw] at bk; cases bk
  rw [Fw] at bk
  refine Aq (AJ (um ?_))
  refine uv (HV rfl rfl) (Aa ?_)
  refine cQ (fun cv => ?_) fun cv => ?_
  ·have fb := A5 bk cv
   refine Ao ?_
   obtain ⟨bd, fe, ec⟩ := Av fb
   refine AU (fun e1 F1 L1 => ∃ (cp : Option Addr) (cq : Nat) (cr : Nat) (ax : LH), AN fa F1 ∧ L1 = ((b1, ce #[sL Aj walks.length Ai, sL Ak Af.length Al, vI Ae, vI start, sL Ad Ab.length Ac] 50) :: (ax ++ [])) ∧ e1.sub [(1, pO b1), (3, sL cp cq cr), (4, vI n2)] ∧ AM K.w0.heap.size 3 1 eI F1 cp cq cr bd ax) ?_ ?_
   ·clear ec
    refine Ap ?_
    refine AJ (ua (BL ?_))
    refine uv (CA isAgg50 sizeOf50 0) (um ?_)
    obtain ⟨l, ff, fg⟩ := Av fe
    refine c0 call97 (Ky ad ae aa ff) ?_; rintro _ ef _ ar cw ⟨fh, fi, fj, bl, rfl, rfl, al⟩
    replace ad := ad.m2 ar
    replace ae := ae.m2 ar
    replace aa := aa.m3 ar
    replace ak := ak.m1 ar
    replace al := al.new fun p hp => cw p (by simp [hp])
    refine Aw (lp (ln rfl)) (kO (kf (fS fO) kr) ?_)
    refine ua (Aa ?_)
    obtain ⟨l2, fk, eg⟩ := Av fg
    refine AU (fun e1 F1 L1 => ∃ (bm : Option Addr) (bn : Nat) (bo : Nat) (aw : LH), ef = F1 ∧ L1 = ((b1, ce #[sL Aj walks.length Ai, sL Ak Af.length Al, vI Ae, vI start, sL Ad Ab.length Ac] 50) :: (ah ++ (aw ++ []))) ∧ e1.sub [(1, pO b1), (3, sL ba bb bc), (4, vI n2), (5, sL bm bn bo)] ∧ AM K.w0.heap.size 3 1 eI F1 bm bn bo l2 aw) ?_ ?_
    ·clear eg
     refine AJ (ua (Aa ?_))
     refine Ap ?_
     refine Bb (fun eh e1 F1 L1 => LA l eh fun tl k => ∃ (l3 : List Int) (bp : Option Addr) (bq : Nat) (br : Nat) (au : LH), Ex tl k l3 = some l2 ∧ ef = F1 ∧ L1 = ((b1, ce #[sL Aj walks.length Ai, sL Ak Af.length Al, vI Ae, vI start, sL Ad Ab.length Ac] 50) :: (ah ++ (au ++ (bl ++ [])))) ∧ e1.sub [(1, pO b1), (3, sL ba bb bc), (4, vI n2), (5, sL bp bq br), (6, sL fh fi fj), (7, vI k)] ∧ AM K.w0.heap.size 3 1 eI F1 bp bq br l3 au) _ (m0 (kc (kg (fS fP) (ke kr))) ⟨_, _, rfl, Bl.start _, [], none, 0, 0, [], fk, rfl, rfl, z6, AM.nil _ _ _ _ _⟩) ?_
     rintro eh e1 _ _ ⟨tl, k, bu, ay, l3, bp, bq, br, au, bw, rfl, rfl, cx, bg⟩
     refine Az _ cx ?_
     refine Aq (AJ (um (um ?_)))
     refine uv ((AQ underlying22 rfl).i (AM.Gh al)) (uv (AV rfl rfl) (Aa ?_))
     refine cQ (fun bx => ?_) fun bx => ?_
     ·obtain ⟨x, gk, rfl, cy, ei, bz⟩ := Bl.succ ay bx
      rw [Ex] at bw
      refine Ao (Aq ?_)
      refine Ap ?_
      refine AJ (um (um ?_))
      obtain ⟨gl, gm, gn, fl, cz, da, ej, rfl, fm, db⟩ := AM.at kI al (L := (b1, ce #[sL Aj walks.length Ai, sL Ak Af.length Al, vI Ae, vI start, sL Ad Ab.length Ac] 50) :: (ah ++ (au ++ (bl ++ [])))) (fC (fS (fS fP))) ei.1 cy
      refine uv (Cx underlying22 sizeOf3 cz (AM.idx al ei)) (uv (AG isAgg3 rfl da (db 0 (by decide))) (uv (BO rfl rfl) (Aa ?_)))
      refine cQ (fun dd => ?_) fun dd => ?_
      ·have fo := A5 bw dd
       refine An (um (um ?_))
       refine bA (cs := #[vI k]) Bp [vI k] ?_; intro gp fp
       obtain ⟨l4, fq, fs, ft⟩ := DS fo
       refine Cq (xs := l3) (ys := [k]) (zs := l4) rfl Bp rfl rfl (Nat.le_refl _) (fun _ => .c (.c (.s .h))) bg (Fg.box (vss := [[vI k]]) (ys := [k]) 0 rfl kI (.cons rfl .nil) rfl rfl) fq fs (by decide) ?_; intro fv fw fx de df
       refine kO (kd kr) ?_
       refine ua (Aa (Ay (id := 3) (An (um ?_))))
       refine uv (A0 rfl rfl (Bl.Cs ay bx (AM.PI al))) ?_
       refine ua (Aa ?_)
       subst bu; exact le kr ⟨_, _, rfl, bz, l4, fv, fw, fx, de, ft, rfl, rfl, z6, df⟩
      have fy := A4 bw dd
      refine Ao (Ay (id := 3) (An (um ?_)))
      refine uv (A0 rfl rfl (Bl.Cs ay bx (AM.PI al))) ?_
      refine ua (Aa ?_)
      subst bu; exact le kr ⟨_, _, rfl, bz, l3, bp, bq, br, au, fy, rfl, rfl, z6, bg⟩
     obtain rfl := Bl.zero ay bx
     rw [Ex] at bw
     refine AI (Am (Am ?_))
     refine At ?_
     obtain rfl := AP bw
     exact mi (kc (ka (ka kn))) ⟨bp, bq, br, au, rfl, rfl, z4, bg⟩
    rintro e1 _ _ ⟨bm, bn, bo, aw, rfl, rfl, dg, az⟩
    refine Az _ dg ?_
    obtain ⟨k2, en, dh⟩ := Av eg
    refine jF (((b1, ce #[sL Aj walks.length Ai, sL Ak Af.length Al, vI Ae, vI start, sL Ad Ab.length Ac] 50) :: (ah ++ (aw ++ [])))) [(1, pO b1), (3, sL ba bb bc), (4, vI n2), (5, sL bm bn bo), (47, .bool k2)] ?_ fun g0 ao => ?_
    ·clear dh
     refine Bg [(.still, 0), (.still, 1), (.still, 2), (.still, 3), (.still, 4), (.still, 5), (.still, 6), (.still, 7), (.still, 8), (.seq, 9), (.seq, 10), (.still, 11), (.still, 12)] (by kernel_rfl) (by kernel_rfl) (trivial) (by rfl) (by kernel_rfl) (mS [5] rfl (AO rfl) (mS [35] rfl ((AQ underlying22 rfl).i (AM.Gh az)) (mS [3] rfl (AO rfl) (mS [37] rfl ((AQ underlying22 rfl).i (AM.Gh ak)) (mS (v := .bool (decide ((ab.length : Int) < (l2.length : Int)))) [36, 38] rfl (CQ rfl rfl) (mS [39] rfl (AO rfl) ?_))))))
     by_cases aj : (ab.length : Int) < (l2.length : Int)
     ·have ga := A5 en aj
      refine Bq 40 (v := .agg #[sL Aj walks.length Ai, sL Ak Af.length Al, vI Ae, vI start, sL Ad Ab.length Ac]) (ek := [(1, pO b1), (40, .bool (decide ((ab.length : Int) < (l2.length : Int))))]) (Ls := [(b1, ce #[sL Aj walks.length Ai, sL Ak Af.length Al, vI Ae, vI start, sL Ad Ab.length Ac] 50)]) rfl rfl (Env.CY rfl aj) rfl rfl rfl (z2) (by kernel_rfl) (s0 (s2 (s3 (s3 sr)))) (fun H F' L' cb cc => AZ isAgg50 sizeOf50 rfl ((Has.own 0 rfl).ext cb cc) (B2 rfl) rfl) (Bq 40 (v := .agg #[sL Aj walks.length Ai, sL Ak Af.length Al, vI Ae, vI start, sL Ad Ab.length Ac]) (ek := [(1, pO b1), (40, .bool (decide ((ab.length : Int) < (l2.length : Int))))]) (Ls := [(b1, ce #[sL Aj walks.length Ai, sL Ak Af.length Al, vI Ae, vI start, sL Ad Ab.length Ac] 50)]) rfl rfl (Env.CY rfl aj) rfl rfl rfl (z2) (by kernel_rfl) (s0 (s2 (s3 (s3 sr)))) (fun H F' L' cb cc => AZ isAgg50 sizeOf50 rfl ((Has.own 0 rfl).ext cb cc) (B2 rfl) rfl) (Bq 40 (v := vI n2) (ek := [(4, vI n2), (40, .bool (decide ((ab.length : Int) < (l2.length : Int))))]) (Ls := []) rfl rfl (Env.CY rfl aj) rfl rfl rfl (z2) (by kernel_rfl) sm (fun H F' L' cb cc => AO rfl) ?_))
      refine ⟨_, [(40, .bool (decide ((ab.length : Int) < (l2.length : Int)))), (42, .agg #[sL Aj walks.length Ai, sL Ak Af.length Al, vI Ae, vI start, sL Ad Ab.length Ac]), (43, vI n2)], rfl, rfl, z3, by kernel_rfl, ?_⟩; intro H
      refine nT aj ?_
      obtain ⟨l5, di, dk⟩ := Av ga
      refine c0 call98 (JO ad ae aa di) ?_; rintro _ gb _ ai cf ⟨dm, dp, dq, eo, rfl, rfl, aq⟩
      replace ad := ad.m2 ai
      replace ae := ae.m2 ai
      replace aa := aa.m3 ai
      replace aq := aq.new fun p hp => cf p (by simp [hp])
      refine Aw (lp (ln rfl)) (kO (kf (fS fO) kr) ?_)
      refine Aa ⟨_, rfl, ai, [6], by kernel_rfl, .inl (.inr (fun d h => by cases h; rfl)), (fc (s0 (s2 (s3 (s3 (s3 sr))))) nm), ?_⟩
      refine ⟨_, [(40, .bool (decide ((ab.length : Int) < (l2.length : Int)))), (41, .agg #[sL Aj walks.length Ai, sL Ak Af.length Al, vI Ae, vI start, sL Ad Ab.length Ac]), (44, sL dm dp dq)], rfl, rfl, z3, by kernel_rfl, ?_⟩; intro H
      refine nT aj ?_
      obtain ⟨n3, dr, dt⟩ := Av dk
      refine Bn rfl call48 rfl rfl rfl (pT ((fC fP).trans (pA pR)) (lp (ln rfl))) (fun F2 h2 h3 => by rw [(AM.A6 aq).1]; exact DI (ad.mono kJ h2) (ae.mono kJ h2) (aa.mono kN h2) (aq.row kP h2 (aL h3)) dr) ?_
      refine Aa ⟨_, rfl, AN.refl _, [], by kernel_rfl, .inl (.inl rfl), nm, ?_⟩
      refine Bq 40 (v := .bool (decide (0 ≤ n3))) (ek := [(40, .bool (decide ((ab.length : Int) < (l2.length : Int)))), (45, vI n3)]) (Ls := []) rfl rfl (Env.CY rfl aj) rfl rfl rfl (z2) (by kernel_rfl) sm (fun H F' L' cb cc => HV rfl rfl) (mS (v := .bool (decide (0 ≤ n3))) [40, 46] rfl (AF (AX rfl aj) rfl) (Bo ?_))
      obtain rfl := AP dt
      exact mi (kc (kx kr)) ⟨ai, rfl, z5⟩
     have du := A4 en aj
     refine Dc (ek := [(40, .bool (decide ((ab.length : Int) < (l2.length : Int))))]) (b' := false) 40 rfl rfl (Env.C8 rfl aj) rfl rfl rfl rfl z1 (by kernel_rfl) (Dc (ek := [(40, .bool (decide ((ab.length : Int) < (l2.length : Int))))]) (b' := false) 40 rfl rfl (Env.C8 rfl aj) rfl rfl rfl rfl z1 (by kernel_rfl) (Dc (ek := [(40, .bool (decide ((ab.length : Int) < (l2.length : Int))))]) (b' := false) 40 rfl rfl (Env.C8 rfl aj) rfl rfl rfl rfl z1 (by kernel_rfl) ?_))
     refine ⟨_, [(40, .bool (decide ((ab.length : Int) < (l2.length : Int)))), (42, undef), (43, undef)], rfl, rfl, z3, by kernel_rfl, ?_⟩; intro H
     refine fF aj ?_
     refine Aa ⟨_, rfl, AN.refl _, [6], by kernel_rfl, .inl (.inr (fun d h => by cases h; rfl)), (fc sm nm), ?_⟩
     refine ⟨_, [(40, .bool (decide ((ab.length : Int) < (l2.length : Int)))), (41, undef), (44, undef)], rfl, rfl, z3, by kernel_rfl, ?_⟩; intro H
     refine fF aj ?_
     refine Aa ⟨_, rfl, AN.refl _, [], by kernel_rfl, .inl (.inl rfl), nm, ?_⟩
     refine Dc (ek := [(40, .bool (decide ((ab.length : Int) < (l2.length : Int))))]) (b' := false) 40 rfl rfl (Env.C8 rfl aj) rfl rfl rfl rfl z1 (by kernel_rfl) (mS (v := .bool false) [40, 46] rfl (AD (AL rfl aj) rfl) (Bo ?_))
     obtain rfl := AP du
     exact mi kr ⟨AN.refl _, rfl, z5⟩
    replace ak := ak.m1 ao
    replace az := az.m1 ao
    refine AR rfl (fun bh => ?_) (fun bh => ?_)
    ·have dv := bt dh bh
     refine An (um (ua (Aa (Ay (id := 1) ?_))))
     obtain rfl := AP dv
     exact mi (kc (kx kr)) ⟨bm, bn, bo, aw, (ar.trans ao), rfl, z3, az⟩
    have dw := bf dh bh
    refine Ao (Ay (id := 1) ?_)
    obtain rfl := AP dw
    exact mi (kc (ka kn)) ⟨ba, bb, bc, ah, (ar.trans ao), rfl, z3, ak⟩
   rintro e1 gg _ ⟨cp, cq, cr, ax, cg, rfl, cj, dx⟩
   refine Az _ cj ?_
   refine An (um ?_)
   obtain ⟨dy, dz⟩ := AB ec
   refine uv (DP rfl rfl dy) ?_
   refine ua (Aa ?_)
   exact le kr ⟨bd, n2 - 1, cp, cq, cr, ax, dz, (av.trans cg), rfl, z3, dx⟩
  have eb := A4 bk cv
  refine AI (Am (Am ?_))
  refine At ?_
  obtain rfl := AP eb
  exact mi (kd kr) ⟨ba, bb, bc, ah, av, rfl, z1, ak⟩
 rintro e1 gh _ ⟨a2, n6, c3, ct, ep, rfl, ck, gi⟩
 refine Az _ ck ?_
 refine AJ (um (ua (Aa (AA ?_))))
 refine C3 results55 ?_
 obtain rfl := AP r9
 exact ⟨_, _, _, _, rfl, rfl, gi.any⟩
set_option maxHeartbeats 1000000 in
theorem MB (ab : Ar 1 eJ F Aj Ai walks) (ad : Ar 1 eJ F Ak Al Af) (aa : Ar 3 eN F Ad Ac Ab) {r : Int} (hr : Jb walks Af Ae start Ab AW = some r) :
    Bv Tryz.prog 56 #[.agg #[sL Aj walks.length Ai, sL Ak Af.length Al, vI Ae, vI start, sL Ad Ab.length Ac], vI AW] F (vI r) := by
 refine sp func56 ntmps56 fun K _ _ => ?_
 rw [Jb] at hr
 refine AJ ?_
 refine Bx rfl rfl ?_; intro b1 dg
 refine ua (Aa ?_)
 refine AU (fun e1 F1 L1 => H2 = some r ∧ AN F F1 ∧ L1 = [] ∧ e1.sub []) ?_ ?_
 ·refine AJ (ua (Aa ?_))
  refine Ap ?_
  refine Bb (fun aq e1 F1 L1 => ∃ (hour : Int), E7 walks Af Ae start Ab AW aq hour = some r ∧ AN F F1 ∧ L1 = [(b1, ce #[sL Aj walks.length Ai, sL Ak Af.length Al, vI Ae, vI start, sL Ad Ab.length Ac] 50)] ∧ e1.sub [(1, vI AW), (2, pO b1), (5, vI hour)]) FU (m0 kr ⟨0, hr, AN.refl _, rfl, z3⟩) ?_
  rintro aq e1 F6 _ ⟨hour, r4, ak, rfl, bz⟩
  refine Az _ bz ?_
  replace ab := ab.m2 ak
  replace ad := ad.m2 ak
  replace aa := aa.m3 ak
  rcases aq with _ | aq
  ·rw [E7] at r4; cases r4
  rw [E7] at r4
  refine Aq (AJ (um ?_))
  refine uv (KM rfl rfl) (Aa ?_)
  refine cQ (fun c8 => ?_) fun c8 => ?_
  ·have r9 := A5 r4 c8
   refine Ao (Aq ?_)
   refine Ap (AJ (uv (CA isAgg50 sizeOf50 0) ?_))
   obtain ⟨l, l2, n, n2, l3, cb, cc⟩ := Fx r9
   refine c0 call53 (J5 ab ad aa cb) ?_; rintro _ dh _ av aw ⟨ax, ay, az, ba, bb, bc, bd, bg, rfl, rfl, ar, au, ai⟩
   replace ai := ai.new fun p hp => aw p (by simp [hp])
   refine Aw (lp (ln rfl)) (kO (kf (fS fO) kr) ?_)
   refine Bh rfl zeroValue50 ?_; intro cf cg
   refine A8 (i := 0) sizeOf50 rfl rfl rfl (by simp [Value.oneCell']) rfl (B2 rfl) (Aw rfl (BL (uv (Ah C9 rfl) (uv (BM isAgg48 0) ?_))))
   refine um (um ?_)
   obtain ⟨x, bh, al, cj⟩ := Bi cc
   obtain ⟨di, dk, dm, ck, ao, cn, bp, ⟨_, _, rfl, ⟨dp, dq, rfl, dr⟩, ⟨_, _, rfl, rfl, rfl⟩⟩, cp, cq⟩ := AM.at kN ai (L := (cf, ce #[sL ax l.length ay, sL az l2.length ba, vI n, vI n2, sL bb bc bd] 50) :: ((b1, ce #[sL Aj walks.length Ai, sL Ak Af.length Al, vI Ae, vI start, sL Ad Ab.length Ac] 50) :: (bg ++ []))) (fC (fC fP)) bh.1 al
   refine uv (Cx underlying48 sizeOf110 ao (AM.idx ai bh)) (uv (Ah JF rfl) ?_)
   obtain ⟨x2, cr, ct⟩ := BC cj
   refine KA (zs := x2) (off := 2) (x0 := x) (u := (x.1, x.2.1, hour)) sizeOf3 kN rfl ao rfl rfl (by decide) al (fun vs h => by obtain ⟨_, _, rfl, ⟨dt, du, rfl, cu⟩, ⟨_, _, rfl, rfl, rfl⟩⟩ := h; exact ⟨_, _, rfl, ⟨_, _, rfl, cu⟩, ⟨_, _, rfl, rfl, rfl⟩⟩) (fun _ => .c (.c .h)) ai cr bh ?_; intro cv ae
   refine Aa (Aq ?_)
   refine Bg [(.still, 0), (.still, 1), (.seq, 2), (.seq, 3), (.still, 4)] (by kernel_rfl) (by kernel_rfl) (trivial) (by rfl) (by kernel_rfl) (mA [6] isAgg50 sizeOf50 0 rfl rfl rfl rfl (mA [6] isAgg50 sizeOf50 0 rfl rfl rfl rfl ?_))
   refine ⟨_, [(20, .agg #[sL ax l.length ay, sL az l2.length ba, vI n, vI n2, sL bb bc bd])], rfl, rfl, z1, by kernel_rfl, ?_⟩; intro H
   obtain ⟨l4, cw, cx⟩ := Av ct
   refine BU rfl call22 rfl rfl rfl (pT ((fC (fC fP)).trans (pA pR)) (ln (lp (ln rfl)))) (fun F2 h2 h3 => by rw [(AM.A6 ae).1]; exact Cg (ar.mono kJ h2) (au.mono kJ h2) (ae.row kN h2 (aL h3)) cw) (fun _ _ _ _ hq => by obtain ⟨bq, br, bu, bj, rfl, rfl, ah⟩ := hq; exact ⟨_, _, _, _, rfl, rfl, ah.flat (fun _ _ h => h)⟩) ?_; rintro _ dv _ aj bk bl ⟨bq, br, bu, bj, rfl, rfl, ah⟩
   replace ar := ar.m2 aj
   replace au := au.m2 aj
   replace ae := ae.m3 aj
   have bm := HD (Lb' := []) (by rfl) bk bl
   replace ah := ah.new fun p hp => bm p (by simp [hp])
   refine Aw (lp (ln (lp (ln rfl)))) (kO (kf (fS (fS fO)) (kf (fS (fS fO)) kr)) ?_)
   refine Aa ⟨_, rfl, aj, [0], by kernel_rfl, .inl (.inr (fun d h => by cases h; rfl)), (fc (s0 (s2 (s1 (s3 (s3 sr))))) nm), ?_⟩
   refine ⟨_, [(19, .agg #[sL ax l.length ay, sL az l2.length ba, vI n, vI n2, sL bb bc bd]), (21, sL bq br bu)], rfl, rfl, z2, by kernel_rfl, ?_⟩; intro H
   obtain ⟨n3, cy, bw⟩ := Av cx
   refine Bn rfl call48 rfl rfl rfl (pT ((fC (fC (fS fP))).trans (pA ((fC (fC fP)).trans (pA pR)))) (lp (lp (ln rfl)))) (fun F2 h2 h3 => by rw [(AM.A6 ae).1]; rw [(AM.A6 ah).1]; exact DI (ar.mono kJ h2) (au.mono kJ h2) (ae.row kN h2 (aL h3)) (ah.row kP h2 (aL (aR h3))) cy) ?_
   refine Aa ⟨_, rfl, AN.refl _, [], by kernel_rfl, .inl (.inl rfl), nm, ?_⟩
   refine mS (v := .bool (decide (0 ≤ n3))) [22] rfl (HV rfl rfl) (Bo ?_)
   refine cQ (fun bn => ?_) fun bn => ?_
   ·have cz := A5 bw bn
    refine AJ (um (ua (Aa ?_)))
    refine kW kn ?_
    refine AA (AK (As (As (AK (As ?_)))))
    refine C3 results56 ?_
    obtain rfl := AP cz
    exact rfl
   have da := A4 bw bn
   refine Ao (Ay (id := 1) (An (um ?_)))
   obtain ⟨db, dd⟩ := AB da
   refine uv (A0 rfl rfl db) ?_
   refine ua (Aa ?_)
   exact le (kd (kc kn)) ⟨hour + 1, dd, ((ak.trans av).trans aj), rfl, z3⟩
  have de := A4 r4 c8
  refine AI (Am (Am ?_))
  refine At ?_
  exact mi kn ⟨de, ak, rfl, (sn _)⟩
 rintro e1 dw _ ⟨bx, df, rfl, bo⟩
 refine Az _ bo ?_
 rw [H2] at bx
 refine AJ (ua (Aa (AA ?_)))
 refine C3 results56 ?_
 obtain rfl := AP bx
 exact rfl
set_option maxHeartbeats 1000000 in
theorem NJ (ab : Ar 1 eJ F Aj Ai walks) (ad : Ar 1 eJ F Ak Al Af) (aa : Ar 3 eN F Ad Ac Ab) {r : List Int} {r2 : Int} (hr : Km walks Af Ae start Ab = some (r, r2, r3)) :
    SH.Spec Tryz.prog 57 #[.agg #[sL Aj walks.length Ai, sL Ak Af.length Al, vI Ae, vI start, sL Ad Ab.length Ac]] F [] fun F' L' v => ∃ (ra : Option Addr) (rn : Nat) (rc : Nat) (rL : LH), v = .tuple #[sL ra rn rc, vI r2, vI r3] ∧ L' = rL ++ [] ∧ AM 0 3 1 eI F' ra rn rc r rL := by
 refine sp func57 ntmps57 fun K _ _ => ?_
 rw [Km] at hr
 refine AJ ?_
 refine Bx rfl rfl ?_; intro b1 ej
 refine ua (ua (ua (BL (ua (BL (ua (Aa ?_)))))))
 obtain ⟨bb, aq, h8, r9⟩ := BT hr
 refine AU (fun e1 F1 L1 => ∃ (a2 : Option Addr) (n6 : Nat) (c3 : Nat) (bg : LH), AN F F1 ∧ L1 = (bg ++ []) ∧ e1.sub [(5, sL a2 n6 c3), (6, vI aq)] ∧ AM K.w0.heap.size 3 1 eI F1 a2 n6 c3 bb bg) ?_ ?_
 ·clear r9
  refine AJ (ua (Aa ?_))
  refine Ap ?_
  refine Bb (fun bc e1 F1 L1 => ∃ (ah : List Int) (ae : Int) (n : Int) (aw : Option Addr) (ax : Nat) (ay : Nat) (ai : LH), D9 walks Af Ae start Ab bc ah ae n = some (bb, aq) ∧ AN F F1 ∧ L1 = ((b1, ce #[sL Aj walks.length Ai, sL Ak Af.length Al, vI Ae, vI start, sL Ad Ab.length Ac] 50) :: (ai ++ [])) ∧ e1.sub [(1, pO b1), (5, sL aw ax ay), (6, vI ae), (7, vI n)] ∧ AM K.w0.heap.size 3 1 eI F1 aw ax ay ah ai) FU (m0 (kc (ke kr)) ⟨[], -1, 0, none, 0, 0, [], h8, AN.refl _, rfl, z4, AM.nil _ _ _ _ _⟩) ?_
  rintro bc e1 en _ ⟨ah, ae, n, aw, ax, ay, ai, bd, al, rfl, bh, ao⟩
  refine Az _ bh ?_
  replace ab := ab.m2 al
  replace ad := ad.m2 al
  replace aa := aa.m3 al
  rcases bc with _ | bc
  ·rw [D9] at bd; cases bd
  rw [D9] at bd
  refine Aq (AJ (um ?_))
  refine uv (Ah C9 rfl) (uv (BM isAgg48 0) (uv (AQ underlying48 rfl) ?_))
  obtain ⟨cf, bz⟩ := AB bd
  refine uv (Ns rfl rfl cf) (uv (AV rfl rfl) (Aa ?_))
  refine cQ (fun bj => ?_) fun bj => ?_
  ·have cg := A5 bz bj
   refine Ao (Aq ?_)
   refine Ap (Aq (Bg [(.still, 0), (.still, 1), (.still, 2), (.still, 5), (.still, 6), (.still, 7), (.seq, 3), (.seq, 4), (.seq, 8), (.seq, 9), (.still, 10), (.still, 11)] (by kernel_rfl) (by kernel_rfl) (trivial) (by rfl) (by kernel_rfl) (mA [1] isAgg50 sizeOf50 0 rfl rfl rfl rfl (mA [1] isAgg50 sizeOf50 0 rfl rfl rfl rfl (mS [7] rfl (AO rfl) (mA [1] isAgg50 sizeOf50 0 rfl rfl rfl rfl (mA [1] isAgg50 sizeOf50 0 rfl rfl rfl rfl ?_)))))))
   refine mS [7] rfl (AO rfl) ?_
   refine ⟨_, [(20, .agg #[sL Aj walks.length Ai, sL Ak Af.length Al, vI Ae, vI start, sL Ad Ab.length Ac]), (21, vI n)], rfl, rfl, z2, by kernel_rfl, ?_⟩; intro H
   obtain ⟨l, cj, ck⟩ := Av cg
   refine c0 call98 (JO ab ad aa cj) ?_; rintro _ eo _ aj bk ⟨cn, cp, cq, cr, rfl, rfl, au⟩
   replace ab := ab.m2 aj
   replace ad := ad.m2 aj
   replace aa := aa.m3 aj
   replace ao := ao.m1 aj
   replace au := au.new fun p hp => bk p (by simp [hp])
   refine Aw (lp (ln rfl)) (kO (kf (fS fO) kr) ?_)
   refine Aa ⟨_, rfl, aj, [7, 6, 5, 0], by kernel_rfl, .inl (.inr (fun d h => by cases h; rfl)), (fc sm (fc (s0 (s2 (s3 (s3 sr)))) (fc (s0 (s2 (s3 (s3 sr)))) (fc (s0 (s2 (s3 (s3 sr)))) nm)))), ?_⟩
   refine ⟨_, [(19, .agg #[sL Aj walks.length Ai, sL Ak Af.length Al, vI Ae, vI start, sL Ad Ab.length Ac]), (22, sL cn cp cq)], rfl, rfl, z2, by kernel_rfl, ?_⟩; intro H
   obtain ⟨n2, ct, cu⟩ := Av ck
   refine Bn rfl call48 rfl rfl rfl (pT ((fC fP).trans (pA pR)) (lp (ln rfl))) (fun F2 h2 h3 => by rw [(AM.A6 au).1]; exact DI (ab.mono kJ h2) (ad.mono kJ h2) (aa.mono kN h2) (au.row kP h2 (aL h3)) ct) ?_
   refine Aa ⟨_, rfl, AN.refl _, [7, 6, 5], by kernel_rfl, .inl (.inr (fun d h => by cases h; rfl)), (fc sm (fc (s0 (s2 (s3 (s3 sr)))) (fc (s0 (s2 (s3 (s3 sr)))) nm))), ?_⟩
   refine ⟨_, [(25, .agg #[sL Aj walks.length Ai, sL Ak Af.length Al, vI Ae, vI start, sL Ad Ab.length Ac]), (26, vI n)], rfl, rfl, z2, by kernel_rfl, ?_⟩; intro H
   obtain ⟨l2, cv, cw⟩ := Av cu
   refine c0 call98 (JO ab ad aa cv) ?_; rintro _ ep _ ak bl ⟨cx, cy, cz, da, rfl, rfl, av⟩
   replace ab := ab.m2 ak
   replace ad := ad.m2 ak
   replace aa := aa.m3 ak
   replace ao := ao.m1 ak
   replace av := av.new fun p hp => bl p (by simp [hp])
   refine Aw (lp (ln rfl)) (kO (kf (fS fO) kr) ?_)
   refine Aa ⟨_, rfl, ak, [5], by kernel_rfl, .inl (.inr (fun d h => by cases h; rfl)), (fc (s0 (s2 (s3 (s3 (s3 sr))))) nm), ?_⟩
   refine ⟨_, [(24, .agg #[sL Aj walks.length Ai, sL Ak Af.length Al, vI Ae, vI start, sL Ad Ab.length Ac]), (27, sL cx cy cz)], rfl, rfl, z2, by kernel_rfl, ?_⟩; intro H
   obtain ⟨n3, db, dd⟩ := Av cw
   refine Bn rfl call48 rfl rfl rfl (pT ((fC fP).trans (pA pR)) (lp (ln rfl))) (fun F2 h2 h3 => by rw [(AM.A6 av).1]; exact DI (ab.mono kJ h2) (ad.mono kJ h2) (aa.mono kN h2) (av.row kP h2 (aL h3)) db) ?_
   refine Aa ⟨_, rfl, AN.refl _, [], by kernel_rfl, .inl (.inl rfl), nm, ?_⟩
   refine mS [23] rfl (BB rfl) (mS [28] rfl (BB rfl) (Bo (Aq ?_)))
   obtain ⟨k, cb, bm⟩ := Av dd
   refine jE (((b1, ce #[sL Aj walks.length Ai, sL Ak Af.length Al, vI Ae, vI start, sL Ad Ab.length Ac] 50) :: (ai ++ []))) [(1, pO b1), (5, sL aw ax ay), (6, vI ae), (7, vI n), (8, vI n2), (9, vI n3), (34, .bool k)] ?_ ?_
   ·clear bm
    refine An (um ?_)
    refine uv (AV rfl rfl) (um ?_)
    by_cases az : n2 < 0
    ·have de := A5 cb az
     refine fT az (fT az ?_)
     refine uv (AF (AX rfl az) rfl) (Aa ?_)
     obtain rfl := AP de
     exact mi (kc (kx (kx kr))) ⟨rfl, rfl, z7⟩
    have df := A4 cb az
    refine nF az (um (nF az ?_))
    refine uv (AV rfl rfl) (uv (AD (AL rfl az) rfl) (Aa ?_))
    obtain rfl := AP df
    exact mi (kc (kx (kx kr))) ⟨rfl, rfl, z7⟩
   refine AR rfl (fun bn => ?_) (fun bn => ?_)
   ·have dg := bt bm bn
    refine AI (Am ?_)
    refine At ?_
    refine An (um ?_)
    obtain ⟨dh, di⟩ := AB dg
    refine uv (A0 rfl rfl dh) ?_
    refine ua (Aa ?_)
    exact le kr ⟨ah, ae, n + 1, aw, ax, ay, ai, di, ((al.trans aj).trans ak), rfl, z4, ao⟩
   have Cs := bf bm bn
   refine Ao (AJ (um (um ?_)))
   refine uv (OK rfl rfl) ?_
   refine ua (Aa ?_)
   obtain ⟨k2, cc, bo⟩ := Av Cs
   refine jE (((b1, ce #[sL Aj walks.length Ai, sL Ak Af.length Al, vI Ae, vI start, sL Ad Ab.length Ac] 50) :: (ai ++ []))) [(1, pO b1), (5, sL aw ax ay), (6, vI ae), (7, vI n), (10, vI (if n3 > n2 then n3 else n2)), (44, .bool k2)] ?_ ?_
   ·clear bo
    refine An (um ?_)
    refine uv (AV rfl rfl) (um ?_)
    by_cases ar : ae < 0
    ·have dk := A5 cc ar
     refine fT ar (fT ar (fT ar ?_))
     refine uv (AF (AX rfl ar) rfl) (Aa ?_)
     obtain rfl := AP dk
     exact mi kr ⟨rfl, rfl, z6⟩
    have dm := A4 cc ar
    refine nF ar (um (nF ar (um (nF ar ?_))))
    refine uv (AV rfl rfl) (uv (AD (AL rfl ar) rfl) (Aa ?_))
    obtain rfl := AP dm
    exact mi kr ⟨rfl, rfl, z6⟩
   refine AR rfl (fun bp => ?_) (fun bp => ?_)
   ·have dp := bt bo bp
    refine An (uv (CA isAgg50 sizeOf50 0) (um ?_))
    obtain ⟨l3, dq, dr⟩ := Av dp
    refine c0 call97 (Ky ab ad aa dq) ?_; rintro _ er _ bq br ⟨dt, du, dv, bu, rfl, rfl, ba⟩
    replace ba := ba.new fun p hp => br p (by simp [hp])
    refine Aw (lp (ln rfl)) (kO (kf (fS fO) kr) ?_)
    refine um (ua (ua (Aa (Ay (id := 1) (An (um ?_))))))
    obtain ⟨dw, dx⟩ := AB dr
    refine uv (A0 rfl rfl dw) ?_
    refine ua (Aa ?_)
    exact le (kc (ka kn)) ⟨l3, if n3 > n2 then n3 else n2, n + 1, dt, du, dv, bu, dx, (((al.trans aj).trans ak).trans bq), rfl, z4, ba⟩
   have dy := bf bo bp
   refine Ao (Ay (id := 1) (An (um ?_)))
   obtain ⟨dz, eb⟩ := AB dy
   refine uv (A0 rfl rfl dz) ?_
   refine ua (Aa ?_)
   exact le kr ⟨ah, ae, n + 1, aw, ax, ay, ai, eb, ((al.trans aj).trans ak), rfl, z4, ao⟩
  have ec := A4 bz bj
  refine AI (Am (Am ?_))
  refine At ?_
  obtain ⟨rfl, rfl⟩ := B9 ec
  exact mi (kd kr) ⟨aw, ax, ay, ai, al, rfl, z2, ao⟩
 rintro e1 et _ ⟨a2, n6, c3, bg, ef, rfl, bw, eg⟩
 refine Az _ bw ?_
 refine Aq (AJ (um ?_))
 refine uv (AV rfl rfl) (Aa ?_)
 refine cQ (fun bx => ?_) fun bx => ?_
 ·have eh := A5 r9 bx
  refine AJ (ua (ua (ua (Aa ?_))))
  refine kW kn ?_
  refine AA (As ?_)
  refine HW results57 (AH rfl) (AH rfl) (AH rfl) (sr) ?_
  obtain ⟨rfl, rfl, rfl⟩ := Kw eh
  exact ⟨_, _, _, [], rfl, rfl, AM.nil _ _ _ _ _⟩
 have ei := A4 r9 bx
 refine Ao (AJ (um (um (ua (ua (ua (Aa (AA ?_))))))))
 refine HW results57 (AH rfl) (AH rfl) (AH rfl) (sr) ?_
 obtain ⟨rfl, rfl, rfl⟩ := Kw ei
 exact ⟨_, _, _, _, rfl, rfl, eg.any⟩
set_option maxHeartbeats 1000000 in
theorem NI {cb : (List Int) → Int → (List (List Int)) → (List (List Int)) → Int → Int → (List ((List Int) × Int × Int)) → (List Int) → (List (Int × Int)) → (List Int) → (List Int) → (List (List Int)) → (List (List Int)) → Int → Int → (List ((List Int) × Int × Int)) → Option ((List Int))} (da : ∀ {Hg : Option Addr} {Hj : Nat} {l : List Int} {from_ : Int} {FO Is : Nat} {Aj : Option Addr} {Ai : Nat} {walks : List (List Int)} {Ak : Option Addr} {Al : Nat} {Af : List (List Int)} {Ae start : Int} {Ad : Option Addr} {Ac : Nat} {Ab : List ((List Int) × Int × Int)} {Ax : List Int} {A3 : Option Addr} {A2 : Nat} {AE : List (Int × Int)} {BH : List Int} {Jz I8 : Nat × Nat} {ar : Nat} {bm : Option Addr} {bn : Nat} {out : List Int} {bw : Nat} {au : Option Addr} {av : Nat} {aw : List (List Int)} {ax : Option Addr} {ay : Nat} {az : List (List Int)} {ba bj : Int} {Di : Option Addr} {Dg : Nat} {al : List ((List Int) × Int × Int)} {cc : Nat × Nat} {aq : Nat} {bp : Nat × Nat} {F : FS} (_ : Ar 1 eI F Hg Hj l) (_ : F FO = some (.cells #[pO Is] 113 I8)) (_ : F Is = some (.cells ((([sL Aj walks.length Ai] : List Value) ++ (([sL Ak Af.length Al] : List Value) ++ (([vI Ae] : List Value) ++ (([vI start] : List Value) ++ (([sL Ad Ab.length Ac] : List Value) ++ (Ax.flatMap (cI .i64) ++ (([sL A3 AE.length A2] : List Value) ++ (BH.flatMap (cI .i64))))))))).toArray) 122 Jz)) (_ : Ar 1 eJ F Aj Ai walks) (_ : Ar 1 eJ F Ak Al Af) (_ : Ar 3 eN F Ad Ac Ab) (_ : Ax.length = 25) (_ : Ar 2 eP F A3 A2 AE) (_ : BH.length = 15) (_ : Ar 1 eI F bm bn out) (_ : F bw = some (.cells #[sL au aw.length av, sL ax az.length ay, vI ba, vI bj, sL Di al.length Dg] 26 cc)) (_ : Ar 1 eJ F au av aw) (_ : Ar 1 eJ F ax ay az) (_ : Ar 3 eN F Di Dg al) (_ : F aq = some (.cells (#[.func (.func 99) #[] #[pO FO, pO ar, pO bw, pO aq]]) 147 bp)) {r : List Int} , cb l from_ walks Af Ae start Ab Ax AE BH out aw az ba bj al = some r → SH.Spec Tryz.prog 99 #[sL Hg l.length Hj, vI from_, pO FO, pO ar, pO bw, pO aq] F [(ar, ce #[sL bm out.length bn] 22)] fun F' L' v => ∃ (ra : Option Addr) (rc : Nat), v = .tuple #[] ∧ L' = [(ar, ce #[sL ra r.length rc] 22)] ∧ Ar 1 eI F' ra rc r) {Hg : Option Addr} {Hj : Nat} {l : List Int} {from_ : Int} {FO Is : Nat} {Ax BH : List Int} {Jz I8 : Nat × Nat} {ar : Nat} {bm : Option Addr} {bn : Nat} {out : List Int} {bw : Nat} {au : Option Addr} {av : Nat} {aw : List (List Int)} {ax : Option Addr} {ay : Nat} {az : List (List Int)} {ba bj : Int} {Di : Option Addr} {Dg : Nat} {al : List ((List Int) × Int × Int)} {cc : Nat × Nat} {aq : Nat} {bp : Nat × Nat} (bx : Ar 1 eI F Hg Hj l) (bb : F FO = some (.cells #[pO Is] 113 I8)) (ao : F Is = some (.cells ((([sL Aj walks.length Ai] : List Value) ++ (([sL Ak Af.length Al] : List Value) ++ (([vI Ae] : List Value) ++ (([vI start] : List Value) ++ (([sL Ad Ab.length Ac] : List Value) ++ (Ax.flatMap (cI .i64) ++ (([sL A3 AE.length A2] : List Value) ++ (BH.flatMap (cI .i64))))))))).toArray) 122 Jz)) (ad : Ar 1 eJ F Aj Ai walks) (ae : Ar 1 eJ F Ak Al Af) (aa : Ar 3 eN F Ad Ac Ab) (bc : Ax.length = 25) (ah : Ar 2 eP F A3 A2 AE) (bq : BH.length = 15) (bo : Ar 1 eI F bm bn out) (bl : F bw = some (.cells #[sL au aw.length av, sL ax az.length ay, vI ba, vI bj, sL Di al.length Dg] 26 cc)) (ai : Ar 1 eJ F au av aw) (aj : Ar 1 eJ F ax ay az) (ab : Ar 3 eN F Di Dg al) (ak : F aq = some (.cells (#[.func (.func 99) #[] #[pO FO, pO ar, pO bw, pO aq]]) 147 bp)) {r : List Int} (hr : Kp cb l from_ walks Af Ae start Ab Ax AE BH out aw az ba bj al = some r) :
    SH.Spec Tryz.prog 99 #[sL Hg l.length Hj, vI from_, pO FO, pO ar, pO bw, pO aq] F [(ar, ce #[sL bm out.length bn] 22)] fun F' L' v => ∃ (ra : Option Addr) (rc : Nat), v = .tuple #[] ∧ L' = [(ar, ce #[sL ra r.length rc] 22)] ∧ Ar 1 eI F' ra rc r := by
 refine sp func99 ntmps99 fun K _ _ => ?_
 rw [Kp] at hr
 refine Aq (Aq ?_)
 refine Bg [(.still, 0), (.still, 1), (.still, 2), (.still, 4), (.seq, 3), (.seq, 5), (.seq, 6), (.still, 7), (.still, 8), (.still, 9), (.still, 10), (.still, 11), (.still, 12), (.still, 13)] (by kernel_rfl) (by kernel_rfl) (trivial) (by rfl) (by kernel_rfl) (mL [2] ([]) rfl sm (fun H F' L' cf cg => AG isAgg113 rfl ((Has.frozen bb).ext cf cg) rfl) (mL [2] ([]) rfl sm (fun H F' L' cf cg => AG isAgg113 rfl ((Has.frozen bb).ext cf cg) rfl) (mS [0] rfl (AO rfl) (mL [2] ([]) rfl sm (fun H F' L' cf cg => AG isAgg113 rfl ((Has.frozen bb).ext cf cg) rfl) ?_))))
 refine ⟨_, [(14, pO Is), (15, sL Hg l.length Hj)], rfl, rfl, z2, by kernel_rfl, ?_⟩; intro H
 obtain ⟨n, h1, r2⟩ := Av hr
 refine cV call100 (IW ao ad ae aa bc ah bq bx h1) ?_
 refine Aa ⟨_, rfl, AN.refl _, [4, 0], by kernel_rfl, .inl (.inr (fun d h => by cases h; rfl)), (fc sm (fc sm nm)), ?_⟩
 refine ⟨_, [(17, pO Is)], rfl, rfl, z1, by kernel_rfl, ?_⟩; intro H
 obtain ⟨y, h3, r4⟩ := Av r2
 refine c0 call90 (EL ao ad ae aa bc ah bq h3) ?_; rintro _ F5 _ br fv ⟨dx, db, dd, rfl, rfl, cp⟩
 replace bx := bx.m1 br
 replace ad := ad.m2 br
 replace ae := ae.m2 br
 replace aa := aa.m3 br
 replace ah := ah.m4 br
 replace bo := bo.m1 br
 replace ai := ai.m2 br
 replace aj := aj.m2 br
 replace ab := ab.m3 br
 replace ao := br _ _ ao
 replace bb := br _ _ bb
 replace bl := br _ _ bl
 replace ak := br _ _ ak
 refine Aw (ln rfl) ?_
 refine Aa ⟨_, rfl, br, [0], by kernel_rfl, .inl (.inr (fun d h => by cases h; rfl)), (fc sm nm), ?_⟩
 refine ⟨_, [(13, pO Is), (16, vI n), (18, .agg #[.func (.func dx) db dd])], rfl, rfl, z3, by kernel_rfl, ?_⟩; intro H
 obtain ⟨l2, n2, ok, dy, dq⟩ := Ia r4
 refine c0 call88 (Cz ao ad ae aa bc ah bq cp dy) ?_; rintro _ dr _ bd dz ⟨eb, ec, ef, eg, rfl, rfl, eh⟩
 replace bx := bx.m1 bd
 replace ad := ad.m2 bd
 replace ae := ae.m2 bd
 replace aa := aa.m3 bd
 replace ah := ah.m4 bd
 replace bo := bo.m1 bd
 replace ai := ai.m2 bd
 replace aj := aj.m2 bd
 replace ab := ab.m3 bd
 replace ao := bd _ _ ao
 replace bb := bd _ _ bb
 replace bl := bd _ _ bl
 replace ak := bd _ _ ak
 refine Aw (lp (ln rfl)) (kO (kf (fS fO) kr) ?_)
 refine Aa ⟨_, rfl, bd, [], by kernel_rfl, .inl (.inl rfl), nm, ?_⟩
 refine mS [19] rfl (AO rfl) (mS (v := sL eb ec ef) [12] rfl (CF rfl rfl) (mS (v := vI n2) [12] rfl (CF rfl rfl) (mS (v := .bool ok) [12] rfl (CF rfl rfl) (mS [20] rfl (BB rfl) (mS [21] rfl (BB rfl) (mS [22] rfl (BB rfl) (Bo ?_)))))))
 refine AJ (um ?_)
 refine uv (Bz rfl) (Aa ?_)
 refine AR rfl (fun de => ?_) (fun de => ?_)
 ·have ei := bt dq de
  refine kW (kc kn) ?_
  refine AA (As ?_)
  refine M8 (.inl rfl) results99 ?_
  obtain rfl := AP ei
  exact ⟨_, _, rfl, rfl, bo⟩
 have ej := bf dq de
 refine Ao ?_
 obtain ⟨cj, dt, du⟩ := Av ej
 refine AU (fun e1 F1 L1 => ∃ (cu : Option Addr) (cv : Nat), dr = F1 ∧ L1 = [(ar, ce #[sL cu cj.length cv] 22)] ∧ e1.sub [(0, sL Hg l.length Hj), (1, vI from_), (4, pO bw), (5, pO aq)] ∧ Ar 1 eI F1 cu cv cj) ?_ ?_
 ·clear du
  refine AJ (um ?_)
  refine uv (AQ underlying22 rfl) (uv (BM isAgg22 0) (uv (AQ underlying22 rfl) (uv (CQ rfl rfl) (Aa ?_))))
  refine cQ (fun df => ?_) fun df => ?_
  ·have en := A5 dt df
   refine An (um ?_)
   refine By (i := 0) sizeOf22 rfl rfl rfl rfl (B2 rfl) (Aw rfl (Aa ?_))
   obtain rfl := AP en
   exact mi (kc kn) ⟨Hg, Hj, rfl, rfl, z4, bx⟩
  have eo := A4 dt df
  refine Ao ?_
  obtain rfl := AP eo
  exact mi (kc kn) ⟨bm, bn, rfl, rfl, z4, bo⟩
 rintro e1 _ _ ⟨cu, cv, rfl, rfl, dg, ep⟩
 refine Az _ dg ?_
 refine AJ (um (ua (Aa ?_)))
 refine Ap ?_
 obtain ⟨dv, er⟩ := AB du
 refine Bb (fun cw e1 F1 L1 => ∃ (n3 : Int), CC from_ (al.length : Int) n3 cw ∧ ∃ (bu : List Int) (cx : Option Addr) (cy : Nat), FY l walks Af Ae start Ab Ax AE BH aw az ba bj al cb cw n3 bu = some r ∧ AN dr F1 ∧ L1 = [(ar, ce #[sL cx bu.length cy] 22)] ∧ e1.sub [(0, sL Hg l.length Hj), (4, pO bw), (5, pO aq), (11, vI n3)] ∧ Ar 1 eI F1 cx cy bu) _ (m0 kr ⟨_, CC.start _ _, cj, cu, cv, er, AN.refl _, rfl, z4, ep⟩) ?_
 rintro cw e1 fw _ ⟨n3, bz, bu, cx, cy, cz, bk, rfl, dh, cn⟩
 refine Az _ dh ?_
 replace bx := bx.m1 bk
 replace ad := ad.m2 bk
 replace ae := ae.m2 bk
 replace aa := aa.m3 bk
 replace ah := ah.m4 bk
 replace ai := ai.m2 bk
 replace aj := aj.m2 bk
 replace ab := ab.m3 bk
 replace ao := bk _ _ ao
 replace bb := bk _ _ bb
 replace bl := bk _ _ bl
 replace ak := bk _ _ ak
 refine Aq (AJ (um ?_))
 refine uv (Ah BF rfl) (uv (AG isAgg24 rfl (Has.frozen bl) rfl) (uv (AQ underlying24 rfl) (uv (AV rfl rfl) (Aa ?_))))
 refine cQ (fun cq => ?_) fun cq => ?_
 ·obtain ⟨cw, rfl, di⟩ := CC.succ bz cq
  rw [FY] at cz
  refine Ao (Aq ?_)
  refine Ap (Bg [(.still, 0), (.still, 1), (.still, 3), (.pre, 4), (.still, 6), (.still, 7), (.seq, 2), (.alloc (ce #[vI n3] 3) (fun b => sL (aD b) 1 1) [(42, vI n3)], 4), (.seq, 5), (.seq, 8)] (by kernel_rfl) (by kernel_rfl) (⟨⟨_, _, rfl, rfl, rfl, rfl, rfl, JQ rfl (Ef Bp [vI n3] rfl (by decide) (by simp [Value.cells]) (by decide))⟩, trivial⟩) (by rfl) (by kernel_rfl) (mL [5] ([]) rfl sm (fun H F' L' cf cg => AG isAgg147 rfl ((Has.frozen ak).ext cf cg) rfl) (mS [0] rfl (AO rfl) (mS [11] rfl (AO rfl) ?_))))
  refine ⟨⟨_, rfl, z1, by kernel_rfl⟩, ?_⟩
  refine mS [11] rfl (AO rfl) (mS (v := vI (n3 + 1)) [45] rfl (A0 rfl rfl (CC.Cs bz cq dv)) ?_)
  refine ⟨_, [(40, sL Hg l.length Hj)], rfl, rfl, z1, by kernel_rfl, ?_⟩; intro H
  obtain ⟨l3, et, eu⟩ := Av cz
  refine c0 call78 (Im bx et) ?_; rintro _ fx _ bg dk ⟨ew, ey, ez, dm, rfl, rfl, ck⟩
  replace ad := ad.m2 bg
  replace ae := ae.m2 bg
  replace aa := aa.m3 bg
  replace ah := ah.m4 bg
  replace ai := ai.m2 bg
  replace aj := aj.m2 bg
  replace ab := ab.m3 bg
  replace cn := cn.m1 bg
  replace ao := bg _ _ ao
  replace bb := bg _ _ bb
  replace bl := bg _ _ bl
  replace ak := bg _ _ ak
  replace ck := ck.new fun p hp => dk p (by simp [hp])
  refine Aw (lp (ln rfl)) (kO (kf (fS fO) kr) ?_)
  refine Aa ⟨_, rfl, bg, [7, 6, 3, 0], by kernel_rfl, .inl (.inr (fun d h => by cases h; rfl)), (fc sm (fc sm (fc sm (fc sm nm)))), ?_⟩
  refine KT rfl ?_; intro dw fa
  refine GI (L' := (dw, ce #[vI n3] 3) :: ((ar, ce #[sL cx bu.length cy] 22) :: (dm ++ []))) rfl ?_
  refine ⟨_, [(41, sL ew ey ez), (43, sL (aD dw) 1 1)], rfl, rfl, z2, by kernel_rfl, ?_⟩; intro H
  obtain ⟨l4, fb, fe, ff⟩ := DS eu
  refine Cq (xs := l3) (ys := [n3]) (zs := l4) rfl Bp rfl rfl (Nat.le_refl _) (fun _ => .c (.c .h)) ck (Fg.box (vss := [[vI n3]]) (ys := [n3]) 0 rfl kI (.cons rfl .nil) rfl rfl) fb fe (by decide) ?_; intro fg fh fi fj cr
  refine kO (kd kr) ?_
  refine Aa ⟨_, rfl, AN.refl _, [7, 6, 0], by kernel_rfl, .inl (.inr (fun d h => by cases h; rfl)), (fc sm (fc sm (fc sm nm))), ?_⟩
  refine ⟨_, [(39, .func (.func 99) #[] #[pO FO, pO ar, pO bw, pO aq]), (44, sL fg fh fi), (46, vI (n3 + 1))], rfl, rfl, z3, by kernel_rfl, ?_⟩; intro H
  obtain rfl := (AM.A6 cr).1
  refine B6 (Nat.le_refl _) kI (fC fP) cr ?_; intro fy bh fk
  replace ad := ad.m2 bh
  replace ae := ae.m2 bh
  replace aa := aa.m3 bh
  replace ah := ah.m4 bh
  replace ai := ai.m2 bh
  replace aj := aj.m2 bh
  replace ab := ab.m3 bh
  replace cn := cn.m1 bh
  replace ao := bh _ _ ao
  replace bb := bh _ _ bb
  replace bl := bh _ _ bl
  replace ak := bh _ _ ak
  obtain ⟨dp, fl, fm⟩ := Av ff
  refine cG call99 (da fk bb ao ad ae aa bc ah bq cn bl ai aj ab ak fl) ?_; rintro _ g0 _ ct fo fp ⟨fq, fs, rfl, rfl, ft⟩
  refine Aw (lb (ln rfl)) ?_
  refine Aa ⟨_, rfl, (bh.trans ct), [], by kernel_rfl, .inl (.inl rfl), nm, ?_⟩
  refine Bo ?_
  refine Ay (id := 1) (An (um ?_))
  refine uv (A0 rfl rfl (CC.Cs bz cq dv)) ?_
  refine ua (Aa ?_)
  exact le kr ⟨_, di, dp, fq, fs, fm, (((bk.trans bg).trans bh).trans ct), rfl, z4, ft⟩
 obtain rfl := CC.zero bz cq
 rw [FY] at cz
 refine AI (Am (Am ?_))
 refine At (M8 (.inr rfl) results99 ?_)
 obtain rfl := AP cz
 exact ⟨_, _, rfl, rfl, cn⟩
set_option maxHeartbeats 1000000 in
theorem NU : ∀ (fu : Nat) {Hg : Option Addr} {Hj : Nat} {l : List Int} {from_ : Int} {FO Is : Nat} {Aj : Option Addr} {Ai : Nat} {walks : List (List Int)} {Ak : Option Addr} {Al : Nat} {Af : List (List Int)} {Ae start : Int} {Ad : Option Addr} {Ac : Nat} {Ab : List ((List Int) × Int × Int)} {Ax : List Int} {A3 : Option Addr} {A2 : Nat} {AE : List (Int × Int)} {BH : List Int} {Jz I8 : Nat × Nat} {al : Nat} {au : Option Addr} {av : Nat} {out : List Int} {aw : Nat} {ab : Option Addr} {ad : Nat} {ai : List (List Int)} {ae : Option Addr} {ah : Nat} {aj : List (List Int)} {ao aq : Int} {Di : Option Addr} {Dg : Nat} {aa : List ((List Int) × Int × Int)} {ax : Nat × Nat} {ak : Nat} {ar : Nat × Nat} {F : FS} (_ : Ar 1 eI F Hg Hj l) (_ : F FO = some (.cells #[pO Is] 113 I8)) (_ : F Is = some (.cells ((([sL Aj walks.length Ai] : List Value) ++ (([sL Ak Af.length Al] : List Value) ++ (([vI Ae] : List Value) ++ (([vI start] : List Value) ++ (([sL Ad Ab.length Ac] : List Value) ++ (Ax.flatMap (cI .i64) ++ (([sL A3 AE.length A2] : List Value) ++ (BH.flatMap (cI .i64))))))))).toArray) 122 Jz)) (_ : Ar 1 eJ F Aj Ai walks) (_ : Ar 1 eJ F Ak Al Af) (_ : Ar 3 eN F Ad Ac Ab) (_ : Ax.length = 25) (_ : Ar 2 eP F A3 A2 AE) (_ : BH.length = 15) (_ : Ar 1 eI F au av out) (_ : F aw = some (.cells #[sL ab ai.length ad, sL ae aj.length ah, vI ao, vI aq, sL Di aa.length Dg] 26 ax)) (_ : Ar 1 eJ F ab ad ai) (_ : Ar 1 eJ F ae ah aj) (_ : Ar 3 eN F Di Dg aa) (_ : F ak = some (.cells (#[.func (.func 99) #[] #[pO FO, pO al, pO aw, pO ak]]) 147 ar)) {r : List Int} , Iv fu l from_ walks Af Ae start Ab Ax AE BH out ai aj ao aq aa = some r → SH.Spec Tryz.prog 99 #[sL Hg l.length Hj, vI from_, pO FO, pO al, pO aw, pO ak] F [(al, ce #[sL au out.length av] 22)] fun F' L' v => ∃ (ra : Option Addr) (rc : Nat), v = .tuple #[] ∧ L' = [(al, ce #[sL ra r.length rc] 22)] ∧ Ar 1 eI F' ra rc r := by
  intro fu
  induction fu with
  | zero => intros; rename_i hr; rw [Iv] at hr; cases hr
  | succ fu ih => intros; rename_i hr; rw [Iv] at hr; exact NI ih (by assumption) (by assumption) (by assumption) (by assumption) (by assumption) (by assumption) (by assumption) (by assumption) (by assumption) (by assumption) (by assumption) (by assumption) (by assumption) (by assumption) (by assumption) hr
set_option maxHeartbeats 1000000 in
theorem OM (ab : Ar 1 eJ F Aj Ai walks) (ad : Ar 1 eJ F Ak Al Af) (aa : Ar 3 eN F Ad Ac Ab) {r : List Int} {r2 : Int} (hr : Mg walks Af Ae start Ab = some (r, r2)) :
    SH.Spec Tryz.prog 58 #[.agg #[sL Aj walks.length Ai, sL Ak Af.length Al, vI Ae, vI start, sL Ad Ab.length Ac]] F [] fun F' L' v => ∃ (ra : Option Addr) (rc : Nat), v = .tuple #[sL ra r.length rc, vI r2] ∧ L' = [] ∧ Ar 1 eI F' ra rc r := by
 refine sp func58 ntmps58 fun K _ _ => ?_
 rw [Mg] at hr
 refine AJ ?_
 refine Bx rfl rfl ?_; intro b1 bl
 refine ua (ua (BL ?_))
 refine uv (CA isAgg26 sizeOf26 0) ?_
 obtain ⟨d, n, h2, r3⟩ := BT hr
 refine c0 call72 (Cd ab ad aa h2) ?_; rintro _ F4 _ bb cx ⟨v8, rfl, rfl, ba⟩
 replace ab := ab.m2 bb
 replace ad := ad.m2 bb
 replace aa := aa.m3 bb
 refine Aw (ln rfl) ?_
 refine um (ox rfl rfl rfl (ox rfl rfl rfl ?_))
 refine Bh rfl zeroValue113 ?_; intro NF bc
 refine By (i := 0) sizeOf113 rfl rfl (KK.one ba) rfl (B2 rfl) (Aw rfl ?_)
 refine ua (Aa (Aq (AJ (um ?_))))
 refine uv (Bt rfl rfl) (Aa ?_)
 refine cQ (fun bd => ?_) fun bd => ?_
 ·have bm := A5 r3 bd
  refine AJ (um (ua (ua (Aa ?_))))
  refine kW kn ?_
  refine AA (As ?_)
  refine BG results58 (AH rfl) (AH rfl) (sr) ?_
  obtain ⟨rfl, rfl⟩ := B9 bm
  exact ⟨_, _, rfl, rfl, Ar.nil _ _ _⟩
 have bn := A4 r3 bd
 refine Ao (AJ ?_)
 refine Bh rfl zeroValue22 ?_; intro cy bo
 refine BL ?_
 refine Bh rfl zeroValue147 ?_; intro cz bg
 refine BL (uv (Fh rfl rfl) (By (i := 0) sizeOf147 rfl rfl rfl rfl (B2 rfl) (Aw rfl (BL (uv (BM isAgg147 0) ?_)))))
 refine Br 2 rfl bc ?_; intro bp al aj
 refine Aw rfl ?_
 replace ab := ab.m2 al
 replace ad := ad.m2 al
 replace aa := aa.m3 al
 replace ba := ba.mono (BW (AT kJ) (BW (AT kJ) (BW kI (BW kI (BW (AT kN) (BW (Jh (n := 25) (sz := 1) (Bj .i64)) (BW (AT kP) (Jh (n := 15) (sz := 1) (Bj .i64))))))))) al
 obtain ⟨Ax, aq, ao, ar, ak, au, AE, BH, bq, br⟩ := J3 bn
 have bk := ba; rw [bq] at bk; obtain ⟨bu, da, bw, bh, ai, ⟨_, _, rfl, ⟨bx, bz, rfl, aw⟩, ⟨_, _, rfl, ⟨cb, cc, rfl, ax⟩, ⟨_, _, rfl, rfl, ⟨_, _, rfl, rfl, ⟨_, _, rfl, ⟨cf, cg, rfl, ay⟩, ⟨_, _, rfl, ⟨rfl, cj⟩, ⟨_, _, rfl, ⟨ck, cn, rfl, az⟩, ⟨rfl, cp⟩⟩⟩⟩⟩⟩⟩⟩⟩ := bk; subst bh
 have ai : bp bu = some (.cells ((([sL bx Ax.length bz] : List Value) ++ (([sL cb aq.length cc] : List Value) ++ (([vI ao] : List Value) ++ (([vI ar] : List Value) ++ (([sL cf ak.length cg] : List Value) ++ (au.flatMap (cI .i64) ++ (([sL ck AE.length cn] : List Value) ++ (BH.flatMap (cI .i64))))))))).toArray) 122 bw) := ai
 refine Br 2 rfl bl ?_; intro db ah av
 refine Aw rfl ?_
 replace ab := ab.m2 ah
 replace ad := ad.m2 ah
 replace aa := aa.m3 ah
 replace aw := aw.m2 ah
 replace ax := ax.m2 ah
 replace ay := ay.m3 ah
 replace az := az.m4 ah
 replace aj := ah _ _ aj
 replace ai := ah _ _ ai
 refine Br 0 rfl bg ?_; intro dd ae bj
 refine Aw rfl ?_
 replace ab := ab.m2 ae
 replace ad := ad.m2 ae
 replace aa := aa.m3 ae
 replace aw := aw.m2 ae
 replace ax := ax.m2 ae
 replace ay := ay.m3 ae
 replace az := az.m4 ae
 replace aj := ae _ _ aj
 replace ai := ae _ _ ai
 replace av := ae _ _ av
 obtain ⟨out, cq, cr⟩ := Av br
 refine cG call99 ((NU FU) (Ar.nil _ _ _) aj ai aw ax ay cj az cp (Ar.nil _ _ _) av ab ad aa bj cq) ?_; rintro _ de _ ct cu cv ⟨df, dg, rfl, rfl, cw⟩
 refine Aw (lb (ln rfl)) (BL (uv (BM isAgg22 0) ?_))
 refine ua (ua (Aa ?_))
 refine kW kn (AA (BG results58 (AH rfl) (AH rfl) (sr) ?_))
 obtain ⟨rfl, rfl⟩ := B9 cr
 exact ⟨_, _, rfl, rfl, cw⟩
set_option maxHeartbeats 1000000 in
theorem FN (ab : Ar 1 eJ F Aj Ai walks) (ad : Ar 1 eJ F Ak Al Af) (aa : Ar 3 eN F Ad Ac Ab) {r : Bool} (hr : DR walks Af Ae start Ab AW = some r) :
    Bv Tryz.prog 11 #[.agg #[sL Aj walks.length Ai, sL Ak Af.length Al, vI Ae, vI start, sL Ad Ab.length Ac], vI AW] F (.bool r) := by
 refine sp func11 ntmps11 fun K _ _ => ?_
 rw [DR] at hr
 refine AJ ?_
 refine Bx rfl rfl ?_; intro b1 jk
 refine ua (Aa (Aq ?_))
 obtain ⟨k, h2, r3⟩ := Av hr
 refine jE ([(b1, ce #[sL Aj walks.length Ai, sL Ak Af.length Al, vI Ae, vI start, sL Ad Ab.length Ac] 26)]) [(1, vI AW), (2, pO b1), (26, .bool k)] ?_ ?_
 ·clear r3
  refine An (uv (CA isAgg26 sizeOf26 0) ?_)
  obtain ⟨ok, h4, r5⟩ := Av h2
  refine cV call15 (DQ ab ad aa h4) (um ?_)
  rcases EE ok with c6 | c6
  ·have r7 := bt r5 c6
   refine fB c6 (fB c6 ?_)
   refine uv (AF (Gl rfl c6) rfl) (Aa ?_)
   obtain rfl := AP r7
   exact mi kr ⟨rfl, rfl, z3⟩
  have r8 := bf r5 c6
  refine nB c6 (uv (CA isAgg26 sizeOf26 0) (nB c6 ?_))
  obtain ⟨jl, h9, ie⟩ := Av r8
  refine cV call45 (IM ab ad aa h9) (uv (AD (Gl rfl c6) rfl) (Aa ?_))
  obtain rfl := AP ie
  exact mi kr ⟨rfl, rfl, z3⟩
 refine AR rfl (fun dy => ?_) (fun dy => ?_)
 ·have ig := bt r3 dy
  refine AJ ?_
  obtain ⟨jm, ij, ik⟩ := Av ig
  refine cV call14 (B0 ij) ?_
  refine ua (Aa ?_)
  refine kW kn ?_
  refine AA (As ?_)
  refine C3 results11 ?_
  obtain rfl := AP ik
  exact rfl
 have il := bf r3 dy
 refine Ao (Aq ?_)
 refine Bg [(.pre, 4), (.pre, 5), (.still, 0), (.still, 2), (.seq, 1), (.seq, 3), (.alloc (.cells (.agg #[sL none 0 0, sL none 0 0, vI 0, vI 0, sL none 0 0] : Value).cells 26 (0, 0)) (fun b => pO b) [], 4), (.alloc (.cells (.agg #[sL none 0 0, sL none 0 0, vI 0, vI 0, sL none 0 0] : Value).cells 50 (0, 0)) (fun b => pO b) [], 5), (.seq, 6), (.seq, 7)] (by kernel_rfl) (by kernel_rfl) (⟨⟨_, _, rfl, rfl, rfl, rfl, rfl, EI zeroValue26⟩, ⟨⟨_, _, rfl, rfl, rfl, rfl, rfl, EI zeroValue50⟩, trivial⟩⟩) (by rfl) (by kernel_rfl) ?_
 refine ⟨⟨[], rfl, sn _, by kernel_rfl⟩, ?_⟩
 refine ⟨⟨[], rfl, sn _, by kernel_rfl⟩, ?_⟩
 refine mL [2] ([(b1, ce #[sL Aj walks.length Ai, sL Ak Af.length Al, vI Ae, vI start, sL Ad Ab.length Ac] 26)]) rfl (s0 sr) (fun H F' L' dz eb => AZ isAgg26 sizeOf26 rfl ((Has.own 0 rfl).ext dz eb) (B2 rfl) rfl) (mL [2] ([(b1, ce #[sL Aj walks.length Ai, sL Ak Af.length Al, vI Ae, vI start, sL Ad Ab.length Ac] 26)]) rfl (s0 sr) (fun H F' L' dz eb => AZ isAgg26 sizeOf26 rfl ((Has.own 0 rfl).ext dz eb) (B2 rfl) rfl) ?_)
 refine ⟨_, [(28, .agg #[sL Aj walks.length Ai, sL Ak Af.length Al, vI Ae, vI start, sL Ad Ab.length Ac])], rfl, rfl, z1, by kernel_rfl, ?_⟩; intro H
 obtain ⟨l, l2, n, n2, l3, im, iq⟩ := Fx il
 refine c0 call16 (DX ab ad aa im) ?_; rintro _ jn _ bl cg ⟨dh, di, dk, bh, dm, dp, dq, bj, dr, dt, du, bk, rfl, rfl, ay, av, ai⟩
 replace ab := ab.m2 bl
 replace ad := ad.m2 bl
 replace aa := aa.m3 bl
 replace ay := ay.new fun p hp => cg p (by simp [hp])
 replace av := av.new fun p hp => cg p (by simp [hp])
 replace ai := ai.new fun p hp => cg p (by simp [hp])
 refine Aw (lp (lp (lp (ln rfl)))) (kO (kf (fS (fS (fS fO))) kr) ?_)
 refine Aa ⟨_, rfl, bl, [2], by kernel_rfl, .inl (.inr (fun d h => by cases h; rfl)), (fc (s0 (s2 (s3 (s3 (s3 sr))))) nm), ?_⟩
 refine ⟨_, [(30, .agg #[sL Aj walks.length Ai, sL Ak Af.length Al, vI Ae, vI start, sL Ad Ab.length Ac])], rfl, rfl, z1, by kernel_rfl, ?_⟩; intro H
 obtain ⟨l4, l5, n3, n4, l6, ir, iu⟩ := Fx iq
 refine c0 call17 (CP ab ad aa ir) ?_; rintro _ iv _ bb ec ⟨ef, eg, eh, ei, ej, en, eo, bm, rfl, rfl, cr, ct, aj⟩
 replace ab := ab.m2 bb
 replace ad := ad.m2 bb
 replace aa := aa.m3 bb
 replace ay := ay.m2 bb
 replace av := av.m2 bb
 replace ai := ai.m3 bb
 replace aj := aj.new fun p hp => ec p (by simp [hp])
 refine Aw (lp (ln rfl)) (kO (kf (fS fO) kr) ?_)
 refine Aa ⟨_, rfl, bb, [], by kernel_rfl, .inl (.inl rfl), nm, ?_⟩
 refine FT rfl ?_; intro bn iw
 refine GI (L' := (bn, ce #[sL none 0 0, sL none 0 0, vI 0, vI 0, sL none 0 0] 26) :: ((b1, ce #[sL Aj walks.length Ai, sL Ak Af.length Al, vI Ae, vI start, sL Ad Ab.length Ac] 26) :: (bm ++ (bh ++ (bj ++ (bk ++ [])))))) rfl ?_
 refine FT rfl ?_; intro cu iy
 refine GI (L' := (cu, ce #[sL none 0 0, sL none 0 0, vI 0, vI 0, sL none 0 0] 50) :: ((bn, ce #[sL none 0 0, sL none 0 0, vI 0, vI 0, sL none 0 0] 26) :: ((b1, ce #[sL Aj walks.length Ai, sL Ak Af.length Al, vI Ae, vI start, sL Ad Ab.length Ac] 26) :: (bm ++ (bh ++ (bj ++ (bk ++ []))))))) rfl ?_
 refine ⟨_, [(5, pO bn), (29, .agg #[sL dh di dk, sL dm dp dq, vI n, vI n2, sL dr dt du])], rfl, rfl, z2, by kernel_rfl, ?_⟩; intro H
 refine A8 (i := 1) sizeOf26 rfl rfl rfl (by simp [Value.oneCell']) rfl (B2 rfl) (Aw rfl ?_)
 refine Aa ⟨undef, rfl, AN.refl _, [], by kernel_rfl, .inl (.inl rfl), nm, ?_⟩
 refine ⟨_, [(6, pO cu), (31, .agg #[sL ef l4.length eg, sL eh l5.length ei, vI n3, vI n4, sL ej en eo])], rfl, rfl, z2, by kernel_rfl, ?_⟩; intro H
 refine A8 (i := 0) sizeOf50 rfl rfl rfl (by simp [Value.oneCell']) rfl (B2 rfl) (Aw rfl ?_)
 refine Aa ⟨undef, rfl, AN.refl _, [], by kernel_rfl, .inl (.inl rfl), nm, ?_⟩
 refine Bo (AJ (uv (CA isAgg50 sizeOf50 0) ?_))
 obtain ⟨n5, iz, j0⟩ := Av iu
 refine Bn rfl call18 rfl rfl rfl (pT ((fC (fC (fC fP))).trans (pA pR)) (lp (ln rfl))) (fun F2 h2 h3 => by rw [(AM.A6 aj).1]; exact C1 (cr.mono kJ h2) (ct.mono kJ h2) (aj.row kN h2 (aL h3)) iz) ?_
 refine ua (BL (um (um (ua (ua (ua (ua (BL (ua ?_)))))))))
 refine ua (Aa ?_)
 obtain ⟨v, u, hour, late, ep, j1, gv, gw⟩ := QA j0
 refine AU (fun e1 F1 L1 => ∃ (er : Option Addr) (et : Nat) (eu : Nat) (cj : LH) (ew : Option Addr) (ey : Nat) (ez : Nat) (ck : LH), AN iv F1 ∧ L1 = ((bn, ce #[sL dh di dk, sL dm dp dq, vI n, vI n2, sL dr dt du] 26) :: ((b1, ce #[sL Aj walks.length Ai, sL Ak Af.length Al, vI Ae, vI start, sL Ad Ab.length Ac] 26) :: (bh ++ (bj ++ (bk ++ (cj ++ (ck ++ []))))))) ∧ e1.sub [(1, vI AW), (2, pO b1), (5, pO bn), (7, vI n5), (8, vI v), (9, vI u), (10, vI hour), (11, vI late), (12, sL er et eu), (13, sL ew ey ez)] ∧ AM K.w0.heap.size 3 1 eI F1 er et eu ep cj ∧ AM K.w0.heap.size 3 1 eI F1 ew ey ez j1 ck) ?_ ?_
 ·clear gw
  refine AJ (um ?_)
  refine uv (BO rfl rfl) (Aa ?_)
  refine cQ (fun fa => ?_) fun fa => ?_
  ·have j2 := A5 gv fa
   refine AJ (uv (CA isAgg50 sizeOf50 0) ?_)
   obtain ⟨l7, j3, j4⟩ := Av j2
   refine BU rfl call55 rfl rfl rfl (pT ((fC (fC (fC fP))).trans (pA pR)) (ln (lp (ln rfl)))) (fun F2 h2 h3 => by rw [(AM.A6 aj).1]; exact Ng (cr.mono kJ h2) (ct.mono kJ h2) (aj.row kN h2 (aL h3)) j3) (fun _ _ _ _ hq => by obtain ⟨dv, dw, dx, bo, rfl, rfl, bc⟩ := hq; exact ⟨_, _, _, _, rfl, rfl, bc.flat (fun _ _ h => h)⟩) ?_; rintro _ jo _ bp fb fe ⟨dv, dw, dx, bo, rfl, rfl, bc⟩
   replace cr := cr.m2 bp
   replace ct := ct.m2 bp
   replace aj := aj.m3 bp
   have ff := HD (Lb' := []) (by rfl) fb fe
   replace bc := bc.new fun p hp => ff p (by simp [hp])
   refine Aw (lp (ln (lp (ln rfl)))) (kO (kf (fS (fS fO)) (kf (fS (fS fO)) (kf (fS (fS fO)) kr))) ?_)
   refine ua (Aa ?_)
   obtain ⟨v2, cv, j5, gz⟩ := BT j4
   refine jE (((cu, ce #[sL ef l4.length eg, sL eh l5.length ei, vI n3, vI n4, sL ej en eo] 50) :: ((bn, ce #[sL dh di dk, sL dm dp dq, vI n, vI n2, sL dr dt du] 26) :: ((b1, ce #[sL Aj walks.length Ai, sL Ak Af.length Al, vI Ae, vI start, sL Ad Ab.length Ac] 26) :: (bh ++ (bj ++ (bk ++ (bm ++ (bo ++ []))))))))) [(1, vI AW), (2, pO b1), (5, pO bn), (6, pO cu), (7, vI n5), (8, vI v2), (10, vI cv), (12, sL dv dw dx)] ?_ ?_
   ·clear gz
    refine AJ (ua (Aa ?_))
    obtain ⟨k2, ia, fg⟩ := Av j5
    refine jE (((cu, ce #[sL ef l4.length eg, sL eh l5.length ei, vI n3, vI n4, sL ej en eo] 50) :: ((bn, ce #[sL dh di dk, sL dm dp dq, vI n, vI n2, sL dr dt du] 26) :: ((b1, ce #[sL Aj walks.length Ai, sL Ak Af.length Al, vI Ae, vI start, sL Ad Ab.length Ac] 26) :: (bh ++ (bj ++ (bk ++ (bm ++ (bo ++ []))))))))) [(1, vI AW), (2, pO b1), (5, pO bn), (6, pO cu), (7, vI n5), (8, vI 1), (10, vI 0), (12, sL dv dw dx), (48, .bool k2)] ?_ ?_
    ·clear fg
     refine An (um ?_)
     refine uv (HV rfl rfl) (um ?_)
     by_cases bd : 0 ≤ AW
     ·have j6 := A5 ia bd
      refine nT bd (um (nT bd ?_))
      refine uv (Ah BF rfl) (nT bd (uv (BM isAgg24 2) (nT bd (uv (AQ underlying24 rfl) (nT bd (uv (AV rfl rfl) (uv (AF (AX rfl bd) rfl) ?_)))))))
      refine Aa ?_
      obtain rfl := AP j6
      exact mi (kc (kc (kc (kg (fS (fS fP)) (kg (fS (fS fP)) (kg (fS (fS fP)) (kg (fS fP) kr))))))) ⟨rfl, rfl, (sc rfl z8)⟩
     have j7 := A4 ia bd
     refine fF bd (fF bd (fF bd (fF bd (fF bd ?_))))
     refine uv (AD (AL rfl bd) rfl) (Aa ?_)
     obtain rfl := AP j7
     exact mi (kc (kc (kc (kg (fS (fS fP)) (kg (fS (fS fP)) (kg (fS (fS fP)) (kg (fS fP) kr))))))) ⟨rfl, rfl, (sc rfl z8)⟩
    refine AR rfl (fun cn => ?_) (fun cn => ?_)
    ·have fh := bt fg cn
     refine AJ (uv (CA isAgg50 sizeOf50 0) (um ?_))
     obtain ⟨n6, fi, cw⟩ := Av fh
     refine Bn rfl call56 rfl rfl rfl (pT ((fC (fC (fC (fS (fS (fS fP)))))).trans (pA pR)) (lp (ln rfl))) (fun F2 h2 h3 => by rw [(AM.A6 aj).1]; exact MB (cr.mono kJ h2) (ct.mono kJ h2) (aj.row kN h2 (aL h3)) fi) ?_
     refine ua (ua (BL (um ?_)))
     refine uv (AV rfl rfl) (Aa ?_)
     refine cQ (fun cp => ?_) fun cp => ?_
     ·have fj := A5 cw cp
      refine An (ua (ua (Aa ?_)))
      obtain ⟨rfl, rfl⟩ := B9 fj
      exact mi kr ⟨rfl, rfl, z8⟩
     have fk := A4 cw cp
     refine Ao ?_
     obtain ⟨rfl, rfl⟩ := B9 fk
     exact mi kr ⟨rfl, rfl, z8⟩
    have fl := bf fg cn
    refine Ao ?_
    obtain ⟨rfl, rfl⟩ := B9 fl
    exact mi kr ⟨rfl, rfl, z8⟩
   refine An (uv (CA isAgg50 sizeOf50 0) ?_)
   obtain ⟨l8, n7, n8, fm, fo⟩ := Ia gz
   refine BU rfl call57 rfl rfl rfl (pT ((fC (fC (fC (fS (fS (fS fP)))))).trans (pA pR)) (ln (lp (ln rfl)))) (fun F2 h2 h3 => by rw [(AM.A6 aj).1]; exact NJ (cr.mono kJ h2) (ct.mono kJ h2) (aj.row kN h2 (aL h3)) fm) (fun _ _ _ _ hq => by obtain ⟨cx, cy, cz, cc, rfl, rfl, az⟩ := hq; exact ⟨_, _, _, _, rfl, rfl, az.flat (fun _ _ h => h)⟩) ?_; rintro _ j8 _ cf da db ⟨cx, cy, cz, cc, rfl, rfl, az⟩
   replace bc := bc.m1 cf
   have dd := HD (Lb' := []) (by rfl) da db
   replace az := az.new fun p hp => dd p (by simp [hp])
   refine Aw (lp (ln (lp (ln rfl)))) (kO (kf (fS (fS fO)) (kf (fS (fS fO)) (kf (fS (fS fO)) kr))) ?_)
   refine um (ox rfl rfl rfl (ox rfl rfl rfl (ox rfl rfl rfl (ua (ua (ua (Aa ?_)))))))
   obtain ⟨rfl, rfl, rfl, rfl, rfl, rfl⟩ := Oh fo
   exact mi (kd (kc (kc (kg (fS (fS fP)) (kg (fS (fS fP)) (kg (fS (fS fP)) (kg (fS (fS fP)) (ka kn)))))))) ⟨dv, dw, dx, bo, cx, cy, cz, cc, (bp.trans cf), rfl, (sc rfl (sc rfl z8)), bc, az⟩
  have fp := A4 gv fa
  refine Ao ?_
  obtain ⟨rfl, rfl, rfl, rfl, rfl, rfl⟩ := Oh fp
  exact mi (kd (kc (kc (kx (ka (ka (ka (ke (ke kr))))))))) ⟨none, 0, 0, [], none, 0, 0, [], AN.refl _, rfl, (sc rfl (sc rfl z8)), AM.nil _ _ _ _ _, AM.nil _ _ _ _ _⟩
 rintro e1 j9 _ ⟨er, et, eu, cj, ew, ey, ez, ck, ax, rfl, de, ak, al⟩
 refine Az _ de ?_
 replace ab := ab.m2 ax
 replace ad := ad.m2 ax
 replace aa := aa.m3 ax
 replace ay := ay.m2 ax
 replace av := av.m2 ax
 replace ai := ai.m3 ax
 refine AJ (uv (CA isAgg26 sizeOf26 0) ?_)
 obtain rfl := (AM.A6 ay).1
 refine B6 (Nat.le_refl _) kJ (fC (fC fP)) ay ?_; intro ja aq ao
 replace ab := ab.m2 aq
 replace ad := ad.m2 aq
 replace aa := aa.m3 aq
 replace av := av.m2 aq
 replace ai := ai.m3 aq
 replace al := al.m1 aq
 replace ak := ak.m1 aq
 obtain rfl := (AM.A6 av).1
 refine B6 (Nat.le_refl _) kJ (fC (fC fP)) av ?_; intro jb ar aw
 replace ab := ab.m2 ar
 replace ad := ad.m2 ar
 replace aa := aa.m3 ar
 replace ao := ao.m2 ar
 replace ai := ai.m3 ar
 replace al := al.m1 ar
 replace ak := ak.m1 ar
 obtain rfl := (AM.A6 ai).1
 refine B6 (Nat.le_refl _) kN (fC (fC fP)) ai ?_; intro jc au ba
 replace ab := ab.m2 au
 replace ad := ad.m2 au
 replace aa := aa.m3 au
 replace ao := ao.m2 au
 replace aw := aw.m2 au
 replace al := al.m1 au
 replace ak := ak.m1 au
 obtain ⟨l9, n9, fq, fs⟩ := BT gw
 refine c0 call58 (OM ao aw ba fq) ?_; rintro _ jd _ ah ib ⟨je, jf, rfl, rfl, cq⟩
 replace ab := ab.m2 ah
 replace ad := ad.m2 ah
 replace aa := aa.m3 ah
 replace ao := ao.m2 ah
 replace aw := aw.m2 ah
 replace ba := ba.m3 ah
 replace al := al.m1 ah
 replace ak := ak.m1 ah
 refine Aw (ln rfl) ?_
 refine um (ox rfl rfl rfl (ox rfl rfl rfl (ua (ua (BL ?_)))))
 refine uv (CA isAgg26 sizeOf26 0) (um ?_)
 obtain ⟨jq, jr, ft, fv⟩ := BT fs
 refine cV call59 (LZ ao aw ba ft) ?_
 refine um (ox rfl rfl rfl (ox rfl rfl rfl (ua (ua (BL ?_)))))
 refine uv (CA isAgg26 sizeOf26 0) ?_
 obtain ⟨js, jt, ju, fw, fx⟩ := Ia fv
 refine c0 call60 (Nv ao aw ba fw) ?_; rintro _ jg _ ae df ⟨jh, ji, jj, ic, rfl, rfl, bg⟩
 replace ab := ab.m2 ae
 replace ad := ad.m2 ae
 replace aa := aa.m3 ae
 replace ao := ao.m2 ae
 replace aw := aw.m2 ae
 replace ba := ba.m3 ae
 replace cq := cq.m1 ae
 replace al := al.m1 ae
 replace ak := ak.m1 ae
 replace bg := bg.new fun p hp => df p (by simp [hp])
 refine Aw (lp (ln rfl)) (kO (kf (fS fO) (kf (fS fO) kr)) ?_)
 refine um (ox rfl rfl rfl (ox rfl rfl rfl (ox rfl rfl rfl (ua (ua (ua (BL (um (um ?_)))))))))
 refine uv (BO rfl rfl) (um ?_)
 obtain ⟨bq, fy⟩ := AB fx
 refine nT bq (um (nT bq (um (nT bq ?_))))
 refine uv (BO rfl rfl) (uv (AF (AX rfl bq) rfl) (um ?_))
 obtain ⟨br, g0⟩ := AB fy
 refine nT br (um (nT br (um (nT br ?_))))
 refine uv (BO rfl rfl) (uv (AF (AX rfl br) rfl) (um ?_))
 obtain ⟨bu, ga⟩ := AB g0
 refine nT bu (um (nT bu (um (nT bu ?_))))
 refine uv (BO rfl rfl) (uv (AF (AX rfl bu) rfl) (um ?_))
 obtain ⟨bw, gb⟩ := AB ga
 refine nT bw (um (nT bw (um (nT bw ?_))))
 refine uv (BO rfl rfl) (uv (AF (AX rfl bw) rfl) (um ?_))
 obtain ⟨bx, gg⟩ := AB gb
 refine nT bx (um (nT bx (um (nT bx ?_))))
 obtain ⟨jv, gh, gi⟩ := Av gg
 refine Bn rfl call33 rfl rfl rfl (pT ((fC (fC (fS fP))).trans (pA pR)) (lp (ln rfl))) (fun F2 h2 h3 => by rw [(AM.A6 ak).1]; exact Fi (cq.mono kI h2) (ak.row kI h2 (aL h3)) gh) ?_
 refine uv (AF (AX rfl bx) rfl) (um ?_)
 obtain ⟨bz, gj⟩ := AB gi
 refine nB bz (um (nB bz (um (nB bz ?_))))
 obtain ⟨jw, gk, gl⟩ := Av gj
 refine Bn rfl call33 rfl rfl rfl (pT ((fC (fC fP)).trans (pA ((fC (fC (fS fP))).trans (pA pR)))) (lp (lp (ln rfl)))) (fun F2 h2 h3 => by rw [(AM.A6 bg).1]; rw [(AM.A6 al).1]; exact Fi (bg.row kI h2 (aL h3)) (al.row kI h2 (aL (aR h3))) gk) ?_
 refine uv (AF (Gl rfl bz) rfl) (um ?_)
 obtain ⟨cb, gm⟩ := AB gl
 refine nB cb (uv (CA isAgg26 sizeOf26 0) (nB cb (uv (CA isAgg26 sizeOf26 1) (nB cb ?_))))
 obtain ⟨jx, gn, gp⟩ := Av gm
 refine cV call24 (CX ao aw ba ab ad aa gn) (uv (AF (Gl rfl cb) rfl) (um ?_))
 obtain ⟨dg, gq⟩ := AB gp
 refine nB dg ?_
 obtain ⟨jz, gr, gu⟩ := Av gq
 refine cV call14 (B0 gr) (uv (AF (Gl rfl dg) rfl) ?_)
 refine ua (Aa ?_)
 refine kW kn (AA (C3 results11 ?_))
 obtain rfl := AP gu
 exact rfl
set_option maxHeartbeats 1000000 in
theorem M7 (ab : Ar 1 eJ F Aj Ai walks) (ad : Ar 1 eJ F Ak Al Af) (aa : Ar 3 eN F Ad Ac Ab) {r : Bool} (hr : JK walks Af Ae start Ab n = some r) :
    Bv Tryz.prog 12 #[.agg #[sL Aj walks.length Ai, sL Ak Af.length Al, vI Ae, vI start, sL Ad Ab.length Ac], vI n] F (.bool r) := by
 refine sp func12 ntmps12 fun K _ _ => ?_
 rw [JK] at hr
 refine AJ ?_
 refine Bx rfl rfl ?_; intro b1 fs
 refine ua (BL ?_)
 refine uv (CA isAgg26 sizeOf26 0) ?_
 obtain ⟨l, n2, n3, h2, r3⟩ := Ia hr
 refine c0 call47 (KZ ab ad aa h2) ?_; rintro _ F4 _ bh di ⟨a8, az, c9, ax, rfl, rfl, ae⟩
 replace ab := ab.m2 bh
 replace ad := ad.m2 bh
 replace aa := aa.m3 bh
 replace ae := ae.new fun p hp => di p (by simp [hp])
 refine Aw (lp (ln rfl)) (kO (kf (fS fO) kr) ?_)
 refine um (ox rfl rfl rfl (ox rfl rfl rfl (ox rfl rfl rfl (ua (ua (ua (Aa ?_)))))))
 obtain ⟨l2, dk, cz⟩ := Av r3
 refine AU (fun e1 F1 L1 => ∃ (aj : LH), F4 = F1 ∧ L1 = ((b1, ce #[sL Aj walks.length Ai, sL Ak Af.length Al, vI Ae, vI start, sL Ad Ab.length Ac] 26) :: (aj ++ [])) ∧ e1.sub [(1, vI n), (2, pO b1), (5, sL a8 az c9), (6, vI n2)] ∧ AM K.w0.heap.size 29 2 eP F1 a8 az c9 l2 aj) ?_ ?_
 ·clear cz
  obtain ⟨k, da, bj⟩ := Av dk
  refine jE (((b1, ce #[sL Aj walks.length Ai, sL Ak Af.length Al, vI Ae, vI start, sL Ad Ab.length Ac] 26) :: (ax ++ []))) [(1, vI n), (2, pO b1), (5, sL a8 az c9), (6, vI n2), (24, .bool k)] ?_ ?_
  ·clear bj
   refine An (um ?_)
   refine uv ((AQ underlying30 rfl).i (AM.Gh ae)) (uv (CQ rfl rfl) (um ?_))
   by_cases al : 0 < (l.length : Int)
   ·have dm := A5 da al
    refine nT al (um (nT al ?_))
    refine uv (EA rfl rfl (by decide)) (nT al (uv (BO rfl rfl) (uv (AF (AX rfl al) rfl) (Aa ?_))))
    obtain rfl := AP dm
    exact mi kr ⟨rfl, rfl, z5⟩
   have dp := A4 da al
   refine fF al (fF al (fF al ?_))
   refine uv (AD (AL rfl al) rfl) (Aa ?_)
   obtain rfl := AP dp
   exact mi kr ⟨rfl, rfl, z5⟩
  refine AR rfl (fun bk => ?_) (fun bk => ?_)
  ·have dq := bt bj bk
   refine An (um (um (um ?_)))
   refine uv ((AQ underlying30 rfl).i (AM.Gh ae)) ?_
   obtain ⟨dr, dt⟩ := AB dq
   refine uv (EA rfl rfl dr) (um (uv (EA rfl rfl (by decide)) ?_))
   obtain ⟨x, bl, ba, du⟩ := Bi dt
   obtain ⟨ft, fv, fw, dv, bb, dw, db, ⟨_, _, rfl, rfl, rfl⟩, dx, dy⟩ := AM.at kP ae (L := (b1, ce #[sL Aj walks.length Ai, sL Ak Af.length Al, vI Ae, vI start, sL Ad Ab.length Ac] 26) :: (ax ++ [])) (fC fP) bl.1 ba
   refine uv (Cx underlying30 sizeOf29 bb (AM.idx ae bl)) (uv (Ah J6 rfl) ?_)
   obtain ⟨l3, dz, eb⟩ := BC du
   refine KA (zs := l3) (off := 0) (x0 := x) (u := (Int.tmod n 4, x.2)) sizeOf3 kP rfl bb rfl rfl (by decide) ba (fun vs h => by obtain ⟨_, _, rfl, rfl, rfl⟩ := h; exact ⟨_, _, rfl, rfl, rfl⟩) (fun _ => .c .h) ae dz bl ?_; intro bm bn
   refine Aa ?_
   obtain rfl := AP eb
   exact mi kr ⟨bm, rfl, rfl, z4, bn⟩
  have ec := bf bj bk
  refine Ao ?_
  obtain rfl := AP ec
  exact mi kr ⟨ax, rfl, rfl, z4, ae⟩
 rintro e1 _ _ ⟨aj, rfl, rfl, bo, aq⟩
 refine Az _ bo (AJ (uv (CA isAgg26 sizeOf26 0) ?_))
 obtain ⟨l4, n4, ef, eg⟩ := BT cz
 refine c0 call19 (Ma ab ad aa ef) ?_; rintro _ eh _ ar bp ⟨dd, de, df, bc, rfl, rfl, ai⟩
 replace ab := ab.m2 ar
 replace ad := ad.m2 ar
 replace aa := aa.m3 ar
 replace aq := aq.m4 ar
 replace ai := ai.new fun p hp => bp p (by simp [hp])
 refine Aw (lp (ln rfl)) (kO (kf (fS fO) kr) ?_)
 refine um (ox rfl rfl rfl (ox rfl rfl rfl (ua (ua (Aa ?_)))))
 obtain ⟨p, ei, dg⟩ := Av eg
 refine AU (fun e1 F1 L1 => ∃ (bq : Option Addr) (br : Nat) (bu : Nat) (ay : LH), eh = F1 ∧ L1 = ((b1, ce #[sL Aj walks.length Ai, sL Ak Af.length Al, vI Ae, vI start, sL Ad Ab.length Ac] 26) :: (aj ++ (ay ++ []))) ∧ e1.sub [(1, vI n), (2, pO b1), (5, sL a8 az c9), (6, vI n2), (8, sL bq br bu)] ∧ AM K.w0.heap.size 32 2 eP F1 bq br bu p ay) ?_ ?_
 ·clear dg
  obtain ⟨k2, dh, bw⟩ := Av ei
  refine jE (((b1, ce #[sL Aj walks.length Ai, sL Ak Af.length Al, vI Ae, vI start, sL Ad Ab.length Ac] 26) :: (aj ++ (bc ++ [])))) [(1, vI n), (2, pO b1), (5, sL a8 az c9), (6, vI n2), (8, sL dd de df), (46, .bool k2)] ?_ ?_
  ·clear bw
   refine An (um ?_)
   refine uv ((AQ underlying41 rfl).i (AM.Gh ai)) (uv (CQ rfl rfl) (um ?_))
   by_cases ao : 1 < (l4.length : Int)
   ·have ej := A5 dh ao
    refine nT ao (um (nT ao ?_))
    refine uv (EA rfl rfl (by decide)) (nT ao (uv (BO rfl rfl) (uv (AF (AX rfl ao) rfl) (Aa ?_))))
    obtain rfl := AP ej
    exact mi (kc (kg (fS fP) kr)) ⟨rfl, rfl, z6⟩
   have en := A4 dh ao
   refine fF ao (fF ao (fF ao ?_))
   refine uv (AD (AL rfl ao) rfl) (Aa ?_)
   obtain rfl := AP en
   exact mi (kc (kg (fS fP) kr)) ⟨rfl, rfl, z6⟩
  refine AR rfl (fun bx => ?_) (fun bx => ?_)
  ·have eo := bt bw bx
   refine An (um (um (um ?_)))
   refine uv ((AQ underlying41 rfl).i (AM.Gh ai)) ?_
   obtain ⟨ep, er⟩ := AB eo
   refine uv (EA rfl rfl ep) ?_
   obtain ⟨et, eu⟩ := AB er
   obtain ⟨p2, ew, ey⟩ := BC eu
   refine Qk (l := Int.tmod n (l4.length : Int)) (h := (l4.length : Int)) (zs := p2) rfl HR kP rfl (.inr ⟨_, rfl, rfl⟩) (.inl ⟨rfl, rfl⟩) (fun _ => .c (.s .h)) ai et ew ?_; intro ez fa fb bz fe
   refine ua (Aa ?_)
   obtain rfl := AP ey
   exact mi kr ⟨ez, fa, fb, bz, rfl, rfl, z5, fe⟩
  have ff := bf bw bx
  refine Ao ?_
  obtain rfl := AP ff
  exact mi kr ⟨dd, de, df, bc, rfl, rfl, z5, ai⟩
 rintro e1 _ _ ⟨bq, br, bu, ay, rfl, rfl, cb, bd⟩
 refine Az _ cb ?_
 refine AJ (um ?_)
 refine uv (EA rfl rfl (by decide)) (um (uv (EA rfl rfl (by decide)) ?_))
 refine uv (BI (v := .agg #[vI (Int.tmod n 2), vI (Int.tmod n 3)]) rfl (by intro w; kernel_rfl)) ?_
 refine Bh rfl zeroValue32 ?_; intro fx fg
 refine A8 (i := 0) sizeOf32 rfl rfl rfl (by simp [Value.oneCell']) rfl (B2 rfl) (Aw rfl (BL (uv (CA isAgg26 sizeOf26 1) (um (uv (EA rfl rfl (by decide)) (um ?_))))))
 obtain ⟨ok, fh, fi⟩ := Av dg
 refine cV call5 (CV ab ad aa fh) (um ?_)
 obtain ⟨aw, fj⟩ := AB fi
 refine nB aw (uv (CA isAgg26 sizeOf26 1) ?_)
 refine nB aw (um (nB aw ?_))
 refine uv (EA rfl rfl (by decide)) ?_
 refine nB aw (um (nB aw ?_))
 obtain ⟨fk, fl⟩ := AB fj
 refine uv (Mp rfl rfl fk) (nB aw (uv (EA rfl rfl (by decide)) (nB aw ?_)))
 obtain ⟨fy, fm, fo⟩ := Av fl
 refine cV call6 (Gq ab ad aa fm) (uv (AF (Gl rfl aw) rfl) (um ?_))
 obtain ⟨bg, fp⟩ := AB fo
 refine nB bg (uv (CA isAgg26 sizeOf26 1) ?_)
 refine nB bg (um (nB bg ?_))
 obtain ⟨g0, fq, cc⟩ := Av fp
 refine Bn rfl call7 rfl rfl rfl (pT ((fC (fC fP)).trans (pA pR)) (lp (ln rfl))) (fun F2 h2 h3 => by rw [(AM.A6 aq).1]; exact GQ (ab.mono kJ h2) (ad.mono kJ h2) (aa.mono kN h2) (aq.row kP h2 (aL h3)) fq) ?_
 refine uv (AF (Gl rfl bg) rfl) (um ?_)
 obtain ⟨au, cf⟩ := AB cc
 refine nB au (uv (CA isAgg26 sizeOf26 1) (nB au (uv (CA isAgg32 sizeOf32 0) (nB au ?_))))
 obtain ⟨ga, cg, cj⟩ := Av cf
 refine cV call8 (Gp ab ad aa cg) (uv (AF (Gl rfl au) rfl) (um ?_))
 obtain ⟨av, ck⟩ := AB cj
 refine nB av (uv (CA isAgg26 sizeOf26 1) ?_)
 refine nB av (um (nB av ?_))
 obtain ⟨gb, cn, cp⟩ := Av ck
 refine Bn rfl call9 rfl rfl rfl (pT ((fC (fC (fS fP))).trans (pA pR)) (lp (ln rfl))) (fun F2 h2 h3 => by rw [(AM.A6 bd).1]; exact GP (ab.mono kJ h2) (ad.mono kJ h2) (aa.mono kN h2) (bd.row kP h2 (aL h3)) cn) ?_
 refine uv (AF (Gl rfl av) rfl) (um ?_)
 obtain ⟨ah, cq⟩ := AB cp
 refine nB ah (uv (CA isAgg26 sizeOf26 1) ?_)
 refine nB ah (um (nB ah (um (nB ah ?_))))
 refine uv (EA rfl rfl (by decide)) (nB ah ?_)
 obtain ⟨cr, ct⟩ := AB cq
 refine uv (DP rfl rfl cr) (nB ah (uv (OK rfl rfl) (nB ah ?_)))
 obtain ⟨gg, cu, cv⟩ := Av ct
 refine cV call10 (Hv ab ad aa cu) (uv (AF (Gl rfl ah) rfl) (um ?_))
 obtain ⟨ak, cw⟩ := AB cv
 refine nB ak (uv (CA isAgg26 sizeOf26 1) ?_)
 refine nB ak (um (nB ak ?_))
 refine uv (EA rfl rfl (by decide)) (nB ak ?_)
 obtain ⟨gh, cx, cy⟩ := Av cw
 refine cV call11 (FN ab ad aa cx) (uv (AF (Gl rfl ak) rfl) ?_)
 refine ua (Aa ?_)
 refine kW kn (AA (C3 results12 ?_))
 obtain rfl := AP cy
 exact rfl
end Go.Proofs.YtbeeigejcihadaaGreat
