/- The walks that this claim needs, printed by a program of mine; part 2. -/
import Derived.Test.YtfmapnhfamoecabGreatZQNQ1
namespace Go.Proofs.YtfmapnhfamoecabGreat
open Go.SH Go.PL
open Tryz 
variable {ok : (Int × Int) → Option Bool} {P9 PZ IW IY Rb QY : Array Value} {De : Bool} {F : FS} {PW I2 QE : FuncId} {down from_ Co Af minute n Bx p r2 r3 BL Bs stand start to Cf wide DI : Int} {so : Int → Option Bool} {Ac : List ((List Int) × Int × Int)} {AN round : List (Int × Int)} {Ao walks : List (List Int)} {hit plots AG : List Int} {YA G4 K6 Of X7 Av Ah Bt Bc Gr Uv Uy Cq Ar : Nat} {KC M1 Uq Yd : Nat × Nat} {YD Yy Au Ai Bu Bb Gt Ud Ue CG As : Option Addr}
set_option maxHeartbeats 1000000 in
theorem JS {ao : Option Addr} {aq : Nat} {x : List Int} {count : Int} (bj : AF 1 (iE .i64) F ao aq x) {r : List Int} (hr : Eh x count = some r) :
    SH.Spec Tryz.prog 87 #[.slice ao x.length aq, .int .i64 count] F [] fun F' L' v => ∃ (ra : Option Addr) (rn : Nat) (rc : Nat) (rL : LH), v = .slice ra rn rc ∧ L' = rL ++ [] ∧ AT 0 3 1 (iE .i64) F' ra rn rc r rL := by
 refine sp func87 ntmps87 fun K _ _ => ?_
 rw [Eh] at hr
 refine AP (ua (Aa (Aq (AP (um ?_)))))
 refine uv (A8 rfl rfl) (Aa ?_)
 obtain ⟨g2, r3⟩ := AV hr
 refine Nx rfl (fun c1 => absurd c1 g2) (fun c1 => ?_)
 refine An (AP (um ?_))
 refine uv (A3 underlying33 rfl) (uv (Pv rfl underlying3 underlying158 rfl) (um (uv (Pv rfl underlying3 underlying158 rfl) ?_)))
 obtain ⟨n, n2, h4, r5⟩ := CQ r3
 refine cV call105 (N4 h4) ?_
 refine um (ox rfl rfl rfl (ox rfl rfl rfl (ua (ua (Aa (Aq ?_))))))
 obtain ⟨k, h6, r7⟩ := AO r5
 refine jE ([]) [(0, .slice ao x.length aq), (6, .int .u64 n2), (26, .bool k)] ?_ ?_
 ·clear r7
  refine Ak (um ?_)
  refine uv (IF rfl rfl) (um ?_)
  by_cases c8 : 0 < n
  ·have r9 := A2 h6 c8
   refine fT c8 (fT c8 ?_)
   refine uv (AQ (Bd rfl c8) rfl) (Aa ?_)
   obtain rfl := AR r9
   exact mi kr ⟨rfl, rfl, z3⟩
  have bk := A1 h6 c8
  refine nF c8 (um (nF c8 ?_))
  refine uv (IF rfl rfl) (uv (AL (A4 rfl c8) rfl) (Aa ?_))
  obtain rfl := AR bk
  exact mi kr ⟨rfl, rfl, z3⟩
 obtain ⟨bl, bm⟩ := AV r7
 refine AY rfl (fun bg => absurd (bl.symm.trans bg) (by decide)) (fun bg => ?_)
 refine An (AP (um ?_))
 obtain ⟨bn, bo⟩ := AV bm
 refine uv (SG underlying158 underlying3 rfl bn) ?_
 obtain ⟨bp, bq⟩ := AV bo
 obtain ⟨l, br, bu⟩ := CT bq
 refine Ob (R := (iE .i64)) (z0 := 0) (zs := l) rfl BX (by decide) (Ab _) (fun _ => rfl) rfl bp br (fun _ => .n) ?_; intro ah ab bw ar
 refine ua (Cj (um (um ?_)))
 obtain ⟨ae, bx, bz⟩ := CT bu
 refine W1 (ys := x) (zs := ae) rfl BX (Ab _) rfl rfl (fun _ => .h) ar (AF.src bj) bx ?_; intro au av
 obtain ⟨n3, ca, cb⟩ := CT bz
 refine uv ((DQ rfl).i ca) (Aa ?_)
 obtain ⟨ad, cc, bh⟩ := AO cb
 refine AX (fun e1 F1 L1 => ∃ (aj : LH), F = F1 ∧ L1 = (aj ++ []) ∧ e1.sub [(7, .slice ah ab ab)] ∧ AT K.w0.heap.size 3 1 (iE .i64) F1 ah ab ab ad aj) ?_ ?_
 ·clear bh
  refine Am ?_
  refine Bg (fun al e1 F1 L1 => ∃ (aa : List Int) (n4 : Int) (ai : LH), DD al aa n4 = some ad ∧ F = F1 ∧ L1 = (ai ++ []) ∧ e1.sub [(7, .slice ah ab ab), (8, .int .i64 n4)] ∧ AT K.w0.heap.size 3 1 (iE .i64) F1 ah ab ab aa ai) FU (m0 kr ⟨ae, n3, au, cc, rfl, rfl, z2, av⟩) ?_
  rintro al e1 _ _ ⟨aa, n4, ai, ak, rfl, rfl, aw, af⟩
  refine AD _ aw ?_
  rcases al with _ | al
  ·rw [DD] at ak; cases ak
  rw [DD] at ak
  refine Aq (AP (um (um ?_)))
  refine uv ((A3 underlying33 rfl).i (AT.Hc af)) (uv (A8 rfl rfl) (Aa ?_))
  refine cQ (fun ax => ?_) fun ax => ?_
  ·have cd := A2 ak ax
   refine An (Am (C5 [(.still, 0), (.still, 1), (.still, 2), (.still, 3), (.still, 4), (.still, 5), (.still, 6), (.seq, 7), (.still, 8), (.seq, 9)] (by kernel_rfl) (by kernel_rfl) (trivial) (by rfl) (by kernel_rfl) (mS [8] rfl (Be rfl) (mS [7] rfl (Be rfl) (mS [8] rfl (Be rfl) ?_)))))
   obtain ⟨cf, cg⟩ := AV cd
   have ay := AT.gV af cf
   refine mS (v := .slice (Tu ah ab (Int.toNat n4) 1) (ab - Int.toNat n4) (ab - Int.toNat n4)) [39, 40] rfl (E7.eq (v' := .slice (Tu ah ab (Int.toNat n4) 1) (ab - Int.toNat n4) (ab - Int.toNat n4)) (Ku (l := n4) (h := (ab : Nat)) underlying33 sizeOf3 rfl (.inr ⟨_, rfl, rfl⟩) (.inl ⟨rfl, rfl⟩) (AT.XC af ay)) rfl) (mS [7] rfl (Be rfl) (mS [8] rfl (Be rfl) ?_))
   obtain ⟨cj, cn⟩ := AV cg
   refine mS (v := .slice ah (Int.toNat n4) ab) [42, 43] rfl (SI underlying33 sizeOf3 rfl rfl af cj) ?_
   refine ⟨_, [(41, .slice (Tu ah ab (Int.toNat n4) 1) (ab - Int.toNat n4) (ab - Int.toNat n4)), (44, .slice ah (Int.toNat n4) ab)], rfl, rfl, z2, by kernel_rfl, ?_⟩; intro H
   obtain ⟨cp, cq⟩ := AV cn
   obtain ⟨l2, cr, ct⟩ := CT cq
   refine Vi (l := n4) (zs := l2) rfl BX (Ab _) rfl rfl (fun _ => .h) af cp cr ?_; intro az ba
   refine Aa ⟨_, rfl, AW.refl _, [0], by kernel_rfl, .inl (.inr (fun d h => by cases h; rfl)), (fc sm nm), ?_⟩
   obtain ⟨cu, cv⟩ := AV ct
   refine mL [38, 45] ([]) rfl sm (fun H F' L' cz da => A5 rfl rfl cu) ?_
   refine ⟨_, [(46, .int .i64 (n4 + (((Nat.min (Int.toNat n4) (aa.length - (Int.toNat n4))) : Nat) : Int)))], rfl, rfl, z1, by kernel_rfl, ?_⟩; intro H
   obtain ⟨n5, cw, cx⟩ := CT cv
   refine uv ((DQ rfl).i cw) ?_
   refine Aa ⟨_, rfl, AW.refl _, [], by kernel_rfl, .inl (.inl rfl), nm, ?_⟩
   refine Ef (Az (id := 1) ?_)
   exact le kr ⟨l2, n5, az, cx, rfl, rfl, z2, ba⟩
  have cy := A1 ak ax
  refine AS (Ae (Ae ?_))
  refine AA ?_
  obtain rfl := AR cy
  exact mi kr ⟨ai, rfl, rfl, z1, af⟩
 rintro e1 _ _ ⟨aj, rfl, rfl, bb, bc⟩
 refine AD _ bb ?_
 refine AP (um (ua (Aa (Ap ?_))))
 refine C9 results87 ?_
 obtain rfl := AR bh
 exact ⟨_, _, _, _, rfl, rfl, bc.any⟩
set_option maxHeartbeats 1000000 in
theorem PH (bn : AF 1 (CD 1 (iE .i64)) F As Ar walks) (ad : AF 1 (CD 1 (iE .i64)) F Au Av Ao) (aa : AF 3 (B4 (CD 1 (iE .i64)) (B4 (iE .i64) (iE .i64))) F Ai Ah Ac) (ab : AF 2 (B4 (iE .i64) (iE .i64)) F Gt Gr round) {r : List (List Int)} (hr : Lf walks Ao Af start Ac round = some (r, r2)) :
    SH.Spec Tryz.prog 52 #[.agg #[.slice As walks.length Ar, .slice Au Ao.length Av, .int .i64 Af, .int .i64 start, .slice Ai Ac.length Ah], .slice Gt round.length Gr] F [] fun F' L' v => ∃ (ra : Option Addr) (rc : Nat), v = .tuple #[.slice ra r.length rc, .int .i64 r2] ∧ L' = [] ∧ AF 1 (CD 1 (iE .i64)) F' ra rc r := by
 refine sp func52 ntmps52 fun K _ _ => ?_
 rw [Lf] at hr
 refine AP ?_
 refine BK rfl rfl ?_; intro b1 ou
 refine ua (ua (Cj ?_))
 refine uv (AM isAgg39 sizeOf39 rfl (Has.own 0 rfl) (CE rfl) rfl) (um ?_)
 obtain ⟨d, l, n, h2, r3⟩ := EZ hr
 refine c0 call86 (Ql bn ad aa ab h2) ?_; rintro _ F4 _ gp mb ⟨v8, cz, da, db, af, rfl, rfl, ow, ah⟩
 replace ad := ad.mono (Ax (Ab _)) gp
 replace aa := aa.mono (At (Ax (Ab _)) (At (Ab _) (Ab _))) gp
 replace ab := ab.mono (At (Ab _) (Ab _)) gp
 replace ah := ah.new fun p hp => mb p (by simp [hp])
 refine AK (lp (ln rfl)) (kO (kf (fS fO) kr) ?_)
 refine um (ox rfl rfl rfl (ox rfl rfl rfl (ox rfl rfl rfl (ua (ua (ua (Aa (Aq (AP ?_)))))))))
 refine um (uv (B6 rfl rfl) (Aa ?_))
 refine cQ (fun gq => ?_) fun gq => ?_
 ·have mc := A2 r3 gq
  refine AP (um (ua (ua (Aa ?_))))
  refine kW kn ?_
  refine Ap (Aj ?_)
  refine BU results52 (AH rfl) (AH rfl) (sr) ?_
  obtain ⟨rfl, rfl⟩ := CP mc
  exact ⟨_, _, rfl, rfl, AF.nil _ _ _⟩
 have me := A1 r3 gq
 refine An (AP (ua (Aa ?_)))
 obtain ⟨out, mg, jm⟩ := AO me
 refine AX (fun e1 F1 L1 => ∃ (aw : Option Addr) (ax : Nat) (ay : Nat) (bo : LH), AW F4 F1 ∧ L1 = ((b1, ce #[.slice As walks.length Ar, .slice Au Ao.length Av, .int .i64 Af, .int .i64 start, .slice Ai Ac.length Ah] 39) :: (af ++ (bo ++ []))) ∧ e1.sub [(1, .slice Gt round.length Gr), (2, .pointer (some ⟨b1, 0, none⟩)), (7, .slice cz da db), (9, .slice aw ax ay)] ∧ Kg K.w0.heap.size 33 3 1 (iE .i64) F1 aw ax ay out bo) ?_ ?_
 ·clear jm
  refine AP (uv (Ad Fj rfl) (uv (Al isAgg37 rfl (Has.own 0 rfl) rfl) (uv (A3 underlying37 rfl) ?_)))
  refine um (Aa ?_)
  refine Am ?_
  refine Bg (fun jn e1 F1 L1 => LA Ac jn fun tl k => ∃ (cd : List (List Int)) (ga : Option Addr) (gb : Nat) (gg : Nat) (bp : LH), Et Af tl cd = some out ∧ AW F4 F1 ∧ L1 = ((b1, ce #[.slice As walks.length Ar, .slice Au Ao.length Av, .int .i64 Af, .int .i64 start, .slice Ai Ac.length Ah] 39) :: (af ++ (bp ++ []))) ∧ e1.sub [(1, .slice Gt round.length Gr), (2, .pointer (some ⟨b1, 0, none⟩)), (7, .slice cz da db), (9, .slice ga gb gg), (26, .int .i64 (Ac.length : Int)), (27, .int .i64 k)] ∧ Kg K.w0.heap.size 33 3 1 (iE .i64) F1 ga gb gg cd bp) _ (m0 (kc (ka (ke kr))) ⟨_, _, rfl, BT.start _, [], none, 0, 0, [], mg, AW.refl _, rfl, z6, Kg.nil _ _ _ _ _ _⟩) ?_
  rintro jn e1 oy _ ⟨tl, k, gr, cf, cd, ga, gb, gg, bp, gh, cg, rfl, gu, ar⟩
  refine AD _ gu ?_
  replace aa := aa.mono (At (Ax (Ab _)) (At (Ab _) (Ab _))) cg
  refine AP (uv (A8 rfl rfl) ?_)
  refine Aa (Aq ?_)
  refine cQ (fun gk => ?_) fun gk => ?_
  ·obtain ⟨x, oz, rfl, mh, p0, gv⟩ := BT.succ cf gk
   rw [Et] at gh
   refine An (Aq ?_)
   refine Am ?_
   refine Ak (um ?_)
   refine bA (cs := #[.int .i64 (-1)]) BX [.int .i64 (-1)] ?_; intro mj gw
   refine uv (Ad Q5 rfl) (uv (Al isAgg3 rfl (Has.own 1 rfl) rfl) ?_)
   refine BP 0 rfl gw ?_; intro ml cj gz
   refine AK rfl ?_
   replace aa := aa.mono (At (Ax (Ab _)) (At (Ab _) (Ab _))) cj
   replace ar := ar.mono (Ab _) cj
   have mo : AF 1 (iE .i64) ml (some ⟨mj, 0, none⟩) 1 [-1] := AF.CV (Ab _) (vss := [[.int .i64 (-1)]]) (xs := [-1]) gz (.cons rfl .nil) rfl (by simp [maxLen])
   obtain ⟨l2, mq, mr⟩ := AO gh
   refine c0 call87 (JS mo mq) ?_; rintro _ mv _ cn ia ⟨cw, cx, cy, mw, rfl, rfl, cp⟩
   replace aa := aa.mono (At (Ax (Ab _)) (At (Ab _) (Ab _))) cn
   replace ar := ar.mono (Ab _) cn
   replace cp := cp.new fun p hp => ia p (by simp [hp])
   refine AK (lp (ln rfl)) (kO (kf (fS fO) kr) ?_)
   refine bA (cs := #[.slice cw cx cy]) Lx [.slice cw cx cy] ?_; intro p6 mx
   obtain ⟨dd, jo, my, El⟩ := FQ mr
   refine Ut (fC (fC (fS (fS fP)))) ar ?_; intro de mz na ib df
   refine kO (kf (fS (fS fO)) (kf (fS (fS fO)) kr)) ?_
   refine EA (xs := de) (ys := [(cw, cx, cy)]) (zs := de ++ [(cw, cx, cy)]) rfl Lx rfl rfl (Nat.le_refl _) (fun _ => .c (.c .h)) ib (Gk.box (vss := [[.slice cw cx cy]]) (ys := [(cw, cx, cy)]) 0 rfl Mh (.cons rfl .nil) rfl rfl) rfl (YW df jo my) (by decide) ?_; intro jq jr js nc ic
   refine kO (kd kr) ?_
   refine Sd (p := fun X => Kg K.w0.heap.size 33 3 1 (iE .i64) mv jq jr js dd X) (Ma.push df rfl ic cp jo) (pT ((fC fP).trans (pA ((fC (fS fP)).trans (pA ((fC fP).trans (pA pR)))))) (lp (lp (lp (ln rfl))))) ?_; intro ie ig
   refine kO (kf (fS fO) kr) ?_
   refine ua (Aa (Az (id := 1) (Ak ?_)))
   refine uv (A5 rfl rfl (BT.El cf gk (AF.lt aa))) ?_
   refine um (Aa ?_)
   subst gr; exact le (kc (kg (fS fP) kr)) ⟨_, _, rfl, gv, dd, jq, jr, js, ie, El, ((cg.trans cj).trans cn), rfl, z6, ig⟩
  obtain rfl := BT.zero cf gk
  rw [Et] at gh
  refine AS (Ae (Ae ?_))
  refine AA ?_
  obtain rfl := AR gh
  exact mi kr ⟨ga, gb, gg, bp, cg, rfl, z4, ar⟩
 rintro e1 jt _ ⟨aw, ax, ay, bo, cq, rfl, ij, ik⟩
 refine AD _ ij ?_
 replace ad := ad.mono (Ax (Ab _)) cq
 replace ab := ab.mono (At (Ab _) (Ab _)) cq
 replace ah := ah.mono (Ab _) cq
 obtain ⟨dg, nf, ju⟩ := AO jm
 refine AX (fun e1 F1 L1 => ∃ (cr : LH), AW jt F1 ∧ L1 = (cr ++ []) ∧ e1.sub [(9, .slice aw ax ay)] ∧ Kg K.w0.heap.size 33 3 1 (iE .i64) F1 aw ax ay dg cr) ?_ ?_
 ·clear ju
  refine AP (um ?_)
  refine uv (A3 underlying51 rfl) ?_
  refine um (Aa ?_)
  refine Am ?_
  refine Bg (fun jv e1 F1 L1 => LA round jv fun jw k2 => ∃ (bq : List (List Int)) (al : LH), Ff Ao l jw k2 bq = some dg ∧ AW jt F1 ∧ L1 = ((b1, ce #[.slice As walks.length Ar, .slice Au Ao.length Av, .int .i64 Af, .int .i64 start, .slice Ai Ac.length Ah] 39) :: (af ++ (al ++ []))) ∧ e1.sub [(2, .pointer (some ⟨b1, 0, none⟩)), (7, .slice cz da db), (9, .slice aw ax ay), (37, .slice Gt round.length Gr), (38, .int .i64 (round.length : Int)), (39, .int .i64 k2)] ∧ Kg K.w0.heap.size 33 3 1 (iE .i64) F1 aw ax ay bq al) _ (m0 kr ⟨_, _, rfl, BT.start _, out, bo, nf, AW.refl _, rfl, z6, ik⟩) ?_
  rintro jv e1 jx _ ⟨jw, k2, il, ct, bq, al, gl, az, rfl, im, dh⟩
  refine AD _ im ?_
  replace ad := ad.mono (Ax (Ab _)) az
  replace ab := ab.mono (At (Ab _) (Ab _)) az
  replace ah := ah.mono (Ab _) az
  refine AP (uv (A8 rfl rfl) ?_)
  refine Aa (Aq ?_)
  refine cQ (fun gm => ?_) fun gm => ?_
  ·obtain ⟨x2, p7, rfl, iq, jz, ir⟩ := BT.succ ct gm
   rw [Ff] at gl
   refine An ?_
   obtain ⟨cu, iu, di⟩ := AO gl
   refine AX (fun e1 F1 L1 => ∃ (br : LH), AW jx F1 ∧ L1 = ((b1, ce #[.slice As walks.length Ar, .slice Au Ao.length Av, .int .i64 Af, .int .i64 start, .slice Ai Ac.length Ah] 39) :: (af ++ (br ++ []))) ∧ e1.sub [(2, .pointer (some ⟨b1, 0, none⟩)), (7, .slice cz da db), (9, .slice aw ax ay), (37, .slice Gt round.length Gr), (38, .int .i64 (round.length : Int)), (39, .int .i64 k2)] ∧ Kg K.w0.heap.size 33 3 1 (iE .i64) F1 aw ax ay cu br) ?_ ?_
   ·clear di
    refine Am ?_
    refine AP (um ?_)
    obtain ⟨ng, nh, ni, kb, dk, dm, ba, ⟨_, _, rfl, rfl, rfl⟩, dn, dp⟩ := AF.at (At (Ab _) (Ab _)) ab ((b1, ce #[.slice As walks.length Ar, .slice Au Ao.length Av, .int .i64 Af, .int .i64 start, .slice Ai Ac.length Ah] 39) :: (af ++ (al ++ []))) jz.1 iq
    refine uv (AI underlying51 sizeOf62 rfl dk rfl jz) (uv (AM isAgg62 sizeOf62 rfl dm ba (Bh ba dn dp)) ?_)
    refine Br rfl zeroValue62 ?_; intro au kh
    refine ua (By (i := 0) sizeOf62 rfl rfl rfl (by simp [Value.oneCell']) rfl (CE rfl) (AK rfl (Cj (uv (Ad H8 rfl) (uv (Al isAgg36 rfl (Has.own 1 rfl) rfl) (uv (Ad IV rfl) (uv (Al isAgg3 rfl (Has.own 0 rfl) rfl) ?_)))))))
    obtain ⟨x3, dq, dr, iv⟩ := BH iu
    obtain ⟨nj, nk, nn, kj, dt, du, iw, ⟨iy, iz, rfl, av⟩, kl, dv⟩ := AF.at (Ax (Ab _)) ad ((au, ce #[.int .i64 x2.1, .int .i64 x2.2] 62) :: ((b1, ce #[.slice As walks.length Ar, .slice Au Ao.length Av, .int .i64 Af, .int .i64 start, .slice Ai Ac.length Ah] 39) :: (af ++ (al ++ [])))) dq.1 dr
    refine uv (AI underlying36 sizeOf33 rfl dt rfl dq) (uv (Al isAgg33 rfl du (dv 0 (by decide))) (uv (A3 underlying33 rfl) ?_))
    refine um (Aa ?_)
    refine Am ?_
    refine Bg (fun km e1 F1 L1 => LA x3 km fun ko k3 => ∃ (cv : List (List Int)) (aj : LH), E8 l k2 x2 ko cv = some cu ∧ AW jx F1 ∧ L1 = ((au, ce #[.int .i64 x2.1, .int .i64 x2.2] 62) :: ((b1, ce #[.slice As walks.length Ar, .slice Au Ao.length Av, .int .i64 Af, .int .i64 start, .slice Ai Ac.length Ah] 39) :: (af ++ (aj ++ [])))) ∧ e1.sub [(2, .pointer (some ⟨b1, 0, none⟩)), (7, .slice cz da db), (9, .slice aw ax ay), (10, .int .i64 k2), (11, .pointer (some ⟨au, 0, none⟩)), (37, .slice Gt round.length Gr), (38, .int .i64 (round.length : Int)), (39, .int .i64 k2), (49, .slice iy x3.length iz), (50, .int .i64 (x3.length : Int)), (51, .int .i64 k3)] ∧ Kg K.w0.heap.size 33 3 1 (iE .i64) F1 aw ax ay cv aj) _ (m0 kr ⟨_, _, rfl, BT.start _, bq, al, iv, AW.refl _, rfl, (sc rfl (sc rfl (sc rfl z8))), dh⟩) ?_
    rintro km e1 np _ ⟨ko, k3, dw, bb, cv, aj, bu, ao, rfl, dx, bc⟩
    refine AD _ dx ?_
    replace av := av.mono (Ab _) ao
    replace ah := ah.mono (Ab _) ao
    refine AP (uv (A8 rfl rfl) ?_)
    refine Aa (Aq ?_)
    refine cQ (fun bw => ?_) fun bw => ?_
    ·obtain ⟨x4, p8, rfl, dy, dz, e9⟩ := BT.succ bb bw
     rw [E8] at bu
     refine An (Aq ?_)
     refine Am (AP ?_)
     obtain ⟨nq, nr, nt, kt, eg, eh, j0, rfl, ku, ej⟩ := AF.at (Ab _) av ((au, ce #[.int .i64 x2.1, .int .i64 x2.2] 62) :: ((b1, ce #[.slice As walks.length Ar, .slice Au Ao.length Av, .int .i64 Af, .int .i64 start, .slice Ai Ac.length Ah] 39) :: (af ++ (aj ++ [])))) dz.1 dy
     refine uv (AI underlying33 sizeOf3 rfl eg rfl dz) (uv (Al isAgg3 rfl eh (ej 0 (by decide))) ?_)
     refine ua (Aa ?_)
     obtain ⟨x5, bx, eo, j3⟩ := BH bu
     have bz := (Kg.C4 bc).1
     refine V2 (fC (fC (fS fP))) bc eo ?_; intro kv aq kz nu nv nw bg bh ak ae bj
     refine kW (kf (fS (fS (fS fO))) (kf (fS (fS (fS fO))) kr)) (C5 [(.still, 0), (.still, 1), (.still, 2), (.still, 3), (.still, 4), (.still, 5), (.still, 6), (.still, 7), (.still, 8), (.still, 9), (.still, 10), (.still, 11), (.still, 12), (.still, 13), (.still, 14), (.still, 15), (.still, 16), (.still, 17), (.seq, 18), (.seq, 19), (.still, 20), (.seq, 21)] (by kernel_rfl) (by kernel_rfl) (trivial) (by rfl) (by kernel_rfl) (mS [9] rfl (Be rfl) (mS [11] rfl (Ad LJ rfl) (mL [56] ([(au, ce #[.int .i64 x2.1, .int .i64 x2.2] 62)]) rfl (s0 (s2 (s1 (s3 (s3 (s3 (s3 sr))))))) (fun H F' L' bk bl => Al isAgg3 rfl ((Has.own 0 rfl).ext bk bl) rfl) ?_))))
     obtain ⟨ny, nz, o3, l0, er, et, j4, rfl, la, eu⟩ := AT.at Mh ak (L := aq ++ []) fP bx.1 bh
     refine mS [55, 57] rfl (AI underlying36 sizeOf33 rfl er rfl (Yv bz bx)) (mL [58] (aq ++ []) rfl (s0 (s1 (s1 (s4 (s3 (s3 (s3 sr))))))) (fun H F' L' bk bl => Al isAgg33 rfl (et.ext bk bl) (eu 0 (by decide))) (mS [13] rfl (Be rfl) (mS [9] rfl (Be rfl) (mS [11] rfl (Ad LJ rfl) (mL [62] ([(au, ce #[.int .i64 x2.1, .int .i64 x2.2] 62)]) rfl (s0 (s2 (s1 (s3 (s3 (s3 (s3 sr))))))) (fun H F' L' bk bl => Al isAgg3 rfl ((Has.own 0 rfl).ext bk bl) rfl) ?_)))))
     obtain ⟨o7, o8, o9, ld, ew, ey, j5, rfl, lg, fa⟩ := AT.at Mh ak (L := aq ++ []) fP bx.1 bh
     refine mS [61, 63] rfl (AI underlying36 sizeOf33 rfl ew rfl (Yv bz bx)) (mL [64] (aq ++ []) rfl (s0 (s1 (s1 (s4 (s3 (s3 (s3 sr))))))) (fun H F' L' bk bl => Al isAgg33 rfl (ey.ext bk bl) (fa 0 (by decide))) (mS [13] rfl (Be rfl) ?_))
     obtain ⟨x6, bm, ca, j6⟩ := BH j3
     obtain ⟨oc, od, oe, lh, fb, fe, j7, rfl, lj, ff⟩ := AT.at (Ab _) ae (L := bg ++ []) fP bm.1 ca
     refine mS [65, 66] rfl (AI underlying33 sizeOf3 rfl fb rfl (AT.idx ae bm)) (mL [67] (bg ++ []) rfl (s0 (s1 (s1 (s3 (s4 (s3 (s3 sr))))))) (fun H F' L' bk bl => Al isAgg3 rfl (fe.ext bk bl) (ff 0 (by decide))) (mS [7] rfl (Be rfl) (mS [10] rfl (Be rfl) ?_)))
     obtain ⟨x7, fg, fh, j8⟩ := BH j6
     obtain ⟨og, oh, oi, lk, fi, fj, j9, rfl, ll, fk⟩ := AT.at (Ab _) ah (L := af ++ []) fP fg.1 fh
     refine mS [69, 70] rfl (AI underlying33 sizeOf3 rfl fi rfl (AT.idx ah fg)) (mL [71] (af ++ []) rfl (s0 (s1 (s1 (s3 (s3 (s3 (s4 sr))))))) (fun H F' L' bk bl => Al isAgg3 rfl (fj.ext bk bl) (fk 0 (by decide))) ?_)
     refine ⟨_, [(68, .int .i64 x6), (72, .int .i64 x7)], rfl, rfl, z2, by kernel_rfl, ?_⟩; intro H
     refine bA (cs := #[.int .i64 x6, .int .i64 x7]) BX [.int .i64 x6, .int .i64 x7] ?_; intro fl fm
     refine Aa ⟨_, rfl, AW.refl _, [7, 5, 4, 3, 2, 1, 0], by kernel_rfl, .inl (.inr (fun d h => by cases h; rfl)), (fc sm (fc sm (fc (s0 (s1 (s1 (s1 (s4 (s3 (s3 (s3 sr)))))))) (fc sm (fc (s0 (s1 (s2 (s1 (s3 (s3 (s3 (s3 sr)))))))) (fc sm (fc sm nm))))))), ?_⟩
     refine ⟨_, [(73, .slice (some ⟨fl, 0, none⟩) 2 2)], rfl, rfl, z1, by kernel_rfl, ?_⟩; intro H
     refine BP 0 rfl fm ?_; intro fo ai fp
     refine AK rfl ?_
     replace av := av.mono (Ab _) ai
     replace ak := ak.mono Mh ai
     replace bj := bj.mono (Ab _) ai
     replace ae := ae.mono (Ab _) ai
     have ja : AF 1 (iE .i64) fo (some ⟨fl, 0, none⟩) 2 [x6, x7] := AF.CV (Ab _) (vss := [[.int .i64 x6], [.int .i64 x7]]) (xs := [x6, x7]) fp (.cons rfl (.cons rfl .nil)) rfl (by simp [maxLen])
     obtain ⟨n2, jb, jc⟩ := AO j8
     refine cV call84 (IE ja jb) ?_
     refine Aa ⟨_, rfl, ai, [7, 5, 4, 3, 2, 1, 0], by kernel_rfl, .inl (.inr (fun d h => by cases h; rfl)), (fc sm (fc sm (fc (s0 (s1 (s1 (s4 (s3 (s3 (s3 sr))))))) (fc sm (fc (s0 (s2 (s1 (s3 (s3 (s3 (s3 sr))))))) (fc sm (fc sm nm))))))), ?_⟩
     obtain ⟨jd, je, oj, lq, cb, lr, jf, rfl, lu, lv⟩ := AT.at (Ab _) ae (L := bg ++ []) fP bm.1 ca
     refine mS [59, 60] rfl (AI underlying33 sizeOf3 rfl cb rfl (AT.idx ae bm)) ?_
     refine ⟨_, [(74, .int .i64 n2), (75, .pointer (some ⟨jd, je + (x4 : Int).toNat * 1, none⟩))], rfl, rfl, z2, by kernel_rfl, ?_⟩; intro H
     obtain ⟨l3, jg, jh⟩ := CT jc
     refine E5 (u := n2) sizeOf3 (Ab _) rfl cb rfl rfl (fun _ => .c (.c (.s .h))) ae jg bm ?_; intro lx fq
     refine Aa ⟨undef, rfl, AW.refl _, [], by kernel_rfl, .inl (.inl rfl), nm, ?_⟩
     refine Ef ?_
     refine Az (id := 5) (Ak ?_)
     refine uv (A5 rfl rfl (BT.El bb bw (AF.lt av))) (um ?_)
     obtain ⟨fs, ji, jj⟩ := CT jh
     refine Sd (p := fun X => Kg K.w0.heap.size 33 3 1 (iE .i64) fo aw ax ay fs X) (Qs.W9 bj ak bh fq ji) (pT ((fC (fC fP)).trans (pA ((fC (fC fP)).trans (pA ((fC (fC fP)).trans (pA pR)))))) (lp (lp (lp (ln rfl))))) ?_; intro ft fv
     refine kO (kf (fS fO) (kf (fS fO) kr)) (Aa ?_)
     subst dw; exact le (kc (kc (kg (fS fP) kr))) ⟨_, _, rfl, e9, fs, ft, jj, (ao.trans ai), rfl, (sc rfl (sc rfl (sc rfl z8))), fv⟩
    obtain rfl := BT.zero bb bw
    rw [E8] at bu
    refine AS (Ae (Ae ?_))
    refine AA (Az (id := 3) ?_)
    obtain rfl := AR bu
    exact mi (kd kr) ⟨aj, ao, rfl, z6, bc⟩
   rintro e1 oo _ ⟨br, cc, rfl, fw, jk⟩
   refine AD _ fw ?_
   replace ab := ab.mono (At (Ab _) (Ab _)) cc
   refine Ak (uv (A5 rfl rfl (BT.El ct gm (AF.lt ab))) ?_)
   refine um (Aa ?_)
   subst il; exact le kr ⟨_, _, rfl, ir, cu, br, di, (az.trans cc), rfl, z6, jk⟩
  obtain rfl := BT.zero ct gm
  rw [Ff] at gl
  refine AS (Ae (Ae ?_))
  refine AA ?_
  obtain rfl := AR gl
  exact mi (kd (kx kr)) ⟨al, az, rfl, z1, dh⟩
 rintro e1 oq _ ⟨cr, ly, rfl, fx, fy⟩
 refine AD _ fx ?_
 refine AP (um (ua (ua (Aa ?_))))
 obtain rfl := (Kg.C4 fy).1
 refine Sf (Nat.le_refl _) (Ab _) fP fy ?_; intro ot ma jl
 refine Ap (BU results52 (AH rfl) (AH rfl) (sr) ?_)
 obtain ⟨rfl, rfl⟩ := CP ju
 exact ⟨_, _, rfl, rfl, jl⟩
set_option maxHeartbeats 1000000 in
theorem OB (ab : AF 1 (CD 1 (iE .i64)) F As Ar walks) (ad : AF 1 (CD 1 (iE .i64)) F Au Av Ao) (aa : AF 3 (B4 (CD 1 (iE .i64)) (B4 (iE .i64) (iE .i64))) F Ai Ah Ac) (ai : AF 2 (B4 (iE .i64) (iE .i64)) F Gt Gr round) {r : List (Int × Int)} (hr : KD walks Ao Af start Ac round = some (r, r2)) :
    SH.Spec Tryz.prog 23 #[.agg #[.slice As walks.length Ar, .slice Au Ao.length Av, .int .i64 Af, .int .i64 start, .slice Ai Ac.length Ah], .slice Gt round.length Gr] F [] fun F' L' v => ∃ (ra : Option Addr) (rn : Nat) (rc : Nat) (rL : LH), v = .tuple #[.slice ra rn rc, .int .i64 r2] ∧ L' = rL ++ [] ∧ AT 0 59 2 (B4 (iE .i64) (iE .i64)) F' ra rn rc r rL := by
 refine sp func23 ntmps23 fun K _ _ => ?_
 rw [KD] at hr
 refine AP ?_
 refine BK rfl rfl ?_; intro b1 gw
 refine ua (ua (Cj ?_))
 refine uv (AM isAgg39 sizeOf39 rfl (Has.own 0 rfl) (CE rfl) rfl) (um ?_)
 obtain ⟨l, n, h2, r3⟩ := CQ hr
 refine c0 call52 (PH ab ad aa ai h2) ?_; rintro _ F4 _ ca gz ⟨a8, c9, rfl, rfl, cb⟩
 replace ab := ab.mono (Ax (Ab _)) ca
 replace ad := ad.mono (Ax (Ab _)) ca
 replace aa := aa.mono (At (Ax (Ab _)) (At (Ab _) (Ab _))) ca
 refine AK (ln rfl) ?_
 refine um (ox rfl rfl rfl (ox rfl rfl rfl (ua (ua (Aa (Aq (AP (um ?_))))))))
 refine uv (B6 rfl rfl) (Aa ?_)
 refine cQ (fun cc => ?_) fun cc => ?_
 ·have fa := A2 r3 cc
  refine AP (um (ua (ua (Aa ?_))))
  refine kW kn ?_
  refine Ap (Aj ?_)
  refine BU results23 (AH rfl) (AH rfl) (sr) ?_
  obtain ⟨rfl, rfl⟩ := CP fa
  exact ⟨_, _, _, [], rfl, rfl, AT.nil _ _ _ _ _⟩
 have fb := A1 r3 cc
 refine An (AP ?_)
 refine uv (AM isAgg39 sizeOf39 rfl (Has.own 0 rfl) (CE rfl) rfl) ?_
 obtain ⟨d, n2, fe, ff⟩ := CQ fb
 refine c0 call41 (D0 ab ad aa fe) ?_; rintro _ cd _ ay fg ⟨v20, rfl, rfl, cf⟩
 replace aa := aa.mono (At (Ax (Ab _)) (At (Ab _) (Ab _))) ay
 replace cb := cb.mono (Ax (Ab _)) ay
 refine AK (ln rfl) ?_
 refine um (ox rfl rfl rfl (ox rfl rfl rfl (ua (ua (Cj (ua (Aa ?_)))))))
 obtain ⟨out, fh, dx⟩ := AO ff
 refine AX (fun e1 F1 L1 => ∃ (cg : Option Addr) (cj : Nat) (cn : Nat) (ao : LH), cd = F1 ∧ L1 = (ao ++ []) ∧ e1.sub [(10, .slice cg cj cn)] ∧ AT K.w0.heap.size 59 2 (B4 (iE .i64) (iE .i64)) F1 cg cj cn out ao) ?_ ?_
 ·clear dx
  refine AP (um ?_)
  obtain ⟨AG, aq, aj, ar, af, au, AN, hit, fi, fj⟩ := MT fh
  have dy := cf; rw [fi] at dy; obtain ⟨fk, ia, fl, cp, av, ⟨_, _, rfl, ⟨fm, fo, rfl, ib⟩, ⟨_, _, rfl, ⟨fp, fq, rfl, ic⟩, ⟨_, _, rfl, rfl, ⟨_, _, rfl, rfl, ⟨_, _, rfl, ⟨fs, ft, rfl, ie⟩, ⟨_, _, rfl, ⟨rfl, fv⟩, ⟨_, _, rfl, ⟨dz, e9, rfl, cq⟩, ⟨rfl, ig⟩⟩⟩⟩⟩⟩⟩⟩⟩ := dy; subst cp
  have av : cd fk = some (.cells ((([.slice fm AG.length fo] : List Value) ++ (([.slice fp aq.length fq] : List Value) ++ (([.int .i64 aj] : List Value) ++ (([.int .i64 ar] : List Value) ++ (([.slice fs af.length ft] : List Value) ++ (au.flatMap (cI .i64) ++ (([.slice dz AN.length e9] : List Value) ++ (hit.flatMap (cI .i64))))))))).toArray) 113 fl) := av
  refine uv (AU rfl) (uv (Ad GA rfl) (uv (Al isAgg54 rfl (Has.frozen av) (Ed (Ay (k := 1) (o := 29) rfl (Ay (k := 1) (o := 28) rfl (Ay (k := 1) (o := 27) rfl (Ay (k := 1) (o := 26) rfl (Ay (k := 1) (o := 25) rfl (Ay (k := 25) (o := 0) (IG (Bj .i64) fv) (Ck rfl))))))))) (uv (A3 underlying54 rfl) ?_)))
  refine um (Aa ?_)
  refine Am ?_
  refine Bg (fun eg e1 F1 L1 => LA AN eg fun tl k => ∃ (ah : List (Int × Int)) (az : Option Addr) (ba : Nat) (bb : Nat) (ae : LH), Fh Ac l tl ah = some out ∧ cd = F1 ∧ L1 = ((b1, ce #[.slice As walks.length Ar, .slice Au Ao.length Av, .int .i64 Af, .int .i64 start, .slice Ai Ac.length Ah] 39) :: (ae ++ [])) ∧ e1.sub [(2, .pointer (some ⟨b1, 0, none⟩)), (6, .slice a8 l.length c9), (10, .slice az ba bb), (30, .slice dz AN.length e9), (31, .int .i64 (AN.length : Int)), (32, .int .i64 k)] ∧ AT K.w0.heap.size 59 2 (B4 (iE .i64) (iE .i64)) F1 az ba bb ah ae) _ (m0 (kc (ke kr)) ⟨_, _, rfl, BT.start _, [], none, 0, 0, [], fj, rfl, rfl, z6, AT.nil _ _ _ _ _⟩) ?_
  rintro eg e1 _ _ ⟨tl, k, bc, ak, ah, az, ba, bb, ae, bz, rfl, rfl, cr, aw⟩
  refine AD _ cr (AP (uv (A8 rfl rfl) ?_))
  refine Aa (Aq ?_)
  refine cQ (fun bg => ?_) fun bg => ?_
  ·obtain ⟨x, ij, rfl, ct, eh, bh⟩ := BT.succ ak bg
   rw [Fh] at bz
   refine An (Aq ?_)
   refine Am (AP ?_)
   obtain ⟨ik, il, im, fw, cu, cv, al, ⟨_, _, rfl, rfl, rfl⟩, cw, cx⟩ := AF.at (At (Ab _) (Ab _)) cq ((b1, ce #[.slice As walks.length Ar, .slice Au Ao.length Av, .int .i64 Af, .int .i64 start, .slice Ai Ac.length Ah] 39) :: (ae ++ [])) eh.1 ct
   refine uv (AI underlying54 sizeOf59 rfl cu rfl eh) (uv (AM isAgg59 sizeOf59 rfl cv al (Bh al cw cx)) ?_)
   refine Br rfl zeroValue59 ?_; intro cy fx
   refine By (i := 0) sizeOf59 rfl rfl rfl (by simp [Value.oneCell']) rfl (CE rfl) (AK rfl (dN (wm (wv (Ad Nc rfl) (wv (Al isAgg3 rfl (Has.own 0 rfl) rfl) ?_)))))
   obtain ⟨x2, ej, cz, fy⟩ := BH bz
   obtain ⟨iq, ir, iu, ga, da, db, eo, ⟨iv, iw, rfl, gb⟩, gg, dd⟩ := AF.at (Ax (Ab _)) cb ((cy, ce #[.int .i64 x.1, .int .i64 x.2] 59) :: ((b1, ce #[.slice As walks.length Ar, .slice Au Ao.length Av, .int .i64 Af, .int .i64 start, .slice Ai Ac.length Ah] 39) :: (ae ++ []))) ej.1 cz
   refine wv (AI underlying36 sizeOf33 rfl da rfl ej) (wv (Al isAgg33 rfl db (dd 0 (by decide))) (wv (Ad TG rfl) (wv (Al isAgg3 rfl (Has.own 0 rfl) rfl) ?_)))
   obtain ⟨x3, er, de, gh⟩ := BH fy
   obtain ⟨iy, iz, j0, gk, df, bj, dg, rfl, et, bk⟩ := AF.at (Ab _) gb ((cy, ce #[.int .i64 x.1, .int .i64 x.2] 59) :: ((b1, ce #[.slice As walks.length Ar, .slice Au Ao.length Av, .int .i64 Af, .int .i64 start, .slice Ai Ac.length Ah] 39) :: (ae ++ []))) er.1 de
   refine wv (AI underlying33 sizeOf3 rfl df rfl er) (wv (Al isAgg3 rfl bj (bk 0 (by decide))) (wv (Ad Fj rfl) (wv (Al isAgg37 rfl (Has.own 1 rfl) rfl) (wv (Ad Nc rfl) (wv (Al isAgg3 rfl (Has.own 0 rfl) rfl) ?_)))))
   obtain ⟨x4, bl, bm, dh⟩ := BH gh
   obtain ⟨gl, gm, gp, eu, bn, bo, di, ⟨_, _, rfl, ⟨gq, gr, rfl, gu⟩, ⟨_, _, rfl, rfl, rfl⟩⟩, ew, bp⟩ := AF.at (At (Ax (Ab _)) (At (Ab _) (Ab _))) aa ((cy, ce #[.int .i64 x.1, .int .i64 x.2] 59) :: ((b1, ce #[.slice As walks.length Ar, .slice Au Ao.length Av, .int .i64 Af, .int .i64 start, .slice Ai Ac.length Ah] 39) :: (ae ++ []))) bl.1 bm
   refine wv (AI underlying37 sizeOf48 rfl bn rfl bl) (wv (Ad LB rfl) (wv (Al isAgg3 rfl bo (bp 2 (by decide))) ?_))
   obtain ⟨ok, dk, bq⟩ := AO dh
   refine GS rfl call45 rfl rfl rfl (EG dk) (wv (CI rfl) (Df ?_))
   refine AY rfl (fun ax => ?_) (fun ax => ?_)
   ·have dm := bt bq ax
    refine Ak (um ?_)
    refine uv (AM isAgg59 sizeOf59 rfl (Has.own 0 rfl) (CE rfl) rfl) ?_
    refine bA (cs := #[.int .i64 x.1, .int .i64 x.2]) Kx [.agg #[.int .i64 x.1, .int .i64 x.2]] ?_; intro gv ey
    obtain ⟨br, dn, dp, dq⟩ := FQ dm
    refine EA (xs := ah) (ys := [(x.1, x.2)]) (zs := br) rfl Kx rfl rfl (Nat.le_refl _) (fun _ => .c (.c (.c .h))) aw (Gk.box (vss := [[.int .i64 x.1, .int .i64 x.2]]) (ys := [(x.1, x.2)]) 0 rfl (At (Ab _) (Ab _)) (.cons ⟨_, _, rfl, rfl, rfl⟩ .nil) rfl rfl) dn dp (by decide) ?_; intro dr dt du bu bw
    refine kO (kd kr) ?_
    refine ua (Aa (Az (id := 1) (Ak ?_)))
    refine uv (A5 rfl rfl (BT.El ak bg (AF.lt cq))) ?_
    refine um (Aa ?_)
    subst bc; exact le (kd kr) ⟨_, _, rfl, bh, br, dr, dt, du, bu, dq, rfl, rfl, z6, bw⟩
   have dv := bf bq ax
   refine An (Az (id := 1) (Ak ?_))
   refine uv (A5 rfl rfl (BT.El ak bg (AF.lt cq))) ?_
   refine um (Aa ?_)
   subst bc; exact le (kd kr) ⟨_, _, rfl, bh, ah, az, ba, bb, ae, dv, rfl, rfl, z6, aw⟩
  obtain rfl := BT.zero ak bg
  rw [Fh] at bz
  refine AS (Ae (Ae ?_))
  refine AA ?_
  obtain rfl := AR bz
  exact mi (kd kr) ⟨az, ba, bb, ae, rfl, rfl, z1, aw⟩
 rintro e1 _ _ ⟨cg, cj, cn, ao, rfl, rfl, bx, dw⟩
 refine AD _ bx ?_
 refine AP (um (ua (ua (Aa (Ap ?_)))))
 refine BU results23 (AH rfl) (AH rfl) (sr) ?_
 obtain ⟨rfl, rfl⟩ := CP dx
 exact ⟨_, _, _, _, rfl, rfl, dw.any⟩
set_option maxHeartbeats 1000000 in
theorem QW (ad : AF 1 (CD 1 (iE .i64)) F As Ar walks) (ae : AF 1 (CD 1 (iE .i64)) F Au Av Ao) (aa : AF 3 (B4 (CD 1 (iE .i64)) (B4 (iE .i64) (iE .i64))) F Ai Ah Ac) {r : Int} (hr : Mj walks Ao Af start Ac from_ to = some (r, r2)) :
    BG Tryz.prog 24 #[.agg #[.slice As walks.length Ar, .slice Au Ao.length Av, .int .i64 Af, .int .i64 start, .slice Ai Ac.length Ah], .int .i64 from_, .int .i64 to] F (.tuple #[.int .i64 r, .int .i64 r2]) := by
 refine sp func24 ntmps24 fun K _ _ => ?_
 rw [Mj] at hr
 refine AP ?_
 refine BK rfl rfl ?_; intro b1 de
 refine ua (ua (Cj ?_))
 refine uv (AM (cs := #[.slice As walks.length Ar, .slice Au Ao.length Av, .int .i64 Af, .int .i64 start, .slice Ai Ac.length Ah]) isAgg39 sizeOf39 rfl (Has.own 0 rfl) (CE rfl) rfl) ?_
 obtain ⟨d, n, h2, r3⟩ := CQ hr
 refine c0 call41 (D0 ad ae aa h2) ?_; rintro _ F4 _ bb df ⟨v8, rfl, rfl, ca⟩
 replace ad := ad.mono (Ax (Ab _)) bb
 replace ae := ae.mono (Ax (Ab _)) bb
 replace aa := aa.mono (At (Ax (Ab _)) (At (Ab _) (Ab _))) bb
 refine AK (ln rfl) ?_
 refine um (ox rfl rfl rfl (ox rfl rfl rfl (ua (ua (Aa (Aq ?_))))))
 refine Am ?_
 refine AP (um ?_)
 refine uv (B6 rfl rfl) ?_
 refine ua (Aa ?_)
 refine cQ (fun bc => ?_) fun bc => ?_
 ·have cb := A2 r3 bc
  refine AP (um (ua (ua (Aa ?_))))
  refine kW kn ?_
  refine Ap (AE (Aj ?_))
  refine BU results24 (AH rfl) (AH rfl) (sr) ?_
  obtain ⟨rfl, rfl⟩ := CP cb
  exact rfl
 have cc := A1 r3 bc
 obtain ⟨k, cd, bg⟩ := AO cc
 refine jE ([]) [(1, .int .i64 from_), (2, .int .i64 to), (8, v8), (19, .bool k)] ?_ ?_
 ·clear bg
  refine Ak (uv (AM (cs := #[.slice As walks.length Ar, .slice Au Ao.length Av, .int .i64 Af, .int .i64 start, .slice Ai Ac.length Ah]) isAgg39 sizeOf39 rfl (Has.own 0 rfl) (CE rfl) rfl) (um ?_))
  obtain ⟨ok, cf, bp⟩ := AO cd
  refine cV call53 (FX ad ae aa cf) (uv (CI rfl) (um ?_))
  rcases EL (!ok) with aj | aj
  ·have cg := bt bp aj
   refine fB aj (fB aj (fB aj (fB aj ?_)))
   refine uv (AQ (KX rfl aj) rfl) ?_
   refine ua (Aa ?_)
   obtain rfl := AR cg
   exact mi kn ⟨rfl, rfl, z4⟩
  have cj := bf bp aj
  refine nB aj (uv (AM (cs := #[.slice As walks.length Ar, .slice Au Ao.length Av, .int .i64 Af, .int .i64 start, .slice Ai Ac.length Ah]) isAgg39 sizeOf39 rfl (Has.own 0 rfl) (CE rfl) rfl) ?_)
  refine nB aj (um (nB aj ?_))
  obtain ⟨dg, cn, cp⟩ := AO cj
  refine cV call53 (FX ad ae aa cn) (nB aj (uv (CI rfl) (uv (AL (KX rfl aj) rfl) ?_)))
  refine ua (Aa ?_)
  obtain rfl := AR cp
  exact mi kn ⟨rfl, rfl, z4⟩
 refine AY rfl (fun bh => ?_) (fun bh => ?_)
 ·have cq := bt bg bh
  refine AP (ua (ua (Aa (Ap (AE (Aj ?_))))))
  refine BU results24 (AH rfl) (AH rfl) (sr) ?_
  obtain ⟨rfl, rfl⟩ := CP cq
  exact rfl
 have cr := bf bg bh
 refine AP (um (um (um ?_)))
 obtain ⟨AG, ah, af, ai, ab, al, AN, hit, ct, cu⟩ := MT cr
 have bq := ca; rw [ct] at bq; obtain ⟨cv, dh, cw, bj, ak, ⟨_, _, rfl, ⟨aq, ar, rfl, di⟩, ⟨_, _, rfl, ⟨au, av, rfl, dk⟩, ⟨_, _, rfl, rfl, ⟨_, _, rfl, rfl, ⟨_, _, rfl, ⟨aw, ax, rfl, dm⟩, ⟨_, _, rfl, ⟨rfl, ao⟩, ⟨_, _, rfl, ⟨ay, az, rfl, dn⟩, ⟨rfl, dp⟩⟩⟩⟩⟩⟩⟩⟩⟩ := bq; subst bj
 have ak : F4 cv = some (.cells ((([.slice aq AG.length ar] : List Value) ++ (([.slice au ah.length av] : List Value) ++ (([.int .i64 af] : List Value) ++ (([.int .i64 ai] : List Value) ++ (([.slice aw ab.length ax] : List Value) ++ (al.flatMap (cI .i64) ++ (([.slice ay AN.length az] : List Value) ++ (hit.flatMap (cI .i64))))))))).toArray) 113 cw) := ak
 refine uv (AU rfl) (uv (Ad G9 rfl) ?_)
 obtain ⟨br, cx⟩ := AV cu
 refine uv (BB underlying109 sizeOf107 rfl rfl br) ?_
 obtain ⟨bu, cy⟩ := AV cx
 obtain ⟨x, dq, ba, bw⟩ := BH cy
 have bk : (from_ * 5 + to : Int).toNat = (from_ : Int).toNat * 5 + (to : Int).toNat := by have := br; have := bu; omega
 have bl := IJ (Bj .i64) ao bk ba (Ii (Ay (A := ([.slice aq AG.length ar] : List Value)) (k := 1) (o := 4) rfl (Ay (A := ([.slice au ah.length av] : List Value)) (k := 1) (o := 3) rfl (Ay (A := ([.int .i64 af] : List Value)) (k := 1) (o := 2) rfl (Ay (A := ([.int .i64 ai] : List Value)) (k := 1) (o := 1) rfl (Ay (A := ([.slice aw ab.length ax] : List Value)) (k := 1) (o := 0) rfl (Ck (B := ([.slice ay AN.length az] : List Value) ++ (hit.flatMap (cI .i64))) (IG (Bj .i64) ao)))))))) (IS (Ay (A := ([.slice aq AG.length ar] : List Value)) (k := 1) (o := 4) rfl (Ay (A := ([.slice au ah.length av] : List Value)) (k := 1) (o := 3) rfl (Ay (A := ([.int .i64 af] : List Value)) (k := 1) (o := 2) rfl (Ay (A := ([.int .i64 ai] : List Value)) (k := 1) (o := 1) rfl (Ay (A := ([.slice aw ab.length ax] : List Value)) (k := 1) (o := 0) rfl (Ck (B := ([.slice ay AN.length az] : List Value) ++ (hit.flatMap (cI .i64))) (IG (Bj .i64) ao))))))))
 refine uv (BB underlying107 sizeOf3 rfl rfl bu) (uv (Al isAgg3 rfl (Has.frozen ak) ((bl).2.2 0 (by decide))) (uv (DY rfl rfl) ?_))
 refine ua (Aa ?_)
 refine cQ (fun bm => ?_) fun bm => ?_
 ·have cz := A2 bw bm
  refine AP (ua (ua (Aa (Ap (AE (Aj ?_))))))
  refine BU results24 (AH rfl) (AH rfl) (sr) ?_
  obtain ⟨rfl, rfl⟩ := CP cz
  exact rfl
 have da := A1 bw bm
 refine An (Az (id := 0) (AP (um (um (um ?_)))))
 refine uv (AU rfl) (uv (Ad G9 rfl) ?_)
 obtain ⟨bx, db⟩ := AV da
 refine uv (BB underlying109 sizeOf107 rfl rfl bx) ?_
 obtain ⟨bz, dd⟩ := AV db
 have bn : (from_ * 5 + to : Int).toNat = (from_ : Int).toNat * 5 + (to : Int).toNat := by have := bx; have := bz; omega
 have bo := IJ (Bj .i64) ao bn ba (Ii (Ay (A := ([.slice aq AG.length ar] : List Value)) (k := 1) (o := 4) rfl (Ay (A := ([.slice au ah.length av] : List Value)) (k := 1) (o := 3) rfl (Ay (A := ([.int .i64 af] : List Value)) (k := 1) (o := 2) rfl (Ay (A := ([.int .i64 ai] : List Value)) (k := 1) (o := 1) rfl (Ay (A := ([.slice aw ab.length ax] : List Value)) (k := 1) (o := 0) rfl (Ck (B := ([.slice ay AN.length az] : List Value) ++ (hit.flatMap (cI .i64))) (IG (Bj .i64) ao)))))))) (IS (Ay (A := ([.slice aq AG.length ar] : List Value)) (k := 1) (o := 4) rfl (Ay (A := ([.slice au ah.length av] : List Value)) (k := 1) (o := 3) rfl (Ay (A := ([.int .i64 af] : List Value)) (k := 1) (o := 2) rfl (Ay (A := ([.int .i64 ai] : List Value)) (k := 1) (o := 1) rfl (Ay (A := ([.slice aw ab.length ax] : List Value)) (k := 1) (o := 0) rfl (Ck (B := ([.slice ay AN.length az] : List Value) ++ (hit.flatMap (cI .i64))) (IG (Bj .i64) ao))))))))
 refine uv (BB underlying107 sizeOf3 rfl rfl bz) (uv (Al isAgg3 rfl (Has.frozen ak) ((bo).2.2 0 (by decide))) ?_)
 refine ua (ua (Aa (Ap ?_)))
 refine BU results24 (AH rfl) (AH rfl) (sr) ?_
 obtain ⟨rfl, rfl⟩ := CP dd
 exact rfl
set_option maxHeartbeats 1000000 in
theorem K1 (av : F G4 = some (.cells ((([.slice As walks.length Ar] : List Value) ++ (([.slice Au Ao.length Av] : List Value) ++ (([.int .i64 Af] : List Value) ++ (([.int .i64 start] : List Value) ++ (([.slice Ai Ac.length Ah] : List Value) ++ (AG.flatMap (cI .i64) ++ (([.slice Bu AN.length Bt] : List Value) ++ (hit.flatMap (cI .i64))))))))).toArray) 113 KC)) (_h_walks : AF 1 (CD 1 (iE .i64)) F As Ar walks) (_h_hears : AF 1 (CD 1 (iE .i64)) F Au Av Ao) (_h_notices : AF 3 (B4 (CD 1 (iE .i64)) (B4 (iE .i64) (iE .i64))) F Ai Ah Ac) (ad : AG.length = 25) (aa : AF 2 (B4 (iE .i64) (iE .i64)) F Bu Bt AN) (_h_hit : hit.length = 15) {r : List (Int × Int)} (hr : Fb walks Ao Af start Ac AG AN hit Bs = some r) :
    SH.Spec Tryz.prog 55 #[.pointer (some ⟨G4, 0, none⟩), .int .i64 Bs] F [] fun F' L' v => ∃ (ra : Option Addr) (rn : Nat) (rc : Nat) (rL : LH), v = .slice ra rn rc ∧ L' = rL ++ [] ∧ AT 0 59 2 (B4 (iE .i64) (iE .i64)) F' ra rn rc r rL := by
 refine sp func55 ntmps55 fun K _ _ => ?_
 rw [Fb] at hr
 refine AP (ua (Cj (ua (Aa ?_))))
 obtain ⟨out, h7, r8⟩ := AO hr
 refine AX (fun e1 F1 L1 => ∃ (a1 : Option Addr) (n5 : Nat) (c2 : Nat) (aw : LH), F = F1 ∧ L1 = (aw ++ []) ∧ e1.sub [(5, .slice a1 n5 c2)] ∧ AT K.w0.heap.size 59 2 (B4 (iE .i64) (iE .i64)) F1 a1 n5 c2 out aw) ?_ ?_
 ·clear r8
  refine AP (um ?_)
  refine uv (AU rfl) (uv (Ad GA rfl) (uv (Al isAgg54 rfl (Has.frozen av) (Ed (Ay (k := 1) (o := 29) rfl (Ay (k := 1) (o := 28) rfl (Ay (k := 1) (o := 27) rfl (Ay (k := 1) (o := 26) rfl (Ay (k := 1) (o := 25) rfl (Ay (k := 25) (o := 0) (IG (Bj .i64) ad) (Ck rfl))))))))) (uv (A3 underlying54 rfl) ?_)))
  refine um (Aa ?_)
  refine Am ?_
  refine Bg (fun bl e1 F1 L1 => LA AN bl fun tl k => ∃ (ae : List (Int × Int)) (a9 : Option Addr) (aj : Nat) (ak : Nat) (ab : LH), B2 Bs tl k ae = some out ∧ F = F1 ∧ L1 = (ab ++ []) ∧ e1.sub [(1, .int .i64 Bs), (5, .slice a9 aj ak), (11, .slice Bu AN.length Bt), (12, .int .i64 (AN.length : Int)), (13, .int .i64 k)] ∧ AT K.w0.heap.size 59 2 (B4 (iE .i64) (iE .i64)) F1 a9 aj ak ae ab) _ (m0 (ke kr) ⟨_, _, rfl, BT.start _, [], none, 0, 0, [], h7, rfl, rfl, z5, AT.nil _ _ _ _ _⟩) ?_
  rintro bl e1 _ _ ⟨tl, k, al, af, ae, a9, aj, ak, ab, au, rfl, rfl, ax, ai⟩
  refine AD _ ax (AP (uv (A8 rfl rfl) ?_))
  refine Aa (Aq ?_)
  refine cQ (fun ao => ?_) fun ao => ?_
  ·obtain ⟨x, cg, rfl, ay, bm, aq⟩ := BT.succ af ao
   rw [B2] at au
   refine An (Aq ?_)
   refine Am ?_
   refine AP (um ?_)
   obtain ⟨cj, cn, cp, bo, az, ba, ah, ⟨_, _, rfl, rfl, rfl⟩, bb, bc⟩ := AF.at (At (Ab _) (Ab _)) aa (ab ++ []) bm.1 ay
   refine uv (AI underlying54 sizeOf59 rfl az rfl bm) (uv (AM isAgg59 sizeOf59 rfl ba ah (Bh ah bb bc)) ?_)
   refine Br rfl zeroValue59 ?_; intro cq bp
   refine ua (By (i := 0) sizeOf59 rfl rfl rfl (by simp [Value.oneCell']) rfl (CE rfl) (AK rfl ?_))
   refine Cj (um (um ?_))
   obtain ⟨bq, bn⟩ := AV au
   refine uv (K2 rfl rfl bq) (uv (Xk rfl rfl) (uv (DY rfl rfl) (Aa ?_)))
   refine cQ (fun bg => ?_) fun bg => ?_
   ·have br := A2 bn bg
    refine Ak (um ?_)
    refine uv (AM isAgg59 sizeOf59 rfl (Has.own 0 rfl) (CE rfl) rfl) ?_
    refine bA (cs := #[.int .i64 x.1, .int .i64 x.2]) Kx [.agg #[.int .i64 x.1, .int .i64 x.2]] ?_; intro cr bu
    obtain ⟨ar, bw, bx, bz⟩ := FQ br
    refine EA (xs := ae) (ys := [(x.1, x.2)]) (zs := ar) rfl Kx rfl rfl (Nat.le_refl _) (fun _ => .c (.c .h)) ai (Gk.box (vss := [[.int .i64 x.1, .int .i64 x.2]]) (ys := [(x.1, x.2)]) 0 rfl (At (Ab _) (Ab _)) (.cons ⟨_, _, rfl, rfl, rfl⟩ .nil) rfl rfl) bw bx (by decide) ?_; intro ca cb cc bh bj
    refine kO (kd kr) ?_
    refine ua (Aa (Az (id := 1) (Ak ?_)))
    refine uv (A5 rfl rfl (BT.El af ao (AF.lt aa))) ?_
    refine um (Aa ?_)
    subst al; exact le (kd kr) ⟨_, _, rfl, aq, ar, ca, cb, cc, bh, bz, rfl, rfl, z5, bj⟩
   have cd := A1 bn bg
   refine An (Az (id := 1) (Ak ?_))
   refine uv (A5 rfl rfl (BT.El af ao (AF.lt aa))) ?_
   refine um (Aa ?_)
   subst al; exact le (kd kr) ⟨_, _, rfl, aq, ae, a9, aj, ak, ab, cd, rfl, rfl, z5, ai⟩
  obtain rfl := BT.zero af ao
  rw [B2] at au
  refine AS (Ae (Ae ?_))
  refine AA ?_
  obtain rfl := AR au
  exact mi kr ⟨a9, aj, ak, ab, rfl, rfl, z1, ai⟩
 rintro e1 _ _ ⟨a1, n5, c2, aw, rfl, rfl, bk, cf⟩
 refine AD _ bk ?_
 refine AP (um (ua (Aa (Ap ?_))))
 refine C9 results55 ?_
 obtain rfl := AR r8
 exact ⟨_, _, _, _, rfl, rfl, cf.any⟩
set_option maxHeartbeats 1000000 in
theorem Jw {ba : Int → Int → Int → (List (List Int)) → (List (List Int)) → Int → Int → (List ((List Int) × Int × Int)) → (List Int) → (List (Int × Int)) → (List Int) → ((Int × Int) → Option Bool) → Int → Option (Bool × Int)} (bl : ∀ {Bs from_ many : Int} {G4 K6 : Nat} {As : Option Addr} {Ar : Nat} {walks : List (List Int)} {Au : Option Addr} {Av : Nat} {Ao : List (List Int)} {Af start : Int} {Ai : Option Addr} {Ah : Nat} {Ac : List ((List Int) × Int × Int)} {AG : List Int} {Bu : Option Addr} {Bt : Nat} {AN : List (Int × Int)} {hit : List Int} {M1 KC : Nat × Nat} {ay : Nat} {I2 : FuncId} {IW IY : Array Value} {ok : (Int × Int) → Option Bool} {bb : Nat × Nat} {aa : Nat} {found : Int} {ab : Nat} {al : Nat × Nat} {F : FS} (_ : F G4 = some (.cells #[.pointer (some ⟨K6, 0, none⟩)] 97 KC)) (_ : F K6 = some (.cells ((([.slice As walks.length Ar] : List Value) ++ (([.slice Au Ao.length Av] : List Value) ++ (([.int .i64 Af] : List Value) ++ (([.int .i64 start] : List Value) ++ (([.slice Ai Ac.length Ah] : List Value) ++ (AG.flatMap (cI .i64) ++ (([.slice Bu AN.length Bt] : List Value) ++ (hit.flatMap (cI .i64))))))))).toArray) 113 M1)) (_ : AF 1 (CD 1 (iE .i64)) F As Ar walks) (_ : AF 1 (CD 1 (iE .i64)) F Au Av Ao) (_ : AF 3 (B4 (CD 1 (iE .i64)) (B4 (iE .i64) (iE .i64))) F Ai Ah Ac) (_ : AG.length = 25) (_ : AF 2 (B4 (iE .i64) (iE .i64)) F Bu Bt AN) (_ : hit.length = 15) (_ : F ay = some (.cells #[.func (.func I2) IW IY] 105 bb)) (_ : KM Tryz.prog F I2 IW IY (B4 (iE .i64) (iE .i64)) Value.bool ok) (_ : F ab = some (.cells (#[.func (.func 89) #[] #[.pointer (some ⟨G4, 0, none⟩), .pointer (some ⟨ay, 0, none⟩), .pointer (some ⟨aa, 0, none⟩), .pointer (some ⟨ab, 0, none⟩)]]) 84 al)) {r : Bool} {r2 : Int} , ba Bs from_ many walks Ao Af start Ac AG AN hit ok found = some (r, r2) → SH.Spec Tryz.prog 89 #[.int .i64 Bs, .int .i64 from_, .int .i64 many, .pointer (some ⟨G4, 0, none⟩), .pointer (some ⟨ay, 0, none⟩), .pointer (some ⟨aa, 0, none⟩), .pointer (some ⟨ab, 0, none⟩)] F [(aa, ce #[.int .i64 found] 3)] fun _ L' v => v = .bool r ∧ L' = [(aa, ce #[.int .i64 r2] 3)]) {many : Int} {ay : Nat} {bb : Nat × Nat} {aa : Nat} {found : Int} {ab : Nat} {al : Nat × Nat} (au : F G4 = some (.cells #[.pointer (some ⟨K6, 0, none⟩)] 97 KC)) (aq : F K6 = some (.cells ((([.slice As walks.length Ar] : List Value) ++ (([.slice Au Ao.length Av] : List Value) ++ (([.int .i64 Af] : List Value) ++ (([.int .i64 start] : List Value) ++ (([.slice Ai Ac.length Ah] : List Value) ++ (AG.flatMap (cI .i64) ++ (([.slice Bu AN.length Bt] : List Value) ++ (hit.flatMap (cI .i64))))))))).toArray) 113 M1)) (ae : AF 1 (CD 1 (iE .i64)) F As Ar walks) (af : AF 1 (CD 1 (iE .i64)) F Au Av Ao) (ad : AF 3 (B4 (CD 1 (iE .i64)) (B4 (iE .i64) (iE .i64))) F Ai Ah Ac) (aj : AG.length = 25) (ah : AF 2 (B4 (iE .i64) (iE .i64)) F Bu Bt AN) (az : hit.length = 15) (av : F ay = some (.cells #[.func (.func I2) IW IY] 105 bb)) (aw : KM Tryz.prog F I2 IW IY (B4 (iE .i64) (iE .i64)) Value.bool ok) (ai : F ab = some (.cells (#[.func (.func 89) #[] #[.pointer (some ⟨G4, 0, none⟩), .pointer (some ⟨ay, 0, none⟩), .pointer (some ⟨aa, 0, none⟩), .pointer (some ⟨ab, 0, none⟩)]]) 84 al)) {r : Bool} (hr : FL ba Bs from_ many walks Ao Af start Ac AG AN hit ok found = some (r, r2)) :
    SH.Spec Tryz.prog 89 #[.int .i64 Bs, .int .i64 from_, .int .i64 many, .pointer (some ⟨G4, 0, none⟩), .pointer (some ⟨ay, 0, none⟩), .pointer (some ⟨aa, 0, none⟩), .pointer (some ⟨ab, 0, none⟩)] F [(aa, ce #[.int .i64 found] 3)] fun _ L' v => v = .bool r ∧ L' = [(aa, ce #[.int .i64 r2] 3)] := by
 refine sp func89 ntmps89 fun K _ _ => ?_
 rw [FL] at hr
 refine AP (ua (Aa (Aq (AP (um ?_)))))
 refine uv (DY rfl rfl) (Aa ?_)
 refine cQ (fun c1 => ?_) fun c1 => ?_
 ·have r3 := A2 hr c1
  refine AP (uv (Al isAgg97 rfl (Has.frozen au) rfl) (um (uv (AM isAgg105 sizeOf105 rfl (Has.frozen av) (CE rfl) rfl) ?_)))
  obtain ⟨l, n, cy, h4, r5⟩ := EZ r3
  refine c0 call42 (Ea aq ae af ad aj ah az aw h4) ?_; rintro _ F6 _ cz da ⟨db, dd, de, bx, rfl, rfl, bz⟩
  refine AK (lp (ln rfl)) (kO (kf (fS fO) kr) ?_)
  refine um (ox rfl rfl rfl (ox rfl rfl rfl (ox rfl rfl rfl (ua (ua (ua (Aa (Aq (AP ?_)))))))))
  refine um (uv (CI rfl) (Aa ?_))
  refine AY rfl (fun bm => ?_) (fun bm => ?_)
  ·have ca := bt r5 bm
   refine Ak (um ?_)
   refine CS (i := 0) sizeOf3 rfl rfl rfl rfl (CE rfl) (AK rfl ?_)
   refine Cj (um ?_)
   refine uv (CI rfl) ?_
   refine ua (Aa ?_)
   refine kW (kc kn) ?_
   refine Ap (Aj ?_)
   refine C9 results89 ?_
   obtain ⟨rfl, rfl⟩ := CP ca
   exact ⟨rfl, rfl⟩
  have cb := bf r5 bm
  refine An (AP (um ?_))
  refine uv (CI rfl) ?_
  refine ua (Aa ?_)
  refine kW (kc kn) ?_
  refine Ap (Aj ?_)
  refine C9 results89 ?_
  obtain ⟨rfl, rfl⟩ := CP cb
  exact ⟨rfl, rfl⟩
 have cc := A1 hr c1
 refine An ?_
 refine AX (fun e1 F1 L1 => ∃ (ar : Int), EW ar = some (r, r2) ∧ AW F F1 ∧ L1 = [(aa, ce #[.int .i64 ar] 3)] ∧ e1.sub []) ?_ ?_
 ·refine AP (um (ua (Aa ?_)))
  refine Am ?_
  obtain ⟨br, cd⟩ := AV cc
  refine Bg (fun bj e1 F1 L1 => ∃ (i : Int), Es from_ (AN.length : Int) i bj ∧ ∃ (ao : Int), Di Bs many walks Ao Af start Ac AG AN hit ok ba bj i ao = some (r, r2) ∧ AW F F1 ∧ L1 = [(aa, ce #[.int .i64 ao] 3)] ∧ e1.sub [(0, .int .i64 Bs), (2, .int .i64 many), (3, .pointer (some ⟨G4, 0, none⟩)), (6, .pointer (some ⟨ab, 0, none⟩)), (14, .int .i64 i)]) _ (m0 kr ⟨_, Es.start _ _, found, cd, AW.refl _, rfl, z5⟩) ?_
  rintro bj e1 df _ ⟨i, ax, ao, bk, ak, rfl, bn⟩
  refine AD _ bn ?_
  replace ae := ae.mono (Ax (Ab _)) ak
  replace af := af.mono (Ax (Ab _)) ak
  replace ad := ad.mono (At (Ax (Ab _)) (At (Ab _) (Ab _))) ak
  replace ah := ah.mono (At (Ab _) (Ab _)) ak
  replace aw := aw.mono ak
  replace aq := ak _ _ aq
  replace au := ak _ _ au
  replace av := ak _ _ av
  replace ai := ak _ _ ai
  refine Aq (AP (um ?_))
  refine uv (Al isAgg97 rfl (Has.frozen au) rfl) (uv (AU rfl) (uv (Ad GA rfl) (uv (Al isAgg54 rfl (Has.frozen aq) (Ed (Ay (k := 1) (o := 29) rfl (Ay (k := 1) (o := 28) rfl (Ay (k := 1) (o := 27) rfl (Ay (k := 1) (o := 26) rfl (Ay (k := 1) (o := 25) rfl (Ay (k := 25) (o := 0) (IG (Bj .i64) aj) (Ck rfl))))))))) (uv (A3 underlying54 rfl) (uv (A8 rfl rfl) (Aa ?_))))))
  refine cQ (fun bg => ?_) fun bg => ?_
  ·obtain ⟨bj, rfl, bo⟩ := Es.succ ax bg
   rw [Di] at bk
   refine An (Aq ?_)
   refine Am (Aq (C5 [(.still, 0), (.still, 1), (.still, 2), (.still, 3), (.still, 4), (.still, 5), (.still, 6), (.still, 7), (.still, 8), (.seq, 9)] (by kernel_rfl) (by kernel_rfl) (trivial) (by rfl) (by kernel_rfl) (mL [6] ([]) rfl sm (fun H F' L' cf cg => Al isAgg84 rfl ((Has.frozen ai).ext cf cg) rfl) (mS [0] rfl (Be rfl) (mS [14] rfl (Be rfl) ?_)))))
   obtain ⟨cj, cn⟩ := AV bk
   refine mS (v := .int .i64 (shl 1 i)) [42] rfl (Qg rfl rfl cj) (mS (v := .int .i64 (LR Bs (shl 1 i))) [41, 43] rfl (SN rfl rfl) (mS [14] rfl (Be rfl) (mS (v := .int .i64 (i + 1)) [45] rfl (A5 rfl rfl (Es.El ax bg br)) (mS [2] rfl (Be rfl) ?_))))
   obtain ⟨cp, cq⟩ := AV cn
   refine mS (v := .int .i64 (many - 1)) [47] rfl (FR rfl rfl cp) ?_
   refine ⟨_, [(40, .func (.func 89) #[] #[.pointer (some ⟨G4, 0, none⟩), .pointer (some ⟨ay, 0, none⟩), .pointer (some ⟨aa, 0, none⟩), .pointer (some ⟨ab, 0, none⟩)]), (44, .int .i64 (LR Bs (shl 1 i))), (46, .int .i64 (i + 1)), (48, .int .i64 (many - 1))], rfl, rfl, z4, by kernel_rfl, ?_⟩; intro H
   obtain ⟨dg, bc, cr, bu⟩ := CQ cq
   refine cG call89 (bl au aq ae af ad aj ah az av aw ai cr) ?_; rintro _ dh _ bh ct cu ⟨rfl, rfl⟩
   refine AK (lb (ln rfl)) ?_
   refine Aa ⟨_, rfl, bh, [], by kernel_rfl, .inl (.inl rfl), nm, ?_⟩
   refine Ef ?_
   refine AY rfl (fun bp => ?_) (fun bp => ?_)
   ·have cv := bt bu bp
    refine AP (ua (Aa (Ap (AE (Aj (Aj (AE (Aj ?_))))))))
    refine C9 results89 ?_
    obtain ⟨rfl, rfl⟩ := CP cv
    exact ⟨rfl, rfl⟩
   have cw := bf bu bp
   refine An (Az (id := 1) (Ak (um ?_)))
   refine uv (A5 rfl rfl (Es.El ax bg br)) ?_
   refine ua (Aa ?_)
   exact le kr ⟨_, bo, bc, cw, (ak.trans bh), rfl, z5⟩
  obtain rfl := Es.zero ax bg
  rw [Di] at bk
  refine AS (Ae (Ae ?_))
  refine AA ?_
  exact mi kr ⟨ao, bk, ak, rfl, (sn _)⟩
 rintro e1 di _ ⟨ar, bw, cx, rfl, bq⟩
 refine AD _ bq ?_
 rw [EW] at bw
 refine AP (ua (Aa (Ap ?_)))
 refine C9 results89 ?_
 obtain ⟨rfl, rfl⟩ := CP bw
 exact ⟨rfl, rfl⟩
set_option maxHeartbeats 1000000 in
theorem JF : ∀ (fu : Nat) {Bs from_ many : Int} {G4 K6 : Nat} {As : Option Addr} {Ar : Nat} {walks : List (List Int)} {Au : Option Addr} {Av : Nat} {Ao : List (List Int)} {Af start : Int} {Ai : Option Addr} {Ah : Nat} {Ac : List ((List Int) × Int × Int)} {AG : List Int} {Bu : Option Addr} {Bt : Nat} {AN : List (Int × Int)} {hit : List Int} {M1 KC : Nat × Nat} {ae : Nat} {I2 : FuncId} {IW IY : Array Value} {ok : (Int × Int) → Option Bool} {af : Nat × Nat} {aa : Nat} {found : Int} {ab : Nat} {ad : Nat × Nat} {F : FS} (_ : F G4 = some (.cells #[.pointer (some ⟨K6, 0, none⟩)] 97 KC)) (_ : F K6 = some (.cells ((([.slice As walks.length Ar] : List Value) ++ (([.slice Au Ao.length Av] : List Value) ++ (([.int .i64 Af] : List Value) ++ (([.int .i64 start] : List Value) ++ (([.slice Ai Ac.length Ah] : List Value) ++ (AG.flatMap (cI .i64) ++ (([.slice Bu AN.length Bt] : List Value) ++ (hit.flatMap (cI .i64))))))))).toArray) 113 M1)) (_ : AF 1 (CD 1 (iE .i64)) F As Ar walks) (_ : AF 1 (CD 1 (iE .i64)) F Au Av Ao) (_ : AF 3 (B4 (CD 1 (iE .i64)) (B4 (iE .i64) (iE .i64))) F Ai Ah Ac) (_ : AG.length = 25) (_ : AF 2 (B4 (iE .i64) (iE .i64)) F Bu Bt AN) (_ : hit.length = 15) (_ : F ae = some (.cells #[.func (.func I2) IW IY] 105 af)) (_ : KM Tryz.prog F I2 IW IY (B4 (iE .i64) (iE .i64)) Value.bool ok) (_ : F ab = some (.cells (#[.func (.func 89) #[] #[.pointer (some ⟨G4, 0, none⟩), .pointer (some ⟨ae, 0, none⟩), .pointer (some ⟨aa, 0, none⟩), .pointer (some ⟨ab, 0, none⟩)]]) 84 ad)) {r : Bool} {r2 : Int} , D4 fu Bs from_ many walks Ao Af start Ac AG AN hit ok found = some (r, r2) → SH.Spec Tryz.prog 89 #[.int .i64 Bs, .int .i64 from_, .int .i64 many, .pointer (some ⟨G4, 0, none⟩), .pointer (some ⟨ae, 0, none⟩), .pointer (some ⟨aa, 0, none⟩), .pointer (some ⟨ab, 0, none⟩)] F [(aa, ce #[.int .i64 found] 3)] fun _ L' v => v = .bool r ∧ L' = [(aa, ce #[.int .i64 r2] 3)] := by
  intro fu
  induction fu with
  | zero => intros; rename_i hr; rw [D4] at hr; cases hr
  | succ fu ih => intros; rename_i hr; rw [D4] at hr; exact Jw ih (by assumption) (by assumption) (by assumption) (by assumption) (by assumption) (by assumption) (by assumption) (by assumption) (by assumption) (by assumption) (by assumption) hr
set_option maxHeartbeats 1000000 in
theorem Kk (ah : F G4 = some (.cells ((([.slice As walks.length Ar] : List Value) ++ (([.slice Au Ao.length Av] : List Value) ++ (([.int .i64 Af] : List Value) ++ (([.int .i64 start] : List Value) ++ (([.slice Ai Ac.length Ah] : List Value) ++ (AG.flatMap (cI .i64) ++ (([.slice Bu AN.length Bt] : List Value) ++ (hit.flatMap (cI .i64))))))))).toArray) 113 KC)) (ab : AF 1 (CD 1 (iE .i64)) F As Ar walks) (ad : AF 1 (CD 1 (iE .i64)) F Au Av Ao) (aa : AF 3 (B4 (CD 1 (iE .i64)) (B4 (iE .i64) (iE .i64))) F Ai Ah Ac) (al : AG.length = 25) (ae : AF 2 (B4 (iE .i64) (iE .i64)) F Bu Bt AN) (ax : hit.length = 15) (aj : KM Tryz.prog F I2 IW IY (B4 (iE .i64) (iE .i64)) Value.bool ok) {r : Int} (hr : Gz walks Ao Af start Ac AG AN hit ok = some r) :
    BG Tryz.prog 56 #[.pointer (some ⟨G4, 0, none⟩), .agg #[.func (.func I2) IW IY]] F (.int .i64 r) := by
 refine sp func56 ntmps56 fun K _ _ => ?_
 rw [Gz] at hr
 refine AP ?_
 refine BK rfl rfl ?_; intro b1 bm
 refine BK rfl rfl ?_; intro b2 bn
 refine ua (Aa ?_)
 refine T3 (AP ?_)
 refine Br rfl zeroValue3 ?_; intro b3 cb
 refine CS (i := 0) sizeOf3 rfl rfl rfl rfl (CE rfl) (AK rfl ?_)
 refine Aa (Aq ?_)
 refine Uj ?_
 obtain ⟨found, h4, r5⟩ := AO hr
 refine jF ([(b3, ce #[.int .i64 found] 3)]) [(5, .pointer (some ⟨b3, 0, none⟩))] ?_ fun cc bo => ?_
 ·clear r5
  refine AP (uv (Al isAgg97 rfl (Has.own 2 rfl) rfl) (uv (AU rfl) (uv (Ad GA rfl) (uv (Al isAgg54 rfl (Has.frozen ah) (Ed (Ay (k := 1) (o := 29) rfl (Ay (k := 1) (o := 28) rfl (Ay (k := 1) (o := 27) rfl (Ay (k := 1) (o := 26) rfl (Ay (k := 1) (o := 25) rfl (Ay (k := 25) (o := 0) (IG (Bj .i64) al) (Ck rfl))))))))) (uv (A3 underlying54 rfl) ?_)))))
  obtain ⟨g6, r7⟩ := AV h4
  refine uv (A5 rfl rfl g6) ?_
  refine um (Aa ?_)
  refine Am ?_
  refine DL 2 rfl bm ?_; intro F8 au ao
  refine Gv (L' := [(b3, ce #[.int .i64 0] 3), (b2, ce #[.func (.func I2) IW IY] 105)]) rfl ?_
  replace ab := ab.mono (Ax (Ab _)) au
  replace ad := ad.mono (Ax (Ab _)) au
  replace aa := aa.mono (At (Ax (Ab _)) (At (Ab _) (Ab _))) au
  replace ae := ae.mono (At (Ab _) (Ab _)) au
  replace aj := aj.mono au
  replace ah := au _ _ ah
  refine DL 1 rfl bn ?_; intro bp ak ar
  refine Gv (L' := [(b3, ce #[.int .i64 0] 3)]) rfl ?_
  replace ab := ab.mono (Ax (Ab _)) ak
  replace ad := ad.mono (Ax (Ab _)) ak
  replace aa := aa.mono (At (Ax (Ab _)) (At (Ab _) (Ab _))) ak
  replace ae := ae.mono (At (Ab _) (Ab _)) ak
  replace aj := aj.mono ak
  replace ah := ak _ _ ah
  replace ao := ak _ _ ao
  obtain ⟨bq, br⟩ := AV r7
  refine Ty (fun az e1 F1 L1 => ∃ (k : Int), Es 0 ((AN.length : Int) + 1) k az ∧ ∃ (aq : Int), DT walks Ao Af start Ac AG AN hit ok az k aq = some found ∧ AW bp F1 ∧ L1 = [(b3, ce #[.int .i64 aq] 3)] ∧ e1.sub [(2, .pointer (some ⟨b1, 0, none⟩)), (3, .pointer (some ⟨b2, 0, none⟩)), (5, .pointer (some ⟨b3, 0, none⟩)), (13, .int .i64 ((AN.length : Int) + 1)), (14, .int .i64 k)]) _ (m0 kr ⟨_, Es.start _ _, 0, br, AW.refl _, rfl, z5⟩) ?_
  rintro az e1 cd _ ⟨k, av, aq, ba, af, rfl, bc⟩
  refine AD _ bc ?_
  replace ab := ab.mono (Ax (Ab _)) af
  replace ad := ad.mono (Ax (Ab _)) af
  replace aa := aa.mono (At (Ax (Ab _)) (At (Ab _) (Ab _))) af
  replace ae := ae.mono (At (Ab _) (Ab _)) af
  replace aj := aj.mono af
  replace ah := af _ _ ah
  replace ao := af _ _ ao
  replace ar := af _ _ ar
  refine AP (uv (A8 rfl rfl) ?_)
  refine Aa (Aq ?_)
  refine cQ (fun bb => ?_) fun bb => ?_
  ·obtain ⟨az, rfl, bg⟩ := Es.succ av bb
   rw [DT] at ba
   refine An (Aq ?_)
   refine Am ?_
   refine AP (um (ua (Cj ?_)))
   refine Br rfl zeroValue84 ?_; intro cf bh
   refine Cj (uv (DO rfl rfl) (CS (i := 0) sizeOf84 rfl rfl rfl rfl (CE rfl) (AK rfl (Cj (uv (Al isAgg84 rfl (Has.own 0 rfl) rfl) (um ?_))))))
   refine BP 0 rfl bh ?_; intro cg ai bj
   refine AK rfl ?_
   replace ab := ab.mono (Ax (Ab _)) ai
   replace ad := ad.mono (Ax (Ab _)) ai
   replace aa := aa.mono (At (Ax (Ab _)) (At (Ab _) (Ab _))) ai
   replace ae := ae.mono (At (Ab _) (Ab _)) ai
   replace aj := aj.mono ai
   replace ah := ai _ _ ah
   replace ao := ai _ _ ao
   replace ar := ai _ _ ar
   obtain ⟨cj, aw, bu, bl⟩ := CQ ba
   refine cG call89 ((JF FU) ao ah ab ad aa al ae ax ar aj bj bu) ?_; rintro _ cn _ ay bw bx ⟨rfl, rfl⟩
   refine AK (lb (ln rfl)) (Aa ?_)
   refine AY rfl (fun bk => ?_) (fun bk => ?_)
   ·have bz := bt bl bk
    refine AS (PD rfl ?_)
    refine Ae (Ae ?_)
    refine AA ?_
    obtain rfl := AR bz
    exact mi kr ⟨((((au.trans ak).trans af).trans ai).trans ay), rfl, z1⟩
   have ca := bf bl bk
   refine An (Az (id := 1) (Ak ?_))
   refine uv (A5 rfl rfl (Es.El av bb bq)) ?_
   refine um (Aa ?_)
   refine lf ?_
   exact mf kr ⟨_, bg, aw, ca, ((af.trans ai).trans ay), rfl, z5⟩
  obtain rfl := Es.zero av bb
  rw [DT] at ba
  refine AS (Ae (Ae ?_))
  refine AA ?_
  obtain rfl := AR ba
  exact mi kr ⟨((au.trans ak).trans af), rfl, z1⟩
 refine AP (uv (Al isAgg3 rfl (Has.own 0 rfl) rfl) ?_)
 refine ua (Aa ?_)
 refine kW kn ?_
 refine Ap (noGoto_ret ?_)
 refine C9 results56 ?_
 obtain rfl := AR r5
 exact rfl
set_option maxHeartbeats 1000000 in
theorem OA (ai : AF 1 (CD 1 (iE .i64)) F As Ar walks) (aj : AF 1 (CD 1 (iE .i64)) F Au Av Ao) (ae : AF 3 (B4 (CD 1 (iE .i64)) (B4 (iE .i64) (iE .i64))) F Ai Ah Ac) {r : List (Int × Int)} (hr : Ki walks Ao Af start Ac minute = some (r, r2)) :
    SH.Spec Tryz.prog 25 #[.agg #[.slice As walks.length Ar, .slice Au Ao.length Av, .int .i64 Af, .int .i64 start, .slice Ai Ac.length Ah], .int .i64 minute] F [] fun F' L' v => ∃ (ra : Option Addr) (rn : Nat) (rc : Nat) (rL : LH), v = .tuple #[.slice ra rn rc, .int .i64 r2] ∧ L' = rL ++ [] ∧ AT 0 59 2 (B4 (iE .i64) (iE .i64)) F' ra rn rc r rL := by
 refine sp func25 ntmps25 fun K _ _ => ?_
 rw [Ki] at hr
 refine AP ?_
 refine BK rfl rfl ?_; intro b1 dx
 refine ua (ua (Cj ?_))
 refine uv (AM isAgg39 sizeOf39 rfl (Has.own 0 rfl) (CE rfl) rfl) ?_
 obtain ⟨d, n, h2, r3⟩ := CQ hr
 refine c0 call41 (D0 ai aj ae h2) ?_; rintro _ F4 _ dy dz ⟨v8, rfl, rfl, bq⟩
 refine AK (ln rfl) ?_
 refine um (ox rfl rfl rfl (ox rfl rfl rfl (ua (ua (Aa (Aq ?_))))))
 refine Am ?_
 refine AP (um ?_)
 refine uv (B6 rfl rfl) ?_
 refine ua (Aa ?_)
 refine cQ (fun bg => ?_) fun bg => ?_
 ·have br := A2 r3 bg
  refine AP (um (ua (ua (Aa ?_))))
  refine kW kn ?_
  refine Ap (AE (Aj ?_))
  refine BU results25 (AH rfl) (AH rfl) (sr) ?_
  obtain ⟨rfl, rfl⟩ := CP br
  exact ⟨_, _, _, [], rfl, rfl, AT.nil _ _ _ _ _⟩
 have bu := A1 r3 bg
 refine AP (um ?_)
 obtain ⟨ok, bw, bn⟩ := AO bu
 refine cV call45 (EG bw) (uv (CI rfl) ?_)
 refine ua (Aa ?_)
 refine AY rfl (fun bh => ?_) (fun bh => ?_)
 ·have bx := bt bn bh
  refine AP (ua (ua (Aa ?_)))
  refine kW kn ?_
  refine Ap (AE (Aj ?_))
  refine BU results25 (AH rfl) (AH rfl) (sr) ?_
  obtain ⟨rfl, rfl⟩ := CP bx
  exact ⟨_, _, _, [], rfl, rfl, AT.nil _ _ _ _ _⟩
 have bz := bf bn bh
 refine An (Az (id := 0) (AP (um (um ?_))))
 obtain ⟨AG, au, ak, av, af, aw, AN, hit, ca, cb⟩ := MT bz
 have bo := bq; rw [ca] at bo; obtain ⟨bj, e9, cc, bk, aa, ⟨_, _, rfl, ⟨cd, cf, rfl, al⟩, ⟨_, _, rfl, ⟨cg, cj, rfl, ao⟩, ⟨_, _, rfl, rfl, ⟨_, _, rfl, rfl, ⟨_, _, rfl, ⟨cn, cp, rfl, aq⟩, ⟨_, _, rfl, ⟨rfl, ay⟩, ⟨_, _, rfl, ⟨cq, cr, rfl, ar⟩, ⟨rfl, az⟩⟩⟩⟩⟩⟩⟩⟩⟩ := bo; subst bk
 have aa : F4 bj = some (.cells ((([.slice cd AG.length cf] : List Value) ++ (([.slice cg au.length cj] : List Value) ++ (([.int .i64 ak] : List Value) ++ (([.int .i64 av] : List Value) ++ (([.slice cn af.length cp] : List Value) ++ (aw.flatMap (cI .i64) ++ (([.slice cq AN.length cr] : List Value) ++ (hit.flatMap (cI .i64))))))))).toArray) 113 cc) := aa
 obtain ⟨y, ct, cu⟩ := AO cb
 refine c0 call54 (J6 aa al ao aq ay ar az ct) ?_; rintro _ eg _ ah cv ⟨ba, bb, bc, rfl, rfl, ad⟩
 replace al := al.mono (Ax (Ab _)) ah
 replace ao := ao.mono (Ax (Ab _)) ah
 replace aq := aq.mono (At (Ax (Ab _)) (At (Ab _) (Ab _))) ah
 replace ar := ar.mono (At (Ab _) (Ab _)) ah
 replace aa := ah _ _ aa
 refine AK (ln rfl) ?_
 refine Br rfl zeroValue105 ?_; intro cw cx
 refine By (i := 0) sizeOf105 rfl rfl rfl (by simp [Value.oneCell']) rfl (CE rfl) (AK rfl ?_)
 refine Aa (Aq (Aq ?_))
 refine C5 [(.still, 0), (.still, 1), (.still, 3), (.seq, 2), (.seq, 4), (.still, 5), (.still, 6), (.still, 7), (.still, 8), (.still, 9), (.still, 10), (.still, 11)] (by kernel_rfl) (by kernel_rfl) (trivial) (by rfl) (by kernel_rfl) (mS [6] rfl (Be rfl) (mS [6] rfl (Be rfl) (mL [8] ([(cw, ce #[.func (.func ba) bb bc] 105)]) rfl (s0 (s2 (s1 sr))) (fun H F' L' cy cz => AM isAgg105 sizeOf105 rfl ((Has.own 0 rfl).ext cy cz) (CE rfl) rfl) ?_)))
 refine ⟨_, [(30, .pointer (some ⟨bj, 0, none⟩))], rfl, rfl, z1, by kernel_rfl, ?_⟩; intro H
 obtain ⟨n2, da, db⟩ := AO cu
 refine cV call43 (HP aa al ao aq ay ar az da) ?_
 refine Aa ⟨_, rfl, AW.refl _, [3, 0], by kernel_rfl, .inl (.inr (fun d h => by cases h; rfl)), (fc (s0 (s2 (s1 sr))) (fc sm nm)), ?_⟩
 refine ⟨_, [(29, .pointer (some ⟨bj, 0, none⟩)), (31, .int .i64 n2), (32, .agg #[.func (.func ba) bb bc])], rfl, rfl, z3, by kernel_rfl, ?_⟩; intro H
 obtain ⟨l, n3, dd, de, bp⟩ := EZ db
 refine c0 call42 (Ea aa al ao aq ay ar az ad de) ?_; rintro _ eh _ ab df ⟨dg, dh, di, dk, rfl, rfl, dm⟩
 replace al := al.mono (Ax (Ab _)) ab
 replace ao := ao.mono (Ax (Ab _)) ab
 replace aq := aq.mono (At (Ax (Ab _)) (At (Ab _) (Ab _))) ab
 replace ar := ar.mono (At (Ab _) (Ab _)) ab
 replace ad := ad.mono ab
 replace aa := ab _ _ aa
 refine AK (lp (ln rfl)) (kO (kf (fS fO) (kf (fS fO) kr)) ?_)
 refine Aa ⟨_, rfl, ab, [], by kernel_rfl, .inl (.inl rfl), nm, ?_⟩
 refine mS [33] rfl (Be rfl) (mS (v := .slice dg dh di) [28] rfl (Ij rfl rfl) (mS (v := .int .i64 n3) [28] rfl (Ij rfl rfl) (mS (v := .bool dd) [28] rfl (Ij rfl rfl) (mS [34] rfl (DQ rfl) (mS [35] rfl (DQ rfl) (mS [36] rfl (DQ rfl) (Ef ?_)))))))
 refine AP (um (Aa ?_))
 refine AY rfl (fun bl => ?_) (fun bl => ?_)
 ·have dn := bt bp bl
  refine AP (ua (ua (Aa ?_)))
  refine kW kn ?_
  refine Ap (Aj ?_)
  refine BU results25 (AH rfl) (AH rfl) (sr) ?_
  obtain ⟨rfl, rfl⟩ := CP dn
  exact ⟨_, _, _, [], rfl, rfl, AT.nil _ _ _ _ _⟩
 have dp := bf bp bl
 refine An (AP (um (um ?_)))
 refine uv (AM isAgg105 sizeOf105 rfl (Has.own 0 rfl) (CE rfl) rfl) ?_
 obtain ⟨n4, dq, dr⟩ := AO dp
 refine cV call56 (Kk aa al ao aq ay ar az ad dq) ?_
 obtain ⟨l2, dt, du⟩ := AO dr
 refine c0 call55 (K1 aa al ao aq ay ar az dt) ?_; rintro _ ej _ dv bm ⟨eo, er, et, dw, rfl, rfl, ax⟩
 replace ax := ax.new fun p hp => bm p (by simp [hp])
 refine AK (lp (ln rfl)) (kO (kf (fS fO) (kf (fS fO) kr)) ?_)
 refine ua (ua (Aa ?_))
 refine kW (kd (kd (ka kn))) (Ap (BU results25 (AH rfl) (AH rfl) (sr) ?_))
 obtain ⟨rfl, rfl⟩ := CP du
 exact ⟨_, _, _, _, rfl, rfl, ax.any⟩
set_option maxHeartbeats 1000000 in
theorem GZ {s1 s2 : List (Int × Int)} (ad : AF 2 (B4 (iE .i64) (iE .i64)) F Ud Uv s1) (ae : AF 2 (B4 (iE .i64) (iE .i64)) F Ue Uy s2) {r : Bool} (hr : DN s1 s2 = some r) :
    BG Tryz.prog 57 #[.slice Ud s1.length Uv, .slice Ue s2.length Uy] F (.bool r) := by
 refine sp func57 ntmps57 fun K _ _ => ?_
 rw [DN] at hr
 refine AP (ua (Aa (Aq (AP (um ?_)))))
 refine uv (A3 underlying54 rfl) (um (uv (A3 underlying54 rfl) (uv (B6 rfl rfl) (Aa ?_))))
 refine cQ (fun c1 => ?_) fun c1 => ?_
 ·have r2 := A2 hr c1
  refine AP (ua (Aa (Ap (Aj ?_))))
  refine C9 results57 ?_
  obtain rfl := AR r2
  exact rfl
 have r3 := A1 hr c1
 refine An ?_
 refine AX (fun e1 F1 L1 => Du = some r ∧ F = F1 ∧ L1 = [] ∧ e1.sub []) ?_ ?_
 ·refine AP (um ?_)
  refine uv (A3 underlying54 rfl) ?_
  refine um (Aa ?_)
  refine Am ?_
  refine Bg (fun az e1 F1 L1 => LA s1 az fun tl k => B1 s2 tl k = some r ∧ F = F1 ∧ L1 = [] ∧ e1.sub [(0, .slice Ud s1.length Uv), (1, .slice Ue s2.length Uy), (12, .int .i64 (s1.length : Int)), (13, .int .i64 k)]) _ (m0 kr ⟨_, _, rfl, BT.start _, r3, rfl, rfl, z4⟩) ?_
  rintro az e1 _ _ ⟨tl, k, bh, af, r6, rfl, rfl, bj⟩
  refine AD _ bj (AP (uv (A8 rfl rfl) ?_))
  refine Aa (Aq ?_)
  refine cQ (fun c9 => ?_) fun c9 => ?_
  ·obtain ⟨x, bo, rfl, ah, ba, ai⟩ := BT.succ af c9
   rw [B1] at r6
   refine An (Aq ?_)
   refine Am ?_
   refine AP (um (ua ?_))
   refine dN ?_
   refine wm (wm ?_)
   obtain ⟨bp, bq, br, bk, aj, ak, aa, ⟨_, _, rfl, rfl, rfl⟩, al, ao⟩ := AF.at (At (Ab _) (Ab _)) ad ([]) ba.1 ah
   refine wv (AI underlying54 sizeOf59 rfl aj rfl ba) (wv (AM isAgg59 sizeOf59 rfl ak aa (Bh aa al ao)) ?_)
   refine wm (wm ?_)
   obtain ⟨x2, bb, aq, bc⟩ := BH r6
   obtain ⟨bu, bw, bx, bl, ar, au, ab, ⟨_, _, rfl, rfl, rfl⟩, av, aw⟩ := AF.at (At (Ab _) (Ab _)) ae ([]) bb.1 aq
   refine wv (AI underlying54 sizeOf59 rfl ar rfl bb) (wv (AM isAgg59 sizeOf59 rfl au ab (Bh ab av aw)) (wv (UK (WS _ _ _ _) (fun w => Vp (Vw _ _ _ _ w)) rfl rfl) (Df ?_)))
   refine cQ (fun ax => ?_) fun ax => ?_
   ·have bm := A2 bc ax
    refine AP (ua (Aa (Ap (AE (Aj (Aj (AE (Aj ?_))))))))
    refine C9 results57 ?_
    obtain rfl := AR bm
    exact rfl
   have bn := A1 bc ax
   refine An (Az (id := 1) (Ak ?_))
   refine uv (A5 rfl rfl (BT.El af c9 (AF.lt ad))) ?_
   refine um (Aa ?_)
   subst bh; exact le kr ⟨_, _, rfl, ai, bn, rfl, rfl, z4⟩
  obtain rfl := BT.zero af c9
  rw [B1] at r6
  refine AS (Ae (Ae ?_))
  refine AA ?_
  exact mi kr ⟨r6, rfl, rfl, (sn _)⟩
 rintro e1 _ _ ⟨bg, rfl, rfl, ay⟩
 refine AD _ ay ?_
 rw [Du] at bg
 refine AP (ua (Aa (Ap ?_)))
 refine C9 results57 ?_
 obtain rfl := AR bg
 exact rfl
theorem LN {a b : List (Int × Int)} (aa : AF 2 (B4 (iE .i64) (iE .i64)) F YD YA a) (ab : AF 2 (B4 (iE .i64) (iE .i64)) F Yy G4 b) {r : Bool} (hr : HU a b = some r) :
    BG Tryz.prog 26 #[.slice YD a.length YA, .slice Yy b.length G4] F (.bool r) := by
 refine sp func26 ntmps26 fun K _ _ => ?_
 rw [HU] at hr
 refine AP (ua (Cj (um (um ?_))))
 obtain ⟨ok, h1, r2⟩ := AO hr
 refine cV call57 (GZ aa ab h1) ?_
 refine ua (Aa (Ap ?_))
 refine C9 results26 ?_
 obtain rfl := AR r2
 exact rfl
set_option maxHeartbeats 1000000 in
theorem M7 {bb : Nat} {x : Int} {ar : Nat × Nat} {al : Nat} {x2 : Int} {ao : Nat × Nat} {ai ae : Nat} {ah aj : Nat × Nat} (ak : F bb = some (.cells #[.int .i64 x] 3 ar)) (aq : F al = some (.cells #[.int .i64 x2] 3 ao)) (af : F ai = some (.cells #[.pointer (some ⟨ae, 0, none⟩)] 97 aj)) (ad : F ae = some (.cells ((([.slice As walks.length Ar] : List Value) ++ (([.slice Au Ao.length Av] : List Value) ++ (([.int .i64 Af] : List Value) ++ (([.int .i64 start] : List Value) ++ (([.slice Ai Ac.length Ah] : List Value) ++ (AG.flatMap (cI .i64) ++ (([.slice Bu AN.length Bt] : List Value) ++ (hit.flatMap (cI .i64))))))))).toArray) 113 ah)) (_h_walks : AF 1 (CD 1 (iE .i64)) F As Ar walks) (_h_hears : AF 1 (CD 1 (iE .i64)) F Au Av Ao) (ab : AF 3 (B4 (CD 1 (iE .i64)) (B4 (iE .i64) (iE .i64))) F Ai Ah Ac) (_h_walks2 : AG.length = 25) (_h_pairs : AF 2 (B4 (iE .i64) (iE .i64)) F Bu Bt AN) (_h_hit : hit.length = 15) {r : Bool} (hr : Hl n minute x x2 walks Ao Af start Ac AG AN hit = some r) :
    BG Tryz.prog 60 #[.int .i64 n, .int .i64 minute, .pointer (some ⟨bb, 0, none⟩), .pointer (some ⟨al, 0, none⟩), .pointer (some ⟨ai, 0, none⟩)] F (.bool r) := by
 refine sp func60 ntmps60 fun K _ _ => ?_
 rw [Hl] at hr
 refine AP (ua (Cj (um ?_)))
 refine uv (Al isAgg3 rfl (Has.frozen ak) rfl) (uv (DY rfl rfl) (um ?_))
 by_cases c1 : n = x
 ·have r2 := A2 hr c1
  refine nT c1 (um (nT c1 ?_))
  refine uv (Al isAgg3 rfl (Has.frozen aq) rfl) (nT c1 (uv (Lm rfl rfl) (uv (AQ (Bd rfl c1) rfl) (um ?_))))
  by_cases c3 : minute ≤ x2
  ·have r4 := A2 r2 c3
   refine fT c3 (fT c3 (fT c3 (fT c3 (fU (fU (fU (fU (fU (fU ?_)))))))))
   refine fU (fU (fU (fU (fU (fT c3 ?_)))))
   refine uv (AQ (Bd rfl c3) rfl) ?_
   refine ua (Aa (Ap ?_))
   refine C9 results60 ?_
   obtain rfl := AR r4
   exact rfl
  have r5 := A1 r2 c3
  refine nF c3 (um (nF c3 ?_))
  refine uv (Al isAgg3 rfl (Has.frozen ak) rfl) (nF c3 (uv (B6 rfl rfl) ?_))
  refine nF c3 (um ?_)
  by_cases c6 : n ≠ x
  ·have r7 := A2 r5 c6
   refine nT c6 (um (nT c6 ?_))
   refine uv (Al isAgg97 rfl (Has.frozen af) rfl) (nT c6 (uv (AU rfl) (nT c6 (uv (Ad Gc rfl) (nT c6 (uv (Ad Fj rfl) (nT c6 ?_)))))))
   refine uv (Al isAgg37 rfl (Has.frozen ad) (Ed (Ay (k := 1) (o := 3) rfl (Ay (k := 1) (o := 2) rfl (Ay (k := 1) (o := 1) rfl (Ay (k := 1) (o := 0) rfl (Ck rfl))))))) ?_
   refine nT c6 (um (nT c6 ?_))
   obtain ⟨x3, g8, bk, bl⟩ := BH r7
   obtain ⟨N9, bx, bz, bm, au, av, bc, ⟨_, _, rfl, ⟨ca, cb, rfl, cc⟩, ⟨_, _, rfl, rfl, rfl⟩⟩, bn, aw⟩ := AF.at (At (Ax (Ab _)) (At (Ab _) (Ab _))) ab ([]) g8.1 bk
   refine uv (AI underlying37 sizeOf48 rfl au rfl g8) (nT c6 (uv (Ad LB rfl) (nT c6 (uv (Al isAgg3 rfl av (aw 2 (by decide))) (nT c6 (uv (Lm rfl rfl) (nF c3 ?_)))))))
   refine uv (AQ (Bd rfl c6) rfl) (uv (AL (A4 rfl c3) rfl) ?_)
   refine ua (Aa (Ap ?_))
   refine C9 results60 ?_
   obtain rfl := AR bl
   exact rfl
  have bo := A1 r5 c6
  refine fF c6 (fF c6 (fF c6 (fF c6 (fF c6 (fF c6 (fF c6 (fF c6 (fF c6 (fF c6 ?_)))))))))
  refine fF c6 (nF c3 ?_)
  refine uv (AL (A4 rfl c6) rfl) (uv (AL (A4 rfl c3) rfl) ?_)
  refine ua (Aa (Ap ?_))
  refine C9 results60 ?_
  obtain rfl := AR bo
  exact rfl
 have bg := A1 hr c1
 refine fF c1 (fF c1 (fF c1 ?_))
 refine uv (AL (A4 rfl c1) rfl) ?_
 refine um (Ev (b := false) 16 rfl rfl (um (Ev (b := false) 16 rfl rfl ?_)))
 refine uv (Al isAgg3 rfl (Has.frozen ak) rfl) (Ev (b := false) 16 rfl rfl (uv (B6 rfl rfl) ?_))
 refine Ev (b := false) 16 rfl rfl (um ?_)
 by_cases aa : n ≠ x
 ·have bp := A2 bg aa
  refine nT aa (um (nT aa ?_))
  refine uv (Al isAgg97 rfl (Has.frozen af) rfl) (nT aa (uv (AU rfl) (nT aa (uv (Ad Gc rfl) (nT aa (uv (Ad Fj rfl) (nT aa ?_)))))))
  refine uv (Al isAgg37 rfl (Has.frozen ad) (Ed (Ay (k := 1) (o := 3) rfl (Ay (k := 1) (o := 2) rfl (Ay (k := 1) (o := 1) rfl (Ay (k := 1) (o := 0) rfl (Ck rfl))))))) ?_
  refine nT aa (um (nT aa ?_))
  obtain ⟨x4, bh, ax, bq⟩ := BH bp
  obtain ⟨cd, cf, cg, br, ay, az, bj, ⟨_, _, rfl, ⟨cj, cn, rfl, cp⟩, ⟨_, _, rfl, rfl, rfl⟩⟩, bu, ba⟩ := AF.at (At (Ax (Ab _)) (At (Ab _) (Ab _))) ab ([]) bh.1 ax
  refine uv (AI underlying37 sizeOf48 rfl ay rfl bh) (nT aa (uv (Ad LB rfl) (nT aa (uv (Al isAgg3 rfl az (ba 2 (by decide))) (nT aa (uv (Lm rfl rfl) (Ev (b := false) 16 rfl rfl ?_)))))))
  refine uv (AQ (Bd rfl aa) rfl) (uv (AL rfl rfl) ?_)
  refine ua (Aa (Ap ?_))
  refine C9 results60 ?_
  obtain rfl := AR bq
  exact rfl
 have bw := A1 bg aa
 refine fF aa (fF aa (fF aa (fF aa (fF aa (fF aa (fF aa (fF aa (fF aa (fF aa ?_)))))))))
 refine fF aa (Ev (b := false) 16 rfl rfl ?_)
 refine uv (AL (A4 rfl aa) rfl) (uv (AL rfl rfl) ?_)
 refine ua (Aa (Ap ?_))
 refine C9 results60 ?_
 obtain rfl := AR bw
 exact rfl
set_option maxHeartbeats 1000000 in
theorem KH {hour : Int} {aa : Nat} {ak : Nat × Nat} (al : F G4 = some (.cells #[.pointer (some ⟨K6, 0, none⟩)] 97 KC)) (aj : F K6 = some (.cells ((([.slice As walks.length Ar] : List Value) ++ (([.slice Au Ao.length Av] : List Value) ++ (([.int .i64 Af] : List Value) ++ (([.int .i64 start] : List Value) ++ (([.slice Ai Ac.length Ah] : List Value) ++ (AG.flatMap (cI .i64) ++ (([.slice Bu AN.length Bt] : List Value) ++ (hit.flatMap (cI .i64))))))))).toArray) 113 M1)) (ad : AF 1 (CD 1 (iE .i64)) F As Ar walks) (ae : AF 1 (CD 1 (iE .i64)) F Au Av Ao) (ab : AF 3 (B4 (CD 1 (iE .i64)) (B4 (iE .i64) (iE .i64))) F Ai Ah Ac) (ai : AG.length = 25) (af : AF 2 (B4 (iE .i64) (iE .i64)) F Bu Bt AN) (ao : hit.length = 15) (ah : F aa = some (.cells #[.int .i64 Bx] 3 ak)) {r : Bool} (hr : Ir hour walks Ao Af start Ac AG AN hit Bx = some r) :
    BG Tryz.prog 59 #[.int .i64 hour, .pointer (some ⟨G4, 0, none⟩), .pointer (some ⟨aa, 0, none⟩)] F (.bool r) := by
 refine sp func59 ntmps59 fun K _ _ => ?_
 rw [Ir] at hr
 refine AP ?_
 refine BK rfl rfl ?_; intro b1 ax
 refine ua (Aa (Aq ?_))
 refine C5 [(.still, 0), (.still, 1), (.still, 3), (.still, 4), (.seq, 2), (.seq, 5), (.still, 6), (.still, 7), (.still, 8), (.still, 9), (.still, 10), (.still, 11), (.still, 12)] (by kernel_rfl) (by kernel_rfl) (trivial) (by rfl) (by kernel_rfl) (mL [1] ([]) rfl sm (fun H F' L' ar au => Al isAgg97 rfl ((Has.frozen al).ext ar au) rfl) (mL [1] ([]) rfl sm (fun H F' L' ar au => Al isAgg97 rfl ((Has.frozen al).ext ar au) rfl) (mS (v := .func (.func 60) #[] #[.pointer (some ⟨aa, 0, none⟩), .pointer (some ⟨b1, 0, none⟩), .pointer (some ⟨G4, 0, none⟩)]) [1, 2, 3] rfl (DO rfl rfl) ?_)))
 refine mS (v := .agg (#[.func (.func 60) #[] #[.pointer (some ⟨aa, 0, none⟩), .pointer (some ⟨b1, 0, none⟩), .pointer (some ⟨G4, 0, none⟩)]])) [12] rfl (BC (v := .agg (#[.func (.func 60) #[] #[.pointer (some ⟨aa, 0, none⟩), .pointer (some ⟨b1, 0, none⟩), .pointer (some ⟨G4, 0, none⟩)]])) rfl (by intro w; kernel_rfl)) ?_
 refine ⟨_, [(10, .pointer (some ⟨K6, 0, none⟩))], rfl, rfl, z1, by kernel_rfl, ?_⟩; intro H
 obtain ⟨n, h2, r3⟩ := AO hr
 refine cV call43 (HP aj ad ae ab ai af ao h2) ?_
 refine Aa ⟨_, rfl, AW.refl _, [4, 3, 0], by kernel_rfl, .inl (.inr (fun d h => by cases h; rfl)), (fc sm (fc sm (fc sm nm))), ?_⟩
 refine ⟨_, [(9, .pointer (some ⟨K6, 0, none⟩)), (11, .int .i64 n), (13, .agg (#[.func (.func 60) #[] #[.pointer (some ⟨aa, 0, none⟩), .pointer (some ⟨b1, 0, none⟩), .pointer (some ⟨G4, 0, none⟩)]]))], rfl, rfl, z3, by kernel_rfl, ?_⟩; intro H
 refine BP 0 rfl ax ?_; intro F4 aq ay
 refine AK rfl ?_
 replace ad := ad.mono (Ax (Ab _)) aq
 replace ae := ae.mono (Ax (Ab _)) aq
 replace ab := ab.mono (At (Ax (Ab _)) (At (Ab _) (Ab _))) aq
 replace af := af.mono (At (Ab _) (Ab _)) aq
 replace aj := aq _ _ aj
 replace al := aq _ _ al
 replace ah := aq _ _ ah
 have az : KM Tryz.prog F4 60 #[] #[.pointer (some ⟨aa, 0, none⟩), .pointer (some ⟨b1, 0, none⟩), .pointer (some ⟨G4, 0, none⟩)] (B4 (iE .i64) (iE .i64)) Value.bool (fun av : Int × Int => Hl av.1 av.2 Bx hour walks Ao Af start Ac AG AN hit) := ⟨call60, fun F2 h2 vs av r ha hr => by obtain ⟨_, _, rfl, rfl, rfl⟩ := ha; exact M7 (h2 _ _ ah) (h2 _ _ ay) (h2 _ _ al) (h2 _ _ aj) (ad.mono (Ax (Ab _)) h2) (ae.mono (Ax (Ab _)) h2) (ab.mono (At (Ax (Ab _)) (At (Ab _) (Ab _))) h2) ai (af.mono (At (Ab _) (Ab _)) h2) ao hr⟩
 obtain ⟨l, n2, ok, h8, r9⟩ := EZ r3
 refine c0 call42 (Ea aj ad ae ab ai af ao az h8) ?_; rintro _ bk _ aw ba ⟨bb, bc, bg, bh, rfl, rfl, bj⟩
 refine AK (lp (ln rfl)) ?_
 refine Aa ⟨_, rfl, (aq.trans aw), [], by kernel_rfl, .inl (.inl rfl), nm, ?_⟩
 refine mS [14] rfl (Be rfl) (mS (v := .slice bb bc bg) [8] rfl (Ij rfl rfl) (mS (v := .int .i64 n2) [8] rfl (Ij rfl rfl) (mS (v := .bool ok) [8] rfl (Ij rfl rfl) (mS [15] rfl (DQ rfl) (mS [16] rfl (DQ rfl) (mS [17] rfl (DQ rfl) (Ef ?_)))))))
 refine AP (um (ua (Aa ?_)))
 refine kW kn (Ap (C9 results59 ?_))
 obtain rfl := AR r9
 exact rfl
set_option maxHeartbeats 1000000 in
theorem PE (ab : AF 1 (CD 1 (iE .i64)) F As Ar walks) (ad : AF 1 (CD 1 (iE .i64)) F Au Av Ao) (aa : AF 3 (B4 (CD 1 (iE .i64)) (B4 (iE .i64) (iE .i64))) F Ai Ah Ac) {r : Int} (hr : K7 walks Ao Af start Ac Bx = some (r, r2)) :
    BG Tryz.prog 27 #[.agg #[.slice As walks.length Ar, .slice Au Ao.length Av, .int .i64 Af, .int .i64 start, .slice Ai Ac.length Ah], .int .i64 Bx] F (.tuple #[.int .i64 r, .int .i64 r2]) := by
 refine sp func27 ntmps27 fun K _ _ => ?_
 rw [K7] at hr
 refine AP ?_
 refine BK rfl rfl ?_; intro b1 dv
 refine BK rfl rfl ?_; intro b2 ca
 refine ua (ua (Cj ?_))
 refine uv (AM isAgg39 sizeOf39 rfl (Has.own 1 rfl) (CE rfl) rfl) ?_
 obtain ⟨d, n, h3, r4⟩ := CQ hr
 refine c0 call41 (D0 ab ad aa h3) ?_; rintro _ F5 _ bb dw ⟨v9, rfl, rfl, ao⟩
 replace ab := ab.mono (Ax (Ab _)) bb
 replace ad := ad.mono (Ax (Ab _)) bb
 replace aa := aa.mono (At (Ax (Ab _)) (At (Ab _) (Ab _))) bb
 refine AK (ln rfl) ?_
 refine um (ox rfl rfl rfl (ox rfl rfl rfl ?_))
 refine Br rfl zeroValue97 ?_; intro N9 bc
 refine CS (i := 0) sizeOf97 rfl rfl (MU.one ao) rfl (CE rfl) (AK rfl ?_)
 refine ua (Aa (Aq ?_))
 refine Am ?_
 refine AP (um ?_)
 refine uv (B6 rfl rfl) ?_
 refine ua (Aa ?_)
 refine cQ (fun bg => ?_) fun bg => ?_
 ·have cb := A2 r4 bg
  refine AP (um (ua (ua (Aa ?_))))
  refine kW kn ?_
  refine Ap (AE (Aj ?_))
  refine BU results27 (AH rfl) (AH rfl) (sr) ?_
  obtain ⟨rfl, rfl⟩ := CP cb
  exact rfl
 have cc := A1 r4 bg
 refine AP (uv (AM isAgg39 sizeOf39 rfl (Has.own 2 rfl) (CE rfl) rfl) (uv (Al isAgg3 rfl (Has.own 1 rfl) rfl) ?_))
 obtain ⟨ok, cd, bp⟩ := AO cc
 refine cV call58 (IL ab ad aa cd) (uv (CI rfl) ?_)
 refine ua (Aa ?_)
 refine AY rfl (fun bh => ?_) (fun bh => ?_)
 ·have cf := bt bp bh
  refine AP (ua (ua (Aa ?_)))
  refine kW kn ?_
  refine Ap (AE (Aj ?_))
  refine BU results27 (AH rfl) (AH rfl) (sr) ?_
  obtain ⟨rfl, rfl⟩ := CP cf
  exact rfl
 have cg := bf bp bh
 refine An (Az (id := 0) (AP ?_))
 refine uv (DO rfl rfl) ?_
 refine ua (Aa (Aq (AP (um ?_))))
 refine BP 0 rfl bc ?_; intro cj bj aq
 refine AK rfl ?_
 replace ao := ao.mono (At (Ax (Ax (Ab _))) (At (Ax (Ax (Ab _))) (At (Ab _) (At (Ab _) (At (Ax (At (Ax (Ab _)) (At (Ab _) (Ab _)))) (At (Cz (n := 25) (sz := 1) (Bj .i64)) (At (Ax (At (Ab _) (Ab _))) (Cz (n := 15) (sz := 1) (Bj .i64))))))))) bj
 obtain ⟨AG, aj, af, ak, ae, al, AN, hit, cn, cp⟩ := MT cg
 have bq := ao; rw [cn] at bq; obtain ⟨cq, dx, cr, bk, ah, ⟨_, _, rfl, ⟨ct, cu, rfl, aw⟩, ⟨_, _, rfl, ⟨cv, cw, rfl, ax⟩, ⟨_, _, rfl, rfl, ⟨_, _, rfl, rfl, ⟨_, _, rfl, ⟨cx, cy, rfl, ay⟩, ⟨_, _, rfl, ⟨rfl, br⟩, ⟨_, _, rfl, ⟨cz, da, rfl, az⟩, ⟨rfl, bu⟩⟩⟩⟩⟩⟩⟩⟩⟩ := bq; subst bk
 have ah : cj cq = some (.cells ((([.slice ct AG.length cu] : List Value) ++ (([.slice cv aj.length cw] : List Value) ++ (([.int .i64 af] : List Value) ++ (([.int .i64 ak] : List Value) ++ (([.slice cx ae.length cy] : List Value) ++ (al.flatMap (cI .i64) ++ (([.slice cz AN.length da] : List Value) ++ (hit.flatMap (cI .i64))))))))).toArray) 113 cr) := ah
 refine BP 0 rfl ca ?_; intro db ai au
 refine AK rfl ?_
 replace aw := aw.mono (Ax (Ab _)) ai
 replace ax := ax.mono (Ax (Ab _)) ai
 replace ay := ay.mono (At (Ax (Ab _)) (At (Ab _) (Ab _))) ai
 replace az := az.mono (At (Ab _) (Ab _)) ai
 replace aq := ai _ _ aq
 replace ah := ai _ _ ah
 obtain ⟨dy, dd, bw⟩ := AO cp
 refine cV call59 (KH aq ah aw ax ay br az bu au dd) (uv (CI rfl) (Aa ?_))
 refine AY rfl (fun bl => ?_) (fun bl => ?_)
 ·have de := bt bw bl
  refine AP (ua (ua (Aa ?_)))
  refine kW kn ?_
  refine Ap (Aj ?_)
  refine BU results27 (AH rfl) (AH rfl) (sr) ?_
  obtain ⟨rfl, rfl⟩ := CP de
  exact rfl
 have df := bf bw bl
 refine An (AP (ua (ua (Aa ?_))))
 obtain ⟨lo, dg, bx⟩ := AO df
 refine jE ([]) [(9, .int .i64 lo)] ?_ ?_
 ·clear bx
  refine Am (kW kn ?_)
  refine Bg (fun ba e1 F1 L1 => ∃ (ar : Int) (hi : Int), FI Bx AG aj af ak ae al AN hit ba ar hi = some lo ∧ db = F1 ∧ L1 = [] ∧ e1.sub [(8, .func (.func 59) #[] #[.pointer (some ⟨N9, 0, none⟩), .pointer (some ⟨b2, 0, none⟩)]), (9, .int .i64 ar), (10, .int .i64 hi)]) FU (m0 kr ⟨0, 200, dg, rfl, rfl, z3⟩) ?_
  rintro ba e1 _ _ ⟨ar, hi, av, rfl, rfl, bm⟩
  refine AD _ bm ?_
  rcases ba with _ | ba
  ·rw [FI] at av; cases av
  rw [FI] at av
  refine Aq (AP (um (um ?_)))
  refine uv (A8 rfl rfl) (Aa ?_)
  refine cQ (fun bn => ?_) fun bn => ?_
  ·have dh := A2 av bn
   refine An (Am ?_)
   refine AP (um (um ?_))
   obtain ⟨di, dk⟩ := AV dh
   refine uv (A5 rfl rfl di) ?_
   obtain ⟨dm, El⟩ := AV dk
   refine uv (O0 rfl rfl dm) ?_
   refine ua (Cj (um (um ?_)))
   obtain ⟨dz, dn, bz⟩ := AO El
   refine cV call59 (KH aq ah aw ax ay br az bu au dn) (Aa ?_)
   refine AY rfl (fun bo => ?_) (fun bo => ?_)
   ·have dp := bt bz bo
    refine Ak (um (ua (Aa (Az (id := 2) ?_))))
    exact le kr ⟨ar, Int.tdiv (ar + hi) 2, dp, rfl, rfl, z3⟩
   have dq := bf bz bo
   refine Ak (um ?_)
   obtain ⟨dr, dt⟩ := AV dq
   refine uv (A5 rfl rfl dr) ?_
   refine ua (Aa (Az (id := 2) ?_))
   exact le kr ⟨(Int.tdiv (ar + hi) 2) + 1, hi, dt, rfl, rfl, z3⟩
  have du := A1 av bn
  refine AS (Ae (Ae ?_))
  refine AA ?_
  obtain rfl := AR du
  exact mi kr ⟨rfl, rfl, z1⟩
 refine AP (um (ua (ua (Aa (Ap ?_)))))
 refine BU results27 (AH rfl) (AH rfl) (sr) ?_
 obtain ⟨rfl, rfl⟩ := CP bx
 exact rfl
set_option maxHeartbeats 1000000 in
theorem IK (af : F G4 = some (.cells ((([.slice As walks.length Ar] : List Value) ++ (([.slice Au Ao.length Av] : List Value) ++ (([.int .i64 Af] : List Value) ++ (([.int .i64 start] : List Value) ++ (([.slice Ai Ac.length Ah] : List Value) ++ (AG.flatMap (cI .i64) ++ (([.slice Bu AN.length Bt] : List Value) ++ (hit.flatMap (cI .i64))))))))).toArray) 113 KC)) (_ar : AF 1 (CD 1 (iE .i64)) F As Ar walks) (aa : AF 1 (CD 1 (iE .i64)) F Au Av Ao) (ab : AF 3 (B4 (CD 1 (iE .i64)) (B4 (iE .i64) (iE .i64))) F Ai Ah Ac) (ad : AG.length = 25) (_au : AF 2 (B4 (iE .i64) (iE .i64)) F Bu Bt AN) (_h_hit : hit.length = 15) {r : Int} (hr : D1 walks Ao Af start Ac AG AN hit Bx Co = some r) :
    BG Tryz.prog 46 #[.pointer (some ⟨G4, 0, none⟩), .agg #[.int .i64 Bx, .int .i64 Co]] F (.int .i64 r) := by
 refine sp func46 ntmps46 fun K _ _ => ?_
 rw [D1] at hr
 refine AP ?_
 refine BK rfl rfl ?_; intro b1 dk
 refine ua (Cj (ua (Aa ?_)))
 obtain ⟨out, h2, r3⟩ := AO hr
 refine jF ([]) [(5, .int .i64 out)] ?_ fun dm cd => ?_
 ·clear r3
  refine AP (um ?_)
  refine uv (AU rfl) (uv (Ad Gc rfl) (uv (Ad H8 rfl) (uv (Al isAgg36 rfl (Has.frozen af) (Ed (Ay (A := ([.slice As walks.length Ar] : List Value)) (k := 1) (o := 0) rfl (Ck (B := ([.int .i64 Af] : List Value) ++ (([.int .i64 start] : List Value) ++ (([.slice Ai Ac.length Ah] : List Value) ++ (AG.flatMap (cI .i64) ++ (([.slice Bu AN.length Bt] : List Value) ++ (hit.flatMap (cI .i64))))))) rfl)))) (uv (A3 underlying36 rfl) ?_))))
  refine um (Aa ?_)
  refine Am ?_
  refine Bg (fun bp e1 F1 L1 => LA Ao bp fun tl k => ∃ (ae : Int), Ct start Ac AG Bx Co tl k ae = some out ∧ AW F F1 ∧ L1 = [(b1, ce #[.int .i64 Bx, .int .i64 Co] 59)] ∧ e1.sub [(0, .pointer (some ⟨G4, 0, none⟩)), (3, .pointer (some ⟨b1, 0, none⟩)), (5, .int .i64 ae), (13, .slice Au Ao.length Av), (14, .int .i64 (Ao.length : Int)), (15, .int .i64 k)]) _ (m0 kr ⟨_, _, rfl, BT.start _, -1, h2, AW.refl _, rfl, z6⟩) ?_
  rintro bp e1 F8 _ ⟨tl, k, bq, av, ae, r6, aj, rfl, cf⟩
  refine AD _ cf ?_
  replace aa := aa.mono (Ax (Ab _)) aj
  replace ab := ab.mono (At (Ax (Ab _)) (At (Ab _) (Ab _))) aj
  replace af := aj _ _ af
  refine AP (uv (A8 rfl rfl) ?_)
  refine Aa (Aq ?_)
  refine cQ (fun ak => ?_) fun ak => ?_
  ·obtain ⟨x, dn, rfl, aw, br, al⟩ := BT.succ av ak
   rw [Ct] at r6
   refine An (Aq ?_)
   refine Am ?_
   refine AP (um ?_)
   obtain ⟨dp, dq, dr, cg, ax, ay, bu, ⟨dt, du, rfl, cj⟩, cn, az⟩ := AF.at (Ax (Ab _)) aa ([(b1, ce #[.int .i64 Bx, .int .i64 Co] 59)]) br.1 aw
   refine uv (AI underlying36 sizeOf33 rfl ax rfl br) (uv (Al isAgg33 rfl ay (az 0 (by decide))) ?_)
   refine ua (ua ?_)
   refine dN ?_
   refine wm (wm ?_)
   refine wv (AU rfl) (wv (Ad Gc rfl) (wv (Ad Ov rfl) (wv (Al isAgg3 rfl (Has.frozen af) (Ed (Ay (A := ([.slice As walks.length Ar] : List Value)) (k := 1) (o := 2) rfl (Ay (A := ([.slice Au Ao.length Av] : List Value)) (k := 1) (o := 1) rfl (Ay (A := ([.int .i64 Af] : List Value)) (k := 1) (o := 0) rfl (Ck (B := ([.slice Ai Ac.length Ah] : List Value) ++ (AG.flatMap (cI .i64) ++ (([.slice Bu AN.length Bt] : List Value) ++ (hit.flatMap (cI .i64))))) rfl)))))) (wm (wv (AU rfl) (wv (Ad G9 rfl) ?_))))))
   obtain ⟨bw, cp⟩ := AV r6
   refine wv (BB underlying109 sizeOf107 rfl rfl bw) ?_
   obtain ⟨bx, cq⟩ := AV cp
   obtain ⟨x2, dv, ba, cr⟩ := BH cq
   have bb : (start * 5 + k : Int).toNat = (start : Int).toNat * 5 + (k : Int).toNat := by have := bw; have := bx; omega
   have bc := IJ (Bj .i64) ad bb ba (Ii (Ay (A := ([.slice As walks.length Ar] : List Value)) (k := 1) (o := 4) rfl (Ay (A := ([.slice Au Ao.length Av] : List Value)) (k := 1) (o := 3) rfl (Ay (A := ([.int .i64 Af] : List Value)) (k := 1) (o := 2) rfl (Ay (A := ([.int .i64 start] : List Value)) (k := 1) (o := 1) rfl (Ay (A := ([.slice Ai Ac.length Ah] : List Value)) (k := 1) (o := 0) rfl (Ck (B := ([.slice Bu AN.length Bt] : List Value) ++ (hit.flatMap (cI .i64))) (IG (Bj .i64) ad)))))))) (IS (Ay (A := ([.slice As walks.length Ar] : List Value)) (k := 1) (o := 4) rfl (Ay (A := ([.slice Au Ao.length Av] : List Value)) (k := 1) (o := 3) rfl (Ay (A := ([.int .i64 Af] : List Value)) (k := 1) (o := 2) rfl (Ay (A := ([.int .i64 start] : List Value)) (k := 1) (o := 1) rfl (Ay (A := ([.slice Ai Ac.length Ah] : List Value)) (k := 1) (o := 0) rfl (Ck (B := ([.slice Bu AN.length Bt] : List Value) ++ (hit.flatMap (cI .i64))) (IG (Bj .i64) ad))))))))
   refine wv (BB underlying107 sizeOf3 rfl rfl bx) (wv (Al isAgg3 rfl (Has.frozen af) ((bc).2.2 0 (by decide))) ?_)
   refine wa (Df ?_)
   obtain ⟨k2, bz, bg⟩ := AO cr
   refine jE ([(b1, ce #[.int .i64 Bx, .int .i64 Co] 59)]) [(0, .pointer (some ⟨G4, 0, none⟩)), (3, .pointer (some ⟨b1, 0, none⟩)), (5, .int .i64 ae), (8, .int .i64 x2), (13, .slice Au Ao.length Av), (14, .int .i64 (Ao.length : Int)), (15, .int .i64 k), (39, .bool k2)] ?_ ?_
   ·clear bg
    refine Ak (um ?_)
    refine uv (B6 rfl rfl) (um ?_)
    by_cases ah : x2 ≠ (-1)
    ·have ct := A2 bz ah
     refine nT ah (um (nT ah ?_))
     refine uv (Ad TG rfl) (nT ah (uv (Al isAgg3 rfl (Has.own 0 rfl) rfl) (nT ah ?_)))
     obtain ⟨ok, cu, cv⟩ := AO ct
     refine cV call10 (Cn cj cu) (uv (AQ (Bd rfl ah) rfl) (Aa ?_))
     obtain rfl := AR cv
     exact mi kr ⟨rfl, rfl, z8⟩
    have cw := A1 bz ah
    refine fF ah (fF ah (fF ah (fF ah ?_)))
    refine uv (AL (A4 rfl ah) rfl) (Aa ?_)
    obtain rfl := AR cw
    exact mi kr ⟨rfl, rfl, z8⟩
   refine AY rfl (fun bh => ?_) (fun bh => ?_)
   ·have cx := bt bg bh
    refine C5 [(.still, 0), (.still, 1), (.still, 2), (.still, 3), (.still, 4), (.still, 5), (.still, 6), (.still, 7), (.still, 8), (.still, 9), (.still, 10), (.still, 11), (.still, 12), (.seq, 13), (.seq, 14), (.seq, 15)] (by kernel_rfl) (by kernel_rfl) (trivial) (by rfl) (by kernel_rfl) (mS [5] rfl (Be rfl) (mS [8] rfl (Be rfl) (mS [0] rfl (Be rfl) (mS [42] rfl (AU rfl) (mS [43] rfl (Ad Gc rfl) (mS [44] rfl (Ad Fj rfl) (mL [45] ([]) rfl sm (fun H F' L' ao aq => Al isAgg37 rfl ((Has.frozen af).ext ao aq) (Ed (Ay (A := ([.slice As walks.length Ar] : List Value)) (k := 1) (o := 3) rfl (Ay (A := ([.slice Au Ao.length Av] : List Value)) (k := 1) (o := 2) rfl (Ay (A := ([.int .i64 Af] : List Value)) (k := 1) (o := 1) rfl (Ay (A := ([.int .i64 start] : List Value)) (k := 1) (o := 0) rfl (Ck (B := AG.flatMap (cI .i64) ++ (([.slice Bu AN.length Bt] : List Value) ++ (hit.flatMap (cI .i64)))) rfl))))))) ?_)))))))
    refine mS [3] rfl (Ad Nc rfl) (mL [47] ([(b1, ce #[.int .i64 Bx, .int .i64 Co] 59)]) rfl (s0 sr) (fun H F' L' ao aq => Al isAgg3 rfl ((Has.own 0 rfl).ext ao aq) rfl) ?_)
    obtain ⟨x3, ca, bj, cy⟩ := BH cx
    obtain ⟨dw, dx, dy, cz, bk, bl, cb, ⟨_, _, rfl, ⟨dz, e9, rfl, eg⟩, ⟨_, _, rfl, rfl, rfl⟩⟩, da, bm⟩ := AF.at (At (Ax (Ab _)) (At (Ab _) (Ab _))) ab ([]) ca.1 bj
    refine mS [46, 48] rfl (AI underlying37 sizeOf48 rfl bk rfl ca) (mS [49] rfl (Ad Oi rfl) (mL [50] ([]) rfl sm (fun H F' L' ao aq => Al isAgg3 rfl (bl.ext ao aq) (bm 1 (by decide))) ?_))
    obtain ⟨db, dd⟩ := AV cy
    refine mS (v := .int .i64 (x2 + x3.2.1)) [41, 51] rfl (A5 rfl rfl db) ?_
    refine ⟨_, [(40, .int .i64 ae), (52, .int .i64 (x2 + x3.2.1))], rfl, rfl, z2, by kernel_rfl, ?_⟩; intro H
    refine bA (cs := #[.int .i64 ae, .int .i64 (x2 + x3.2.1)]) BX [.int .i64 ae, .int .i64 (x2 + x3.2.1)] ?_; intro cc bn
    refine Aa ⟨_, rfl, AW.refl _, [7, 5, 4, 3, 2], by kernel_rfl, .inl (.inr (fun d h => by cases h; rfl)), (fc sm (fc sm (fc sm (fc sm (fc sm nm))))), ?_⟩
    refine ⟨_, [(53, .slice (some ⟨cc, 0, none⟩) 2 2)], rfl, rfl, z1, by kernel_rfl, ?_⟩; intro H
    refine BP 0 rfl bn ?_; intro de ai bo
    refine AK rfl ?_
    replace aa := aa.mono (Ax (Ab _)) ai
    have df : AF 1 (iE .i64) de (some ⟨cc, 0, none⟩) 2 [ae, x2 + x3.2.1] := AF.CV (Ab _) (vss := [[.int .i64 ae], [.int .i64 (x2 + x3.2.1)]]) (xs := [ae, x2 + x3.2.1]) bo (.cons rfl (.cons rfl .nil)) rfl (by simp [maxLen])
    obtain ⟨n, dg, dh⟩ := AO dd
    refine cV call84 (IE df dg) ?_
    refine Aa ⟨_, rfl, ai, [7, 5, 4, 3, 2], by kernel_rfl, .inl (.inr (fun d h => by cases h; rfl)), (fc sm (fc sm (fc sm (fc sm (fc sm nm))))), ?_⟩
    refine ⟨_, [(54, .int .i64 n)], rfl, rfl, z1, by kernel_rfl, ?_⟩; intro H
    refine ua ?_
    refine Aa ⟨_, rfl, AW.refl _, [], by kernel_rfl, .inl (.inl rfl), nm, ?_⟩
    refine Ef ?_
    refine Az (id := 1) (Ak ?_)
    refine uv (A5 rfl rfl (BT.El av ak (AF.lt aa))) ?_
    refine um (Aa ?_)
    subst bq; exact le kr ⟨_, _, rfl, al, n, dh, (aj.trans ai), rfl, z6⟩
   have di := bf bg bh
   refine An (Az (id := 1) (Ak ?_))
   refine uv (A5 rfl rfl (BT.El av ak (AF.lt aa))) ?_
   refine um (Aa ?_)
   subst bq; exact le kr ⟨_, _, rfl, al, ae, di, aj, rfl, z6⟩
  obtain rfl := BT.zero av ak
  rw [Ct] at r6
  refine AS (Ae (Ae ?_))
  refine AA ?_
  obtain rfl := AR r6
  exact mi kn ⟨aj, rfl, z1⟩
 refine AP (um (ua (Aa (Ap ?_))))
 refine C9 results46 ?_
 obtain rfl := AR r3
 exact rfl
set_option maxHeartbeats 1000000 in
theorem Gp {s_ : List (Int × Int)} {f : (Int × Int) → Option Bool} (ab : AF 2 (B4 (iE .i64) (iE .i64)) F CG Cq s_) (al : KM Tryz.prog F PW P9 PZ (Y3 (B4 (iE .i64) (iE .i64))) Value.bool f) {r : Int} (hr : Dk s_ f = some r) :
    BG Tryz.prog 90 #[.slice CG s_.length Cq, .func (.func PW) P9 PZ] F (.int .i64 r) := by
 refine sp func90 ntmps90 fun K _ _ => ?_
 rw [Dk] at hr
 refine AP (ua (Aa ?_))
 refine AX (fun e1 F1 L1 => C3 = some r ∧ F = F1 ∧ L1 = [] ∧ e1.sub []) ?_ ?_
 ·refine AP (um ?_)
  refine uv (A3 underlying54 rfl) ?_
  refine um (Aa ?_)
  refine Am ?_
  refine Bg (fun ao e1 F1 L1 => LA s_ ao fun tl k => BI f tl k = some r ∧ F = F1 ∧ L1 = [] ∧ e1.sub [(0, .slice CG s_.length Cq), (1, .func (.func PW) P9 PZ), (7, .int .i64 (s_.length : Int)), (8, .int .i64 k)]) _ (m0 kr ⟨_, _, rfl, BT.start _, hr, rfl, rfl, z4⟩) ?_
  rintro ao e1 _ _ ⟨tl, k, au, ad, r3, rfl, rfl, av⟩
  refine AD _ av (AP (uv (A8 rfl rfl) ?_))
  refine Aa (Aq ?_)
  refine cQ (fun c6 => ?_) fun c6 => ?_
  ·obtain ⟨x, bc, rfl, aw, g9, ax⟩ := BT.succ ad c6
   rw [BI] at r3
   refine An (Aq ?_)
   refine Am ?_
   refine AP (um (ua (Cj (um (um (um ?_))))))
   obtain ⟨HI, bg, bh, ay, ae, af, aa, ⟨_, _, rfl, rfl, rfl⟩, ah, ai⟩ := AF.at (At (Ab _) (Ab _)) ab ([]) g9.1 aw
   refine uv (AI underlying54 sizeOf59 rfl ae rfl g9) (uv (AM isAgg59 sizeOf59 rfl af aa (Bh aa ah ai)) ?_)
   obtain ⟨ok, az, aq⟩ := AO r3
   refine I1 rfl al.1 rfl rfl rfl (al.2 _ (AW.refl _) _ _ _ ⟨_, rfl, ⟨_, _, rfl, rfl, rfl⟩⟩ az) (Aa ?_)
   refine AY rfl (fun aj => ?_) (fun aj => ?_)
   ·have ba := bt aq aj
    refine AP (um (ua (Aa (Ap (AE (Aj (Aj (AE (Aj ?_)))))))))
    refine C9 results90 ?_
    obtain rfl := AR ba
    exact rfl
   have bb := bf aq aj
   refine An (Az (id := 1) (Ak ?_))
   refine uv (A5 rfl rfl (BT.El ad c6 (AF.lt ab))) ?_
   refine um (Aa ?_)
   subst au; exact le kr ⟨_, _, rfl, ax, bb, rfl, rfl, z4⟩
  obtain rfl := BT.zero ad c6
  rw [BI] at r3
  refine AS (Ae (Ae ?_))
  refine AA ?_
  exact mi kr ⟨r3, rfl, rfl, (sn _)⟩
 rintro e1 _ _ ⟨ar, rfl, rfl, ak⟩
 refine AD _ ak ?_
 rw [C3] at ar
 refine AP (ua (Aa (Ap ?_)))
 refine C9 results90 ?_
 obtain rfl := AR ar
 exact rfl
theorem KT {aa ab : Int} (ad : F X7 = some (.cells #[.int .i64 aa, .int .i64 ab] 59 Yd)) {r : Bool} (hr : Fx Bx Co aa ab = some r) :
    BG Tryz.prog 91 #[.agg #[.int .i64 Bx, .int .i64 Co], .pointer (some ⟨X7, 0, none⟩)] F (.bool r) := by
 refine sp func91 ntmps91 fun K _ _ => ?_
 rw [Fx] at hr
 refine AP ?_
 refine BK rfl rfl ?_; intro b1 ae
 refine ua (Cj ?_)
 refine uv (AM isAgg59 sizeOf59 rfl (Has.own 0 rfl) (CE rfl) rfl) (uv (AM isAgg59 sizeOf59 rfl (Has.frozen ad) (CE rfl) rfl) (uv (OG (UL _ _ _ _) (Vw _ _ _ _) rfl rfl) ?_))
 refine ua (Aa ?_)
 refine kW kn (Ap (C9 results91 ?_))
 obtain rfl := AR hr
 exact rfl
theorem LW (ah : F G4 = some (.cells ((([.slice As walks.length Ar] : List Value) ++ (([.slice Au Ao.length Av] : List Value) ++ (([.int .i64 Af] : List Value) ++ (([.int .i64 start] : List Value) ++ (([.slice Ai Ac.length Ah] : List Value) ++ (AG.flatMap (cI .i64) ++ (([.slice Bu AN.length Bt] : List Value) ++ (hit.flatMap (cI .i64))))))))).toArray) 113 KC)) (_ae : AF 1 (CD 1 (iE .i64)) F As Ar walks) (_af : AF 1 (CD 1 (iE .i64)) F Au Av Ao) (_ad : AF 3 (B4 (CD 1 (iE .i64)) (B4 (iE .i64) (iE .i64))) F Ai Ah Ac) (ab : AG.length = 25) (aa : AF 2 (B4 (iE .i64) (iE .i64)) F Bu Bt AN) (_h_hit : hit.length = 15) {r : Int} (hr : HS walks Ao Af start Ac AG AN hit Bx Co = some r) :
    BG Tryz.prog 61 #[.pointer (some ⟨G4, 0, none⟩), .agg #[.int .i64 Bx, .int .i64 Co]] F (.int .i64 r) := by
 refine sp func61 ntmps61 fun K _ _ => ?_
 rw [HS] at hr
 refine AP ?_
 refine BK rfl rfl ?_; intro b1 aj
 refine ua (Cj (um ?_))
 refine uv (AU rfl) (uv (Ad GA rfl) (uv (Al isAgg54 rfl (Has.frozen ah) (Ed (Ay (k := 1) (o := 29) rfl (Ay (k := 1) (o := 28) rfl (Ay (k := 1) (o := 27) rfl (Ay (k := 1) (o := 26) rfl (Ay (k := 1) (o := 25) rfl (Ay (k := 25) (o := 0) (IG (Bj .i64) ab) (Ck rfl))))))))) (uv (DO rfl rfl) ?_)))
 refine BP 0 rfl aj ?_; intro F2 ak al
 refine AK rfl ?_
 replace aa := aa.mono (At (Ab _) (Ab _)) ak
 have ao : KM Tryz.prog F2 91 #[] #[.pointer (some ⟨b1, 0, none⟩)] (Y3 (B4 (iE .i64) (iE .i64))) Value.bool (fun ai : (Int × Int) => Fx ai.1 ai.2 Bx Co) := ⟨call91, fun F2 h2 vs ai r ha hr => by obtain ⟨_, rfl, ⟨_, _, rfl, rfl, rfl⟩⟩ := ha; exact KT (h2 _ _ al) hr⟩
 obtain ⟨n, h6, r7⟩ := AO hr
 refine cV call90 (Gp aa ao h6) ?_
 refine ua (Aa (Ap ?_))
 refine C9 results61 ?_
 obtain rfl := AR r7
 exact rfl
set_option maxHeartbeats 1000000 in
theorem N7 (ad : AF 1 (CD 1 (iE .i64)) F As Ar walks) (ae : AF 1 (CD 1 (iE .i64)) F Au Av Ao) (aa : AF 3 (B4 (CD 1 (iE .i64)) (B4 (iE .i64) (iE .i64))) F Ai Ah Ac) {r : Int} (hr : JG walks Ao Af start Ac Bx Co = some (r, r2)) :
    BG Tryz.prog 28 #[.agg #[.slice As walks.length Ar, .slice Au Ao.length Av, .int .i64 Af, .int .i64 start, .slice Ai Ac.length Ah], .agg #[.int .i64 Bx, .int .i64 Co]] F (.tuple #[.int .i64 r, .int .i64 r2]) := by
 refine sp func28 ntmps28 fun K _ _ => ?_
 rw [JG] at hr
 refine AP ?_
 refine BK rfl rfl ?_; intro b1 cj
 refine BK rfl rfl ?_; intro b2 cn
 refine ua (ua (Cj ?_))
 refine uv (AM isAgg39 sizeOf39 rfl (Has.own 1 rfl) (CE rfl) rfl) ?_
 obtain ⟨d, n, h3, r4⟩ := CQ hr
 refine c0 call41 (D0 ad ae aa h3) ?_; rintro _ F5 _ cp cq ⟨v9, rfl, rfl, al⟩
 refine AK (ln rfl) ?_
 refine um (ox rfl rfl rfl (ox rfl rfl rfl (ua (ua (Aa (Aq ?_))))))
 refine Am ?_
 refine AP (um ?_)
 refine uv (B6 rfl rfl) ?_
 refine ua (Aa ?_)
 refine cQ (fun ao => ?_) fun ao => ?_
 ·have bh := A2 r4 ao
  refine AP (um (ua (ua (Aa ?_))))
  refine kW kn ?_
  refine Ap (AE (Aj ?_))
  refine BU results28 (AH rfl) (AH rfl) (sr) ?_
  obtain ⟨rfl, rfl⟩ := CP bh
  exact rfl
 have bj := A1 r4 ao
 refine AP (um ?_)
 refine uv (AM isAgg59 sizeOf59 rfl (Has.own 0 rfl) (CE rfl) rfl) ?_
 obtain ⟨AG, ai, af, aj, ab, ak, AN, hit, bk, bl⟩ := MT bj
 have av := al; rw [bk] at av; obtain ⟨bm, cr, bn, aq, ah, ⟨_, _, rfl, ⟨bo, bp, rfl, aw⟩, ⟨_, _, rfl, ⟨bq, br, rfl, ax⟩, ⟨_, _, rfl, rfl, ⟨_, _, rfl, rfl, ⟨_, _, rfl, ⟨bu, bw, rfl, ay⟩, ⟨_, _, rfl, ⟨rfl, az⟩, ⟨_, _, rfl, ⟨bx, bz, rfl, ba⟩, ⟨rfl, bb⟩⟩⟩⟩⟩⟩⟩⟩⟩ := av; subst aq
 have ah : F5 bm = some (.cells ((([.slice bo AG.length bp] : List Value) ++ (([.slice bq ai.length br] : List Value) ++ (([.int .i64 af] : List Value) ++ (([.int .i64 aj] : List Value) ++ (([.slice bu ab.length bw] : List Value) ++ (ak.flatMap (cI .i64) ++ (([.slice bx AN.length bz] : List Value) ++ (hit.flatMap (cI .i64))))))))).toArray) 113 bn) := ah
 obtain ⟨n2, ca, bc⟩ := AO bl
 refine cV call61 (LW ah aw ax ay az ba bb ca) (uv (A8 rfl rfl) ?_)
 refine ua (Aa ?_)
 refine cQ (fun ar => ?_) fun ar => ?_
 ·have cb := A2 bc ar
  refine AP (ua (ua (Aa ?_)))
  refine kW kn ?_
  refine Ap (AE (Aj ?_))
  refine BU results28 (AH rfl) (AH rfl) (sr) ?_
  obtain ⟨rfl, rfl⟩ := CP cb
  exact rfl
 have cc := A1 bc ar
 refine An (Az (id := 0) (AP (um ?_)))
 refine uv (AM isAgg59 sizeOf59 rfl (Has.own 0 rfl) (CE rfl) rfl) ?_
 obtain ⟨n3, cd, bg⟩ := AO cc
 refine cV call46 (IK ah aw ax ay az ba bb cd) ?_
 refine ua (Aa (Aq (AP (um ?_))))
 refine uv (DY rfl rfl) (Aa ?_)
 refine cQ (fun au => ?_) fun au => ?_
 ·have cf := A2 bg au
  refine AP (ua (ua (Aa ?_)))
  refine kW kn ?_
  refine Ap (Aj ?_)
  refine BU results28 (AH rfl) (AH rfl) (sr) ?_
  obtain ⟨rfl, rfl⟩ := CP cf
  exact rfl
 have cg := A1 bg au
 refine An (AP (um (ua (ua (Aa ?_)))))
 refine kW kn (Ap (BU results28 (AH rfl) (AH rfl) (sr) ?_))
 obtain ⟨rfl, rfl⟩ := CP cg
 exact rfl
set_option maxHeartbeats 1000000 in
theorem JW {ab : Option Addr} {ad : Nat} {aa : List Int} (al : F G4 = some (.cells ((([.slice As walks.length Ar] : List Value) ++ (([.slice Au Ao.length Av] : List Value) ++ (([.int .i64 Af] : List Value) ++ (([.int .i64 start] : List Value) ++ (([.slice Ai Ac.length Ah] : List Value) ++ (AG.flatMap (cI .i64) ++ (([.slice Bu AN.length Bt] : List Value) ++ (hit.flatMap (cI .i64))))))))).toArray) 113 KC)) (_h_walks : AF 1 (CD 1 (iE .i64)) F As Ar walks) (_h_hears : AF 1 (CD 1 (iE .i64)) F Au Av Ao) (_h_notices : AF 3 (B4 (CD 1 (iE .i64)) (B4 (iE .i64) (iE .i64))) F Ai Ah Ac) (ai : AG.length = 25) (ae : AF 2 (B4 (iE .i64) (iE .i64)) F Bu Bt AN) (_h_hit : hit.length = 15) (ah : AF 1 (iE .i64) F ab ad aa) {r : Int} (hr : HO walks Ao Af start Ac AG AN hit aa = some r) :
    BG Tryz.prog 62 #[.pointer (some ⟨G4, 0, none⟩), .slice ab aa.length ad] F (.int .i64 r) := by
 refine sp func62 ntmps62 fun K _ _ => ?_
 rw [HO] at hr
 refine AP (ua (Cj (ua (Aa ?_))))
 obtain ⟨Bs, h1, r2⟩ := AO hr
 refine jE ([]) [(5, .int .i64 Bs)] ?_ ?_
 ·clear r2
  refine AP (um ?_)
  refine uv (AU rfl) (uv (Ad GA rfl) (uv (Al isAgg54 rfl (Has.frozen al) (Ed (Ay (k := 1) (o := 29) rfl (Ay (k := 1) (o := 28) rfl (Ay (k := 1) (o := 27) rfl (Ay (k := 1) (o := 26) rfl (Ay (k := 1) (o := 25) rfl (Ay (k := 25) (o := 0) (IG (Bj .i64) ai) (Ck rfl))))))))) (uv (A3 underlying54 rfl) ?_)))
  refine um (Aa ?_)
  refine Am ?_
  refine Bg (fun ax e1 F1 L1 => LA AN ax fun tl k => ∃ (af : Int), EF aa tl k af = some Bs ∧ F = F1 ∧ L1 = [] ∧ e1.sub [(1, .slice ab aa.length ad), (5, .int .i64 af), (11, .slice Bu AN.length Bt), (12, .int .i64 (AN.length : Int)), (13, .int .i64 k)]) _ (m0 kr ⟨_, _, rfl, BT.start _, 0, h1, rfl, rfl, z5⟩) ?_
  rintro ax e1 _ _ ⟨tl, k, ay, ak, af, r5, rfl, rfl, bc⟩
  refine AD _ bc (AP (uv (A8 rfl rfl) ?_))
  refine Aa (Aq ?_)
  refine cQ (fun c8 => ?_) fun c8 => ?_
  ·obtain ⟨x, bo, rfl, ao, az, ba⟩ := BT.succ ak c8
   rw [EF] at r5
   refine An (Aq ?_)
   refine Am ?_
   refine AP (um ?_)
   obtain ⟨Tx, bp, bq, bg, aq, ar, aj, ⟨_, _, rfl, rfl, rfl⟩, au, av⟩ := AF.at (At (Ab _) (Ab _)) ae ([]) az.1 ao
   refine uv (AI underlying54 sizeOf59 rfl aq rfl az) (uv (AM isAgg59 sizeOf59 rfl ar aj (Bh aj au av)) ?_)
   refine Br rfl zeroValue59 ?_; intro br bh
   refine ua (By (i := 0) sizeOf59 rfl rfl rfl (by simp [Value.oneCell']) rfl (CE rfl) (AK rfl ?_))
   refine Cj (um ?_)
   refine uv (Ad Nc rfl) (uv (Al isAgg3 rfl (Has.own 0 rfl) rfl) ?_)
   obtain ⟨ok, bj, bb⟩ := AO r5
   refine cV call10 (Cn ah bj) (Aa ?_)
   refine AY rfl (fun aw => ?_) (fun aw => ?_)
   ·have bk := bt bb aw
    refine Ak (um (um ?_))
    obtain ⟨bl, bm⟩ := AV bk
    refine uv (Qg rfl rfl bl) (uv (SN rfl rfl) ?_)
    refine ua (Aa (Az (id := 1) (Ak ?_)))
    refine uv (A5 rfl rfl (BT.El ak c8 (AF.lt ae))) ?_
    refine um (Aa ?_)
    subst ay; exact le kn ⟨_, _, rfl, ba, LR af (shl 1 k), bm, rfl, rfl, z5⟩
   have bn := bf bb aw
   refine An (Az (id := 1) (Ak ?_))
   refine uv (A5 rfl rfl (BT.El ak c8 (AF.lt ae))) ?_
   refine um (Aa ?_)
   subst ay; exact le kn ⟨_, _, rfl, ba, af, bn, rfl, rfl, z5⟩
  obtain rfl := BT.zero ak c8
  rw [EF] at r5
  refine AS (Ae (Ae ?_))
  refine AA ?_
  obtain rfl := AR r5
  exact mi kr ⟨rfl, rfl, z1⟩
 refine AP (um (ua (Aa (Ap ?_))))
 refine C9 results62 ?_
 obtain rfl := AR r2
 exact rfl
set_option maxHeartbeats 1000000 in
theorem Sq (ca : AF 1 (CD 1 (iE .i64)) F As Ar walks) (cb : AF 1 (CD 1 (iE .i64)) F Au Av Ao) (bc : AF 3 (B4 (CD 1 (iE .i64)) (B4 (iE .i64) (iE .i64))) F Ai Ah Ac) {r : List Int} (hr : Nu walks Ao Af start Ac = some (r, r2, r3)) :
    SH.Spec Tryz.prog 29 #[.agg #[.slice As walks.length Ar, .slice Au Ao.length Av, .int .i64 Af, .int .i64 start, .slice Ai Ac.length Ah]] F [] fun F' L' v => ∃ (ra : Option Addr) (rn : Nat) (rc : Nat) (rL : LH), v = .tuple #[.slice ra rn rc, .int .i64 r2, .int .i64 r3] ∧ L' = rL ++ [] ∧ AT 0 3 1 (iE .i64) F' ra rn rc r rL := by
 refine sp func29 ntmps29 fun K _ _ => ?_
 rw [Nu] at hr
 refine AP ?_
 refine BK rfl rfl ?_; intro b1 pt
 refine ua (ua (ua (Cj ?_)))
 refine uv (AM isAgg39 sizeOf39 rfl (Has.own 0 rfl) (CE rfl) rfl) ?_
 obtain ⟨d, n, h2, r4⟩ := CQ hr
 refine c0 call41 (D0 ca cb bc h2) ?_; rintro _ F5 _ pv pw ⟨v9, rfl, rfl, il⟩
 refine AK (ln rfl) ?_
 refine um (ox rfl rfl rfl (ox rfl rfl rfl (ua (ua (Aa (Aq (AP (um ?_))))))))
 refine uv (B6 rfl rfl) (Aa ?_)
 refine cQ (fun im => ?_) fun im => ?_
 ·have ny := A2 r4 im
  refine AP (um (ua (ua (ua (Aa ?_)))))
  refine kW kn ?_
  refine Ap (Aj ?_)
  refine Ik results29 (AH rfl) (AH rfl) (AH rfl) (sr) ?_
  obtain ⟨rfl, rfl, rfl⟩ := Iz ny
  exact ⟨_, _, _, [], rfl, rfl, AT.nil _ _ _ _ _⟩
 have nz := A1 r4 im
 refine An (AP (ua (Cj (ua (Aa ?_)))))
 obtain ⟨out, Q6, o3, iq⟩ := CQ nz
 refine AX (fun e1 F1 L1 => ∃ (ir : Option Addr) (iu : Nat) (iv : Nat) (dd : LH), AW F5 F1 ∧ L1 = (dd ++ []) ∧ e1.sub [(7, .slice ir iu iv), (8, .int .i64 Q6)] ∧ AT K.w0.heap.size 3 1 (iE .i64) F1 ir iu iv out dd) ?_ ?_
 ·clear iq
  refine AP (uv (Ad Fj rfl) (uv (Al isAgg37 rfl (Has.own 0 rfl) rfl) (uv (A3 underlying37 rfl) ?_)))
  obtain ⟨o7, o8⟩ := AV o3
  refine uv (Qg rfl rfl o7) ?_
  refine um (Aa ?_)
  refine Am ?_
  obtain ⟨o9, oc⟩ := AV o8
  refine Bg (fun gv e1 F1 L1 => ∃ (k : Int), Es 0 (shl 1 (Ac.length : Int)) k gv ∧ ∃ (de : List Int) (al : Int) (dy : Value) (cw : Option Addr) (RD : Nat) (cx : Nat) (ao : LH), HN Ac d gv k de al = some (out, Q6) ∧ AW F5 F1 ∧ L1 = ((b1, ce #[.slice As walks.length Ar, .slice Au Ao.length Av, .int .i64 Af, .int .i64 start, .slice Ai Ac.length Ah] 39) :: (ao ++ [])) ∧ e1.sub [(1, .pointer (some ⟨b1, 0, none⟩)), (5, dy), (7, .slice cw RD cx), (8, .int .i64 al), (31, .int .i64 (shl 1 (Ac.length : Int))), (32, .int .i64 k)] ∧ MU 113 (B4 (CD 1 (CD 1 (iE .i64))) (B4 (CD 1 (CD 1 (iE .i64))) (B4 (iE .i64) (B4 (iE .i64) (B4 (CD 3 (B4 (CD 1 (iE .i64)) (B4 (iE .i64) (iE .i64)))) (B4 (Kf 25 (cI .i64)) (B4 (CD 2 (B4 (iE .i64) (iE .i64))) (Kf 15 (cI .i64))))))))) F1 dy d ∧ AT K.w0.heap.size 3 1 (iE .i64) F1 cw RD cx de ao) _ (m0 (kc (ke kr)) ⟨_, Es.start _ _, [], -1, v9, none, 0, 0, [], oc, AW.refl _, rfl, z6, il, AT.nil _ _ _ _ _⟩) ?_
  rintro gv e1 gw _ ⟨k, df, de, al, dy, cw, RD, cx, ao, gz, dz, rfl, iw, aq, ar⟩
  refine AD _ iw (AP (uv (A8 rfl rfl) ?_))
  refine Aa (Aq ?_)
  refine cQ (fun ia => ?_) fun ia => ?_
  ·obtain ⟨gv, rfl, iy⟩ := Es.succ df ia
   rw [HN] at gz
   refine An ?_
   obtain ⟨e9, cy, od, me⟩ := CQ gz
   refine AX (fun e1 F1 L1 => ∃ (ib : Value) (ic : Option Addr) (ie : Nat) (ig : Nat) (cc : LH), AW gw F1 ∧ L1 = ((b1, ce #[.slice As walks.length Ar, .slice Au Ao.length Av, .int .i64 Af, .int .i64 start, .slice Ai Ac.length Ah] 39) :: (cc ++ [])) ∧ e1.sub [(1, .pointer (some ⟨b1, 0, none⟩)), (5, ib), (7, .slice ic ie ig), (8, .int .i64 cy), (31, .int .i64 (shl 1 (Ac.length : Int))), (32, .int .i64 k)] ∧ MU 113 (B4 (CD 1 (CD 1 (iE .i64))) (B4 (CD 1 (CD 1 (iE .i64))) (B4 (iE .i64) (B4 (iE .i64) (B4 (CD 3 (B4 (CD 1 (iE .i64)) (B4 (iE .i64) (iE .i64)))) (B4 (Kf 25 (cI .i64)) (B4 (CD 2 (B4 (iE .i64) (iE .i64))) (Kf 15 (cI .i64))))))))) F1 ib d ∧ AT K.w0.heap.size 3 1 (iE .i64) F1 ic ie ig e9 cc) ?_ ?_
   ·clear me
    refine Am ?_
    refine AP (um (ua (Cj ?_)))
    refine uv (Ad Fj rfl) (uv (Al isAgg37 rfl (Has.own 0 rfl) rfl) (uv (A3 underlying37 rfl) ?_))
    obtain ⟨oe, og⟩ := AV od
    obtain ⟨l, oh, oi⟩ := CT og
    refine Ob (R := (iE .i64)) (z0 := 0) (zs := l) rfl BX (by decide) (Ab _) (fun _ => rfl) rfl oe oh (fun _ => .c .n) ?_; intro dx bn iz eg
    refine ua (Cj ?_)
    refine Br rfl zeroValue124 ?_; intro au oj
    refine Aa ?_
    obtain ⟨mg, mh, eh, oo, mj⟩ := EZ oi
    refine AX (fun e1 F1 L1 => ∃ (ba : LH) (ej : Option Addr) (eo : Nat) (er : Nat) (bo : LH) (et : Option Addr) (eu : Nat) (ew : Nat) (bp : LH), gw = F1 ∧ L1 = ((au, ce #[.slice ej eo er, .slice et eu ew] 124) :: ((b1, ce #[.slice As walks.length Ar, .slice Au Ao.length Av, .int .i64 Af, .int .i64 start, .slice Ai Ac.length Ah] 39) :: (ao ++ (ba ++ (bo ++ (bp ++ [])))))) ∧ e1.sub [(1, .pointer (some ⟨b1, 0, none⟩)), (5, dy), (7, .slice cw RD cx), (8, .int .i64 al), (10, .slice dx bn bn), (11, .pointer (some ⟨au, 0, none⟩)), (31, .int .i64 (shl 1 (Ac.length : Int))), (32, .int .i64 k)] ∧ AT K.w0.heap.size 3 1 (iE .i64) F1 dx bn bn mg ba ∧ AT K.w0.heap.size 3 1 (iE .i64) F1 ej eo er mh bo ∧ AT K.w0.heap.size 3 1 (iE .i64) F1 et eu ew eh bp) ?_ ?_
    ·clear mj
     refine AP (um ?_)
     refine uv ((A3 underlying33 rfl).i (AT.Hc eg)) ?_
     refine um (Aa ?_)
     refine Am ?_
     obtain ⟨ml, oq⟩ := AV oo
     refine Bg (fun ij e1 F1 L1 => ∃ (k2 : Int), Es 0 (l.length : Int) k2 ij ∧ ∃ (cd : List Int) (bq : List Int) (br : List Int) (bu : LH) (cf : Option Addr) (cg : Nat) (cj : Nat) (bg : LH) (cn : Option Addr) (cp : Nat) (cq : Nat) (bh : LH), GP k ij k2 cd bq br = some (mg, mh, eh) ∧ gw = F1 ∧ L1 = ((au, ce #[.slice cf cg cj, .slice cn cp cq] 124) :: ((b1, ce #[.slice As walks.length Ar, .slice Au Ao.length Av, .int .i64 Af, .int .i64 start, .slice Ai Ac.length Ah] 39) :: (ao ++ (bu ++ (bg ++ (bh ++ [])))))) ∧ e1.sub [(1, .pointer (some ⟨b1, 0, none⟩)), (5, dy), (7, .slice cw RD cx), (8, .int .i64 al), (9, .int .i64 k), (10, .slice dx bn bn), (11, .pointer (some ⟨au, 0, none⟩)), (31, .int .i64 (shl 1 (Ac.length : Int))), (32, .int .i64 k), (40, .int .i64 (l.length : Int)), (41, .int .i64 k2)] ∧ AT K.w0.heap.size 3 1 (iE .i64) F1 dx bn bn cd bu ∧ AT K.w0.heap.size 3 1 (iE .i64) F1 cf cg cj bq bg ∧ AT K.w0.heap.size 3 1 (iE .i64) F1 cn cp cq br bh) _ (m0 (kc (kc (kg (fS fP) (ka (ke (ke kr)))))) ⟨_, Es.start _ _, l, [], [], iz, none, 0, 0, [], none, 0, 0, [], oq, rfl, rfl, (sc rfl (sc rfl (sc rfl z8))), eg, AT.nil _ _ _ _ _, AT.nil _ _ _ _ _⟩) ?_
     rintro ij e1 _ _ ⟨k2, cr, cd, bq, br, bu, cf, cg, cj, bg, cn, cp, cq, bh, ik, rfl, rfl, j0, bw, dg, dh⟩
     refine AD _ j0 (AP (uv (A8 rfl rfl) ?_))
     refine Aa (Aq ?_)
     refine cQ (fun bx => ?_) fun bx => ?_
     ·obtain ⟨ij, rfl, cz⟩ := Es.succ cr bx
      rw [GP] at ik
      refine An (Aq ?_)
      refine Am ?_
      refine AP (um (ua (Cj (um (um (um (um ?_)))))))
      refine uv ((A3 underlying33 rfl).i (AT.Hc bw)) ?_
      obtain ⟨j3, j4⟩ := AV ik
      refine uv (FR rfl rfl j3) (um ?_)
      obtain ⟨j5, j6⟩ := AV j4
      refine uv (FR rfl rfl j5) ?_
      obtain ⟨j7, j8⟩ := AV j6
      refine uv (K2 rfl rfl j7) (uv (Xk rfl rfl) ?_)
      obtain ⟨x, di, ey, j9⟩ := BH j8
      obtain ⟨ot, ou, ow, mo, da, mq, ja, rfl, mr, mv⟩ := AT.at (Ab _) bw (L := (au, ce #[.slice cf cg cj, .slice cn cp cq] 124) :: ((b1, ce #[.slice As walks.length Ar, .slice Au Ao.length Av, .int .i64 Af, .int .i64 start, .slice Ai Ac.length Ah] 39) :: (ao ++ (bu ++ (bg ++ (bh ++ [])))))) (fC (fC (fS fP))) di.1 ey
      refine uv (AI underlying33 sizeOf3 rfl da rfl (AT.idx bw di)) ?_
      obtain ⟨fa, jb, jc⟩ := CT j9
      refine E5 (u := PG (shr k (((cd.length : Int) - 1) - k2)) 1) sizeOf3 (Ab _) rfl da rfl rfl (fun _ => .c (.c (.s .h))) bw jb di ?_; intro aw ax
      refine Aa (C5 [(.still, 0), (.still, 1), (.still, 2), (.still, 3), (.still, 4), (.still, 5), (.still, 6), (.still, 7), (.still, 8), (.still, 9), (.still, 10), (.seq, 11), (.seq, 12), (.still, 13), (.seq, 14)] (by kernel_rfl) (by kernel_rfl) (trivial) (by rfl) (by kernel_rfl) (mS [10] rfl (Be rfl) (mS [12] rfl (Be rfl) ?_)))
      obtain ⟨x2, ct, db, fb⟩ := BH jc
      obtain ⟨oy, oz, p0, mw, fe, ff, jd, rfl, mx, fg⟩ := AT.at (Ab _) ax (L := aw ++ []) fP ct.1 db
      refine mS [55, 56] rfl (AI underlying33 sizeOf3 rfl fe rfl (AT.idx ax ct)) (mL [57] (aw ++ []) rfl (s0 (s1 (s1 (s3 (s4 (s3 (s3 sr))))))) (fun H F' L' dk dm => Al isAgg3 rfl (ff.ext dk dm) (fg 0 (by decide))) (mS [10] rfl (Be rfl) (mS [12] rfl (Be rfl) ?_)))
      obtain ⟨p6, p7, p8, my, fh, fi, je, rfl, mz, fj⟩ := AT.at (Ab _) ax (L := aw ++ []) fP ct.1 db
      refine mS [59, 60] rfl (AI underlying33 sizeOf3 rfl fh rfl (AT.idx ax ct)) (mL [61] (aw ++ []) rfl (s0 (s1 (s1 (s3 (s4 (s3 (s3 sr))))))) (fun H F' L' dk dm => Al isAgg3 rfl (fi.ext dk dm) (fj 0 (by decide))) ?_)
      by_cases bj : x2 = 0
      ·have jf := A2 fb bj
       refine mS (v := .pointer (some ⟨au, 0, none⟩)) [11, 62] rfl (E7.eq (v' := .pointer (some ⟨au, 0, none⟩)) (BB underlying124 sizeOf33 rfl rfl (by have := bj; omega)) (by rw [bj]; rfl)) ?_
       refine mL [63] ([(au, ce #[.slice cf cg cj, .slice cn cp cq] 124)]) rfl (s0 (s2 (s1 (s3 (s3 (s3 (s3 sr))))))) (fun H F' L' dk dm => Al isAgg33 rfl ((Has.own 0 rfl).ext dk dm) rfl) (mS [12] rfl (Be rfl) ?_)
       refine ⟨_, [(65, .int .i64 k2)], rfl, rfl, z1, by kernel_rfl, ?_⟩; intro H
       refine bA (cs := #[.int .i64 k2]) BX [.int .i64 k2] ?_; intro jg na
       refine Aa ⟨_, rfl, AW.refl _, [9, 8, 7, 6, 5, 4, 3, 2, 1, 0], by kernel_rfl, .inl (.inr (fun d h => by cases h; rfl)), (fc (s0 (s1 (s2 (s1 (s3 (s3 (s3 (s3 sr)))))))) (fc sm (fc (s0 (s1 (s1 (s1 (s3 (s4 (s3 (s3 sr)))))))) (fc sm (fc sm (fc sm (fc (s0 (s1 (s1 (s1 (s3 (s4 (s3 (s3 sr)))))))) (fc sm (fc sm (fc sm nm)))))))))), ?_⟩
       refine ⟨_, [(64, .slice cf cg cj), (66, .slice (some ⟨jg, 0, none⟩) 1 1)], rfl, rfl, z2, by kernel_rfl, ?_⟩; intro H
       obtain ⟨l2, jh, ji, jj⟩ := FQ jf
       refine EA (xs := bq) (ys := [k2]) (zs := l2) rfl BX rfl rfl (Nat.le_refl _) (fun _ => .c (.c (.c (.s (.s .h))))) dg (Gk.box (vss := [[.int .i64 k2]]) (ys := [k2]) 0 rfl (Ab _) (.cons rfl .nil) rfl rfl) jh ji (by decide) ?_; intro fk fl fm fo fp
       refine kO (kd kr) ?_
       refine Aa ⟨_, rfl, AW.refl _, [3, 2, 1, 0], by kernel_rfl, .inl (.inr (fun d h => by cases h; rfl)), (fc (s0 (s1 (s1 (s3 (s4 (s3 (s3 sr))))))) (fc sm (fc sm (fc sm nm)))), ?_⟩
       refine mS (v := .pointer (some ⟨au, 0, none⟩)) [11, 58] rfl (E7.eq (v' := .pointer (some ⟨au, 0, none⟩)) (BB underlying124 sizeOf33 rfl rfl (by have := bj; omega)) (by rw [bj]; rfl)) ?_
       refine ⟨_, [(67, .slice fk fl fm), (68, .pointer (some ⟨au, 0, none⟩))], rfl, rfl, z2, by kernel_rfl, ?_⟩; intro H
       refine CS (i := 0) sizeOf33 rfl rfl rfl rfl (CE rfl) (AK rfl ?_)
       refine Aa ⟨undef, rfl, AW.refl _, [], by kernel_rfl, .inl (.inl rfl), nm, ?_⟩
       refine Ef ?_
       refine Az (id := 3) (Ak ?_)
       refine uv (A5 rfl rfl (Es.El cr bx ml)) ?_
       refine um (Aa ?_)
       exact le kr ⟨_, cz, fa, l2, br, aw, fk, fl, fm, fo, cn, cp, cq, bh, jj, rfl, rfl, (sc rfl (sc rfl (sc rfl z8))), ax, fp, dh⟩
      have jk := A1 fb bj
      obtain ⟨fq, jl⟩ := AV jk
      refine mS (v := .pointer (some ⟨au, 1, none⟩)) [11, 62] rfl (E7.eq (v' := .pointer (some ⟨au, 1, none⟩)) (BB underlying124 sizeOf33 rfl rfl (by have := fq; omega)) (by rw [fq]; rfl)) ?_
      refine mL [63] ([(au, ce #[.slice cf cg cj, .slice cn cp cq] 124)]) rfl (s0 (s2 (s1 (s3 (s3 (s3 (s3 sr))))))) (fun H F' L' dk dm => Al isAgg33 rfl ((Has.own 0 rfl).ext dk dm) rfl) (mS [12] rfl (Be rfl) ?_)
      refine ⟨_, [(65, .int .i64 k2)], rfl, rfl, z1, by kernel_rfl, ?_⟩; intro H
      refine bA (cs := #[.int .i64 k2]) BX [.int .i64 k2] ?_; intro jm nc
      refine Aa ⟨_, rfl, AW.refl _, [9, 8, 7, 6, 5, 4, 3, 2, 1, 0], by kernel_rfl, .inl (.inr (fun d h => by cases h; rfl)), (fc (s0 (s1 (s2 (s1 (s3 (s3 (s3 (s3 sr)))))))) (fc sm (fc (s0 (s1 (s1 (s1 (s3 (s4 (s3 (s3 sr)))))))) (fc sm (fc sm (fc sm (fc (s0 (s1 (s1 (s1 (s3 (s4 (s3 (s3 sr)))))))) (fc sm (fc sm (fc sm nm)))))))))), ?_⟩
      refine ⟨_, [(64, .slice cn cp cq), (66, .slice (some ⟨jm, 0, none⟩) 1 1)], rfl, rfl, z2, by kernel_rfl, ?_⟩; intro H
      obtain ⟨l3, jn, jo, jq⟩ := FQ jl
      refine EA (xs := br) (ys := [k2]) (zs := l3) rfl BX rfl rfl (Nat.le_refl _) (fun _ => .c (.c (.c (.s (.s (.s .h)))))) dh (Gk.box (vss := [[.int .i64 k2]]) (ys := [k2]) 0 rfl (Ab _) (.cons rfl .nil) rfl rfl) jn jo (by decide) ?_; intro fs ft fv fw fx
      refine kO (kd kr) ?_
      refine Aa ⟨_, rfl, AW.refl _, [3, 2, 1, 0], by kernel_rfl, .inl (.inr (fun d h => by cases h; rfl)), (fc (s0 (s1 (s1 (s3 (s4 (s3 (s3 sr))))))) (fc sm (fc sm (fc sm nm)))), ?_⟩
      obtain ⟨fy, jr⟩ := AV jq
      refine mS (v := .pointer (some ⟨au, 1, none⟩)) [11, 58] rfl (E7.eq (v' := .pointer (some ⟨au, 1, none⟩)) (BB underlying124 sizeOf33 rfl rfl (by have := fy; omega)) (by rw [fy]; rfl)) ?_
      refine ⟨_, [(67, .slice fs ft fv), (68, .pointer (some ⟨au, 1, none⟩))], rfl, rfl, z2, by kernel_rfl, ?_⟩; intro H
      refine CS (i := 0) sizeOf33 rfl rfl rfl rfl (CE rfl) (AK rfl ?_)
      refine Aa ⟨undef, rfl, AW.refl _, [], by kernel_rfl, .inl (.inl rfl), nm, ?_⟩
      refine Ef ?_
      refine Az (id := 3) (Ak ?_)
      refine uv (A5 rfl rfl (Es.El cr bx ml)) ?_
      refine um (Aa ?_)
      exact le kr ⟨_, cz, fa, bq, l3, aw, cf, cg, cj, bg, fs, ft, fv, fw, jr, rfl, rfl, (sc rfl (sc rfl (sc rfl z8))), ax, dg, fx⟩
     obtain rfl := Es.zero cr bx
     rw [GP] at ik
     refine AS (Ae (Ae ?_))
     refine AA ?_
     obtain ⟨rfl, rfl, rfl⟩ := Iz ik
     exact mi kr ⟨bu, cf, cg, cj, bg, cn, cp, cq, bh, rfl, rfl, z8, bw, dg, dh⟩
    rintro e1 _ _ ⟨ba, ej, eo, er, bo, et, eu, ew, bp, rfl, rfl, ga, ay, gb, bk⟩
    refine AD _ ga ?_
    refine AP (um (um ?_))
    refine uv (E7.eq (v' := .pointer (some ⟨au, 0, none⟩)) (BB underlying124 sizeOf33 rfl rfl (by decide)) rfl) (uv (Al isAgg33 rfl (Has.own 0 rfl) rfl) ?_)
    obtain ⟨AG, dn, cu, dp, bz, dq, AN, hit, js, jt⟩ := MT mj
    have gg := aq; rw [js] at gg; obtain ⟨cv, p9, ju, gh, aa, ⟨_, _, rfl, ⟨jv, jw, rfl, ah⟩, ⟨_, _, rfl, ⟨jx, jz, rfl, ai⟩, ⟨_, _, rfl, rfl, ⟨_, _, rfl, rfl, ⟨_, _, rfl, ⟨kb, kh, rfl, aj⟩, ⟨_, _, rfl, ⟨rfl, bl⟩, ⟨_, _, rfl, ⟨kj, kl, rfl, ak⟩, ⟨rfl, bm⟩⟩⟩⟩⟩⟩⟩⟩⟩ := gg; subst gh
    have aa : gw cv = some (.cells ((([.slice jv AG.length jw] : List Value) ++ (([.slice jx dn.length jz] : List Value) ++ (([.int .i64 cu] : List Value) ++ (([.int .i64 dp] : List Value) ++ (([.slice kb bz.length kh] : List Value) ++ (dq.flatMap (cI .i64) ++ (([.slice kj AN.length kl] : List Value) ++ (hit.flatMap (cI .i64))))))))).toArray) 113 ju) := aa
    obtain ⟨n2, km, ko⟩ := AO jt
    refine GR (Lt := bo ++ []) (Lr := (au, ce #[.slice ej eo er, .slice et eu ew] 124) :: ((b1, ce #[.slice As walks.length Ar, .slice Au Ao.length Av, .int .i64 Af, .int .i64 start, .slice Ai Ac.length Ah] 39) :: (ao ++ (ba ++ (bp ++ []))))) rfl call62 rfl rfl rfl (pT ((fC (fC (fS (fS fP)))).trans (pA pR)) (lp (ln rfl))) (fun F2 h2 h3 => by rw [(AT.C4 gb).1]; exact JW (h2 _ _ aa) (ah.mono (Ax (Ab _)) h2) (ai.mono (Ax (Ab _)) h2) (aj.mono (At (Ax (Ab _)) (At (Ab _) (Ab _))) h2) bl (ak.mono (At (Ab _) (Ab _)) h2) bm (gb.row (Ab _) h2 (fun p hp => h3 p (List.mem_append_left _ hp))) km) ?_
    refine um ?_
    obtain ⟨y, kt, ku⟩ := AO ko
    refine c0 call44 (G3 aa ah ai aj bl ak bm kt) ?_; rintro _ pa _ ab nf ⟨ng, nh, ni, rfl, rfl, dr⟩
    replace aq := aq.mono (At (Ax (Ax (Ab _))) (At (Ax (Ax (Ab _))) (At (Ab _) (At (Ab _) (At (Ax (At (Ax (Ab _)) (At (Ab _) (Ab _)))) (At (Cz (n := 25) (sz := 1) (Bj .i64)) (At (Ax (At (Ab _) (Ab _))) (Cz (n := 15) (sz := 1) (Bj .i64))))))))) ab
    replace ah := ah.mono (Ax (Ab _)) ab
    replace ai := ai.mono (Ax (Ab _)) ab
    replace aj := aj.mono (At (Ax (Ab _)) (At (Ab _) (Ab _))) ab
    replace ak := ak.mono (At (Ab _) (Ab _)) ab
    replace ar := ar.mono (Ab _) ab
    replace ay := ay.mono (Ab _) ab
    replace bk := bk.mono (Ab _) ab
    replace aa := ab _ _ aa
    refine AK (ln rfl) ?_
    obtain ⟨l4, n3, ok, kv, kz⟩ := EZ ku
    refine c0 call42 (Ea aa ah ai aj bl ak bm dr kv) ?_; rintro _ pb _ ad nj ⟨pc, pd, pf, gk, rfl, rfl, nk⟩
    replace aq := aq.mono (At (Ax (Ax (Ab _))) (At (Ax (Ax (Ab _))) (At (Ab _) (At (Ab _) (At (Ax (At (Ax (Ab _)) (At (Ab _) (Ab _)))) (At (Cz (n := 25) (sz := 1) (Bj .i64)) (At (Ax (At (Ab _) (Ab _))) (Cz (n := 15) (sz := 1) (Bj .i64))))))))) ad
    replace ah := ah.mono (Ax (Ab _)) ad
    replace ai := ai.mono (Ax (Ab _)) ad
    replace aj := aj.mono (At (Ax (Ab _)) (At (Ab _) (Ab _))) ad
    replace ak := ak.mono (At (Ab _) (Ab _)) ad
    replace ar := ar.mono (Ab _) ad
    replace ay := ay.mono (Ab _) ad
    replace bk := bk.mono (Ab _) ad
    replace aa := ad _ _ aa
    refine AK (lp (ln rfl)) (kO (kf (fS fO) (kf (fS fO) kr)) ?_)
    refine um (ox rfl rfl rfl (ox rfl rfl rfl (ox rfl rfl rfl (ua (ua (ua (Cj (um (um ?_)))))))))
    refine uv (E7.eq (v' := .pointer (some ⟨au, 1, none⟩)) (BB underlying124 sizeOf33 rfl rfl (by decide)) rfl) (uv (Al isAgg33 rfl (Has.own 0 rfl) rfl) ?_)
    obtain ⟨n4, l0, la⟩ := AO kz
    refine GR (Lt := bp ++ []) (Lr := (au, ce #[.slice ej eo er, .slice et eu ew] 124) :: ((b1, ce #[.slice As walks.length Ar, .slice Au Ao.length Av, .int .i64 Af, .int .i64 start, .slice Ai Ac.length Ah] 39) :: (gk ++ (ao ++ (ba ++ (bo ++ [])))))) rfl call62 rfl rfl rfl (pT ((fC (fC (fS (fS (fS (fS fP)))))).trans (pA pR)) (lp (ln rfl))) (fun F2 h2 h3 => by rw [(AT.C4 bk).1]; exact JW (h2 _ _ aa) (ah.mono (Ax (Ab _)) h2) (ai.mono (Ax (Ab _)) h2) (aj.mono (At (Ax (Ab _)) (At (Ab _) (Ab _))) h2) bl (ak.mono (At (Ab _) (Ab _)) h2) bm (bk.row (Ab _) h2 (fun p hp => h3 p (List.mem_append_left _ hp))) l0) ?_
    refine um ?_
    obtain ⟨y2, ld, lg⟩ := AO la
    refine c0 call44 (G3 aa ah ai aj bl ak bm ld) ?_; rintro _ pg _ ae nn ⟨np, nq, nr, rfl, rfl, dt⟩
    replace aq := aq.mono (At (Ax (Ax (Ab _))) (At (Ax (Ax (Ab _))) (At (Ab _) (At (Ab _) (At (Ax (At (Ax (Ab _)) (At (Ab _) (Ab _)))) (At (Cz (n := 25) (sz := 1) (Bj .i64)) (At (Ax (At (Ab _) (Ab _))) (Cz (n := 15) (sz := 1) (Bj .i64))))))))) ae
    replace ah := ah.mono (Ax (Ab _)) ae
    replace ai := ai.mono (Ax (Ab _)) ae
    replace aj := aj.mono (At (Ax (Ab _)) (At (Ab _) (Ab _))) ae
    replace ak := ak.mono (At (Ab _) (Ab _)) ae
    replace ar := ar.mono (Ab _) ae
    replace ay := ay.mono (Ab _) ae
    replace aa := ae _ _ aa
    refine AK (ln rfl) ?_
    obtain ⟨l5, n5, ph, lh, lj⟩ := EZ lg
    refine c0 call42 (Ea aa ah ai aj bl ak bm dt lh) ?_; rintro _ pj _ az nt ⟨pk, pn, po, nu, rfl, rfl, nv⟩
    replace aq := aq.mono (At (Ax (Ax (Ab _))) (At (Ax (Ax (Ab _))) (At (Ab _) (At (Ab _) (At (Ax (At (Ax (Ab _)) (At (Ab _) (Ab _)))) (At (Cz (n := 25) (sz := 1) (Bj .i64)) (At (Ax (At (Ab _) (Ab _))) (Cz (n := 15) (sz := 1) (Bj .i64))))))))) az
    replace ar := ar.mono (Ab _) az
    replace ay := ay.mono (Ab _) az
    refine AK (lp (ln rfl)) (kO (kf (fS fO) (kf (fS fO) kr)) ?_)
    refine um (ox rfl rfl rfl (ox rfl rfl rfl (ox rfl rfl rfl (ua (ua (ua (Cj (um (um ?_)))))))))
    refine uv (Nt rfl rfl) ?_
    refine ua (Aa ?_)
    obtain ⟨k3, gl, du⟩ := AO lj
    refine jE (((b1, ce #[.slice As walks.length Ar, .slice Au Ao.length Av, .int .i64 Af, .int .i64 start, .slice Ai Ac.length Ah] 39) :: (ao ++ (ba ++ [])))) [(1, .pointer (some ⟨b1, 0, none⟩)), (5, .pointer (some ⟨cv, 0, none⟩)), (7, .slice cw RD cx), (8, .int .i64 al), (10, .slice dx bn bn), (19, .int .i64 (if n5 > n3 then n5 else n3)), (31, .int .i64 (shl 1 (Ac.length : Int))), (32, .int .i64 k), (109, .bool k3)] ?_ ?_
    ·clear du
     refine Ak (um (um ?_))
     rcases EL ok with bb | bb
     ·have gm := bt gl bb
      refine nB bb (um ?_)
      refine uv (AQ (KX rfl bb) rfl) (um ?_)
      rcases EL ph with af | af
      ·have gp := bt gm af
       refine nB af (um (nB af ?_))
       refine uv (DY rfl rfl) ?_
       refine nB af (um ?_)
       by_cases av : al = (-1)
       ·have lk := A2 gp av
        refine fT av (fT av (fT av (nB af ?_)))
        refine uv (AQ (Bd rfl av) rfl) (uv (AQ (KX rfl af) rfl) (Aa ?_))
        obtain rfl := AR lk
        exact mi (kd (kc (kx (kx (ka (ka kn)))))) ⟨rfl, rfl, (sc rfl z8)⟩
       have ll := A1 gp av
       refine nF av (um (nF av (um (nF av ?_))))
       refine uv (A8 rfl rfl) (nB af (uv (AL (A4 rfl av) rfl) (uv (AQ (KX rfl af) rfl) (Aa ?_))))
       obtain rfl := AR ll
       exact mi (kd (kc (kx (kx (ka (ka kn)))))) ⟨rfl, rfl, (sc rfl z8)⟩
      have lq := bf gm af
      refine fB af (fB af (fB af (fU (fU (fU (fB af ?_))))))
      refine uv (AL (KX rfl af) rfl) (Aa ?_)
      obtain rfl := AR lq
      exact mi (kd (kc (kx (kx (ka (ka kn)))))) ⟨rfl, rfl, (sc rfl z8)⟩
     have lr := bf gl bb
     refine fB bb (uv (AL (KX rfl bb) rfl) ?_)
     refine um (AB (b' := false) 101 rfl rfl rfl rfl (AB (b' := false) 101 rfl rfl rfl rfl (AB (b' := false) 101 rfl rfl rfl rfl (fU (fU (fU (AB (b' := false) 101 rfl rfl rfl rfl ?_)))))))
     refine uv (AL rfl rfl) (Aa ?_)
     obtain rfl := AR lr
     exact mi (kd (kc (kx (kx (ka (ka kn)))))) ⟨rfl, rfl, (sc rfl z8)⟩
    refine AY rfl (fun dv => ?_) (fun dv => ?_)
    ·have lu := bt du dv
     refine Ak (um (um (ua (ua (Aa (Az (id := 1) ?_))))))
     obtain ⟨rfl, rfl⟩ := CP lu
     exact mi (kc (kx kr)) ⟨.pointer (some ⟨cv, 0, none⟩), dx, bn, bn, ba, (((ab.trans ad).trans ae).trans az), rfl, z6, aq, ay⟩
    have lv := bf du dv
    refine An (Az (id := 1) ?_)
    obtain ⟨rfl, rfl⟩ := CP lv
    exact mi (kc (ka kn)) ⟨.pointer (some ⟨cv, 0, none⟩), cw, RD, cx, ao, (((ab.trans ad).trans ae).trans az), rfl, z6, aq, ar⟩
   rintro e1 pq _ ⟨ib, ic, ie, ig, cc, gq, rfl, gr, lx, ly⟩
   refine AD _ gr (Ak (uv (A5 rfl rfl (Es.El df ia o9)) ?_))
   refine um (Aa ?_)
   exact le kr ⟨_, iy, e9, cy, ib, ic, ie, ig, cc, me, (dz.trans gq), rfl, z6, lx, ly⟩
  obtain rfl := Es.zero df ia
  rw [HN] at gz
  refine AS (Ae (Ae ?_))
  refine AA ?_
  obtain ⟨rfl, rfl⟩ := CP gz
  exact mi (kd kr) ⟨cw, RD, cx, ao, dz, rfl, z2, ar⟩
 rintro e1 pr _ ⟨ir, iu, iv, dd, nw, rfl, gu, ma⟩
 refine AD _ gu ?_
 refine Aq (AP (um ?_))
 refine uv (DY rfl rfl) (Aa ?_)
 refine cQ (fun dw => ?_) fun dw => ?_
 ·have mb := A2 iq dw
  refine AP (ua (ua (ua (Aa ?_))))
  refine kW kn ?_
  refine Ap (Aj ?_)
  refine Ik results29 (AH rfl) (AH rfl) (AH rfl) (sr) ?_
  obtain ⟨rfl, rfl, rfl⟩ := Iz mb
  exact ⟨_, _, _, [], rfl, rfl, AT.nil _ _ _ _ _⟩
 have mc := A1 iq dw
 refine An (AP (um (um (ua (ua (ua (Aa (Ap ?_))))))))
 refine Ik results29 (AH rfl) (AH rfl) (AH rfl) (sr) ?_
 obtain ⟨rfl, rfl, rfl⟩ := Iz mc
 exact ⟨_, _, _, _, rfl, rfl, ma.any⟩
set_option maxHeartbeats 1000000 in
theorem Kr {s1 s2 : List Int} (aa : AF 1 (iE .i64) F Ud Uv s1) (ab : AF 1 (iE .i64) F Ue Uy s2) {r : Bool} (hr : GL s1 s2 = some r) :
    BG Tryz.prog 63 #[.slice Ud s1.length Uv, .slice Ue s2.length Uy] F (.bool r) := by
 refine sp func63 ntmps63 fun K _ _ => ?_
 rw [GL] at hr
 refine AP (ua (Aa (Aq (AP (um ?_)))))
 refine uv (A3 underlying33 rfl) (um (uv (A3 underlying33 rfl) (uv (B6 rfl rfl) (Aa ?_))))
 refine cQ (fun c1 => ?_) fun c1 => ?_
 ·have r2 := A2 hr c1
  refine AP (ua (Aa (Ap (Aj ?_))))
  refine C9 results63 ?_
  obtain rfl := AR r2
  exact rfl
 have r3 := A1 hr c1
 refine An ?_
 refine AX (fun e1 F1 L1 => FD = some r ∧ F = F1 ∧ L1 = [] ∧ e1.sub []) ?_ ?_
 ·refine AP (um ?_)
  refine uv (A3 underlying33 rfl) ?_
  refine um (Aa ?_)
  refine Am ?_
  refine Bg (fun av e1 F1 L1 => LA s1 av fun tl k => DU s2 tl k = some r ∧ F = F1 ∧ L1 = [] ∧ e1.sub [(0, .slice Ud s1.length Uv), (1, .slice Ue s2.length Uy), (12, .int .i64 (s1.length : Int)), (13, .int .i64 k)]) _ (m0 kr ⟨_, _, rfl, BT.start _, r3, rfl, rfl, z4⟩) ?_
  rintro av e1 _ _ ⟨tl, k, bc, ad, r6, rfl, rfl, bg⟩
  refine AD _ bg (AP (uv (A8 rfl rfl) ?_))
  refine Aa (Aq ?_)
  refine cQ (fun c9 => ?_) fun c9 => ?_
  ·obtain ⟨x, bo, rfl, ae, aw, af⟩ := BT.succ ad c9
   rw [DU] at r6
   refine An (Aq ?_)
   refine Am ?_
   refine AP (um (ua ?_))
   refine dN ?_
   refine wm (wm ?_)
   obtain ⟨bp, bq, br, bh, ah, ai, ax, rfl, bj, aj⟩ := AF.at (Ab _) aa ([]) aw.1 ae
   refine wv (AI underlying33 sizeOf3 rfl ah rfl aw) (wv (Al isAgg3 rfl ai (aj 0 (by decide))) ?_)
   refine wm (wm ?_)
   obtain ⟨x2, ay, ak, az⟩ := BH r6
   obtain ⟨bu, bw, bx, bk, al, ao, ba, rfl, bl, aq⟩ := AF.at (Ab _) ab ([]) ay.1 ak
   refine wv (AI underlying33 sizeOf3 rfl al rfl ay) (wv (Al isAgg3 rfl ao (aq 0 (by decide))) (wv (B6 rfl rfl) (Df ?_)))
   refine cQ (fun ar => ?_) fun ar => ?_
   ·have bm := A2 az ar
    refine AP (ua (Aa (Ap (AE (Aj (Aj (AE (Aj ?_))))))))
    refine C9 results63 ?_
    obtain rfl := AR bm
    exact rfl
   have bn := A1 az ar
   refine An (Az (id := 1) (Ak ?_))
   refine uv (A5 rfl rfl (BT.El ad c9 (AF.lt aa))) ?_
   refine um (Aa ?_)
   subst bc; exact le kr ⟨_, _, rfl, af, bn, rfl, rfl, z4⟩
  obtain rfl := BT.zero ad c9
  rw [DU] at r6
  refine AS (Ae (Ae ?_))
  refine AA ?_
  exact mi kr ⟨r6, rfl, rfl, (sn _)⟩
 rintro e1 _ _ ⟨bb, rfl, rfl, au⟩
 refine AD _ au ?_
 rw [FD] at bb
 refine AP (ua (Aa (Ap ?_)))
 refine C9 results63 ?_
 obtain rfl := AR bb
 exact rfl
theorem Mf {a b : List Int} (aa : AF 1 (iE .i64) F YD YA a) (ab : AF 1 (iE .i64) F Yy G4 b) {r : Bool} (hr : Ip a b = some r) :
    BG Tryz.prog 30 #[.slice YD a.length YA, .slice Yy b.length G4] F (.bool r) := by
 refine sp func30 ntmps30 fun K _ _ => ?_
 rw [Ip] at hr
 refine AP (ua (Cj (um (um ?_))))
 obtain ⟨ok, h1, r2⟩ := AO hr
 refine cV call63 (Kr aa ab h1) ?_
 refine ua (Aa (Ap ?_))
 refine C9 results30 ?_
 obtain rfl := AR r2
 exact rfl
set_option maxHeartbeats 1000000 in
theorem HT {r : Bool} (hr : Fi = some r) :
    BG Tryz.prog 7 #[] F (.bool r) := by
 refine sp func7 ntmps7 fun K _ _ => ?_
 rw [Fi] at hr
 refine AP (ua (Cj ?_))
 obtain ⟨l, l2, n, n2, l3, h1, r2⟩ := MY hr
 refine c0 call22 (DZ h1) ?_; rintro _ F3 _ od fp ⟨a7, jm, c8, dv, oe, jn, og, br, oh, ju, oi, bu, rfl, rfl, cg, cj, cn⟩
 replace cg := cg.new fun p hp => fp p (by simp [hp])
 replace cj := cj.new fun p hp => fp p (by simp [hp])
 replace cn := cn.new fun p hp => fp p (by simp [hp])
 refine AK (lp (lp (lp (ln rfl)))) ?_
 obtain ⟨l4, n3, n4, jv, jw⟩ := EZ r2
 refine Gb (Lb := []) (Lt := dv ++ (br ++ (bu ++ []))) (Lr := []) rfl call15 rfl rfl rfl (pT pR (ln (lp (lp (lp (ln rfl)))))) (fun F2 h2 h3 => by rw [(AT.C4 cg).1]; rw [(AT.C4 cj).1]; rw [(AT.C4 cn).1]; exact ML (cg.row (Ax (Ab _)) h2 (fun p hp => h3 p (List.mem_append_left _ hp))) (cj.row (Ax (Ab _)) h2 (fun p hp => h3 p (List.mem_append_right _ (List.mem_append_left _ hp)))) (cn.row (At (Ax (Ab _)) (At (Ab _) (Ab _))) h2 (fun p hp => h3 p (List.mem_append_right _ (List.mem_append_right _ (List.mem_append_left _ hp))))) jv) (fun _ _ _ _ hq => by obtain ⟨jx, jz, kb, bw, rfl, rfl, ai⟩ := hq; exact ⟨_, _, _, _, rfl, rfl, ai.flat (fun _ _ h => h)⟩) ?_; rintro _ oj _ kh fq fs ⟨jx, jz, kb, bw, rfl, rfl, ai⟩
 have ft := MR (Lb' := []) (by rfl) fq fs
 replace ai := ai.new fun p hp => ft p (by simp [hp])
 refine AK (lp (ln (lp (lp (lp (ln rfl)))))) ?_
 refine um (ox rfl rfl rfl (ox rfl rfl rfl (ox rfl rfl rfl (ua (ua (ua (Cj ?_)))))))
 obtain ⟨l5, l6, n5, n6, l7, kj, kl⟩ := MY jw
 refine c0 call22 (DZ kj) ?_; rintro _ oo _ fv dm ⟨oq, ot, ou, cp, ow, oy, oz, cq, p0, p6, p7, cr, rfl, rfl, ct, cu, cv⟩
 replace ai := ai.mono (At (Ab _) (Ab _)) fv
 replace ct := ct.new fun p hp => dm p (by simp [hp])
 replace cu := cu.new fun p hp => dm p (by simp [hp])
 replace cv := cv.new fun p hp => dm p (by simp [hp])
 refine AK (lp (lp (lp (ln rfl)))) (um ?_)
 obtain ⟨l8, n7, km, ko⟩ := CQ kl
 refine Gb (Lb := []) (Lt := cp ++ (cq ++ (cr ++ (bw ++ [])))) (Lr := dv ++ (br ++ (bu ++ []))) rfl call23 rfl rfl rfl (pT pR (ln (lp (lp (lp (lp (ln rfl))))))) (fun F2 h2 h3 => by rw [(AT.C4 ct).1]; rw [(AT.C4 cu).1]; rw [(AT.C4 cv).1]; rw [(AT.C4 ai).1]; exact OB (ct.row (Ax (Ab _)) h2 (fun p hp => h3 p (List.mem_append_left _ hp))) (cu.row (Ax (Ab _)) h2 (fun p hp => h3 p (List.mem_append_right _ (List.mem_append_left _ hp)))) (cv.row (At (Ax (Ab _)) (At (Ab _) (Ab _))) h2 (fun p hp => h3 p (List.mem_append_right _ (List.mem_append_right _ (List.mem_append_left _ hp))))) (ai.row (At (Ab _) (Ab _)) h2 (fun p hp => h3 p (List.mem_append_right _ (List.mem_append_right _ (List.mem_append_right _ (List.mem_append_left _ hp)))))) km) (fun _ _ _ _ hq => by obtain ⟨kt, ku, kv, cw, rfl, rfl, ae⟩ := hq; exact ⟨_, _, _, _, rfl, rfl, ae.flat (fun _ _ h => h)⟩) ?_; rintro _ p8 _ kz fw fx ⟨kt, ku, kv, cw, rfl, rfl, ae⟩
 have fy := MR (Lb' := []) (by rfl) fw fx
 replace ae := ae.new fun p hp => fy p (by simp [hp])
 refine AK (lp (ln (lp (lp (lp (lp (ln rfl))))))) ?_
 refine um (ox rfl rfl rfl (ox rfl rfl rfl (ua (ua (Cj ?_)))))
 obtain ⟨l9, p9, n8, n9, pa, l0, la⟩ := MY ko
 refine c0 call22 (DZ l0) ?_; rintro _ pb _ ga dn ⟨pc, pd, pf, dp, pg, ph, pj, dq, pk, pn, po, dr, rfl, rfl, cx, cy, cz⟩
 replace ae := ae.mono (At (Ab _) (Ab _)) ga
 replace cx := cx.new fun p hp => dn p (by simp [hp])
 replace cy := cy.new fun p hp => dn p (by simp [hp])
 replace cz := cz.new fun p hp => dn p (by simp [hp])
 refine AK (lp (lp (lp (ln rfl)))) ?_
 obtain ⟨ld, jm, lg, gb⟩ := CQ la
 refine GR (Lt := dp ++ (dq ++ (dr ++ []))) (Lr := cw ++ (cp ++ (cq ++ (cr ++ (bw ++ (dv ++ (br ++ (bu ++ [])))))))) rfl call24 rfl rfl rfl (pT pR (lp (lp (lp (ln rfl))))) (fun F2 h2 h3 => by rw [(AT.C4 cx).1]; rw [(AT.C4 cy).1]; rw [(AT.C4 cz).1]; exact QW (cx.row (Ax (Ab _)) h2 (fun p hp => h3 p (List.mem_append_left _ hp))) (cy.row (Ax (Ab _)) h2 (fun p hp => h3 p (List.mem_append_right _ (List.mem_append_left _ hp)))) (cz.row (At (Ax (Ab _)) (At (Ab _) (Ab _))) h2 (fun p hp => h3 p (List.mem_append_right _ (List.mem_append_right _ (List.mem_append_left _ hp))))) lg) ?_
 refine um (ox rfl rfl rfl (ox rfl rfl rfl (ua (ua (Cj ?_)))))
 obtain ⟨pq, pr, pt, pv, pw, gg, gh⟩ := MY gb
 refine c0 call22 (DZ gg) ?_; rintro _ lh _ dw bx ⟨lj, lk, ll, da, lq, lr, lu, db, lv, lx, ly, dd, rfl, rfl, ay, az, ba⟩
 replace ae := ae.mono (At (Ab _) (Ab _)) dw
 replace ay := ay.new fun p hp => bx p (by simp [hp])
 replace az := az.new fun p hp => bx p (by simp [hp])
 replace ba := ba.new fun p hp => bx p (by simp [hp])
 refine AK (lp (lp (lp (ln rfl)))) ?_
 obtain ⟨px, ma, gk, gl⟩ := CQ gh
 refine Gb (Lb := []) (Lt := da ++ (db ++ (dd ++ []))) (Lr := dp ++ (dq ++ (dr ++ (cw ++ (cp ++ (cq ++ (cr ++ (bw ++ (dv ++ (br ++ (bu ++ []))))))))))) rfl call25 rfl rfl rfl (pT pR (ln (lp (lp (lp (ln rfl)))))) (fun F2 h2 h3 => by rw [(AT.C4 ay).1]; rw [(AT.C4 az).1]; rw [(AT.C4 ba).1]; exact OA (ay.row (Ax (Ab _)) h2 (fun p hp => h3 p (List.mem_append_left _ hp))) (az.row (Ax (Ab _)) h2 (fun p hp => h3 p (List.mem_append_right _ (List.mem_append_left _ hp)))) (ba.row (At (Ax (Ab _)) (At (Ab _) (Ab _))) h2 (fun p hp => h3 p (List.mem_append_right _ (List.mem_append_right _ (List.mem_append_left _ hp))))) gk) (fun _ _ _ _ hq => by obtain ⟨gm, gp, gq, de, rfl, rfl, ab⟩ := hq; exact ⟨_, _, _, _, rfl, rfl, ab.flat (fun _ _ h => h)⟩) ?_; rintro _ mb _ dx dy dz ⟨gm, gp, gq, de, rfl, rfl, ab⟩
 replace ae := ae.mono (At (Ab _) (Ab _)) dx
 have e9 := MR (Lb' := []) (by rfl) dy dz
 replace ab := ab.new fun p hp => e9 p (by simp [hp])
 refine AK (lp (ln (lp (lp (lp (ln rfl)))))) ?_
 refine um (ox rfl rfl rfl (ox rfl rfl rfl (ua (ua (Aa (Aq ?_))))))
 obtain ⟨k, eg, dt⟩ := AO gl
 refine jF ([]) [(71, .bool k)] ?_ fun mc jo => ?_
 ·clear dt
  refine Ak (um ?_)
  refine uv (B6 rfl rfl) (um ?_)
  by_cases aj : n4 ≠ 0
  ·have gr := A2 eg aj
   refine fT aj (fT aj ?_)
   refine uv (AQ (Bd rfl aj) rfl) ?_
   refine um (AB (b' := true) 42 rfl rfl rfl rfl (AB (b' := true) 42 rfl rfl rfl rfl ?_))
   refine uv (AQ rfl rfl) ?_
   refine um (AB (b' := true) 46 rfl rfl rfl rfl (AB (b' := true) 46 rfl rfl rfl rfl ?_))
   refine uv (AQ rfl rfl) ?_
   refine um (AB (b' := true) 50 rfl rfl rfl rfl (AB (b' := true) 50 rfl rfl rfl rfl ?_))
   refine uv (AQ rfl rfl) ?_
   refine um (AB (b' := true) 54 rfl rfl rfl rfl (AB (b' := true) 54 rfl rfl rfl rfl (AB (b' := true) 54 rfl rfl rfl rfl ?_)))
   refine uv (AQ rfl rfl) ?_
   refine um (AB (b' := true) 59 rfl rfl rfl rfl (AB (b' := true) 59 rfl rfl rfl rfl ?_))
   refine uv (AQ rfl rfl) ?_
   refine um (AB (b' := true) 63 rfl rfl rfl rfl (AB (b' := true) 63 rfl rfl rfl rfl (AB (b' := true) 63 rfl rfl rfl rfl (AB (b' := true) 63 rfl rfl rfl rfl (AB (b' := true) 63 rfl rfl rfl rfl (AB (b' := true) 63 rfl rfl rfl rfl (AB (b' := true) 63 rfl rfl rfl rfl ?_)))))))
   refine uv (AQ rfl rfl) (Aa ?_)
   obtain rfl := AR gr
   exact mi kn ⟨AW.refl _, rfl, z1⟩
  have eh := A1 eg aj
  refine nF aj (um (nF aj ?_))
  refine uv (B6 rfl rfl) (uv (AL (A4 rfl aj) rfl) (um ?_))
  by_cases ak : n7 ≠ 0
  ·have gu := A2 eh ak
   refine fT ak (fT ak ?_)
   refine uv (AQ (Bd rfl ak) rfl) ?_
   refine um (AB (b' := true) 46 rfl rfl rfl rfl (AB (b' := true) 46 rfl rfl rfl rfl ?_))
   refine uv (AQ rfl rfl) ?_
   refine um (AB (b' := true) 50 rfl rfl rfl rfl (AB (b' := true) 50 rfl rfl rfl rfl ?_))
   refine uv (AQ rfl rfl) ?_
   refine um (AB (b' := true) 54 rfl rfl rfl rfl (AB (b' := true) 54 rfl rfl rfl rfl (AB (b' := true) 54 rfl rfl rfl rfl ?_)))
   refine uv (AQ rfl rfl) ?_
   refine um (AB (b' := true) 59 rfl rfl rfl rfl (AB (b' := true) 59 rfl rfl rfl rfl ?_))
   refine uv (AQ rfl rfl) ?_
   refine um (AB (b' := true) 63 rfl rfl rfl rfl (AB (b' := true) 63 rfl rfl rfl rfl (AB (b' := true) 63 rfl rfl rfl rfl (AB (b' := true) 63 rfl rfl rfl rfl (AB (b' := true) 63 rfl rfl rfl rfl (AB (b' := true) 63 rfl rfl rfl rfl (AB (b' := true) 63 rfl rfl rfl rfl ?_)))))))
   refine uv (AQ rfl rfl) (Aa ?_)
   obtain rfl := AR gu
   exact mi kn ⟨AW.refl _, rfl, z1⟩
  have ej := A1 eh ak
  refine nF ak (um (nF ak ?_))
  refine uv (B6 rfl rfl) (uv (AL (A4 rfl ak) rfl) (um ?_))
  by_cases al : jm ≠ 0
  ·have gv := A2 ej al
   refine fT al (fT al ?_)
   refine uv (AQ (Bd rfl al) rfl) ?_
   refine um (AB (b' := true) 50 rfl rfl rfl rfl (AB (b' := true) 50 rfl rfl rfl rfl ?_))
   refine uv (AQ rfl rfl) ?_
   refine um (AB (b' := true) 54 rfl rfl rfl rfl (AB (b' := true) 54 rfl rfl rfl rfl (AB (b' := true) 54 rfl rfl rfl rfl ?_)))
   refine uv (AQ rfl rfl) ?_
   refine um (AB (b' := true) 59 rfl rfl rfl rfl (AB (b' := true) 59 rfl rfl rfl rfl ?_))
   refine uv (AQ rfl rfl) ?_
   refine um (AB (b' := true) 63 rfl rfl rfl rfl (AB (b' := true) 63 rfl rfl rfl rfl (AB (b' := true) 63 rfl rfl rfl rfl (AB (b' := true) 63 rfl rfl rfl rfl (AB (b' := true) 63 rfl rfl rfl rfl (AB (b' := true) 63 rfl rfl rfl rfl (AB (b' := true) 63 rfl rfl rfl rfl ?_)))))))
   refine uv (AQ rfl rfl) (Aa ?_)
   obtain rfl := AR gv
   exact mi kn ⟨AW.refl _, rfl, z1⟩
  have eo := A1 ej al
  refine nF al (um (nF al ?_))
  refine uv (B6 rfl rfl) (uv (AL (A4 rfl al) rfl) (um ?_))
  by_cases ao : ma ≠ 0
  ·have gw := A2 eo ao
   refine fT ao (fT ao ?_)
   refine uv (AQ (Bd rfl ao) rfl) ?_
   refine um (AB (b' := true) 54 rfl rfl rfl rfl (AB (b' := true) 54 rfl rfl rfl rfl (AB (b' := true) 54 rfl rfl rfl rfl ?_)))
   refine uv (AQ rfl rfl) ?_
   refine um (AB (b' := true) 59 rfl rfl rfl rfl (AB (b' := true) 59 rfl rfl rfl rfl ?_))
   refine uv (AQ rfl rfl) ?_
   refine um (AB (b' := true) 63 rfl rfl rfl rfl (AB (b' := true) 63 rfl rfl rfl rfl (AB (b' := true) 63 rfl rfl rfl rfl (AB (b' := true) 63 rfl rfl rfl rfl (AB (b' := true) 63 rfl rfl rfl rfl (AB (b' := true) 63 rfl rfl rfl rfl (AB (b' := true) 63 rfl rfl rfl rfl ?_)))))))
   refine uv (AQ rfl rfl) (Aa ?_)
   obtain rfl := AR gw
   exact mi kn ⟨AW.refl _, rfl, z1⟩
  have er := A1 eo ao
  refine nF ao (um (nF ao ?_))
  refine uv (B6 rfl rfl) (uv (AL (A4 rfl ao) rfl) (um ?_))
  by_cases af : n3 ≠ 11
  ·have gz := A2 er af
   refine fT af (fT af (fT af ?_))
   refine uv (AQ (Bd rfl af) rfl) ?_
   refine um (AB (b' := true) 59 rfl rfl rfl rfl (AB (b' := true) 59 rfl rfl rfl rfl ?_))
   refine uv (AQ rfl rfl) ?_
   refine um (AB (b' := true) 63 rfl rfl rfl rfl (AB (b' := true) 63 rfl rfl rfl rfl (AB (b' := true) 63 rfl rfl rfl rfl (AB (b' := true) 63 rfl rfl rfl rfl (AB (b' := true) 63 rfl rfl rfl rfl (AB (b' := true) 63 rfl rfl rfl rfl (AB (b' := true) 63 rfl rfl rfl rfl ?_)))))))
   refine uv (AQ rfl rfl) (Aa ?_)
   obtain rfl := AR gz
   exact mi kn ⟨AW.refl _, rfl, z1⟩
  have et := A1 er af
  refine nF af (um (nF af ?_))
  refine uv ((A3 underlying54 rfl).i (AT.Hc ae)) (nF af (uv (IF rfl rfl) (uv (AL (A4 rfl af) rfl) (um ?_))))
  by_cases aq : 0 < (l8.length : Int)
  ·have ia := A2 et aq
   refine fT aq (fT aq ?_)
   refine uv (AQ (Bd rfl aq) rfl) ?_
   refine um (AB (b' := true) 63 rfl rfl rfl rfl (AB (b' := true) 63 rfl rfl rfl rfl (AB (b' := true) 63 rfl rfl rfl rfl (AB (b' := true) 63 rfl rfl rfl rfl (AB (b' := true) 63 rfl rfl rfl rfl (AB (b' := true) 63 rfl rfl rfl rfl (AB (b' := true) 63 rfl rfl rfl rfl ?_)))))))
   refine uv (AQ rfl rfl) (Aa ?_)
   obtain rfl := AR ia
   exact mi kn ⟨AW.refl _, rfl, z1⟩
  have eu := A1 et aq
  refine nF aq (um (nF aq ?_))
  refine uv (B6 rfl rfl) (uv (AL (A4 rfl aq) rfl) (um ?_))
  by_cases aa : ld ≠ 4
  ·have ib := A2 eu aa
   refine fT aa (fT aa (fT aa (fT aa (fT aa (fT aa (fT aa ?_))))))
   refine uv (AQ (Bd rfl aa) rfl) (Aa ?_)
   obtain rfl := AR ib
   exact mi kn ⟨AW.refl _, rfl, z1⟩
  have ic := A1 eu aa
  refine nF aa (um (nF aa ?_))
  refine uv (BC (v := .agg #[.int .i64 0, .int .i64 0]) rfl (by intro w; kernel_rfl)) ?_
  refine nF aa ?_
  refine uv (BC (v := .agg #[.int .i64 0, .int .i64 2]) rfl (by intro w; kernel_rfl)) ?_
  refine nF aa ?_
  refine uv (BC (v := .agg #[.int .i64 1, .int .i64 1]) rfl (by intro w; kernel_rfl)) ?_
  refine nF aa ?_
  refine bA (cs := #[.int .i64 0, .int .i64 0, .int .i64 0, .int .i64 2, .int .i64 1, .int .i64 1]) Kx [.agg #[.int .i64 0, .int .i64 0], .agg #[.int .i64 0, .int .i64 2], .agg #[.int .i64 1, .int .i64 1]] ?_; intro ie ew
  refine nF aa ?_
  refine BP 0 rfl ew ?_; intro ig df ey
  refine AK rfl ?_
  replace ab := ab.mono (At (Ab _) (Ab _)) df
  have ij : AF 2 (B4 (iE .i64) (iE .i64)) ig (some ⟨ie, 0, none⟩) 3 [(0, 0), (0, 2), (1, 1)] := AF.CV (At (Ab _) (Ab _)) (vss := [[.int .i64 0, .int .i64 0], [.int .i64 0, .int .i64 2], [.int .i64 1, .int .i64 1]]) (xs := [(0, 0), (0, 2), (1, 1)]) ey (.cons ⟨_, _, rfl, rfl, rfl⟩ (.cons ⟨_, _, rfl, rfl, rfl⟩ (.cons ⟨_, _, rfl, rfl, rfl⟩ .nil))) rfl (by simp [maxLen])
  obtain ⟨ok, ik, il⟩ := AO ic
  refine GR (Lt := de ++ []) (Lr := da ++ (db ++ (dd ++ (dp ++ (dq ++ (dr ++ (cw ++ (cp ++ (cq ++ (cr ++ (bw ++ (dv ++ (br ++ (bu ++ [])))))))))))))) rfl call26 rfl rfl rfl (pT pR (lp (ln rfl))) (fun F2 h2 h3 => by rw [(AT.C4 ab).1]; exact LN (ab.row (At (Ab _) (Ab _)) h2 (fun p hp => h3 p (List.mem_append_left _ hp))) (ij.mono (At (Ab _) (Ab _)) h2) ik) ?_
  refine nF aa (uv (CI rfl) (uv (AL (A4 rfl aa) rfl) (Aa ?_)))
  obtain rfl := AR il
  exact mi kn ⟨df, rfl, z1⟩
 refine AY rfl (fun du => ?_) (fun du => ?_)
 ·have im := bt dt du
  refine AP (ua (Aa (Ap (Aj ?_))))
  refine C9 results7 ?_
  obtain rfl := AR im
  exact rfl
 have iq := bf dt du
 refine An (AP ?_)
 obtain ⟨py, pz, q0, qb, qc, ir, iu⟩ := MY iq
 refine c0 call22 (DZ ir) ?_; rintro _ me _ jq bz ⟨mg, mh, mj, bb, ml, mo, mq, bc, mr, mv, mw, bg, rfl, rfl, bh, bj, bk⟩
 replace bh := bh.new fun p hp => bz p (by simp [hp])
 replace bj := bj.new fun p hp => bz p (by simp [hp])
 replace bk := bk.new fun p hp => bz p (by simp [hp])
 refine AK (lp (lp (lp (ln rfl)))) ?_
 obtain ⟨jn, mx, iv, iw⟩ := CQ iu
 refine GR (Lt := bb ++ (bc ++ (bg ++ []))) (Lr := []) rfl call27 rfl rfl rfl (pT pR (lp (lp (lp (ln rfl))))) (fun F2 h2 h3 => by rw [(AT.C4 bh).1]; rw [(AT.C4 bj).1]; rw [(AT.C4 bk).1]; exact PE (bh.row (Ax (Ab _)) h2 (fun p hp => h3 p (List.mem_append_left _ hp))) (bj.row (Ax (Ab _)) h2 (fun p hp => h3 p (List.mem_append_right _ (List.mem_append_left _ hp)))) (bk.row (At (Ax (Ab _)) (At (Ab _) (Ab _))) h2 (fun p hp => h3 p (List.mem_append_right _ (List.mem_append_right _ (List.mem_append_left _ hp))))) iv) ?_
 refine um (ox rfl rfl rfl (ox rfl rfl rfl (ua (ua (Cj ?_)))))
 obtain ⟨qd, qe, qf, qg, qh, iy, iz⟩ := MY iw
 refine c0 call22 (DZ iy) ?_; rintro _ my _ jr ca ⟨mz, na, nc, cb, nf, ng, nh, cc, ni, nj, nk, cd, rfl, rfl, bl, bm, bn⟩
 replace bl := bl.new fun p hp => ca p (by simp [hp])
 replace bm := bm.new fun p hp => ca p (by simp [hp])
 replace bn := bn.new fun p hp => ca p (by simp [hp])
 refine AK (lp (lp (lp (ln rfl)))) ?_
 refine uv (BC (v := .agg #[.int .i64 0, .int .i64 2]) rfl (by intro w; kernel_rfl)) ?_
 obtain ⟨nn, np, j0, j3⟩ := CQ iz
 refine GR (Lt := cb ++ (cc ++ (cd ++ []))) (Lr := bb ++ (bc ++ (bg ++ []))) rfl call28 rfl rfl rfl (pT pR (lp (lp (lp (ln rfl))))) (fun F2 h2 h3 => by rw [(AT.C4 bl).1]; rw [(AT.C4 bm).1]; rw [(AT.C4 bn).1]; exact N7 (bl.row (Ax (Ab _)) h2 (fun p hp => h3 p (List.mem_append_left _ hp))) (bm.row (Ax (Ab _)) h2 (fun p hp => h3 p (List.mem_append_right _ (List.mem_append_left _ hp)))) (bn.row (At (Ax (Ab _)) (At (Ab _) (Ab _))) h2 (fun p hp => h3 p (List.mem_append_right _ (List.mem_append_right _ (List.mem_append_left _ hp))))) j0) ?_
 refine um (ox rfl rfl rfl (ox rfl rfl rfl (ua (ua (Cj ?_)))))
 obtain ⟨qi, qj, ju, qk, ql, j4, j5⟩ := MY j3
 refine c0 call22 (DZ j4) ?_; rintro _ nq _ js cf ⟨nr, nt, nu, dg, nv, nw, ny, dh, nz, o3, o7, di, rfl, rfl, bo, bp, bq⟩
 replace bo := bo.new fun p hp => cf p (by simp [hp])
 replace bp := bp.new fun p hp => cf p (by simp [hp])
 replace bq := bq.new fun p hp => cf p (by simp [hp])
 refine AK (lp (lp (lp (ln rfl)))) ?_
 obtain ⟨qn, o8, o9, j6, fa⟩ := EZ j5
 refine Gb (Lb := []) (Lt := dg ++ (dh ++ (di ++ []))) (Lr := cb ++ (cc ++ (cd ++ (bb ++ (bc ++ (bg ++ [])))))) rfl call29 rfl rfl rfl (pT pR (ln (lp (lp (lp (ln rfl)))))) (fun F2 h2 h3 => by rw [(AT.C4 bo).1]; rw [(AT.C4 bp).1]; rw [(AT.C4 bq).1]; exact Sq (bo.row (Ax (Ab _)) h2 (fun p hp => h3 p (List.mem_append_left _ hp))) (bp.row (Ax (Ab _)) h2 (fun p hp => h3 p (List.mem_append_right _ (List.mem_append_left _ hp)))) (bq.row (At (Ax (Ab _)) (At (Ab _) (Ab _))) h2 (fun p hp => h3 p (List.mem_append_right _ (List.mem_append_right _ (List.mem_append_left _ hp))))) j6) (fun _ _ _ _ hq => by obtain ⟨j7, j8, j9, dk, rfl, rfl, ad⟩ := hq; exact ⟨_, _, _, _, rfl, rfl, ad.flat (fun _ _ h => h)⟩) ?_; rintro _ oc _ jt fb fe ⟨j7, j8, j9, dk, rfl, rfl, ad⟩
 have ff := MR (Lb' := []) (by rfl) fb fe
 replace ad := ad.new fun p hp => ff p (by simp [hp])
 refine AK (lp (ln (lp (lp (lp (ln rfl)))))) ?_
 refine um (ox rfl rfl rfl (ox rfl rfl rfl (ox rfl rfl rfl (ua (ua (ua (Cj (um ?_))))))))
 refine uv (DY rfl rfl) (um ?_)
 by_cases ar : mx = 0
 ·have fg := A2 fa ar
  refine nT ar (um (nT ar ?_))
  refine uv (DY rfl rfl) (uv (AQ (Bd rfl ar) rfl) (um ?_))
  by_cases au : np = 0
  ·have fh := A2 fg au
   refine nT au (um (nT au ?_))
   refine uv (DY rfl rfl) (uv (AQ (Bd rfl au) rfl) (um ?_))
   by_cases av : o9 = 0
   ·have fi := A2 fh av
    refine nT av (um (nT av ?_))
    refine uv (DY rfl rfl) (uv (AQ (Bd rfl av) rfl) (um ?_))
    by_cases aw : jn = 6
    ·have fj := A2 fi aw
     refine nT aw (um (nT aw ?_))
     refine uv (DY rfl rfl) (uv (AQ (Bd rfl aw) rfl) (um ?_))
     by_cases ax : nn = 7
     ·have fk := A2 fj ax
      refine nT ax (um (nT ax ?_))
      refine uv (DY rfl rfl) (uv (AQ (Bd rfl ax) rfl) (um ?_))
      by_cases ah : o8 = 10
      ·have ja := A2 fk ah
       refine nT ah (um (nT ah ?_))
       refine bA (cs := #[.int .i64 0, .int .i64 1]) BX [.int .i64 0, .int .i64 1] ?_; intro jb fl
       refine nT ah ?_
       refine BP 0 rfl fl ?_; intro jc fm fo
       refine AK rfl ?_
       replace ad := ad.mono (Ab _) fm
       have jd : AF 1 (iE .i64) jc (some ⟨jb, 0, none⟩) 2 [0, 1] := AF.CV (Ab _) (vss := [[.int .i64 0], [.int .i64 1]]) (xs := [0, 1]) fo (.cons rfl (.cons rfl .nil)) rfl (by simp [maxLen])
       obtain ⟨qo, je, jf⟩ := AO ja
       refine GR (Lt := dk ++ []) (Lr := dg ++ (dh ++ (di ++ (cb ++ (cc ++ (cd ++ (bb ++ (bc ++ (bg ++ []))))))))) rfl call30 rfl rfl rfl (pT pR (lp (ln rfl))) (fun F2 h2 h3 => by rw [(AT.C4 ad).1]; exact Mf (ad.row (Ab _) h2 (fun p hp => h3 p (List.mem_append_left _ hp))) (jd.mono (Ab _) h2) je) ?_
       refine uv (AQ (Bd rfl ah) rfl) ?_
       refine ua (Aa ?_)
       refine kW kn (Ap (C9 results7 ?_))
       obtain rfl := AR jf
       exact rfl
      have jg := A1 fk ah
      refine fF ah (fF ah (fF ah ?_))
      refine uv (AL (A4 rfl ah) rfl) ?_
      refine ua (Aa ?_)
      refine kW kn (Ap (C9 results7 ?_))
      obtain rfl := AR jg
      exact rfl
     have jh := A1 fj ax
     refine fF ax (fF ax ?_)
     refine uv (AL (A4 rfl ax) rfl) ?_
     refine um (AB (b' := false) 111 rfl rfl rfl rfl (AB (b' := false) 111 rfl rfl rfl rfl (AB (b' := false) 111 rfl rfl rfl rfl ?_)))
     refine uv (AL rfl rfl) ?_
     refine ua (Aa ?_)
     refine kW kn (Ap (C9 results7 ?_))
     obtain rfl := AR jh
     exact rfl
    have ji := A1 fi aw
    refine fF aw (fF aw ?_)
    refine uv (AL (A4 rfl aw) rfl) ?_
    refine um (AB (b' := false) 107 rfl rfl rfl rfl (AB (b' := false) 107 rfl rfl rfl rfl ?_))
    refine uv (AL rfl rfl) ?_
    refine um (AB (b' := false) 111 rfl rfl rfl rfl (AB (b' := false) 111 rfl rfl rfl rfl (AB (b' := false) 111 rfl rfl rfl rfl ?_)))
    refine uv (AL rfl rfl) ?_
    refine ua (Aa ?_)
    refine kW kn (Ap (C9 results7 ?_))
    obtain rfl := AR ji
    exact rfl
   have jj := A1 fh av
   refine fF av (fF av ?_)
   refine uv (AL (A4 rfl av) rfl) ?_
   refine um (AB (b' := false) 103 rfl rfl rfl rfl (AB (b' := false) 103 rfl rfl rfl rfl ?_))
   refine uv (AL rfl rfl) ?_
   refine um (AB (b' := false) 107 rfl rfl rfl rfl (AB (b' := false) 107 rfl rfl rfl rfl ?_))
   refine uv (AL rfl rfl) ?_
   refine um (AB (b' := false) 111 rfl rfl rfl rfl (AB (b' := false) 111 rfl rfl rfl rfl (AB (b' := false) 111 rfl rfl rfl rfl ?_)))
   refine uv (AL rfl rfl) ?_
   refine ua (Aa ?_)
   refine kW kn (Ap (C9 results7 ?_))
   obtain rfl := AR jj
   exact rfl
  have jk := A1 fg au
  refine fF au (fF au ?_)
  refine uv (AL (A4 rfl au) rfl) ?_
  refine um (AB (b' := false) 99 rfl rfl rfl rfl (AB (b' := false) 99 rfl rfl rfl rfl ?_))
  refine uv (AL rfl rfl) ?_
  refine um (AB (b' := false) 103 rfl rfl rfl rfl (AB (b' := false) 103 rfl rfl rfl rfl ?_))
  refine uv (AL rfl rfl) ?_
  refine um (AB (b' := false) 107 rfl rfl rfl rfl (AB (b' := false) 107 rfl rfl rfl rfl ?_))
  refine uv (AL rfl rfl) ?_
  refine um (AB (b' := false) 111 rfl rfl rfl rfl (AB (b' := false) 111 rfl rfl rfl rfl (AB (b' := false) 111 rfl rfl rfl rfl ?_)))
  refine uv (AL rfl rfl) ?_
  refine ua (Aa ?_)
  refine kW kn (Ap (C9 results7 ?_))
  obtain rfl := AR jk
  exact rfl
 have jl := A1 fa ar
 refine fF ar (fF ar ?_)
 refine uv (AL (A4 rfl ar) rfl) ?_
 refine um (AB (b' := false) 95 rfl rfl rfl rfl (AB (b' := false) 95 rfl rfl rfl rfl ?_))
 refine uv (AL rfl rfl) ?_
 refine um (AB (b' := false) 99 rfl rfl rfl rfl (AB (b' := false) 99 rfl rfl rfl rfl ?_))
 refine uv (AL rfl rfl) ?_
 refine um (AB (b' := false) 103 rfl rfl rfl rfl (AB (b' := false) 103 rfl rfl rfl rfl ?_))
 refine uv (AL rfl rfl) ?_
 refine um (AB (b' := false) 107 rfl rfl rfl rfl (AB (b' := false) 107 rfl rfl rfl rfl ?_))
 refine uv (AL rfl rfl) ?_
 refine um (AB (b' := false) 111 rfl rfl rfl rfl (AB (b' := false) 111 rfl rfl rfl rfl (AB (b' := false) 111 rfl rfl rfl rfl ?_)))
 refine uv (AL rfl rfl) ?_
 refine ua (Aa ?_)
 refine kW kn (Ap (C9 results7 ?_))
 obtain rfl := AR jl
 exact rfl
theorem HD {lo hi : Int} {r : Bool} (hr : Gu n lo hi = some r) :
    BG Tryz.prog 34 #[.int .i64 n, .int .i64 lo, .int .i64 hi] F (.bool r) := by
 refine sp func34 ntmps34 fun K _ _ => ?_
 rw [Gu] at hr
 refine AP (ua (Cj (um (um ?_))))
 refine uv (Il rfl rfl) (um ?_)
 by_cases c1 : lo ≤ n
 ·have r2 := A2 hr c1
  refine nT c1 (um (nT c1 (um (nT c1 ?_))))
  refine uv (Lm rfl rfl) (uv (AQ (Bd rfl c1) rfl) ?_)
  refine ua (Aa (Ap ?_))
  refine C9 results34 ?_
  obtain rfl := AR r2
  exact rfl
 have r3 := A1 hr c1
 refine fF c1 (fF c1 (fF c1 ?_))
 refine uv (AL (A4 rfl c1) rfl) ?_
 refine ua (Aa (Ap ?_))
 refine C9 results34 ?_
 obtain rfl := AR r3
 exact rfl
set_option maxHeartbeats 1000000 in
theorem GK {s_ : List Int} {f : Int → Option Bool} (aa : AF 1 (iE .i64) F CG Cq s_) (aj : KM Tryz.prog F PW P9 PZ (iE .i64) Value.bool f) {r : Int} (hr : CN s_ f = some r) :
    BG Tryz.prog 106 #[.slice CG s_.length Cq, .func (.func PW) P9 PZ] F (.int .i64 r) := by
 refine sp func106 ntmps106 fun K _ _ => ?_
 rw [CN] at hr
 refine AP (ua (Aa ?_))
 refine AX (fun e1 F1 L1 => Dd = some r ∧ F = F1 ∧ L1 = [] ∧ e1.sub []) ?_ ?_
 ·refine AP (um ?_)
  refine uv (A3 underlying25 rfl) ?_
  refine um (Aa ?_)
  refine Am ?_
  refine Bg (fun ak e1 F1 L1 => LA s_ ak fun tl k => Bk f tl k = some r ∧ F = F1 ∧ L1 = [] ∧ e1.sub [(0, .slice CG s_.length Cq), (1, .func (.func PW) P9 PZ), (7, .int .i64 (s_.length : Int)), (8, .int .i64 k)]) _ (m0 kr ⟨_, _, rfl, BT.start _, hr, rfl, rfl, z4⟩) ?_
  rintro ak e1 _ _ ⟨tl, k, ar, ab, r3, rfl, rfl, au⟩
  refine AD _ au (AP (uv (A8 rfl rfl) ?_))
  refine Aa (Aq ?_)
  refine cQ (fun c6 => ?_) fun c6 => ?_
  ·obtain ⟨x, bc, rfl, av, g9, aw⟩ := BT.succ ab c6
   rw [Bk] at r3
   refine An (Aq ?_)
   refine Am ?_
   refine AP (um (ua (Cj (um (um (um ?_))))))
   obtain ⟨HI, bg, bh, ax, ad, ae, al, rfl, ay, af⟩ := AF.at (Ab _) aa ([]) g9.1 av
   refine uv (AI underlying25 sizeOf34 rfl ad rfl g9) (uv (Al isAgg34 rfl ae (af 0 (by decide))) ?_)
   obtain ⟨ok, az, ao⟩ := AO r3
   refine I1 rfl aj.1 rfl rfl rfl (aj.2 _ (AW.refl _) _ _ _ rfl az) (Aa ?_)
   refine AY rfl (fun ah => ?_) (fun ah => ?_)
   ·have ba := bt ao ah
    refine AP (um (ua (Aa (Ap (AE (Aj (Aj (AE (Aj ?_)))))))))
    refine C9 results106 ?_
    obtain rfl := AR ba
    exact rfl
   have bb := bf ao ah
   refine An (Az (id := 1) (Ak ?_))
   refine uv (A5 rfl rfl (BT.El ab c6 (AF.lt aa))) ?_
   refine um (Aa ?_)
   subst ar; exact le kr ⟨_, _, rfl, aw, bb, rfl, rfl, z4⟩
  obtain rfl := BT.zero ab c6
  rw [Bk] at r3
  refine AS (Ae (Ae ?_))
  refine AA ?_
  exact mi kr ⟨r3, rfl, rfl, (sn _)⟩
 rintro e1 _ _ ⟨aq, rfl, rfl, ai⟩
 refine AD _ ai ?_
 rw [Dd] at aq
 refine AP (ua (Aa (Ap ?_)))
 refine C9 results106 ?_
 obtain rfl := AR aq
 exact rfl
theorem Gj {s_ : List Int} {f : Int → Option Bool} (aa : AF 1 (iE .i64) F CG Cq s_) (ab : KM Tryz.prog F PW P9 PZ (iE .i64) Value.bool f) {r : Bool} (hr : Cm s_ f = some r) :
    BG Tryz.prog 92 #[.slice CG s_.length Cq, .func (.func PW) P9 PZ] F (.bool r) := by
 refine sp func92 ntmps92 fun K _ _ => ?_
 rw [Cm] at hr
 refine AP (ua (Cj (um (um ?_))))
 obtain ⟨n, h1, r2⟩ := AO hr
 refine cV call106 (GK aa ab h1) (uv (Il rfl rfl) ?_)
 refine ua (Aa (Ap ?_))
 refine C9 results92 ?_
 obtain rfl := AR r2
 exact rfl
theorem LU {x : Int} {aa : Nat} {ab : Nat × Nat} (ad : F aa = some (.cells #[.func (.func QE) Rb QY] 127 ab)) (ae : KM Tryz.prog F QE Rb QY (iE .i64) Value.bool so) {r : Bool} (hr : EC x so = some r) :
    BG Tryz.prog 93 #[.int .i64 x, .pointer (some ⟨aa, 0, none⟩)] F (.bool r) := by
 refine sp func93 ntmps93 fun K _ _ => ?_
 rw [EC] at hr
 refine AP (ua (Cj ?_))
 refine uv (Al isAgg127 rfl (Has.frozen ad) rfl) (um ?_)
 obtain ⟨ok, h1, r2⟩ := AO hr
 refine I1 rfl ae.1 rfl rfl rfl (ae.2 _ (AW.refl _) _ _ _ rfl h1) (uv (CI rfl) ?_)
 refine ua (Aa (Ap ?_))
 refine C9 results93 ?_
 obtain rfl := AR r2
 exact rfl
theorem Na {Ta : Option Addr} {SF : Nat} {l : List Int} (ab : AF 1 (iE .i64) F Ta SF l) (aa : KM Tryz.prog F QE Rb QY (iE .i64) Value.bool so) {r : Bool} (hr : Gg l so = some r) :
    BG Tryz.prog 64 #[.slice Ta l.length SF, .func (.func QE) Rb QY] F (.bool r) := by
 refine sp func64 ntmps64 fun K _ _ => ?_
 rw [Gg] at hr
 refine AP ?_
 refine BK rfl rfl ?_; intro b1 af
 refine ua (Cj (um ?_))
 refine uv (DO rfl rfl) ?_
 refine BP 0 rfl af ?_; intro F2 ad ah
 refine AK rfl ?_
 replace ab := ab.mono (Ab _) ad
 replace aa := aa.mono ad
 have ai : KM Tryz.prog F2 93 #[] #[.pointer (some ⟨b1, 0, none⟩)] (iE .i64) Value.bool (fun ae : Int => EC ae so) := ⟨call93, fun F2 h2 vs ae r ha hr => by obtain rfl := ha; exact LU (h2 _ _ ah) (aa.mono h2) hr⟩
 obtain ⟨ok, h6, r7⟩ := AO hr
 refine cV call92 (Gj ab ai h6) (uv (CI rfl) ?_)
 refine ua (Aa (Ap ?_))
 refine C9 results64 ?_
 obtain rfl := AR r7
 exact rfl
theorem OI {r : Bool} (hr : HM p = some r) :
    BG Tryz.prog 65 #[.int .i64 p] F (.bool r) := by
 refine sp func65 ntmps65 fun K _ _ => ?_
 rw [HM] at hr
 refine AP (ua (Cj (um ?_)))
 obtain ⟨ok, h1, r2⟩ := AO hr
 refine cV call34 (HD h1) ?_
 refine ua (Aa (Ap ?_))
 refine C9 results65 ?_
 obtain rfl := AR r2
 exact rfl
set_option maxHeartbeats 1000000 in
theorem Mo (aa : AF 1 (iE .i64) F Bb Bc plots) {r : Int} (hr : FG wide plots = some r) :
    BG Tryz.prog 66 #[.agg #[.int .i64 wide, .slice Bb plots.length Bc]] F (.int .i64 r) := by
 refine sp func66 ntmps66 fun K _ _ => ?_
 rw [FG] at hr
 refine AP ?_
 refine BK rfl rfl ?_; intro b1 ba
 refine ua (Cj (ua (Aa ?_)))
 obtain ⟨n, h2, r3⟩ := AO hr
 refine jE ([]) [(3, .int .i64 n)] ?_ ?_
 ·clear r3
  refine AP (uv (Ad Em rfl) (uv (Al isAgg25 rfl (Has.own 0 rfl) rfl) (uv (A3 underlying25 rfl) ?_)))
  refine um (Aa ?_)
  refine Am (kW kn ?_)
  refine Bg (fun ak e1 F1 L1 => LA plots ak fun tl k => ∃ (n2 : Int), CO tl n2 = some n ∧ F = F1 ∧ L1 = [] ∧ e1.sub [(3, .int .i64 n2), (7, .slice Bb plots.length Bc), (8, .int .i64 (plots.length : Int)), (9, .int .i64 k)]) _ (m0 kr ⟨_, _, rfl, BT.start _, 0, h2, rfl, rfl, z4⟩) ?_
  rintro ak e1 _ _ ⟨tl, k, al, ad, n2, r6, rfl, rfl, ar⟩
  refine AD _ ar (AP (uv (A8 rfl rfl) ?_))
  refine Aa (Aq ?_)
  refine cQ (fun c9 => ?_) fun c9 => ?_
  ·obtain ⟨x, bb, rfl, ae, ao, ab⟩ := BT.succ ad c9
   rw [CO] at r6
   refine An (Aq ?_)
   refine Am (AP ?_)
   obtain ⟨bc, bg, bh, au, af, ah, aq, rfl, av, ai⟩ := AF.at (Ab _) aa ([]) ao.1 ae
   refine uv (AI underlying25 sizeOf34 rfl af rfl ao) (uv (Al isAgg34 rfl ah (ai 0 (by decide))) ?_)
   refine ua (Cj (um ?_))
   refine uv (DY rfl rfl) (Aa ?_)
   refine cQ (fun aj => ?_) fun aj => ?_
   ·have aw := A2 r6 aj
    refine Ak (um ?_)
    obtain ⟨ax, ay⟩ := AV aw
    refine uv (A5 rfl rfl ax) ?_
    refine ua (Aa (Az (id := 1) (Ak ?_)))
    refine uv (A5 rfl rfl (BT.El ad c9 (AF.lt aa))) ?_
    refine um (Aa ?_)
    subst al; exact le kr ⟨_, _, rfl, ab, n2 + 1, ay, rfl, rfl, z4⟩
   have az := A1 r6 aj
   refine An (Az (id := 1) (Ak ?_))
   refine uv (A5 rfl rfl (BT.El ad c9 (AF.lt aa))) ?_
   refine um (Aa ?_)
   subst al; exact le kr ⟨_, _, rfl, ab, n2, az, rfl, rfl, z4⟩
  obtain rfl := BT.zero ad c9
  rw [CO] at r6
  refine AS (Ae (Ae ?_))
  refine AA ?_
  obtain rfl := AR r6
  exact mi kr ⟨rfl, rfl, z1⟩
 refine AP (um (ua (Aa (Ap ?_))))
 refine C9 results66 ?_
 obtain rfl := AR r3
 exact rfl
set_option maxHeartbeats 1000000 in
theorem Kl (ab : AF 1 (iE .i64) F Bb Bc plots) {r : Int} (hr : Ht wide plots = some r) :
    BG Tryz.prog 31 #[.agg #[.int .i64 wide, .slice Bb plots.length Bc]] F (.int .i64 r) := by
 refine sp func31 ntmps31 fun K _ _ => ?_
 rw [Ht] at hr
 refine AP ?_
 refine BK rfl rfl ?_; intro b1 bh
 refine ua (Aa (Aq ?_))
 refine Am ?_
 obtain ⟨k, h2, r3⟩ := AO hr
 refine jE ([(b1, ce #[.int .i64 wide, .slice Bb plots.length Bc] 27)]) [(1, .pointer (some ⟨b1, 0, none⟩)), (3, .bool k)] ?_ ?_
 ·clear r3
  refine Ak (uv (Ad KF rfl) (uv (Al isAgg3 rfl (Has.own 0 rfl) rfl) ?_))
  obtain ⟨ok, h4, r5⟩ := AO h2
  refine cV call34 (HD h4) (uv (CI rfl) (um ?_))
  rcases EL (!ok) with c6 | c6
  ·have r7 := bt r5 c6
   refine fB c6 (fB c6 (fB c6 (fB c6 (fB c6 ?_))))
   refine uv (AQ (KX rfl c6) rfl) ?_
   refine um (AB (b' := true) 15 rfl rfl rfl rfl (AB (b' := true) 15 rfl rfl rfl rfl (AB (b' := true) 15 rfl rfl rfl rfl (AB (b' := true) 15 rfl rfl rfl rfl (AB (b' := true) 15 rfl rfl rfl rfl (AB (b' := true) 15 rfl rfl rfl rfl (AB (b' := true) 15 rfl rfl rfl rfl ?_)))))))
   refine uv (AQ rfl rfl) ?_
   refine ua (Aa ?_)
   obtain rfl := AR r7
   exact mi kr ⟨rfl, rfl, z2⟩
  have r8 := bf r5 c6
  refine nB c6 (uv (Ad Em rfl) (nB c6 (uv (Al isAgg25 rfl (Has.own 0 rfl) rfl) (nB c6 (uv (A3 underlying25 rfl) (nB c6 ?_))))))
  obtain ⟨ao, h9, ai⟩ := AO r8
  refine cV call34 (HD h9) (nB c6 (uv (CI rfl) (uv (AL (KX rfl c6) rfl) (um ?_))))
  rcases EL (!ao) with aa | aa
  ·have aq := bt ai aa
   refine fB aa (fB aa (fB aa (fB aa (fB aa (fB aa (fB aa ?_))))))
   refine uv (AQ (KX rfl aa) rfl) ?_
   refine ua (Aa ?_)
   obtain rfl := AR aq
   exact mi kr ⟨rfl, rfl, z2⟩
  have ar := bf ai aa
  refine nB aa (uv (Ad Em rfl) (nB aa (uv (Al isAgg25 rfl (Has.own 0 rfl) rfl) (nB aa (uv (A3 underlying25 rfl) (nB aa (uv (Ad KF rfl) ?_)))))))
  refine nB aa (uv (Al isAgg3 rfl (Has.own 0 rfl) rfl) (nB aa ?_))
  obtain ⟨au, av⟩ := AV ar
  refine uv (SV rfl rfl au) (nB aa (uv (B6 rfl rfl) (uv (AL (KX rfl aa) rfl) ?_)))
  refine ua (Aa ?_)
  obtain rfl := AR av
  exact mi kr ⟨rfl, rfl, z2⟩
 refine AY rfl (fun ad => ?_) (fun ad => ?_)
 ·have aw := bt r3 ad
  refine AP (ua (Aa ?_))
  refine kW kn ?_
  refine Ap (AE (Aj ?_))
  refine C9 results31 ?_
  obtain rfl := AR aw
  exact rfl
 have ax := bf r3 ad
 refine AP (uv (Ad Em rfl) (uv (Al isAgg25 rfl (Has.own 0 rfl) rfl) ?_))
 have ae : KM Tryz.prog F 65 #[] #[] (iE .i64) Value.bool (fun aj : Int => HM aj) := ⟨call65, fun F2 h2 vs aj r ha hr => by obtain rfl := ha; exact OI hr⟩
 obtain ⟨bj, ay, ak⟩ := AO ax
 refine cV call64 (Na ab ae ay) (uv (CI rfl) ?_)
 refine ua (Aa ?_)
 refine AY rfl (fun af => ?_) (fun af => ?_)
 ·have az := bt ak af
  refine AP (ua (Aa ?_))
  refine kW kn ?_
  refine Ap (AE (Aj ?_))
  refine C9 results31 ?_
  obtain rfl := AR az
  exact rfl
 have ba := bf ak af
 refine AP (uv (AM isAgg27 sizeOf27 rfl (Has.own 0 rfl) (CE rfl) rfl) ?_)
 obtain ⟨n, bb, al⟩ := AO ba
 refine cV call66 (Mo ab bb) (uv (IF rfl rfl) ?_)
 refine ua (Aa ?_)
 refine cQ (fun ah => ?_) fun ah => ?_
 ·have bc := A2 al ah
  refine AP (ua (Aa ?_))
  refine kW kn ?_
  refine Ap (AE (Aj ?_))
  refine C9 results31 ?_
  obtain rfl := AR bc
  exact rfl
 have bg := A1 al ah
 refine An (Az (id := 0) (AP (ua (Aa ?_))))
 refine kW kn (Ap (C9 results31 ?_))
 obtain rfl := AR bg
 exact rfl
theorem Ke {w : Int} {r : Bool} (hr : FN w = some r) :
    BG Tryz.prog 67 #[.int .i64 w] F (.bool r) := by
 refine sp func67 ntmps67 fun K _ _ => ?_
 rw [FN] at hr
 refine AP (ua (Cj (um ?_)))
 obtain ⟨ok, h1, r2⟩ := AO hr
 refine cV call34 (HD h1) ?_
 refine ua (Aa (Ap ?_))
 refine C9 results67 ?_
 obtain rfl := AR r2
 exact rfl
theorem KI {r : Int} (hr : Gm DI Cf = some r) :
    BG Tryz.prog 32 #[.agg #[.int .i64 DI, .int .i64 Cf]] F (.int .i64 r) := by
 refine sp func32 ntmps32 fun K _ _ => ?_
 rw [Gm] at hr
 refine AP ?_
 refine BK rfl rfl ?_; intro b1 af
 refine ua (Aa (Aq ?_))
 obtain ⟨k, h2, r3⟩ := AO hr
 refine jE ([]) [(12, .bool k)] ?_ ?_
 ·clear r3
  refine Ak (uv (Ad QD rfl) (uv (Al isAgg29 rfl (Has.own 0 rfl) rfl) ?_))
  obtain ⟨ok, h4, r5⟩ := AO h2
  refine cV call67 (Ke h4) (uv (CI rfl) (um ?_))
  rcases EL (!ok) with c6 | c6
  ·have r7 := bt r5 c6
   refine fB c6 (fB c6 (fB c6 (fB c6 ?_)))
   refine uv (AQ (KX rfl c6) rfl) (Aa ?_)
   obtain rfl := AR r7
   exact mi kn ⟨rfl, rfl, z1⟩
  have r8 := bf r5 c6
  refine nB c6 (uv (Ad QC rfl) (nB c6 (uv (Al isAgg3 rfl (Has.own 0 rfl) rfl) (nB c6 ?_))))
  obtain ⟨ah, h9, ab⟩ := AO r8
  refine cV call34 (HD h9) (nB c6 (uv (CI rfl) (uv (AL (KX rfl c6) rfl) (Aa ?_))))
  obtain rfl := AR ab
  exact mi kn ⟨rfl, rfl, z1⟩
 refine AY rfl (fun aa => ?_) (fun aa => ?_)
 ·have ad := bt r3 aa
  refine AP (ua (Aa (Ap (Aj ?_))))
  refine C9 results32 ?_
  obtain rfl := AR ad
  exact rfl
 have ae := bf r3 aa
 refine An (AP (ua (Aa (Ap ?_))))
 refine C9 results32 ?_
 obtain rfl := AR ae
 exact rfl
theorem J8 (_h_plots : AF 1 (iE .i64) F Bb Bc plots) {r : Bool} (hr : FH wide plots p = some r) :
    BG Tryz.prog 85 #[.agg #[.int .i64 wide, .slice Bb plots.length Bc], .int .i64 p] F (.bool r) := by
 refine sp func85 ntmps85 fun K _ _ => ?_
 rw [FH] at hr
 refine AP ?_
 refine BK rfl rfl ?_; intro b1 aa
 refine ua (Cj (um ?_))
 refine uv (Ad Em rfl) (uv (Al isAgg25 rfl (Has.own 0 rfl) rfl) (uv (A3 underlying25 rfl) ?_))
 obtain ⟨g2, r3⟩ := AV hr
 refine uv (FR rfl rfl g2) ?_
 obtain ⟨ok, h4, r5⟩ := AO r3
 refine cV call34 (HD h4) ?_
 refine ua (Aa ?_)
 refine kW kn (Ap (C9 results85 ?_))
 obtain rfl := AR r5
 exact rfl
theorem Je {kind : Int} (aa : AF 1 (iE .i64) F Bb Bc plots) {r : Int} (hr : FZ wide plots p kind = some r) :
    BG Tryz.prog 48 #[.agg #[.int .i64 wide, .slice Bb plots.length Bc], .int .i64 p, .int .i64 kind] F (.int .i64 r) := by
 refine sp func48 ntmps48 fun K _ _ => ?_
 rw [FZ] at hr
 refine AP ?_
 refine BK rfl rfl ?_; intro b1 aq
 refine ua (Aa (Aq ?_))
 refine Am (AP (uv (AM isAgg27 sizeOf27 rfl (Has.own 0 rfl) (CE rfl) rfl) (um ?_)))
 obtain ⟨ok, h2, r3⟩ := AO hr
 refine cV call85 (J8 aa h2) (uv (CI rfl) ?_)
 refine ua (Aa ?_)
 refine AY rfl (fun c4 => ?_) (fun c4 => ?_)
 ·have r5 := bt r3 c4
  refine AP (ua (Aa ?_))
  refine kW kn ?_
  refine Ap (AE (Aj ?_))
  refine C9 results48 ?_
  obtain rfl := AR r5
  exact rfl
 have r6 := bf r3 c4
 refine AP (uv (Ad Em rfl) (uv (Al isAgg25 rfl (Has.own 0 rfl) rfl) (um ?_)))
 obtain ⟨x, g7, ai, r9⟩ := BH r6
 obtain ⟨HI, ar, au, aj, ab, ad, ah, rfl, ak, ae⟩ := AF.at (Ab _) aa ([(b1, ce #[.int .i64 wide, .slice Bb plots.length Bc] 27)]) g7.1 ai
 refine uv (AI underlying25 sizeOf34 rfl ab rfl g7) (uv (Al isAgg34 rfl ad (ae 0 (by decide))) (um (uv (B6 rfl rfl) ?_)))
 refine ua (Aa ?_)
 refine cQ (fun af => ?_) fun af => ?_
 ·have al := A2 r9 af
  refine AP (ua (Aa ?_))
  refine kW kn ?_
  refine Ap (AE (Aj ?_))
  refine C9 results48 ?_
  obtain rfl := AR al
  exact rfl
 have ao := A1 r9 af
 refine An (Az (id := 0) (AP (ua (Aa ?_))))
 refine kW kn (Ap (C9 results48 ?_))
 obtain rfl := AR ao
 exact rfl
theorem Q7 {r : List (Int × (Int × Int))} (hr : Mq = some r) :
    SH.Spec Tryz.prog 96 #[] F [] fun _ L' v => ∃ (rb : Nat) (res : Array MapEntry) (aj : Nat), v = .map (some rb) ∧ L' = [(rb, .map res aj)] ∧ Eb (Value.int .i64) (vA (cP (cI .i64) (cI .i64))) res r := by
 refine sp func96 ntmps96 fun K _ _ => ?_
 rw [Mq] at hr
 refine AP (ua (Cj ?_))
 refine LC rfl ?_; intro b1 bb
 refine uv (BC (v := .agg #[.int .i64 (-1), .int .i64 0]) rfl (by intro w; kernel_rfl)) ?_
 refine K3 (i := 0) (k := 1) (v := (-1, 0)) underlying173 (Ih underlying29) rfl rfl rfl rfl (show Eb (Value.int .i64) (vA (cP (cI .i64) (cI .i64))) #[] ([] : List (Int × (Int × Int))) from Eb.nil) ?_; intro ak bc ah
 obtain ⟨met, h5, r6⟩ := CT hr
 rw [← h5] at ah
 refine AK rfl ?_
 refine uv (BC (v := .agg #[.int .i64 0, .int .i64 1]) rfl (by intro w; kernel_rfl)) ?_
 refine K3 (i := 0) (k := 2) (v := (0, 1)) underlying173 (Ih underlying29) rfl rfl rfl rfl (show Eb (Value.int .i64) (vA (cP (cI .i64) (cI .i64))) ak (met : List (Int × (Int × Int))) from ah) ?_; intro al bg ai
 obtain ⟨ad, ao, aq⟩ := CT r6
 rw [← ao] at ai
 refine AK rfl ?_
 refine uv (BC (v := .agg #[.int .i64 1, .int .i64 0]) rfl (by intro w; kernel_rfl)) ?_
 refine K3 (i := 0) (k := 3) (v := (1, 0)) underlying173 (Ih underlying29) rfl rfl rfl rfl (show Eb (Value.int .i64) (vA (cP (cI .i64) (cI .i64))) al (ad : List (Int × (Int × Int))) from ai) ?_; intro ae ar aa
 obtain ⟨af, au, av⟩ := CT aq
 rw [← au] at aa
 refine AK rfl ?_
 refine uv (BC (v := .agg #[.int .i64 0, .int .i64 (-1)]) rfl (by intro w; kernel_rfl)) ?_
 refine K3 (i := 0) (k := 4) (v := (0, -1)) underlying173 (Ih underlying29) rfl rfl rfl rfl (show Eb (Value.int .i64) (vA (cP (cI .i64) (cI .i64))) ae (af : List (Int × (Int × Int))) from aa) ?_; intro aw ax ab
 obtain ⟨ay, az, ba⟩ := CT av
 rw [← az] at ab
 refine AK rfl ?_
 refine um (ua (Aa (Ap ?_)))
 refine C9 results96 ?_
 obtain rfl := AR ba
 exact ⟨_, _, _, rfl, rfl, ab⟩
set_option maxHeartbeats 1000000 in
theorem LY (aa : AF 1 (iE .i64) F Bb Bc plots) {r : Option (Int × (List Int) × Int × Int × Bool)} (hr : HF wide plots DI = some (r, r2)) :
    SH.Spec Tryz.prog 76 #[.agg #[.int .i64 wide, .slice Bb plots.length Bc], .int .i64 DI] F [] fun F' L' v => ∃ (rv : Value), v = .tuple #[rv, .int .i64 r2] ∧ L' = [] ∧ MU 167 (B4 (iE .i64) (B4 (CD 1 (iE .i64)) (B4 (iE .i64) (B4 (iE .i64) bE)))) F' rv r := by
 refine sp func76 ntmps76 fun K _ _ => ?_
 rw [HF] at hr
 refine AP ?_
 refine BK rfl rfl ?_; intro b1 ax
 refine ua (ua (Aa (Aq (AP ?_))))
 refine uv (AM isAgg27 sizeOf27 rfl (Has.own 0 rfl) (CE rfl) rfl) ?_
 obtain ⟨n, h2, r3⟩ := AO hr
 refine cV call31 (Kl aa h2) ?_
 refine ua (Cj (um ?_))
 refine uv (B6 rfl rfl) (Aa ?_)
 refine cQ (fun c4 => ?_) fun c4 => ?_
 ·have r5 := A2 r3 c4
  refine AP (um (ua (ua (Aa ?_))))
  refine kW kn ?_
  refine Ap (Aj ?_)
  refine BU results76 (AH rfl) (AH rfl) (sr) ?_
  obtain ⟨rfl, rfl⟩ := CP r5
  exact ⟨_, rfl, rfl, rfl⟩
 have r6 := A1 r3 c4
 refine An (Aq (AP (um ?_)))
 obtain ⟨ok, h7, r8⟩ := AO r6
 refine cV call67 (Ke h7) (uv (CI rfl) (Aa ?_))
 refine AY rfl (fun c9 => ?_) (fun c9 => ?_)
 ·have ak := bt r8 c9
  refine AP (ua (ua (Aa ?_)))
  refine kW kn ?_
  refine Ap (Aj ?_)
  refine BU results76 (AH rfl) (AH rfl) (sr) ?_
  obtain ⟨rfl, rfl⟩ := CP ak
  exact ⟨_, rfl, rfl, rfl⟩
 have al := bf r8 c9
 refine An (AP ?_)
 obtain ⟨m, ao, aq⟩ := AO al
 refine c0 call96 (Q7 ao) ?_; rintro _ ay _ ad ar ⟨au, ab, ae, rfl, rfl, af⟩
 replace aa := aa.mono (Ab _) ad
 refine AK (lb (ln rfl)) (um (uv (E7.eq (v' := .tuple #[.agg #[.int .i64 (((AZ m DI).getD (0, 0)).1), .int .i64 (((AZ m DI).getD (0, 0)).2)], .bool ((AZ m DI).isSome)]) (Lw (k := DI) (z0 := (0, 0)) rfl underlying173 (Ih underlying29) zeroValue165 rfl rfl (Kw.own 0 rfl) (show Eb (Value.int .i64) (vA (cP (cI .i64) (cI .i64))) ab (m : List (Int × (Int × Int))) from af)) rfl) ?_))
 refine um (ox rfl rfl rfl (ox rfl rfl rfl ?_))
 refine Br rfl zeroValue165 ?_; intro av aw
 refine By (i := 0) sizeOf165 rfl rfl rfl (by simp [Value.oneCell']) rfl (CE rfl) (AK rfl ?_)
 refine ua (Cj ?_)
 refine uv (AM isAgg27 sizeOf27 rfl (Has.own 2 rfl) (CE rfl) rfl) (uv (AM isAgg165 sizeOf165 rfl (Has.own 0 rfl) (CE rfl) rfl) (um ?_))
 refine uv (BC (v := .agg #[.int .i64 wide, .slice Bb plots.length Bc, .int .i64 (((AZ m DI).getD (0, 0)).1), .int .i64 (((AZ m DI).getD (0, 0)).2), .bool ((AZ m DI).isSome)]) rfl (by intro w; kernel_rfl)) ?_
 refine BK rfl rfl ?_; intro az ah
 refine ua (ua (Aa ?_))
 refine DL 0 rfl ah ?_; intro ba ai aj
 refine Gv (L' := [(av, ce #[.int .i64 (((AZ m DI).getD (0, 0)).1), .int .i64 (((AZ m DI).getD (0, 0)).2)] 165), (au, .map ab ae), (b1, ce #[.int .i64 wide, .slice Bb plots.length Bc] 27)]) rfl ?_
 replace aa := aa.mono (Ab _) ai
 refine kW kn (Ap (BU results76 (AH rfl) (AH rfl) (sr) ?_))
 obtain ⟨rfl, rfl⟩ := CP aq
 exact ⟨_, rfl, rfl, ⟨_, _, _, rfl, aj, ⟨_, _, rfl, rfl, ⟨_, _, rfl, ⟨_, _, rfl, aa⟩, ⟨_, _, rfl, rfl, ⟨_, _, rfl, rfl, rfl⟩⟩⟩⟩⟩⟩
theorem N3 (aa : AF 1 (iE .i64) F Bb Bc plots) {r : Option (Int × (List Int) × Int × Int × Bool)} (hr : G8 wide plots DI stand = some (r, r2)) :
    SH.Spec Tryz.prog 68 #[.agg #[.int .i64 wide, .slice Bb plots.length Bc], .int .i64 DI, .int .i64 stand] F [] fun F' L' v => ∃ (rv : Value), v = .tuple #[rv, .int .i64 r2] ∧ L' = [] ∧ MU 167 (B4 (iE .i64) (B4 (CD 1 (iE .i64)) (B4 (iE .i64) (B4 (iE .i64) bE)))) F' rv r := by
 refine sp func68 ntmps68 fun K _ _ => ?_
 rw [G8] at hr
 refine AP ?_
 refine BK rfl rfl ?_; intro b1 aq
 refine ua (ua (Cj ?_))
 refine uv (AM isAgg27 sizeOf27 rfl (Has.own 0 rfl) (CE rfl) rfl) (um ?_)
 obtain ⟨d, n, h2, r3⟩ := CQ hr
 refine c0 call76 (LY aa h2) ?_; rintro _ F4 _ af ar ⟨v8, rfl, rfl, ah⟩
 replace aa := aa.mono (Ab _) af
 refine AK (ln rfl) ?_
 refine um (ox rfl rfl rfl (ox rfl rfl rfl (ua (ua (Aa (Aq (AP (um ?_))))))))
 refine uv (B6 rfl rfl) (Aa ?_)
 refine cQ (fun ab => ?_) fun ab => ?_
 ·have ai := A2 r3 ab
  refine AP (um (ua (ua (Aa ?_))))
  refine kW kn ?_
  refine Ap (Aj ?_)
  refine BU results68 (AH rfl) (AH rfl) (sr) ?_
  obtain ⟨rfl, rfl⟩ := CP ai
  exact ⟨_, rfl, rfl, rfl⟩
 have aj := A1 r3 ab
 refine An (Aq (AP ?_))
 refine uv (AM isAgg27 sizeOf27 rfl (Has.own 0 rfl) (CE rfl) rfl) (um ?_)
 obtain ⟨n2, ak, ae⟩ := AO aj
 refine cV call48 (Je aa ak) ?_
 refine ua (Cj (um ?_))
 refine uv (B6 rfl rfl) (Aa ?_)
 refine cQ (fun ad => ?_) fun ad => ?_
 ·have al := A2 ae ad
  refine AP (um (ua (ua (Aa ?_))))
  refine kW kn ?_
  refine Ap (Aj ?_)
  refine BU results68 (AH rfl) (AH rfl) (sr) ?_
  obtain ⟨rfl, rfl⟩ := CP al
  exact ⟨_, rfl, rfl, rfl⟩
 have ao := A1 ae ad
 refine An (AP (um (ua (ua (Aa ?_)))))
 refine kW kn (Ap (BU results68 (AH rfl) (AH rfl) (sr) ?_))
 obtain ⟨rfl, rfl⟩ := CP ao
 exact ⟨_, rfl, rfl, ah⟩
theorem NA (aa : AF 1 (iE .i64) F Bb Bc plots) {r : Bool} (hr : E4 wide plots p = some r) :
    BG Tryz.prog 107 #[.agg #[.int .i64 wide, .slice Bb plots.length Bc], .int .i64 p] F (.bool r) := by
 refine sp func107 ntmps107 fun K _ _ => ?_
 rw [E4] at hr
 refine AP ?_
 refine BK rfl rfl ?_; intro b1 aj
 refine ua (Cj ?_)
 refine uv (Ad Em rfl) (uv (Al isAgg25 rfl (Has.own 0 rfl) rfl) (um ?_))
 obtain ⟨x, g2, af, r4⟩ := BH hr
 obtain ⟨b5, o6, c7, ak, ah, ab, ae, rfl, ai, ad⟩ := AF.at (Ab _) aa ([(b1, ce #[.int .i64 wide, .slice Bb plots.length Bc] 27)]) g2.1 af
 refine uv (AI underlying25 sizeOf34 rfl ah rfl g2) (uv (Al isAgg34 rfl ab (ad 0 (by decide))) (uv (DY rfl rfl) ?_))
 refine ua (Aa ?_)
 refine kW kn (Ap (C9 results107 ?_))
 obtain rfl := AR r4
 exact rfl
theorem Ny {r : Int} (hr : H3 down BL = some (r, r2)) :
    BG Tryz.prog 117 #[.agg #[.int .i64 down, .int .i64 BL]] F (.agg #[.int .i64 r, .int .i64 r2]) := by
 refine sp func117 ntmps117 fun K _ _ => ?_
 rw [H3] at hr
 refine AP ?_
 refine BK rfl rfl ?_; intro b1 aa
 refine Br rfl zeroValue165 ?_; intro b2 ab
 refine Cj (uv (Ad O7 rfl) (uv (Al isAgg3 rfl (Has.own 1 rfl) rfl) ?_))
 obtain ⟨g3, r4⟩ := AV hr
 refine uv (V7 rfl g3) (uv (Ad Ro rfl) (uv (Al isAgg3 rfl (Has.own 1 rfl) rfl) ?_))
 obtain ⟨g5, r6⟩ := AV r4
 refine uv (V7 rfl g5) ?_
 refine uv (BC (v := .agg #[.int .i64 (-down), .int .i64 (-BL)]) rfl (by intro w; kernel_rfl)) ?_
 refine By (i := 0) sizeOf165 rfl rfl rfl (by simp [Value.oneCell']) rfl (CE rfl) (AK rfl (Aa (kW (kc kn) (Ap (K9 results117 (Gn (cs := #[.int .i64 (-down), .int .i64 (-BL)]) isAgg165 sizeOf165 rfl (Has.own 0 rfl) (CE rfl) rfl) (s1 sr) ?_)))))
 obtain ⟨rfl, rfl⟩ := CP r6
 exact rfl
set_option maxHeartbeats 1000000 in
theorem JA {ae aa : Int} (ab : F Of = some (.cells #[.int .i64 wide, .slice Bb plots.length Bc, .int .i64 down, .int .i64 BL, .bool De] 167 Uq)) (ad : AF 1 (iE .i64) F Bb Bc plots) {r : Int} (hr : Fg wide plots down BL De ae aa to = some r) :
    BG Tryz.prog 109 #[.pointer (some ⟨Of, 0, none⟩), .agg #[.int .i64 ae, .int .i64 aa], .int .i64 to] F (.int .i64 r) := by
 refine sp func109 ntmps109 fun K _ _ => ?_
 rw [Fg] at hr
 refine AP ?_
 refine BK rfl rfl ?_; intro b1 bh
 refine ua (Cj (ua (Aa ?_)))
 obtain ⟨n, h2, r3⟩ := AO hr
 refine jE ([]) [(0, .pointer (some ⟨Of, 0, none⟩)), (2, .int .i64 to), (7, .int .i64 n)] ?_ ?_
 ·clear r3
  refine Am ?_
  refine AP (um ?_)
  refine uv (AU rfl) (uv (Ad UU rfl) (uv (Al isAgg4 rfl (Has.frozen ab) rfl) (uv (CI rfl) ?_)))
  refine ua (Aa ?_)
  refine AY rfl (fun c4 => ?_) (fun c4 => ?_)
  ·have r5 := bt h2 c4
   refine An (Az (id := 0) ?_)
   obtain rfl := AR r5
   exact mi kn ⟨rfl, rfl, z3⟩
  have r6 := bf h2 c4
  refine dW (wv (AM isAgg165 sizeOf165 rfl (Has.own 0 rfl) (CE rfl) rfl) (wm (wv (AU rfl) (wv (Ad Rq rfl) (wv (AM isAgg165 sizeOf165 rfl (Has.frozen ab) (CE rfl) rfl) (wv (OG (Tf _ _ _ _) (Vf _ _ _ _) rfl rfl) ?_))))))
  refine wa (Df ?_)
  refine cQ (fun c7 => ?_) fun c7 => ?_
  ·have r8 := A2 r6 c7
   refine Ak (ua (Aa (Az (id := 0) ?_)))
   obtain rfl := AR r8
   exact mi kn ⟨rfl, rfl, z3⟩
  have r9 := A1 r6 c7
  refine dW (wv (AM isAgg165 sizeOf165 rfl (Has.own 0 rfl) (CE rfl) rfl) (wm (wv (AU rfl) (wv (Ad Rq rfl) (wv (AM isAgg165 sizeOf165 rfl (Has.frozen ab) (CE rfl) rfl) ?_)))))
  obtain ⟨n2, n3, av, ao⟩ := CQ r9
  refine GS rfl call117 rfl rfl rfl (Ny av) (wv (OG (Tf _ _ _ _) (Vf _ _ _ _) rfl rfl) ?_)
  refine wa (Df ?_)
  refine cQ (fun af => ?_) fun af => ?_
  ·have aw := A2 ao af
   refine Ak (ua (Aa (Az (id := 0) ?_)))
   obtain rfl := AR aw
   exact mi kn ⟨rfl, rfl, z3⟩
  have ax := A1 ao af
  refine An (Az (id := 0) ?_)
  obtain rfl := AR ax
  exact mi kn ⟨rfl, rfl, z3⟩
 refine Aq (AP (um ?_))
 refine uv (AU rfl) (uv (Ad Hg rfl) (uv (Ad Em rfl) (uv (Al isAgg25 rfl (Has.frozen ab) rfl) (um ?_))))
 obtain ⟨x, aq, ah, ar⟩ := BH r3
 obtain ⟨bj, bk, bl, ay, ai, aj, au, rfl, az, ak⟩ := AF.at (Ab _) ad ([]) aq.1 ah
 refine uv (AI underlying25 sizeOf34 rfl ai rfl aq) (uv (Al isAgg34 rfl aj (ak 0 (by decide))) (uv (DY rfl rfl) (Aa ?_)))
 refine cQ (fun al => ?_) fun al => ?_
 ·have ba := A2 ar al
  refine Ak (um ?_)
  obtain ⟨bb, bc⟩ := AV ba
  refine uv (A5 rfl rfl bb) ?_
  refine ua (Cj (um (ua (Aa (Ap ?_)))))
  refine C9 results109 ?_
  obtain rfl := AR bc
  exact rfl
 have bg := A1 ar al
 refine An (AP (um (ua (Aa (Ap ?_)))))
 refine C9 results109 ?_
 obtain rfl := AR bg
 exact rfl
set_option maxHeartbeats 1000000 in
theorem Ml {bq : Nat} {br : Nat × Nat} {ai : Nat} {al : FuncId} {ao aq : Array Value} {closed : Int → Option Bool} {ax : Nat × Nat} (ar : F X7 = some (.cells #[.int .i64 p] 3 Yd)) (ak : F Of = some (.cells #[.pointer (some ⟨bq, 0, none⟩)] 128 Uq)) (af : F bq = some (.cells #[.int .i64 wide, .slice Bb plots.length Bc, .int .i64 down, .int .i64 BL, .bool De] 167 br)) (ad : AF 1 (iE .i64) F Bb Bc plots) (ab : F ai = some (.cells #[.func (.func al) ao aq] 64 ax)) (aa : KM Tryz.prog F al ao aq (iE .i64) Value.bool closed) {xs : List (Int × Int)} (hr : GO p wide plots down BL De closed = some xs) :
    G7 Tryz.prog 108 #[] #[.pointer (some ⟨X7, 0, none⟩), .pointer (some ⟨Of, 0, none⟩), .pointer (some ⟨ai, 0, none⟩)] F (fun x : Int × Int => #[.int .i64 x.1, .int .i64 x.2]) xs := by
 intro G0 bo yv J Jx dv dw hy Fc L0 hG cn
 replace ar := (bo.trans hG) _ _ ar
 replace ak := (bo.trans hG) _ _ ak
 replace af := (bo.trans hG) _ _ af
 replace ad := ad.mono (Ab _) (bo.trans hG)
 replace ab := (bo.trans hG) _ _ ab
 replace aa := aa.mono (bo.trans hG)
 have bk : xs = [] ++ xs := rfl
 show SH.Spec Tryz.prog 108 #[yv, .pointer (some ⟨X7, 0, none⟩), .pointer (some ⟨Of, 0, none⟩), .pointer (some ⟨ai, 0, none⟩)] Fc L0 _
 refine sp func108 ntmps108 fun K _ _ => ?_
 rw [GO] at hr; refine Gv (L' := L0 ++ []) (by simp) ?_
 refine AP ?_
 refine uv (BC (v := .agg #[.int .i64 (-1), .int .i64 0]) rfl (by intro w; kernel_rfl)) ?_
 refine uv (BC (v := .agg #[.int .i64 0, .int .i64 (-1)]) rfl (by intro w; kernel_rfl)) ?_
 refine uv (BC (v := .agg #[.int .i64 0, .int .i64 1]) rfl (by intro w; kernel_rfl)) ?_
 refine uv (BC (v := .agg #[.int .i64 1, .int .i64 0]) rfl (by intro w; kernel_rfl)) ?_
 refine bA (cs := #[.int .i64 (-1), .int .i64 0, .int .i64 0, .int .i64 (-1), .int .i64 0, .int .i64 1, .int .i64 1, .int .i64 0]) WG [.agg #[.int .i64 (-1), .int .i64 0], .agg #[.int .i64 0, .int .i64 (-1)], .agg #[.int .i64 0, .int .i64 1], .agg #[.int .i64 1, .int .i64 0]] ?_; intro b1 dx
 refine uv (A3 underlying181 rfl) ?_
 refine um (Aa ?_)
 refine Am ?_
 refine DL 0 rfl dx ?_; intro F2 bh dy
 refine Gv (L' := L0 ++ []) rfl ?_
 replace ad := ad.mono (Ab _) bh
 replace aa := aa.mono bh
 replace ar := bh _ _ ar
 replace af := bh _ _ af
 replace ak := bh _ _ ak
 replace ab := bh _ _ ab
 replace hG := hG.trans bh
 replace cn := dv _ _ _ _ cn bh
 have h5 : AF 2 (B4 (iE .i64) (iE .i64)) F2 (some ⟨b1, 0, none⟩) 4 [(-1, 0), (0, -1), (0, 1), (1, 0)] := AF.CV (At (Ab _) (Ab _)) (vss := [[.int .i64 (-1), .int .i64 0], [.int .i64 0, .int .i64 (-1)], [.int .i64 0, .int .i64 1], [.int .i64 1, .int .i64 0]]) (xs := [(-1, 0), (0, -1), (0, 1), (1, 0)]) dy (.cons ⟨_, _, rfl, rfl, rfl⟩ (.cons ⟨_, _, rfl, rfl, rfl⟩ (.cons ⟨_, _, rfl, rfl, rfl⟩ (.cons ⟨_, _, rfl, rfl, rfl⟩ .nil)))) rfl (by simp [maxLen])
 obtain ⟨bp, dz⟩ := AV hr
 refine Bg (fun cg e1 F1 L1 => ∃ (k : Int), Es 0 4 k cg ∧ ∃ (pre6 : List (Int × Int)) (aw : List (Int × Int)) (ba : LH), BQ p wide plots down BL De closed cg k = some aw ∧ AW F2 F1 ∧ L1 = (ba ++ []) ∧ e1.sub [(0, yv), (1, .pointer (some ⟨X7, 0, none⟩)), (2, .pointer (some ⟨Of, 0, none⟩)), (3, .pointer (some ⟨ai, 0, none⟩)), (12, .slice (some ⟨b1, 0, none⟩) [(-1, 0), (0, -1), (0, 1), (1, 0)].length 4), (13, .int .i64 4), (14, .int .i64 k)] ∧ xs = pre6 ++ aw ∧ J pre6 F1 ba ∧ AW G0 F1) _ (m0 kr ⟨_, Es.start _ _, [], xs, L0, dz, AW.refl _, rfl, z7, bk, cn, hG⟩) ?_
 rintro cg e1 gg _ ⟨k, au, pre6, aw, ba, cj, aj, rfl, cp, ae, bl, hG⟩
 refine AD _ cp ?_
 replace ad := ad.mono (Ab _) aj
 replace h5 := h5.mono (At (Ab _) (Ab _)) aj
 replace aa := aa.mono aj
 replace ar := aj _ _ ar
 replace af := aj _ _ af
 replace ak := aj _ _ ak
 replace ab := aj _ _ ab
 refine AP (uv (A8 rfl rfl) ?_)
 refine Aa (Aq ?_)
 refine cQ (fun bc => ?_) fun bc => ?_
 ·obtain ⟨cg, rfl, ay⟩ := Es.succ au bc
  rw [BQ] at cj
  refine An (Aq ?_)
  refine Am (AP ?_)
  obtain ⟨x, di, cq, e9⟩ := BH cj
  obtain ⟨gh, gk, gl, eg, cr, ct, bj, ⟨_, _, rfl, rfl, rfl⟩, cu, cv⟩ := AF.at (At (Ab _) (Ab _)) h5 (ba ++ []) di.1 cq
  refine uv (AI underlying181 sizeOf165 rfl cr rfl di) (uv (AM isAgg165 sizeOf165 rfl ct bj (Bh bj cu cv)) ?_)
  refine Br rfl zeroValue165 ?_; intro dk eh
  refine By (i := 0) sizeOf165 rfl rfl rfl (by simp [Value.oneCell']) rfl (CE rfl) (AK rfl (dN (wv (Al isAgg3 rfl (Has.frozen ar) rfl) (wv (Ad O7 rfl) (wv (Al isAgg3 rfl (Has.own 0 rfl) rfl) (wv (Al isAgg128 rfl (Has.frozen ak) rfl) (wv (AU rfl) ?_)))))))
  refine wv (Ad Hg rfl) (wv (Ad KF rfl) (wv (Al isAgg3 rfl (Has.frozen af) rfl) ?_))
  obtain ⟨ej, eo⟩ := AV e9
  refine wv (VU rfl rfl ej) ?_
  obtain ⟨er, et⟩ := AV eo
  refine wv (A5 rfl rfl er) (wv (Ad Ro rfl) (wv (Al isAgg3 rfl (Has.own 0 rfl) rfl) ?_))
  obtain ⟨eu, ew⟩ := AV et
  refine wv (A5 rfl rfl eu) ?_
  refine wa (Df (Aq ?_))
  refine dW (wv (Al isAgg128 rfl (Has.frozen ak) rfl) (wv (AU rfl) (wv (Ad Hg rfl) (wv (AM isAgg27 sizeOf27 rfl (Has.frozen af) (CE rfl) rfl) (wm ?_)))))
  obtain ⟨ok, ey, dm⟩ := AO ew
  refine GS rfl call85 rfl rfl rfl (J8 ad ey) (wv (CI rfl) (wm ?_))
  rcases EL (!ok) with av | av
  ·have fa := bt dm av
   refine BE (b' := true) 38 rfl (NI rfl av) rfl rfl (BE (b' := true) 38 rfl (NI rfl av) rfl rfl (BE (b' := true) 38 rfl (NI rfl av) rfl rfl (BE (b' := true) 38 rfl (NI rfl av) rfl rfl (E9 42 rfl rfl rfl (E9 42 rfl rfl rfl (E9 42 rfl rfl rfl (E9 42 rfl rfl rfl (E9 42 rfl rfl rfl (E9 42 rfl rfl rfl ?_)))))))))
   refine E9 42 rfl rfl rfl (E9 42 rfl rfl rfl (E9 42 rfl rfl rfl (E9 42 rfl rfl rfl (E9 42 rfl rfl rfl (E9 42 rfl rfl rfl (E9 42 rfl rfl rfl (E9 42 rfl rfl rfl (E9 42 rfl rfl rfl (BE (b' := true) 38 rfl (NI rfl av) rfl rfl ?_)))))))))
   refine wv (AQ (KX rfl av) rfl) ?_
   refine wm (BE (b' := true) 60 rfl rfl rfl rfl (BE (b' := true) 60 rfl rfl rfl rfl (BE (b' := true) 60 rfl rfl rfl rfl ?_)))
   refine wv (AQ rfl rfl) (Df ?_)
   refine AY rfl (fun dn => ?_) (fun dn => nomatch dn)
   refine AS (Ae ?_)
   refine AA (Ak (uv (A5 rfl rfl (Es.El au bc bp)) ?_))
   refine um (Aa ?_)
   exact le (kd kr) ⟨_, ay, pre6, aw, ba, fa, aj, rfl, z7, ae, bl, hG⟩
  have dp := bf dm av
  refine Ce (b := false) 38 rfl (NI rfl av) (wv (Ad O7 rfl) (Ce (b := false) 38 rfl (NI rfl av) (wv (Al isAgg3 rfl (Has.own 0 rfl) rfl) (Ce (b := false) 38 rfl (NI rfl av) (wv (DY rfl rfl) ?_)))))
  refine Ce (b := false) 38 rfl (NI rfl av) (wm ?_)
  by_cases ah : x.1 = 0
  ·have fb := A2 dp ah
   refine Ce (b := true) 42 rfl (Env.JL rfl ah) (wm (Ce (b := true) 42 rfl (Env.JL rfl ah) ?_))
   refine wv (Al isAgg128 rfl (Has.frozen ak) rfl) (Ce (b := true) 42 rfl (Env.JL rfl ah) (wv (AU rfl) (Ce (b := true) 42 rfl (Env.JL rfl ah) (wv (Ad Hg rfl) (Ce (b := true) 42 rfl (Env.JL rfl ah) (wv (Ad KF rfl) (Ce (b := true) 42 rfl (Env.JL rfl ah) ?_)))))))
   refine wv (Al isAgg3 rfl (Has.frozen af) rfl) (Ce (b := true) 42 rfl (Env.JL rfl ah) ?_)
   obtain ⟨fe, ff⟩ := AV fb
   refine wv (O0 rfl rfl fe) (Ce (b := true) 42 rfl (Env.JL rfl ah) (wv (Al isAgg3 rfl (Has.frozen ar) rfl) (Ce (b := true) 42 rfl (Env.JL rfl ah) (wv (Al isAgg128 rfl (Has.frozen ak) rfl) (Ce (b := true) 42 rfl (Env.JL rfl ah) (wv (AU rfl) (Ce (b := true) 42 rfl (Env.JL rfl ah) ?_)))))))
   refine wv (Ad Hg rfl) (Ce (b := true) 42 rfl (Env.JL rfl ah) (wv (Ad KF rfl) (Ce (b := true) 42 rfl (Env.JL rfl ah) (wv (Al isAgg3 rfl (Has.frozen af) rfl) (Ce (b := true) 42 rfl (Env.JL rfl ah) ?_)))))
   obtain ⟨fg, dq⟩ := AV ff
   refine wv (O0 rfl rfl fg) (Ce (b := true) 42 rfl (Env.JL rfl ah) (wv (B6 rfl rfl) (Ce (b := false) 38 rfl (NI rfl av) (wv (AQ (Bd rfl ah) rfl) (wv (AL (KX rfl av) rfl) (wm ?_))))))
   by_cases bb : (Int.tdiv ((p + (x.1 * wide)) + x.2) wide) ≠ (Int.tdiv p wide)
   ·have fh := A2 dq bb
    refine BE (b' := true) 60 rfl (Env.JL rfl bb) rfl rfl (BE (b' := true) 60 rfl (Env.JL rfl bb) rfl rfl (BE (b' := true) 60 rfl (Env.JL rfl bb) rfl rfl ?_))
    refine wv (AQ (Bd rfl bb) rfl) (Df ?_)
    refine AY rfl (fun dr => ?_) (fun dr => nomatch dr)
    refine AS (Ae ?_)
    refine AA (Ak (uv (A5 rfl rfl (Es.El au bc bp)) ?_))
    refine um (Aa ?_)
    exact le (kd kr) ⟨_, ay, pre6, aw, ba, fh, aj, rfl, z7, ae, bl, hG⟩
   have fi := A1 dq bb
   refine Ce (b := false) 60 rfl (Env.J5 rfl bb) (wv (Al isAgg64 rfl (Has.frozen ab) rfl) ?_)
   refine Ce (b := false) 60 rfl (Env.J5 rfl bb) (wm (Ce (b := false) 60 rfl (Env.J5 rfl bb) ?_))
   obtain ⟨gm, fj, dt⟩ := AO fi
   refine GS rfl aa.1 rfl rfl rfl (aa.2 _ (AW.refl _) _ _ _ rfl fj) (wv (AL (A4 rfl bb) rfl) (Df ?_))
   refine AY rfl (fun cw => ?_) (fun cw => ?_)
   ·have fk := bt dt cw
    refine AS (Ae ?_)
    refine AA (Ak (uv (A5 rfl rfl (Es.El au bc bp)) ?_))
    refine um (Aa ?_)
    exact le (kd kr) ⟨_, ay, pre6, aw, ba, fk, aj, rfl, z7, ae, bl, hG⟩
   have fl := bf dt cw
   refine An (AP (um (um ?_)))
   refine uv (Al isAgg128 rfl (Has.frozen ak) rfl) (uv (AM isAgg165 sizeOf165 rfl (Has.own 0 rfl) (CE rfl) rfl) (um ?_))
   obtain ⟨n, fm, fo⟩ := AO fl
   refine cV call109 (JA af ad fm) ?_
   obtain ⟨bm, fp, bu⟩ := Tq fo
   refine On (Lb := ba) (Lr := [(dk, ce #[.int .i64 x.1, .int .i64 x.2] 165)]) (vs := [.int .i64 ((p + (x.1 * wide)) + x.2), .int .i64 n]) rfl rfl rfl (fC fP) (hy pre6 ((p + (x.1 * wide)) + x.2, n) bm (by rw [ae, bu]) _ _ hG bl) ?_
   rintro gp gq cx bw cy; obtain ⟨fq, rfl, bx, bz⟩ := KA cy
   replace hG := hG.trans bw
   refine kO (kf (fS fO) kr) (uv (CI rfl) (Aa ?_))
   refine AY rfl (fun cz => ?_) (fun cz => ?_)
   ·have da := bz (by simpa using cz)
    refine Ap (AE (Aj (Aj (AE ?_))))
    refine Kv (.inl rfl) results108 (s1 (s4 sr)) ?_
    exact .inr (by rw [List.append_nil]; exact da)
   have db := bx (by simpa using cz)
   have bg : xs = (pre6 ++ [((p + (x.1 * wide)) + x.2, n)]) ++ bm := by rw [ae, bu]; simp
   refine An (Az (id := 1) (Ak ?_))
   refine uv (A5 rfl rfl (Es.El au bc bp)) ?_
   refine um (Aa ?_)
   exact le (kd kr) ⟨_, ay, pre6 ++ [((p + (x.1 * wide)) + x.2, n)], bm, cx, fp, (aj.trans bw), rfl, z7, bg, db, hG⟩
  have fs := A1 dp ah
  refine BE (b' := false) 42 rfl (Env.J5 rfl ah) rfl rfl (BE (b' := false) 42 rfl (Env.J5 rfl ah) rfl rfl (BE (b' := false) 42 rfl (Env.J5 rfl ah) rfl rfl (BE (b' := false) 42 rfl (Env.J5 rfl ah) rfl rfl (BE (b' := false) 42 rfl (Env.J5 rfl ah) rfl rfl (BE (b' := false) 42 rfl (Env.J5 rfl ah) rfl rfl (BE (b' := false) 42 rfl (Env.J5 rfl ah) rfl rfl (BE (b' := false) 42 rfl (Env.J5 rfl ah) rfl rfl (BE (b' := false) 42 rfl (Env.J5 rfl ah) rfl rfl (BE (b' := false) 42 rfl (Env.J5 rfl ah) rfl rfl ?_)))))))))
  refine BE (b' := false) 42 rfl (Env.J5 rfl ah) rfl rfl (BE (b' := false) 42 rfl (Env.J5 rfl ah) rfl rfl (BE (b' := false) 42 rfl (Env.J5 rfl ah) rfl rfl (BE (b' := false) 42 rfl (Env.J5 rfl ah) rfl rfl (BE (b' := false) 42 rfl (Env.J5 rfl ah) rfl rfl (Ce (b := false) 38 rfl (NI rfl av) ?_)))))
  refine wv (AL (A4 rfl ah) rfl) (wv (AL (KX rfl av) rfl) ?_)
  refine wm (Ce (b := false) 60 rfl rfl ?_)
  refine wv (Al isAgg64 rfl (Has.frozen ab) rfl) ?_
  refine Ce (b := false) 60 rfl rfl (wm (Ce (b := false) 60 rfl rfl ?_))
  obtain ⟨gr, ft, du⟩ := AO fs
  refine GS rfl aa.1 rfl rfl rfl (aa.2 _ (AW.refl _) _ _ _ rfl ft) (wv (AL rfl rfl) (Df ?_))
  refine AY rfl (fun dd => ?_) (fun dd => ?_)
  ·have fv := bt du dd
   refine AS (Ae ?_)
   refine AA (Ak (uv (A5 rfl rfl (Es.El au bc bp)) ?_))
   refine um (Aa ?_)
   exact le (kd kr) ⟨_, ay, pre6, aw, ba, fv, aj, rfl, z7, ae, bl, hG⟩
  have fw := bf du dd
  refine An (AP (um (um ?_)))
  refine uv (Al isAgg128 rfl (Has.frozen ak) rfl) (uv (AM isAgg165 sizeOf165 rfl (Has.own 0 rfl) (CE rfl) rfl) (um ?_))
  obtain ⟨n2, fx, fy⟩ := AO fw
  refine cV call109 (JA af ad fx) ?_
  obtain ⟨bn, ga, ca⟩ := Tq fy
  refine On (Lb := ba) (Lr := [(dk, ce #[.int .i64 x.1, .int .i64 x.2] 165)]) (vs := [.int .i64 ((p + (x.1 * wide)) + x.2), .int .i64 n2]) rfl rfl rfl (fC fP) (hy pre6 ((p + (x.1 * wide)) + x.2, n2) bn (by rw [ae, ca]) _ _ hG bl) ?_
  rintro gu gv de cb df; obtain ⟨gb, rfl, cc, cd⟩ := KA df
  replace hG := hG.trans cb
  refine kO (kf (fS fO) kr) (uv (CI rfl) (Aa ?_))
  refine AY rfl (fun dg => ?_) (fun dg => ?_)
  ·have dh := cd (by simpa using dg)
   refine Ap (AE (Aj (Aj (AE ?_))))
   refine Kv (.inl rfl) results108 (s1 (s4 sr)) ?_
   exact .inr (by rw [List.append_nil]; exact dh)
  have cf := cc (by simpa using dg)
  have az : xs = (pre6 ++ [((p + (x.1 * wide)) + x.2, n2)]) ++ bn := by rw [ae, ca]; simp
  refine An (Az (id := 1) (Ak ?_))
  refine uv (A5 rfl rfl (Es.El au bc bp)) ?_
  refine um (Aa ?_)
  exact le (kd kr) ⟨_, ay, pre6 ++ [((p + (x.1 * wide)) + x.2, n2)], bn, de, ga, (aj.trans cb), rfl, z7, az, cf, hG⟩
 obtain rfl := Es.zero au bc
 rw [BQ] at cj
 refine AS (Ae (Ae ?_))
 refine AA (Kv (.inr rfl) results108 (sr) ?_)
 obtain rfl := AR cj
 exact .inl (by have e1 := ae; rw [List.append_nil] at e1; rw [List.append_nil, e1]; exact bl)
set_option maxHeartbeats 1000000 in
theorem ND (ab : F Of = some (.cells #[.int .i64 wide, .slice Bb plots.length Bc, .int .i64 down, .int .i64 BL, .bool De] 167 Uq)) (aa : AF 1 (iE .i64) F Bb Bc plots) {r : List (Int × Int)} (hr : GC wide plots down BL De p = some r) :
    SH.Spec Tryz.prog 94 #[.pointer (some ⟨Of, 0, none⟩), .int .i64 p] F [] fun F' L' v => ∃ (al : Array Value), v = .func (.func 108) #[] al ∧ L' = [] ∧ G7 Tryz.prog 108 #[] al F' (fun x : Int × Int => #[.int .i64 x.1, .int .i64 x.2]) r := by
 refine sp func94 ntmps94 fun K _ _ => ?_
 rw [GC] at hr
 refine AP ?_
 refine BK rfl rfl ?_; intro b1 au
 refine BK rfl rfl ?_; intro b2 av
 refine ua (Cj ?_)
 refine uv (Al isAgg128 rfl (Has.own 1 rfl) rfl) (uv (AU rfl) (uv (Ad Hg rfl) (uv (AM isAgg27 sizeOf27 rfl (Has.frozen ab) (CE rfl) rfl) (uv (DO rfl rfl) ?_))))
 refine Br rfl zeroValue64 ?_; intro b3 aw
 refine CS (i := 0) sizeOf64 rfl rfl rfl rfl (CE rfl) (AK rfl (Cj (uv (DO rfl rfl) ?_)))
 refine ua (Aa ?_)
 refine DL 1 rfl av ?_; intro F4 ao ae
 refine Gv (L' := [(b3, ce (#[.func (.func 107) #[.agg #[.int .i64 wide, .slice Bb plots.length Bc]] #[]]) 64), (b1, ce #[.pointer (some ⟨Of, 0, none⟩)] 128)]) rfl ?_
 replace aa := aa.mono (Ab _) ao
 replace ab := ao _ _ ab
 refine DL 1 rfl au ?_; intro F7 ah ai
 refine Gv (L' := [(b3, ce (#[.func (.func 107) #[.agg #[.int .i64 wide, .slice Bb plots.length Bc]] #[]]) 64)]) rfl ?_
 replace aa := aa.mono (Ab _) ah
 replace ab := ah _ _ ab
 replace ae := ah _ _ ae
 refine DL 0 rfl aw ?_; intro aq ad aj
 refine Gv (L' := []) rfl ?_
 replace aa := aa.mono (Ab _) ad
 replace ab := ad _ _ ab
 replace ae := ad _ _ ae
 replace ai := ad _ _ ai
 have ak : KM Tryz.prog aq 107 #[.agg #[.int .i64 wide, .slice Bb plots.length Bc]] #[] (iE .i64) Value.bool (fun ar : Int => E4 wide plots ar) := ⟨call107, fun F2 h2 vs ar r ha hr => by obtain rfl := ha; exact NA (aa.mono (Ab _) h2) hr⟩
 obtain ⟨l, ax, ay⟩ := AO hr
 have af : G7 Tryz.prog 108 #[] #[.pointer (some ⟨b2, 0, none⟩), .pointer (some ⟨b1, 0, none⟩), .pointer (some ⟨b3, 0, none⟩)] aq (fun x : Int × Int => #[.int .i64 x.1, .int .i64 x.2]) l := Ml ae ai ab aa aj ak ax
 refine Ap (C9 results94 ?_)
 obtain rfl := AR ay
 exact ⟨_, rfl, rfl, af⟩
set_option maxHeartbeats 1000000 in
theorem JO (az : F Of = some (.cells #[.int .i64 wide, .slice Bb plots.length Bc, .int .i64 down, .int .i64 BL, .bool De] 167 Uq)) (al : AF 1 (iE .i64) F Bb Bc plots) {r : List Int} (hr : FE wide plots down BL De stand = some r) :
    SH.Spec Tryz.prog 69 #[.pointer (some ⟨Of, 0, none⟩), .int .i64 stand] F [] fun F' L' v => ∃ (ra : Option Addr) (rn : Nat) (rc : Nat) (rL : LH), v = .slice ra rn rc ∧ L' = rL ++ [] ∧ AT 0 3 1 (iE .i64) F' ra rn rc r rL := by
 refine sp func69 ntmps69 fun K _ _ => ?_
 rw [FE] at hr
 refine AP (ua (Cj (um ?_)))
 refine uv (AU rfl) (uv (Ad Hg rfl) (uv (Ad Em rfl) (uv (Al isAgg25 rfl (Has.frozen az) rfl) (uv (A3 underlying25 rfl) ?_))))
 obtain ⟨g1, r2⟩ := AV hr
 obtain ⟨l, h3, r4⟩ := CT r2
 refine Ob (R := (iE .i64)) (z0 := 0) (zs := l) rfl BX (by decide) (Ab _) (fun _ => rfl) rfl g1 h3 (fun _ => .n) ?_; intro a5 n8 kl j7
 refine Br rfl zeroValue33 ?_; intro HI km
 refine CS (i := 0) sizeOf33 rfl rfl rfl rfl (CE rfl) (AK rfl (Aa ?_))
 obtain ⟨out, ko, j8⟩ := AO r4
 refine AX (fun e1 F1 L1 => ∃ (ba : LH), F = F1 ∧ L1 = ((HI, ce #[.slice a5 n8 n8] 33) :: (ba ++ [])) ∧ e1.sub [(0, .pointer (some ⟨Of, 0, none⟩)), (1, .int .i64 stand), (5, .pointer (some ⟨HI, 0, none⟩))] ∧ AT K.w0.heap.size 3 1 (iE .i64) F1 a5 n8 n8 out ba) ?_ ?_
 ·clear j8
  refine AP (uv (Al isAgg33 rfl (Has.own 0 rfl) rfl) (uv ((A3 underlying33 rfl).i (AT.Hc j7)) ?_))
  refine um (Aa ?_)
  refine Am ?_
  obtain ⟨kt, ku⟩ := AV ko
  refine Bg (fun et e1 F1 L1 => ∃ (k : Int), Es 0 (l.length : Int) k et ∧ ∃ (bu : List Int) (aw : LH), Dy et k bu = some out ∧ F = F1 ∧ L1 = ((HI, ce #[.slice a5 n8 n8] 33) :: (aw ++ [])) ∧ e1.sub [(0, .pointer (some ⟨Of, 0, none⟩)), (1, .int .i64 stand), (5, .pointer (some ⟨HI, 0, none⟩)), (19, .int .i64 (l.length : Int)), (20, .int .i64 k)] ∧ AT K.w0.heap.size 3 1 (iE .i64) F1 a5 n8 n8 bu aw) _ (m0 kr ⟨_, Es.start _ _, l, kl, ku, rfl, rfl, z5, j7⟩) ?_
  rintro et e1 _ _ ⟨k, bw, bu, aw, eu, rfl, rfl, ff, bb⟩
  refine AD _ ff (AP (uv (A8 rfl rfl) ?_))
  refine Aa (Aq ?_)
  refine cQ (fun ew => ?_) fun ew => ?_
  ·obtain ⟨et, rfl, fg⟩ := Es.succ bw ew
   rw [Dy] at eu
   refine An (Aq ?_)
   refine Am ?_
   refine AP (um (ua (Aa (Ak ?_))))
   refine uv (Al isAgg33 rfl (Has.own 0 rfl) rfl) (um ?_)
   obtain ⟨x, fh, fi, kv⟩ := BH eu
   obtain ⟨nr, nt, nu, kz, cu, l0, j9, rfl, la, ld⟩ := AT.at (Ab _) bb (L := (HI, ce #[.slice a5 n8 n8] 33) :: (aw ++ [])) (fC fP) fh.1 fi
   refine uv (AI underlying33 sizeOf3 rfl cu rfl (AT.idx bb fh)) ?_
   obtain ⟨fj, lg, lh⟩ := CT kv
   refine E5 (u := -1) sizeOf3 (Ab _) rfl cu rfl rfl (fun _ => .c .h) bb lg fh ?_; intro fk fl
   refine Aa (Az (id := 1) (Ak ?_))
   refine uv (A5 rfl rfl (Es.El bw ew kt)) ?_
   refine um (Aa ?_)
   exact le kr ⟨_, fg, fj, fk, lh, rfl, rfl, z5, fl⟩
  obtain rfl := Es.zero bw ew
  rw [Dy] at eu
  refine AS (Ae (Ae ?_))
  refine AA ?_
  obtain rfl := AR eu
  exact mi kr ⟨aw, rfl, rfl, z3, bb⟩
 rintro e1 _ _ ⟨ba, rfl, rfl, fm, bx⟩
 refine AD _ fm (AP (uv (Al isAgg33 rfl (Has.own 0 rfl) rfl) (um ?_)))
 obtain ⟨x2, fo, fp, lj⟩ := BH j8
 obtain ⟨nv, nw, ny, lk, cv, ll, ja, rfl, lq, lr⟩ := AT.at (Ab _) bx (L := (HI, ce #[.slice a5 n8 n8] 33) :: (ba ++ [])) (fC fP) fo.1 fp
 refine uv (AI underlying33 sizeOf3 rfl cv rfl (AT.idx bx fo)) ?_
 obtain ⟨fq, lu, lv⟩ := CT lj
 refine E5 (u := 0) sizeOf3 (Ab _) rfl cv rfl rfl (fun _ => .c .h) bx lu fo ?_; intro bz fs
 refine Cj (um ?_)
 refine bA (cs := #[.int .i64 stand]) BX [.int .i64 stand] ?_; intro ey ft
 refine Br rfl zeroValue33 ?_; intro au lx
 have cw : AT K.w0.heap.size 3 1 (iE .i64) F (some ⟨ey, 0, none⟩) 1 1 [stand] [(ey, ce #[.int .i64 stand] 3)] := AT.CV (vss := [[.int .i64 stand]]) (Ab _) ft (.cons rfl .nil) rfl rfl (by simp [maxLen])
 generalize ca : ([(ey, ce #[.int .i64 stand] 3)] : LH) = cb at cw
 refine Dl (L' := cb ++ ((au, ce #[.slice none 0 0] 33) :: ((HI, ce #[.slice a5 n8 n8] 33) :: (bz ++ [])))) (by rw [← ca]; exact (fC fO)) ?_
 refine Dl (L' := (au, ce #[.slice none 0 0] 33) :: ((HI, ce #[.slice a5 n8 n8] 33) :: (cb ++ (bz ++ [])))) (List.Perm.symm (fC (fC fP))) (CS (i := 0) sizeOf33 rfl rfl rfl rfl (CE rfl) (AK rfl (Aa ?_)))
 obtain ⟨cc, ly, jb⟩ := AO lv
 refine AX (fun e1 F1 L1 => ∃ (cd : LH), AW F F1 ∧ L1 = ((HI, ce #[.slice a5 n8 n8] 33) :: (cd ++ [])) ∧ e1.sub [(5, .pointer (some ⟨HI, 0, none⟩))] ∧ AT K.w0.heap.size 3 1 (iE .i64) F1 a5 n8 n8 cc cd) ?_ ?_
 ·clear jb
  refine Am ?_
  refine Bg (fun cx e1 F1 L1 => ∃ (bc : List Int) (line : List Int) (av : LH) (fa : Option Addr) (fb : Nat) (fe : Nat) (bg : LH), Dx wide plots down BL De cx bc line = some cc ∧ AW F F1 ∧ L1 = ((au, ce #[.slice fa fb fe] 33) :: ((HI, ce #[.slice a5 n8 n8] 33) :: (av ++ (bg ++ [])))) ∧ e1.sub [(0, .pointer (some ⟨Of, 0, none⟩)), (5, .pointer (some ⟨HI, 0, none⟩)), (7, .pointer (some ⟨au, 0, none⟩))] ∧ AT K.w0.heap.size 3 1 (iE .i64) F1 a5 n8 n8 bc av ∧ AT K.w0.heap.size 3 1 (iE .i64) F1 fa fb fe line bg) FU (m0 (kc (kc (kg (fS fP) kr))) ⟨fq, [stand], bz, (some ⟨ey, 0, none⟩), 1, 1, cb, ly, AW.refl _, rfl, z3, fs, cw⟩) ?_
  rintro cx e1 nz _ ⟨bc, line, av, fa, fb, fe, bg, cy, bh, rfl, fv, bj, bk⟩
  refine AD _ fv ?_
  replace al := al.mono (Ab _) bh
  replace az := bh _ _ az
  rcases cx with _ | cx
  ·rw [Dx] at cy; cases cy
  rw [Dx] at cy
  refine Aq (AP ?_)
  refine uv (Al isAgg33 rfl (Has.own 0 rfl) rfl) (uv ((A3 underlying33 rfl).i (AT.Hc bk)) (uv (IF rfl rfl) (Aa ?_)))
  refine cQ (fun fw => ?_) fun fw => ?_
  ·have ma := A2 cy fw
   refine An (Am (AP (uv (Al isAgg33 rfl (Has.own 0 rfl) rfl) ?_)))
   obtain ⟨x3, jc, fx, mb⟩ := BH ma
   obtain ⟨o3, o7, o8, mc, fy, ga, jd, rfl, me, gb⟩ := AT.at (Ab _) bk (L := (au, ce #[.slice fa fb fe] 33) :: ((HI, ce #[.slice a5 n8 n8] 33) :: (av ++ (bg ++ [])))) (fC (fC (fS fP))) jc.1 fx
   refine uv (AI underlying33 sizeOf3 rfl fy rfl (AT.idx bk jc)) (uv (Al isAgg3 rfl ga (gb 0 (by decide))) ?_)
   refine Br rfl zeroValue3 ?_; intro ay mg
   refine CS (i := 0) sizeOf3 rfl rfl rfl rfl (CE rfl) (AK rfl (Cj (uv (Al isAgg33 rfl (Has.own 1 rfl) rfl) ?_)))
   obtain ⟨mh, mj⟩ := AV mb
   obtain ⟨bm, ml, gg⟩ := CT mj
   refine OP (l := 1) (h := (line.length : Int)) (zs := bm) rfl BX (Ab _) rfl (.inr ⟨_, rfl, rfl⟩) (.inl ⟨rfl, rfl⟩) (fun _ => .c (.c (.c (.s .h)))) bk mh ml ?_; intro gh gk gl cz cf
   refine CS (i := 1) sizeOf33 rfl rfl rfl rfl (CE rfl) (AK rfl ?_)
   refine Cj (um ?_)
   refine uv (Al isAgg3 rfl (Has.own 0 rfl) rfl) ?_
   obtain ⟨y, gm, gp⟩ := AO gg
   refine c0 call94 (ND az al gm) ?_; rintro _ mo _ ax je ⟨jf, rfl, rfl, cg⟩
   replace bj := bj.mono (Ab _) ax
   replace cf := cf.mono (Ab _) ax
   refine AK (ln rfl) (Aa (Am ?_))
   refine JK (encs := (fun x : Int × Int => #[.int .i64 x.1, .int .i64 x.2])) (xs := y) rfl call108 rfl (fun _ => rfl) cg (fun pre F1 L1 => ∃ (tl : List (Int × Int)) (ao : List Int) (af : List Int) (ab : LH) (ah : Option Addr) (ai : Nat) (aj : Nat) (ae : LH), y = pre ++ tl ∧ Cy x3 (Dx wide plots down BL De cx) tl ao af = some cc ∧ L1 = ((ay, ce #[.int .i64 x3] 3) :: ((au, ce #[.slice ah ai aj] 33) :: ((HI, ce #[.slice a5 n8 n8] 33) :: (ab ++ (ae ++ []))))) ∧ AT K.w0.heap.size 3 1 (iE .i64) F1 a5 n8 n8 ao ab ∧ AT K.w0.heap.size 3 1 (iE .i64) F1 ah ai aj af ae) (fun _ _ _ => False) ?_ ?_ ?_ ?_ ?_ ?_
   ·rintro pre F1 F2 L1 ⟨tl, ao, af, ab, ah, ai, aj, ae, aq, gq, rfl, ad, ak⟩ hx; exact ⟨tl, ao, af, ab, ah, ai, aj, ae, aq, gq, rfl, ad.mono (Ab _) hx, ak.mono (Ab _) hx⟩
   ·intro c F1 F2 L1 h hx; exact h
   ·exact ⟨_, bc, bm, av, gh, gk, gl, cz, rfl, gp, rfl, bj, cf⟩
   ·rintro mq jg jh ji jj jk cj jl pre x4 o9 ar mr _ jm ⟨tl, ao, af, ab, ah, ai, aj, ae, aq, da, rfl, ad, ak⟩
    obtain rfl := Np aq ar
    rw [Cy] at da
    refine AD [(0, .pointer (some ⟨Of, 0, none⟩)), (5, .pointer (some ⟨HI, 0, none⟩)), (7, .pointer (some ⟨au, 0, none⟩)), (8, .pointer (some ⟨ay, 0, none⟩)), (43, .int .i64 x4.1), (44, .int .i64 x4.2)] (by exact z6) ?_
    refine AP (ua (Aa (Ak (ua (Aa ?_)))))
    refine ⟨rfl, ?_⟩
    refine Am ?_
    obtain ⟨k2, gr, cn⟩ := AO da
    refine jE (((ay, ce #[.int .i64 x3] 3) :: ((au, ce #[.slice ah ai aj] 33) :: ((HI, ce #[.slice a5 n8 n8] 33) :: (ab ++ (ae ++ [])))))) [(0, .pointer (some ⟨Of, 0, none⟩)), (5, .pointer (some ⟨HI, 0, none⟩)), (7, .pointer (some ⟨au, 0, none⟩)), (8, .pointer (some ⟨ay, 0, none⟩)), (9, .int .i64 x4.1), (10, .int .i64 x4.2), (43, .int .i64 x4.1), (44, .int .i64 x4.2), (62, .bool k2)] ?_ ?_
    ·clear cn
     refine Pw (by kernel_rfl) (by kernel_rfl) (by kernel_rfl) (wv (Al isAgg33 rfl (Has.own 2 rfl) rfl) (wm ?_))
     obtain ⟨x5, bl, bn, db⟩ := BH gr
     obtain ⟨mv, mw, mx, jn, dd, de, gu, rfl, jo, df⟩ := AT.at (Ab _) ad (L := (ay, ce #[.int .i64 x3] 3) :: ((au, ce #[.slice ah ai aj] 33) :: ((HI, ce #[.slice a5 n8 n8] 33) :: (ab ++ (ae ++ []))))) (fC (fC (fC fP))) bl.1 bn
     refine wv (AI underlying33 sizeOf3 rfl dd rfl (AT.idx ad bl)) (wv (Al isAgg3 rfl de (df 0 (by decide))) (wv (DY rfl rfl) (wm ?_)))
     by_cases aa : x5 = (-1)
     ·have gv := A2 db aa
      refine BE (b' := true) 50 rfl (Env.JL rfl aa) rfl rfl (BE (b' := true) 50 rfl (Env.JL rfl aa) rfl rfl (BE (b' := true) 50 rfl (Env.JL rfl aa) rfl rfl (BE (b' := true) 50 rfl (Env.JL rfl aa) rfl rfl (BE (b' := true) 50 rfl (Env.JL rfl aa) rfl rfl (BE (b' := true) 50 rfl (Env.JL rfl aa) rfl rfl (BE (b' := true) 50 rfl (Env.JL rfl aa) rfl rfl (BE (b' := true) 50 rfl (Env.JL rfl aa) rfl rfl (BE (b' := true) 50 rfl (Env.JL rfl aa) rfl rfl (BE (b' := true) 50 rfl (Env.JL rfl aa) rfl rfl ?_)))))))))
      refine BE (b' := true) 50 rfl (Env.JL rfl aa) rfl rfl (wv (AQ (Bd rfl aa) rfl) (Df ?_))
      obtain rfl := AR gv
      exact mi kr ⟨rfl, rfl, (sc rfl z8)⟩
     have gw := A1 db aa
     refine Ce (b := false) 50 rfl (Env.J5 rfl aa) (wv (Al isAgg33 rfl (Has.own 2 rfl) rfl) (Ce (b := false) 50 rfl (Env.J5 rfl aa) (wv (Al isAgg3 rfl (Has.own 0 rfl) rfl) (Ce (b := false) 50 rfl (Env.J5 rfl aa) ?_))))
     obtain ⟨x6, dg, dh, gz⟩ := BH gw
     obtain ⟨my, mz, na, jq, di, dk, ia, rfl, jr, dm⟩ := AT.at (Ab _) ad (L := (ay, ce #[.int .i64 x3] 3) :: ((au, ce #[.slice ah ai aj] 33) :: ((HI, ce #[.slice a5 n8 n8] 33) :: (ab ++ (ae ++ []))))) (fC (fC (fC fP))) dg.1 dh
     refine wv (AI underlying33 sizeOf3 rfl di rfl (AT.idx ad dg)) (Ce (b := false) 50 rfl (Env.J5 rfl aa) (wv (Al isAgg3 rfl dk (dm 0 (by decide))) ?_))
     refine Ce (b := false) 50 rfl (Env.J5 rfl aa) (wm (Ce (b := false) 50 rfl (Env.J5 rfl aa) ?_))
     obtain ⟨ib, ic⟩ := AV gz
     refine wv (A5 rfl rfl ib) (Ce (b := false) 50 rfl (Env.J5 rfl aa) (wv (Al isAgg33 rfl (Has.own 2 rfl) rfl) ?_))
     refine Ce (b := false) 50 rfl (Env.J5 rfl aa) (wm (Ce (b := false) 50 rfl (Env.J5 rfl aa) ?_))
     obtain ⟨nc, nf, ng, js, dn, dp, ie, rfl, jt, dq⟩ := AT.at (Ab _) ad (L := (ay, ce #[.int .i64 x3] 3) :: ((au, ce #[.slice ah ai aj] 33) :: ((HI, ce #[.slice a5 n8 n8] 33) :: (ab ++ (ae ++ []))))) (fC (fC (fC fP))) bl.1 bn
     refine wv (AI underlying33 sizeOf3 rfl dn rfl (AT.idx ad bl)) (Ce (b := false) 50 rfl (Env.J5 rfl aa) (wv (Al isAgg3 rfl dp (dq 0 (by decide))) (Ce (b := false) 50 rfl (Env.J5 rfl aa) (wv (A8 rfl rfl) (wv (AL (A4 rfl aa) rfl) (Df ?_))))))
     obtain rfl := AR ic
     exact mi kr ⟨rfl, rfl, (sc rfl z8)⟩
    refine AY rfl (fun cp => ?_) (fun cp => ?_)
    ·have ig := bt cn cp
     refine Aq (C5 [(.still, 0), (.still, 1), (.still, 2), (.still, 3), (.still, 4), (.still, 5), (.still, 6), (.still, 7), (.still, 8), (.seq, 9)] (by kernel_rfl) (by kernel_rfl) (trivial) (by rfl) (by kernel_rfl) (mL [5] ([(HI, ce #[.slice a5 n8 n8] 33)]) rfl (s0 (s1 (s1 (s2 (s3 (s3 sr)))))) (fun H F' L' cq cr => Al isAgg33 rfl ((Has.own 0 rfl).ext cq cr) rfl) (mS [9] rfl (Be rfl) (mL [5] ([(HI, ce #[.slice a5 n8 n8] 33)]) rfl (s0 (s1 (s1 (s2 (s3 (s3 sr)))))) (fun H F' L' cq cr => Al isAgg33 rfl ((Has.own 0 rfl).ext cq cr) rfl) (mL [8] ([(ay, ce #[.int .i64 x3] 3)]) rfl (s0 (s2 (s1 (s1 (s3 (s3 sr)))))) (fun H F' L' cq cr => Al isAgg3 rfl ((Has.own 0 rfl).ext cq cr) rfl) ?_)))))
     obtain ⟨x7, dr, dt, ij⟩ := BH ig
     obtain ⟨nh, ni, nj, ju, du, dv, ik, rfl, jv, dw⟩ := AT.at (Ab _) ad (L := ab ++ []) fP dr.1 dt
     refine mS [65, 66] rfl (AI underlying33 sizeOf3 rfl du rfl (AT.idx ad dr)) (mL [67] (ab ++ []) rfl (s0 (s1 (s1 (s1 (s4 (s3 sr)))))) (fun H F' L' cq cr => Al isAgg3 rfl (dv.ext cq cr) (dw 0 (by decide))) (mS [10] rfl (Be rfl) ?_))
     obtain ⟨il, im⟩ := AV ij
     refine mS (v := .int .i64 (x7 + x4.2)) [68, 69] rfl (A5 rfl rfl il) ?_
     obtain ⟨x8, ct, dx, iq⟩ := BH im
     obtain ⟨ir, iu, nk, jw, bo, jx, iv, rfl, jz, kb⟩ := AT.at (Ab _) ad (L := ab ++ []) fP ct.1 dx
     refine mS [63, 64] rfl (AI underlying33 sizeOf3 rfl bo rfl (AT.idx ad ct)) ?_
     refine ⟨_, [(70, .int .i64 (x7 + x4.2)), (71, .pointer (some ⟨ir, iu + (x4.1 : Int).toNat * 1, none⟩))], rfl, rfl, z2, by kernel_rfl, ?_⟩; intro H
     obtain ⟨l2, iw, iy⟩ := CT iq
     refine E5 (u := x7 + x4.2) sizeOf3 (Ab _) rfl bo rfl rfl (fun _ => .c (.c (.c .h))) ad iw ct ?_; intro bp dy
     refine Aa ⟨undef, rfl, AW.refl _, [], by kernel_rfl, .inl (.inl rfl), nm, ?_⟩
     refine Ef (Ak (uv (Al isAgg33 rfl (Has.own 1 rfl) rfl) (um ?_)))
     refine bA (cs := #[.int .i64 x4.1]) BX [.int .i64 x4.1] ?_; intro nn kh
     obtain ⟨bq, iz, j0, j3⟩ := FQ iy
     refine EA (xs := af) (ys := [x4.1]) (zs := bq) rfl BX rfl rfl cj (fun _ => .c (.c (.c (.c (.s .h))))) ak (Gk.box (vss := [[.int .i64 x4.1]]) (ys := [x4.1]) 0 rfl (Ab _) (.cons rfl .nil) rfl rfl) iz j0 (by decide) ?_; intro dz e9 eg br eh
     refine kO (kd kr) (CS (i := 1) sizeOf33 rfl rfl rfl rfl (CE rfl) (AK rfl ?_))
     refine Aa (Az (id := 5) ?_)
     refine ⟨(ay, ce #[.int .i64 x3] 3) :: ((au, ce #[.slice dz e9 eg] 33) :: ((HI, ce #[.slice a5 n8 n8] 33) :: (bp ++ (br ++ [])))), ⟨_, .refl _, sr⟩, ?_⟩; exact ⟨_, l2, bq, bp, dz, e9, eg, br, (by rw [ar]; simp), j3, rfl, dy, eh⟩
    have j4 := bf cn cp
    refine An (Az (id := 5) ?_)
    refine ⟨(ay, ce #[.int .i64 x3] 3) :: ((au, ce #[.slice ah ai aj] 33) :: ((HI, ce #[.slice a5 n8 n8] 33) :: (ab ++ (ae ++ [])))), ⟨_, .refl _, sr⟩, ?_⟩; exact ⟨_, ao, af, ab, ah, ai, aj, ae, (by rw [ar]; simp), j4, rfl, ad, ak⟩
   ·rintro np _ ej ⟨tl, ao, af, ab, ah, ai, aj, ae, aq, eo, rfl, ad, ak⟩
    obtain rfl := Pn aq; rw [Cy] at eo
    refine Az (id := 4) (Az (id := 3) ?_)
    exact le (kd kr) ⟨ao, af, ab, ah, ai, aj, ae, eo, ((bh.trans ax).trans ej), rfl, z3, ad, ak⟩
   intro c F1 L1 hx h; exact h.elim
  have j5 := A1 cy fw
  refine AS (Ae (Ae ?_))
  refine AA ?_
  obtain rfl := AR j5
  exact mi (kd (kc (ka kn))) ⟨av, bh, rfl, z1, bj⟩
 rintro e1 nq _ ⟨cd, kj, rfl, er, j6⟩
 refine AD _ er (AP (uv (Al isAgg33 rfl (Has.own 0 rfl) rfl) ?_))
 refine ua (Aa ?_)
 refine kW (kd kr) (Ap (C9 results69 ?_))
 obtain rfl := AR jb
 exact ⟨_, _, _, _, rfl, rfl, j6.any⟩
theorem Qv (aa : AF 1 (iE .i64) F Bb Bc plots) {r : List Int} (hr : Jo wide plots DI stand = some (r, r2)) :
    SH.Spec Tryz.prog 33 #[.agg #[.int .i64 wide, .slice Bb plots.length Bc], .int .i64 DI, .int .i64 stand] F [] fun F' L' v => ∃ (ra : Option Addr) (rn : Nat) (rc : Nat) (rL : LH), v = .tuple #[.slice ra rn rc, .int .i64 r2] ∧ L' = rL ++ [] ∧ AT 0 3 1 (iE .i64) F' ra rn rc r rL := by
 refine sp func33 ntmps33 fun K _ _ => ?_
 rw [Jo] at hr
 refine AP ?_
 refine BK rfl rfl ?_; intro b1 bh
 refine ua (ua (Cj ?_))
 refine uv (AM isAgg27 sizeOf27 rfl (Has.own 0 rfl) (CE rfl) rfl) ?_
 refine um (um ?_)
 obtain ⟨d, n, h2, r3⟩ := CQ hr
 refine c0 call68 (N3 aa h2) ?_; rintro _ F4 _ bj bk ⟨v8, rfl, rfl, al⟩
 refine AK (ln rfl) ?_
 refine um (ox rfl rfl rfl (ox rfl rfl rfl (ua (ua (Aa (Aq (AP (um ?_))))))))
 refine uv (B6 rfl rfl) (Aa ?_)
 refine cQ (fun ah => ?_) fun ah => ?_
 ·have ao := A2 r3 ah
  refine AP (um (ua (ua (Aa ?_))))
  refine kW kn ?_
  refine Ap (Aj ?_)
  refine BU results33 (AH rfl) (AH rfl) (sr) ?_
  obtain ⟨rfl, rfl⟩ := CP ao
  exact ⟨_, _, _, [], rfl, rfl, AT.nil _ _ _ _ _⟩
 have aq := A1 r3 ah
 refine An (AP (um (um ?_)))
 obtain ⟨af, ab, down, BL, De, ar, au⟩ := MY aq
 have ak := al; rw [ar] at ak; obtain ⟨av, bl, aw, ai, ad, ⟨_, _, rfl, rfl, ⟨_, _, rfl, ⟨ax, ay, rfl, az⟩, ⟨_, _, rfl, rfl, ⟨_, _, rfl, rfl, rfl⟩⟩⟩⟩⟩ := ak; subst ai
 have ad : F4 av = some (.cells #[.int .i64 af, .slice ax ab.length ay, .int .i64 down, .int .i64 BL, .bool De] 167 aw) := ad
 obtain ⟨l, ba, bb⟩ := AO au
 refine c0 call69 (JO ad az ba) ?_; rintro _ bm _ bc aj ⟨bn, bo, bp, bg, rfl, rfl, ae⟩
 replace ae := ae.new fun p hp => aj p (by simp [hp])
 refine AK (lp (ln rfl)) (kO (kf (fS fO) kr) ?_)
 refine ua (ua (Aa ?_))
 refine kW (kd kr) (Ap (BU results33 (AH rfl) (AH rfl) (sr) ?_))
 obtain ⟨rfl, rfl⟩ := CP bb
 exact ⟨_, _, _, _, rfl, rfl, ae.any⟩
set_option maxHeartbeats 1000000 in
theorem PN (aa : AF 1 (iE .i64) F Bb Bc plots) {r : List Int} (hr : Iw wide plots DI Cf stand = some (r, r2)) :
    SH.Spec Tryz.prog 8 #[.agg #[.int .i64 wide, .slice Bb plots.length Bc], .agg #[.int .i64 DI, .int .i64 Cf], .int .i64 stand] F [] fun F' L' v => ∃ (ra : Option Addr) (rn : Nat) (rc : Nat) (rL : LH), v = .tuple #[.slice ra rn rc, .int .i64 r2] ∧ L' = rL ++ [] ∧ AT 0 3 1 (iE .i64) F' ra rn rc r rL := by
 refine sp func8 ntmps8 fun K _ _ => ?_
 rw [Iw] at hr
 refine AP ?_
 refine BK rfl rfl ?_; intro b1 dy
 refine BK rfl rfl ?_; intro b2 dz
 refine ua (ua (Aa (Aq (AP ?_))))
 refine uv (AM isAgg27 sizeOf27 rfl (Has.own 1 rfl) (CE rfl) rfl) ?_
 obtain ⟨n, h3, r4⟩ := AO hr
 refine cV call31 (Kl aa h3) ?_
 refine ua (Cj (um ?_))
 refine uv (B6 rfl rfl) (Aa ?_)
 refine cQ (fun c5 => ?_) fun c5 => ?_
 ·have r6 := A2 r4 c5
  refine AP (um (ua (ua (Aa ?_))))
  refine kW kn ?_
  refine Ap (Aj ?_)
  refine BU results8 (AH rfl) (AH rfl) (sr) ?_
  obtain ⟨rfl, rfl⟩ := CP r6
  exact ⟨_, _, _, [], rfl, rfl, AT.nil _ _ _ _ _⟩
 have r7 := A1 r4 c5
 refine An (Aq (AP ?_))
 refine uv (AM isAgg31 sizeOf31 rfl (Has.own 0 rfl) (CE rfl) rfl) ?_
 obtain ⟨n2, h8, r9⟩ := AO r7
 refine cV call32 (KI h8) ?_
 refine ua (Cj (um ?_))
 refine uv (B6 rfl rfl) (Aa ?_)
 refine cQ (fun ay => ?_) fun ay => ?_
 ·have cv := A2 r9 ay
  refine AP (um (ua (ua (Aa ?_))))
  refine kW kn ?_
  refine Ap (Aj ?_)
  refine BU results8 (AH rfl) (AH rfl) (sr) ?_
  obtain ⟨rfl, rfl⟩ := CP cv
  exact ⟨_, _, _, [], rfl, rfl, AT.nil _ _ _ _ _⟩
 have cw := A1 r9 ay
 refine An (AP ?_)
 refine uv (AM isAgg27 sizeOf27 rfl (Has.own 1 rfl) (CE rfl) rfl) (uv (Ad QD rfl) (uv (Al isAgg29 rfl (Has.own 0 rfl) rfl) (um ?_)))
 obtain ⟨l, n3, cx, cc⟩ := CQ cw
 refine c0 call33 (Qv aa cx) ?_; rintro _ cd _ az ba ⟨cf, cg, cj, ah, rfl, rfl, ad⟩
 replace aa := aa.mono (Ab _) az
 replace ad := ad.new fun p hp => ba p (by simp [hp])
 refine AK (lp (ln rfl)) (kO (kf (fS fO) (kf (fS fO) kr)) ?_)
 refine um (ox rfl rfl rfl (ox rfl rfl rfl (ua (ua (Aa (Aq (AP (um ?_))))))))
 refine uv (B6 rfl rfl) (Aa ?_)
 refine cQ (fun bb => ?_) fun bb => ?_
 ·have cy := A2 cc bb
  refine AP (um (ua (ua (Aa ?_))))
  refine kW kn ?_
  refine Ap (Aj ?_)
  refine BU results8 (AH rfl) (AH rfl) (sr) ?_
  obtain ⟨rfl, rfl⟩ := CP cy
  exact ⟨_, _, _, [], rfl, rfl, AT.nil _ _ _ _ _⟩
 have cz := A1 cc bb
 refine An (AP (ua (Aa ?_)))
 obtain ⟨out, da, cn⟩ := AO cz
 refine AX (fun e1 F1 L1 => ∃ (bc : Option Addr) (bg : Nat) (bh : Nat) (aj : LH), cd = F1 ∧ L1 = (aj ++ []) ∧ e1.sub [(12, .slice bc bg bh)] ∧ AT K.w0.heap.size 3 1 (iE .i64) F1 bc bg bh out aj) ?_ ?_
 ·clear cn
  refine AP (um ?_)
  refine uv ((A3 underlying33 rfl).i (AT.Hc ad)) ?_
  refine um (Aa ?_)
  refine Am ?_
  refine Bg (fun cp e1 F1 L1 => LA l cp fun tl k => ∃ (af : List Int) (al : Option Addr) (ao : Nat) (aq : Nat) (ab : LH), D6 plots Cf tl k af = some out ∧ cd = F1 ∧ L1 = ((b2, ce #[.int .i64 DI, .int .i64 Cf] 31) :: ((b1, ce #[.int .i64 wide, .slice Bb plots.length Bc] 27) :: (ab ++ (ah ++ [])))) ∧ e1.sub [(3, .pointer (some ⟨b1, 0, none⟩)), (4, .pointer (some ⟨b2, 0, none⟩)), (12, .slice al ao aq), (36, .slice cf cg cj), (37, .int .i64 (l.length : Int)), (38, .int .i64 k)] ∧ AT K.w0.heap.size 3 1 (iE .i64) F1 al ao aq af ab) _ (m0 (kc (kc (ke kr))) ⟨_, _, rfl, BT.start _, [], none, 0, 0, [], da, rfl, rfl, z6, AT.nil _ _ _ _ _⟩) ?_
  rintro cp e1 _ _ ⟨tl, k, ar, ai, af, al, ao, aq, ab, ax, rfl, rfl, bj, ak⟩
  refine AD _ bj (AP (uv (A8 rfl rfl) ?_))
  refine Aa (Aq ?_)
  refine cQ (fun au => ?_) fun au => ?_
  ·obtain ⟨x, e9, rfl, bk, cq, av⟩ := BT.succ ai au
   rw [D6] at ax
   refine An (Aq ?_)
   refine Am ?_
   refine AP (um ?_)
   obtain ⟨eg, eh, ej, db, bl, bm, cr, rfl, dd, bn⟩ := AT.at (Ab _) ad (L := (b2, ce #[.int .i64 DI, .int .i64 Cf] 31) :: ((b1, ce #[.int .i64 wide, .slice Bb plots.length Bc] 27) :: (ab ++ (ah ++ [])))) (fC (fC (fS fP))) cq.1 bk
   refine uv (AI underlying33 sizeOf3 rfl bl rfl (AT.idx ad cq)) (uv (Al isAgg3 rfl bm (bn 0 (by decide))) ?_)
   refine ua (ua (Aa ?_))
   obtain ⟨k2, de, bo⟩ := AO ax
   refine jE (((b2, ce #[.int .i64 DI, .int .i64 Cf] 31) :: ((b1, ce #[.int .i64 wide, .slice Bb plots.length Bc] 27) :: (ab ++ (ah ++ []))))) [(3, .pointer (some ⟨b1, 0, none⟩)), (4, .pointer (some ⟨b2, 0, none⟩)), (12, .slice al ao aq), (13, .int .i64 k), (36, .slice cf cg cj), (37, .int .i64 (l.length : Int)), (38, .int .i64 k), (54, .bool k2)] ?_ ?_
   ·clear bo
    refine Ak (uv (Ad Em rfl) (uv (Al isAgg25 rfl (Has.own 1 rfl) rfl) (um ?_)))
    obtain ⟨x2, ct, bp, El⟩ := BH de
    obtain ⟨eo, er, et, df, bq, br, cu, rfl, dg, bu⟩ := AF.at (Ab _) aa ((b2, ce #[.int .i64 DI, .int .i64 Cf] 31) :: ((b1, ce #[.int .i64 wide, .slice Bb plots.length Bc] 27) :: (ab ++ (ah ++ [])))) ct.1 bp
    refine uv (AI underlying25 sizeOf34 rfl bq rfl ct) (uv (Al isAgg34 rfl br (bu 0 (by decide))) (uv (DY rfl rfl) (um ?_)))
    by_cases ae : x2 = 1
    ·have dh := A2 El ae
     refine nT ae (um (nT ae ?_))
     refine uv (Ad QC rfl) (nT ae (uv (Al isAgg3 rfl (Has.own 0 rfl) rfl) (nT ae ?_)))
     obtain ⟨ok, di, dk⟩ := AO dh
     refine cV call34 (HD di) (uv (AQ (Bd rfl ae) rfl) (Aa ?_))
     obtain rfl := AR dk
     exact mi kr ⟨rfl, rfl, z8⟩
    have dm := A1 El ae
    refine fF ae (fF ae (fF ae (fF ae ?_)))
    refine uv (AL (A4 rfl ae) rfl) (Aa ?_)
    obtain rfl := AR dm
    exact mi kr ⟨rfl, rfl, z8⟩
   refine AY rfl (fun bw => ?_) (fun bw => ?_)
   ·have dn := bt bo bw
    refine Ak (um (um ?_))
    refine bA (cs := #[.int .i64 k]) BX [.int .i64 k] ?_; intro eu dp
    obtain ⟨aw, dq, dr, dt⟩ := FQ dn
    refine EA (xs := af) (ys := [k]) (zs := aw) rfl BX rfl rfl (Nat.le_refl _) (fun _ => .c (.c (.c .h))) ak (Gk.box (vss := [[.int .i64 k]]) (ys := [k]) 0 rfl (Ab _) (.cons rfl .nil) rfl rfl) dq dr (by decide) ?_; intro du dv dw bx bz
    refine kO (kd kr) ?_
    refine ua (Aa (Az (id := 1) (Ak ?_)))
    refine uv (A5 rfl rfl (BT.El ai au (AT.UD ad))) ?_
    refine um (Aa ?_)
    subst ar; exact le kr ⟨_, _, rfl, av, aw, du, dv, dw, bx, dt, rfl, rfl, z6, bz⟩
   have dx := bf bo bw
   refine An (Az (id := 1) (Ak ?_))
   refine uv (A5 rfl rfl (BT.El ai au (AT.UD ad))) ?_
   refine um (Aa ?_)
   subst ar; exact le kr ⟨_, _, rfl, av, af, al, ao, aq, ab, dx, rfl, rfl, z6, ak⟩
  obtain rfl := BT.zero ai au
  rw [D6] at ax
  refine AS (Ae (Ae ?_))
  refine AA ?_
  obtain rfl := AR ax
  exact mi (kd (kd (ka kn))) ⟨al, ao, aq, ab, rfl, rfl, z1, ak⟩
 rintro e1 _ _ ⟨bc, bg, bh, aj, rfl, rfl, ca, cb⟩
 refine AD _ ca ?_
 refine AP (um (ua (ua (Aa (Ap ?_)))))
 refine BU results8 (AH rfl) (AH rfl) (sr) ?_
 obtain ⟨rfl, rfl⟩ := CP cn
 exact ⟨_, _, _, _, rfl, rfl, cb.any⟩
set_option maxHeartbeats 1000000 in
theorem LP {KG : Nat} {Cr : Option Addr} {Cu : Nat} {metal : List Int} {at_ Fv : Int} (aa : AF 1 (iE .u8) F Cr Cu metal) {r : List Int} (hr : D8 metal at_ Fv n = some (r, r2, r3)) :
    SH.Spec Tryz.prog 12 #[.pointer (some ⟨KG, 0, none⟩), .int .i64 n] F [(KG, ce #[.slice Cr metal.length Cu, .int .i64 at_, .int .u32 Fv] 68)] fun F' L' v => ∃ (ra : Option Addr) (rn : Nat) (rc : Nat) (rL : LH), v = .slice ra rn rc ∧ L' = (KG, ce #[.slice Cr metal.length Cu, .int .i64 r2, .int .u32 r3] 68) :: (rL ++ []) ∧ AT 0 3 1 (iE .i64) F' ra rn rc r rL := by
 refine sp func12 ntmps12 fun K _ _ => ?_
 rw [D8] at hr
 refine AP (ua (Cj (ua (Aa ?_))))
 obtain ⟨out, ar, ae, h7, r8⟩ := EZ hr
 refine AX (fun e1 F1 L1 => ∃ (a1 : Option Addr) (n5 : Nat) (c2 : Nat) (bj : LH), AW F F1 ∧ L1 = ((KG, ce #[.slice Cr metal.length Cu, .int .i64 ar, .int .u32 ae] 68) :: (bj ++ [])) ∧ e1.sub [(5, .slice a1 n5 c2)] ∧ AT K.w0.heap.size 3 1 (iE .i64) F1 a1 n5 c2 out bj) ?_ ?_
 ·clear r8
  refine AP (um ?_)
  refine uv (Nt rfl rfl) ?_
  refine um (Aa ?_)
  refine Am ?_
  obtain ⟨cu, cv⟩ := AV h7
  refine Bg (fun ba e1 F1 L1 => ∃ (k : Int), Es 0 (if n > 0 then n else 0) k ba ∧ ∃ (af : Int) (ab : Int) (ai : List Int) (a9 : Option Addr) (bb : Nat) (bc : Nat) (aj : LH), BV metal ba k af ab ai = some (out, ar, ae) ∧ AW F F1 ∧ L1 = ((KG, ce #[.slice Cr metal.length Cu, .int .i64 af, .int .u32 ab] 68) :: (aj ++ [])) ∧ e1.sub [(0, .pointer (some ⟨KG, 0, none⟩)), (5, .slice a9 bb bc), (9, .int .i64 (if n > 0 then n else 0)), (10, .int .i64 k)] ∧ AT K.w0.heap.size 3 1 (iE .i64) F1 a9 bb bc ai aj) _ (m0 (kc (ke kr)) ⟨_, Es.start _ _, at_, Fv, [], none, 0, 0, [], cv, AW.refl _, rfl, z4, AT.nil _ _ _ _ _⟩) ?_
  rintro ba e1 fb _ ⟨k, al, af, ab, ai, a9, bb, bc, aj, bg, ao, rfl, bk, ak⟩
  refine AD _ bk ?_
  replace aa := aa.mono (Ab _) ao
  refine AP (uv (A8 rfl rfl) ?_)
  refine Aa (Aq ?_)
  refine cQ (fun bh => ?_) fun bh => ?_
  ·obtain ⟨ba, rfl, bl⟩ := Es.succ al bh
   rw [BV] at bg
   refine An (Aq ?_)
   refine Am ?_
   refine AP (um (ua (Cj (um (um ?_)))))
   obtain ⟨n2, bm, au, cw, cx⟩ := EZ bg
   refine cG call21 (Ej aa cw) ?_; rintro _ fe _ av cy cz ⟨rfl, rfl⟩
   replace ak := ak.mono (Ab _) av
   refine AK (lb (ln rfl)) ?_
   refine ua (Cj (um (um ?_)))
   refine bA (cs := #[.int .i64 k]) BX [.int .i64 k] ?_; intro ff da
   obtain ⟨bn, db, dd, de⟩ := FQ cx
   refine EA (xs := ai) (ys := [k]) (zs := bn) rfl BX rfl rfl (Nat.le_refl _) (fun _ => .c (.c .h)) ak (Gk.box (vss := [[.int .i64 k]]) (ys := [k]) 0 rfl (Ab _) (.cons rfl .nil) rfl rfl) db dd (by decide) ?_; intro df dg dh ah ad
   refine kO (kd kr) ?_
   refine ua (Aa ?_)
   refine C5 [(.still, 0), (.still, 1), (.still, 2), (.still, 3), (.still, 4), (.still, 5), (.still, 6), (.still, 7), (.still, 8), (.still, 9), (.still, 10), (.still, 11), (.still, 12), (.seq, 13), (.still, 14), (.seq, 15)] (by kernel_rfl) (by kernel_rfl) (trivial) (by rfl) (by kernel_rfl) (mS [5] rfl (Be rfl) (mS [7] rfl (Be rfl) (mS [5] rfl (Be rfl) (mS [6] rfl (Be rfl) (mS [5] rfl (Be rfl) (mS [6] rfl (Be rfl) ?_))))))
   obtain ⟨x, cn, bo, di⟩ := BH de
   obtain ⟨fg, fh, fi, dk, bp, bq, cp, rfl, dm, br⟩ := AT.at (Ab _) ad (L := ah ++ []) fP cn.1 bo
   refine mS [24, 25] rfl (AI underlying33 sizeOf3 rfl bp rfl (AT.idx ad cn)) (mL [26] (ah ++ []) rfl (s0 (s1 (s4 sr))) (fun H F' L' bu bw => Al isAgg3 rfl (bq.ext bu bw) (br 0 (by decide))) (mS [5] rfl (Be rfl) (mS [7] rfl (Be rfl) ?_)))
   obtain ⟨x2, aw, ax, dn⟩ := BH di
   obtain ⟨fj, fk, fl, dp, bx, bz, cq, rfl, dq, ca⟩ := AT.at (Ab _) ad (L := ah ++ []) fP aw.1 ax
   refine mS [28, 29] rfl (AI underlying33 sizeOf3 rfl bx rfl (AT.idx ad aw)) (mL [30] (ah ++ []) rfl (s0 (s1 (s4 sr))) (fun H F' L' bu bw => Al isAgg3 rfl (bz.ext bu bw) (ca 0 (by decide))) ?_)
   obtain ⟨dr, dt, fm, du, ay, dv, cr, rfl, dw, dx⟩ := AT.at (Ab _) ad (L := ah ++ []) fP aw.1 ax
   refine mS [20, 21] rfl (AI underlying33 sizeOf3 rfl ay rfl (AT.idx ad aw)) ?_
   refine ⟨_, [(27, .int .i64 x), (32, .pointer (some ⟨dr, dt + (n2 : Int).toNat * 1, none⟩))], rfl, rfl, z2, by kernel_rfl, ?_⟩; intro H
   obtain ⟨l, dy, dz⟩ := CT dn
   refine E5 (u := x) sizeOf3 (Ab _) rfl ay rfl rfl (fun _ => .c .h) ad dy aw ?_; intro cb aq
   refine Aa ⟨undef, rfl, AW.refl _, [3, 2], by kernel_rfl, .inl (.inr (fun d h => by cases h)), (fc sm (fc sm nm)), ?_⟩
   obtain ⟨x3, cc, cd, e9⟩ := BH dz
   obtain ⟨eg, eh, fo, ej, az, eo, ct, rfl, er, et⟩ := AT.at (Ab _) aq (L := cb ++ []) fP cc.1 cd
   refine mS [22, 23] rfl (AI underlying33 sizeOf3 rfl az rfl (AT.idx aq cc)) ?_
   refine ⟨_, [(31, .int .i64 x2), (33, .pointer (some ⟨eg, eh + (k : Int).toNat * 1, none⟩))], rfl, rfl, z2, by kernel_rfl, ?_⟩; intro H
   obtain ⟨l2, eu, ew⟩ := CT e9
   refine E5 (u := x2) sizeOf3 (Ab _) rfl az rfl rfl (fun _ => .c .h) aq eu cc ?_; intro cf cg
   refine Aa ⟨undef, rfl, AW.refl _, [], by kernel_rfl, .inl (.inl rfl), nm, ?_⟩
   refine Ef ?_
   refine Az (id := 1) (Ak ?_)
   refine uv (A5 rfl rfl (Es.El al bh cu)) ?_
   refine um (Aa ?_)
   exact le kr ⟨_, bl, bm, au, l2, df, dg, dh, cf, ew, (ao.trans av), rfl, z4, cg⟩
  obtain rfl := Es.zero al bh
  rw [BV] at bg
  refine AS (Ae (Ae ?_))
  refine AA ?_
  obtain ⟨rfl, rfl, rfl⟩ := Iz bg
  exact mi kr ⟨a9, bb, bc, aj, ao, rfl, z1, ak⟩
 rintro e1 fp _ ⟨a1, n5, c2, bj, ey, rfl, cj, fa⟩
 refine AD _ cj ?_
 refine AP (um (ua (Aa (Ap ?_))))
 refine C9 results12 ?_
 obtain ⟨rfl, rfl, rfl⟩ := Iz r8
 exact ⟨_, _, _, _, rfl, rfl, fa.any⟩
end Go.Proofs.YtfmapnhfamoecabGreat
