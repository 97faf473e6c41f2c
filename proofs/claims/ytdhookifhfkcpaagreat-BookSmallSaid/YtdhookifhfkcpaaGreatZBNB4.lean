/- The walks that this claim needs, printed by a program of mine; part 4. -/
import Derived.Test.YtdhookifhfkcpaaGreatZBNB3
namespace Go.Proofs.YtdhookifhfkcpaaGreat
open Go.SH Go.PL
open Tryz 
variable {F : FS} {hour Af AP Ac r2 y : Int} {Ak : List (Int × Int × Int)} {Ah : List (List (List Int))} {AU Ab : List Int} {An Al BO Ad : Nat} {Ao Am BP Ae : Option Addr}
set_option maxHeartbeats 1000000 in
theorem MY {Ci : Option Addr} {Cj : Nat} {BT : List (List Int)} (ai : At 1 (CM 1 eJ) F Am Al Ah) (ad : At 1 eI F Ae Ad Ab) (aj : At 3 (Br eI eP) F Ao An Ak) (aa : At 1 eI F BP BO AU) (al : At 1 eJ F Ci Cj BT) {r : List Int} (hr : Jn Af Ac Ah Ab Ak AP hour AU BT = some (r, r2)) :
    SH.Spec Tryz.prog 53 #[.agg #[vI Af, vI Ac, sL Am Ah.length Al, sL Ae Ab.length Ad, sL Ao Ak.length An], vI AP, vI hour, sL BP AU.length BO, sL Ci BT.length Cj] F [] fun F' L' v => ∃ (ra : Option Addr) (rn : Nat) (rc : Nat) (rL : LH), v = .tuple #[sL ra rn rc, vI r2] ∧ L' = rL ++ [] ∧ AI 0 3 1 eI F' ra rn rc r rL := by
 refine sp func53 ntmps53 fun K _ _ => ?_
 rw [Jn] at hr
 refine AG ?_
 refine BB rfl rfl ?_; intro b1 kj
 refine ua (ua (BR (ua (BR (ua (Aa ?_))))))
 obtain ⟨cu, found, h8, r9⟩ := Ca hr
 refine AO (fun e1 F1 L1 => ∃ (a2 : Option Addr) (n6 : Nat) (c3 : Nat) (ez : LH), AQ F F1 ∧ L1 = (ez ++ []) ∧ e1.sub [(12, sL a2 n6 c3), (13, .bool found)] ∧ AI K.w0.heap.size 3 1 eI F1 a2 n6 c3 cu ez) ?_ ?_
 ·clear r9
  refine AG (ua (Aa ?_))
  refine As ?_
  refine A6 (fun eo e1 F1 L1 => ∃ (bj : List Int) (ae : Bool) (n : Int) (ba : Option Addr) (bb : Nat) (bc : Nat) (ah : LH), ES Af Ac Ah Ab Ak AP hour AU BT eo bj ae n = some (cu, found) ∧ AQ F F1 ∧ L1 = ((b1, ce #[vI Af, vI Ac, sL Am Ah.length Al, sL Ae Ab.length Ad, sL Ao Ak.length An] 50) :: (ah ++ [])) ∧ e1.sub [(1, vI AP), (2, vI hour), (3, sL BP AU.length BO), (4, sL Ci BT.length Cj), (5, pO b1), (12, sL ba bb bc), (13, .bool ae), (14, vI n)] ∧ AI K.w0.heap.size 3 1 eI F1 ba bb bc bj ah) FU (m0 (kc (ke kr)) ⟨[], false, 0, none, 0, 0, [], h8, AQ.refl _, rfl, z8, AI.nil _ _ _ _ _⟩) ?_
  rintro eo e1 j2 _ ⟨bj, ae, n, ba, bb, bc, ah, ep, av, rfl, fa, aw⟩
  refine AA _ fa ?_
  replace ai := ai.mono (Ay kJ) av
  replace ad := ad.m1 av
  replace aj := aj.mono (Ai kI kP) av
  replace aa := aa.m1 av
  replace al := al.m2 av
  rcases eo with _ | eo
  ·rw [ES] at ep; cases ep
  rw [ES] at ep
  refine Au (AG (um ?_))
  refine uv (Ap Jv rfl) (uv (Co isAgg23 0) (uv (AJ underlying23 rfl) ?_))
  obtain ⟨j3, ib⟩ := AF ep
  refine uv (RO rfl rfl j3) (uv (AY rfl rfl) (Aa ?_))
  refine cQ (fun fb => ?_) fun fb => ?_
  ·have j4 := A2 ib fb
   refine Ar ?_
   obtain ⟨bw, bk, j5, ic⟩ := Ca j4
   refine AO (fun e1 F1 L1 => ∃ (er : Option Addr) (et : Nat) (eu : Nat) (bp : LH), AQ j2 F1 ∧ L1 = ((b1, ce #[vI Af, vI Ac, sL Am Ah.length Al, sL Ae Ab.length Ad, sL Ao Ak.length An] 50) :: (bp ++ [])) ∧ e1.sub [(1, vI AP), (2, vI hour), (3, sL BP AU.length BO), (4, sL Ci BT.length Cj), (5, pO b1), (12, sL er et eu), (13, .bool bk), (14, vI n)] ∧ AI K.w0.heap.size 3 1 eI F1 er et eu bw bp) ?_ ?_
   ·clear ic
    refine As ?_
    refine AG (um ?_)
    refine uv (Ap Jv rfl) (uv (Co isAgg23 0) (uv (AJ underlying23 rfl) ?_))
    obtain ⟨l, j6, j7⟩ := Az j5
    refine c0 call90 (JZ j6) ?_; rintro _ cv _ ar fe ⟨bx, bz, cb, ao, rfl, rfl, au⟩
    replace ai := ai.mono (Ay kJ) ar
    replace ad := ad.m1 ar
    replace aj := aj.mono (Ai kI kP) ar
    replace aa := aa.m1 ar
    replace al := al.m2 ar
    replace aw := aw.m1 ar
    replace au := au.new fun p hp => fe p (by simp [hp])
    refine AB (lp (ln rfl)) (kO (kf (fS fO) kr) ?_)
    refine ua (Aa (Au ?_))
    obtain ⟨k, ie, ff⟩ := Az j7
    refine jE (((b1, ce #[vI Af, vI Ac, sL Am Ah.length Al, sL Ae Ab.length Ad, sL Ao Ak.length An] 50) :: (ah ++ (ao ++ [])))) [(1, vI AP), (2, vI hour), (3, sL BP AU.length BO), (4, sL Ci BT.length Cj), (5, pO b1), (12, sL ba bb bc), (13, .bool ae), (14, vI n), (15, sL bx bz cb), (40, .bool k)] ?_ ?_
    ·clear ff
     refine Aq (um (um ?_))
     rcases DX ae with bd | bd
     ·have j8 := bt ie bd
      refine nB bd (um (nB bd (um (nB bd ?_))))
      obtain ⟨ok, j9, ja⟩ := Az j8
      refine Bh rfl call89 rfl rfl rfl (pT ((fC fP).trans (pA ((fC fP).trans (pA pR)))) (lp (lp (ln rfl)))) (fun F2 h2 h3 => by rw [(AI.A1 au).1]; rw [(AI.A1 aw).1]; exact H8 (au.row kI h2 (aL h3)) (aw.row kI h2 (aL (aR h3))) j9) ?_
      refine nB bd (uv (Bo rfl) (uv (AK (FK rfl bd) rfl) (Aa ?_)))
      obtain rfl := AL ja
      exact mi (kc (kg (fS fP) kr)) ⟨rfl, rfl, (sc rfl (sc rfl z8))⟩
     have jb := bf ie bd
     refine fB bd (fB bd (fB bd (fB bd ?_)))
     refine uv (AE (FK rfl bd) rfl) (Aa ?_)
     obtain rfl := AL jb
     exact mi (kc (kg (fS fP) kr)) ⟨rfl, rfl, (sc rfl (sc rfl z8))⟩
    refine AV rfl (fun fg => ?_) (fun fg => ?_)
    ·have jc := bt ff fg
     refine AM (Aj ?_)
     refine Ax ?_
     obtain ⟨rfl, rfl⟩ := Cd jc
     exact mi (kc (ka kn)) ⟨ba, bb, bc, ah, ar, rfl, z8, aw⟩
    have jd := bf ff fg
    refine Ar (AG ?_)
    refine uv (Cv isAgg50 sizeOf50 0) ?_
    refine Bu rfl zeroValue50 ?_; intro bg je
    refine BD (i := 0) sizeOf50 rfl rfl rfl (by simp [Value.oneCell']) rfl (DD rfl) (AB rfl (BR ?_))
    refine Gy (cs := #[]) rfl rfl (HR Nq) ?_; intro fh fi
    refine uv (Ap IA rfl) (uv (Co isAgg48 2) ?_)
    have cw : AI K.w0.heap.size 110 3 (Br eI eP) cv (aD fh) 0 0 ([] : List (Int × Int × Int)) [(fh, ce #[] 110)] := AI.Bd (vss := []) (Ai kI kP) fi .nil rfl rfl (by simp [maxLen])
    generalize cg : ([(fh, ce #[] 110)] : LH) = cx at cw
    refine Bc (L' := cx ++ ((bg, ce #[vI Af, vI Ac, sL Am Ah.length Al, sL Ae Ab.length Ad, sL Ao Ak.length An] 50) :: ((b1, ce #[vI Af, vI Ac, sL Am Ah.length Al, sL Ae Ab.length Ad, sL Ao Ak.length An] 50) :: (ah ++ (ao ++ []))))) (by rw [← cg]; exact fO) ?_
    refine Bc (L' := (bg, ce #[vI Af, vI Ac, sL Am Ah.length Al, sL Ae Ab.length Ad, sL Ao Ak.length An] 50) :: ((b1, ce #[vI Af, vI Ac, sL Am Ah.length Al, sL Ae Ab.length Ad, sL Ao Ak.length An] 50) :: (cx ++ (ah ++ (ao ++ []))))) (List.Perm.symm (fC (fC fP))) ?_
    obtain ⟨l2, jf, jg, CE⟩ := Ea jd
    refine CJ (xs := ([] : List (Int × Int × Int))) (ys := Ak) (zs := l2) rfl Nq rfl rfl (Nat.le_refl _) (fun _ => .c (.c .h)) cw (At.src aj) jf jg (by decide) ?_; intro jh ji jj fj fk
    refine uv (Ap IA rfl) (BL (i := 0) sizeOf48 rfl rfl rfl rfl (DD rfl) (AB rfl (Aa ?_)))
    obtain ⟨aq, jk, ig⟩ := Az CE
    refine AO (fun e1 F1 L1 => ∃ (cq : Option Addr) (cr : Nat) (ct : Nat) (bh : LH), cv = F1 ∧ L1 = ((bg, ce #[vI Af, vI Ac, sL Am Ah.length Al, sL Ae Ab.length Ad, sL cq cr ct] 50) :: ((b1, ce #[vI Af, vI Ac, sL Am Ah.length Al, sL Ae Ab.length Ad, sL Ao Ak.length An] 50) :: (ah ++ (ao ++ (bh ++ []))))) ∧ e1.sub [(1, vI AP), (2, vI hour), (3, sL BP AU.length BO), (4, sL Ci BT.length Cj), (5, pO b1), (12, sL ba bb bc), (13, .bool ae), (14, vI n), (15, sL bx bz cb), (16, pO bg)] ∧ AI K.w0.heap.size 110 3 (Br eI eP) F1 cq cr ct aq bh) ?_ ?_
    ·clear ig
     refine AG (ua (Aa ?_))
     refine As ?_
     refine A6 (fun ij e1 F1 L1 => LA l ij fun tl i => ∃ (ak : List (Int × Int × Int)) (cy : Option Addr) (cz : Nat) (da : Nat) (bq : LH), EX AP hour tl ak = some aq ∧ cv = F1 ∧ L1 = ((bg, ce #[vI Af, vI Ac, sL Am Ah.length Al, sL Ae Ab.length Ad, sL cy cz da] 50) :: ((b1, ce #[vI Af, vI Ac, sL Am Ah.length Al, sL Ae Ab.length Ad, sL Ao Ak.length An] 50) :: (ah ++ (ao ++ (bq ++ []))))) ∧ e1.sub [(1, vI AP), (2, vI hour), (3, sL BP AU.length BO), (4, sL Ci BT.length Cj), (5, pO b1), (12, sL ba bb bc), (13, .bool ae), (14, vI n), (15, sL bx bz cb), (16, pO bg), (17, vI i)] ∧ AI K.w0.heap.size 110 3 (Br eI eP) F1 cy cz da ak bq) _ (m0 (kc (kc (kg (fS fP) (kg (fS fP) kr)))) ⟨_, _, rfl, Bq.start _, l2, jh, ji, jj, fj, jk, rfl, rfl, (sc rfl (sc rfl (sc rfl z8))), fk⟩) ?_
     rintro ij e1 _ _ ⟨tl, i, fl, cj, ak, cy, cz, da, bq, ew, rfl, rfl, fm, db⟩
     refine AA _ fm ?_
     refine Au (AG (um (um ?_)))
     refine uv ((AJ underlying22 rfl).i (AI.FE au)) (uv (AY rfl rfl) (Aa ?_))
     refine cQ (fun ey => ?_) fun ey => ?_
     ·obtain ⟨x, kl, rfl, fo, ik, fp⟩ := Bq.succ cj ey
      rw [EX] at ew
      refine Ar (Au ?_)
      refine As (BK [(.still, 0), (.still, 1), (.still, 2), (.still, 3), (.still, 4), (.still, 5), (.still, 6), (.still, 7), (.still, 8), (.seq, 9), (.seq, 10), (.still, 11), (.seq, 12)] (by kernel_rfl) (by kernel_rfl) (trivial) (by rfl) (by kernel_rfl) (mS [16] rfl (Ap IA rfl) (mK [53] isAgg48 0 rfl rfl rfl rfl (mS [2] rfl (A9 rfl) (mS [15] rfl (A9 rfl) (mS [17] rfl (A9 rfl) ?_))))))
      obtain ⟨km, ko, kt, jl, fq, ft, fv, rfl, il, dd⟩ := AI.at kI au (L := ao ++ []) fP ik.1 fo
      refine mS [56, 57] rfl (BZ underlying22 sizeOf3 rfl fq rfl (AI.idx au ik)) (mL [58] (ao ++ []) rfl (s0 (s1 (s1 (s3 (s4 (s3 sr)))))) (fun H F' L' jm jn => AS isAgg3 rfl (ft.ext jm jn) (dd 0 (by decide))) (mS [1] rfl (A9 rfl) ?_))
      refine mS (v := .agg #[vI hour, vI x, vI AP]) [55, 59, 60] rfl (BX (v := .agg #[vI hour, vI x, vI AP]) rfl (by intro w; kernel_rfl)) ?_
      refine ⟨_, [(61, .agg #[vI hour, vI x, vI AP])], rfl, rfl, z1, by kernel_rfl, ?_⟩; intro H
      refine bA (cs := #[vI hour, vI x, vI AP]) Nq [.agg #[vI hour, vI x, vI AP]] ?_; intro fw im
      refine Aa ⟨_, rfl, AQ.refl _, [1, 0], by kernel_rfl, .inl (.inr (fun d h => by cases h; rfl)), (fc (s0 (s1 (s2 (s1 (s3 (s3 (s3 sr))))))) (fc sm nm)), ?_⟩
      refine ⟨_, [(54, sL cy cz da), (62, sL (aD fw) 1 1)], rfl, rfl, z2, by kernel_rfl, ?_⟩; intro H
      obtain ⟨l3, fx, fy, ga⟩ := Ea ew
      refine CJ (xs := ak) (ys := [(hour, x, AP)]) (zs := l3) rfl Nq rfl rfl (Nat.le_refl _) (fun _ => .c (.c (.c (.s (.s .h))))) db (FL.box (vss := [[vI hour, vI x, vI AP]]) (ys := [(hour, x, AP)]) 0 rfl (Ai kI kP) (.cons ⟨_, _, rfl, rfl, ⟨_, _, rfl, rfl, rfl⟩⟩ .nil) rfl rfl) fx fy (by decide) ?_; intro de df dg dh di
      refine kO (kd kr) ?_
      refine Aa ⟨_, rfl, AQ.refl _, [], by kernel_rfl, .inl (.inl rfl), nm, ?_⟩
      refine mS [16] rfl (Ap IA rfl) ?_
      refine ⟨_, [(63, sL de df dg), (64, .pointer (some ⟨bg, 4, none⟩))], rfl, rfl, z2, by kernel_rfl, ?_⟩; intro H
      refine BL (i := 0) sizeOf48 rfl rfl rfl rfl (DD rfl) (AB rfl ?_)
      refine Aa ⟨undef, rfl, AQ.refl _, [], by kernel_rfl, .inl (.inl rfl), nm, ?_⟩
      refine Ce ?_
      refine AD (id := 3) (Aq (um ?_))
      refine uv (A4 rfl rfl (Bq.CE cj ey (AI.Po au))) ?_
      refine ua (Aa ?_)
      subst fl; exact le kr ⟨_, _, rfl, fp, l3, de, df, dg, dh, ga, rfl, rfl, (sc rfl (sc rfl (sc rfl z8))), di⟩
     obtain rfl := Bq.zero cj ey
     rw [EX] at ew
     refine AM (Aj (Aj ?_))
     refine Ax ?_
     obtain rfl := AL ew
     exact mi kr ⟨cy, cz, da, bq, rfl, rfl, (sc rfl (sc rfl z8)), db⟩
    rintro e1 _ _ ⟨cq, cr, ct, bh, rfl, rfl, dk, dm⟩
    refine AA _ dk ?_
    refine AG (ua (Aa ?_))
    obtain ⟨sure, gb, ck⟩ := Az ig
    refine jE (((b1, ce #[vI Af, vI Ac, sL Am Ah.length Al, sL Ae Ab.length Ad, sL Ao Ak.length An] 50) :: (ah ++ (ao ++ [])))) [(1, vI AP), (2, vI hour), (3, sL BP AU.length BO), (4, sL Ci BT.length Cj), (5, pO b1), (12, sL ba bb bc), (13, .bool ae), (14, vI n), (15, sL bx bz cb), (18, .bool sure)] ?_ ?_
    ·clear ck
     refine AG (ua (Aa ?_))
     refine As ?_
     refine A6 (fun iq e1 F1 L1 => LA BT iq fun ir i2 => ∃ (ax : Bool), EZ Af Ac Ah Ab AP AU aq ir ax = some sure ∧ cv = F1 ∧ L1 = ((bg, ce #[vI Af, vI Ac, sL Am Ah.length Al, sL Ae Ab.length Ad, sL cq cr ct] 50) :: ((b1, ce #[vI Af, vI Ac, sL Am Ah.length Al, sL Ae Ab.length Ad, sL Ao Ak.length An] 50) :: (ah ++ (ao ++ (bh ++ []))))) ∧ e1.sub [(1, vI AP), (2, vI hour), (3, sL BP AU.length BO), (4, sL Ci BT.length Cj), (5, pO b1), (12, sL ba bb bc), (13, .bool ae), (14, vI n), (15, sL bx bz cb), (16, pO bg), (18, .bool ax), (19, vI i2)]) _ (m0 kr ⟨_, _, rfl, Bq.start _, true, gb, rfl, rfl, (sc rfl (sc rfl (sc rfl (sc rfl z8))))⟩) ?_
     rintro iq e1 _ _ ⟨ir, i2, dp, bl, ax, br, rfl, rfl, dq⟩
     refine AA _ dq ?_
     refine Au (AG (um (um ?_)))
     refine uv (AJ underlying34 rfl) (uv (AY rfl rfl) (Aa ?_))
     refine cQ (fun bu => ?_) fun bu => ?_
     ·obtain ⟨x2, ku, rfl, dr, dt, du⟩ := Bq.succ bl bu
      rw [EZ] at br
      refine Ar ?_
      obtain ⟨bm, gg, dv⟩ := Az br
      refine jE (((bg, ce #[vI Af, vI Ac, sL Am Ah.length Al, sL Ae Ab.length Ad, sL cq cr ct] 50) :: ((b1, ce #[vI Af, vI Ac, sL Am Ah.length Al, sL Ae Ab.length Ad, sL Ao Ak.length An] 50) :: (ah ++ (ao ++ (bh ++ [])))))) [(1, vI AP), (2, vI hour), (3, sL BP AU.length BO), (4, sL Ci BT.length Cj), (5, pO b1), (12, sL ba bb bc), (13, .bool ae), (14, vI n), (15, sL bx bz cb), (16, pO bg), (18, .bool bm), (19, vI i2)] ?_ ?_
      ·clear dv
       refine As ?_
       refine AG (ua (Aa ?_))
       refine As ?_
       refine A6 (fun iu e1 F1 L1 => LA AU iu fun iv k2 => ∃ (ay : Bool), DN Af Ac Ah Ab AP aq x2 iv ay = some bm ∧ cv = F1 ∧ L1 = ((bg, ce #[vI Af, vI Ac, sL Am Ah.length Al, sL Ae Ab.length Ad, sL cq cr ct] 50) :: ((b1, ce #[vI Af, vI Ac, sL Am Ah.length Al, sL Ae Ab.length Ad, sL Ao Ak.length An] 50) :: (ah ++ (ao ++ (bh ++ []))))) ∧ e1.sub [(1, vI AP), (2, vI hour), (3, sL BP AU.length BO), (4, sL Ci BT.length Cj), (5, pO b1), (12, sL ba bb bc), (13, .bool ae), (14, vI n), (15, sL bx bz cb), (16, pO bg), (18, .bool ay), (19, vI i2), (20, vI k2)]) _ (m0 kr ⟨_, _, rfl, Bq.start _, ax, gg, rfl, rfl, (sc rfl (sc rfl (sc rfl (sc rfl (sc rfl z8)))))⟩) ?_
       rintro iu e1 _ _ ⟨iv, k2, cc, az, ay, bn, rfl, rfl, dw⟩
       refine AA _ dw ?_
       refine Au (AG (um (um ?_)))
       refine uv (AJ underlying22 rfl) (uv (AY rfl rfl) (Aa ?_))
       refine cQ (fun bo => ?_) fun bo => ?_
       ·obtain ⟨x3, kv, rfl, dx, dy, cf⟩ := Bq.succ az bo
        rw [DN] at bn
        refine Ar (Au ?_)
        refine As (Jb (by kernel_rfl) (by kernel_rfl) (by kernel_rfl) ?_)
        refine wm (wm ?_)
        rcases DX ay with ab | ab
        ·have gh := bt bn ab
         refine A0 (b := true) 78 rfl (Cy rfl ab) (wv (Cv isAgg50 sizeOf50 0) ?_)
         refine A0 (b := true) 78 rfl (Cy rfl ab) (wm (A0 (b := true) 78 rfl (Cy rfl ab) (wm (A0 (b := true) 78 rfl (Cy rfl ab) ?_))))
         obtain ⟨jo, jq, jr, iw, dz, eb, gi, ⟨js, jt, rfl, gj⟩, iy, ec⟩ := At.ta kJ al dt.1 dr
         refine wv (C0 underlying34 sizeOf22 dz dt) (A0 (b := true) 78 rfl (Cy rfl ab) (wv (AS isAgg22 rfl (eb _) (ec 0 (by decide))) ?_))
         refine A0 (b := true) 78 rfl (Cy rfl ab) (wm (A0 (b := true) 78 rfl (Cy rfl ab) (wm (A0 (b := true) 78 rfl (Cy rfl ab) ?_))))
         obtain ⟨ju, jv, jw, iz, ef, eg, gk, rfl, j0, eh⟩ := At.ta kI aa dy.1 dx
         refine wv (C0 underlying22 sizeOf3 ef dy) (A0 (b := true) 78 rfl (Cy rfl ab) (wv (AS isAgg3 rfl (eg _) (eh 0 (by decide))) ?_))
         refine A0 (b := true) 78 rfl (Cy rfl ab) (wm (A0 (b := true) 78 rfl (Cy rfl ab) ?_))
         obtain ⟨jx, gl, gm⟩ := Az gh
         refine Ox rfl call83 rfl rfl rfl (pT ((fC (fC (fS (fS fP)))).trans (pA pR)) (lp (ln rfl))) (fun F2 h2 h3 => by rw [(AI.A1 dm).1]; exact ID (ai.mono (Ay kJ) h2) (ad.mono kI h2) (dm.row (Ai kI kP) h2 (aL h3)) (gj.mono kI h2) gl) ?_
         refine wv (AK (FK rfl ab) rfl) ?_
         refine wa (B6 (AD (id := 7) (Aq (um ?_))))
         refine uv (A4 rfl rfl (Bq.CE az bo (At.lt aa))) ?_
         refine ua (Aa ?_)
         subst cc; exact le kr ⟨_, _, rfl, cf, jx, gm, rfl, rfl, (sc rfl (sc rfl (sc rfl (sc rfl (sc rfl z8)))))⟩
        have gn := bf bn ab
        refine AX (b' := false) 78 rfl (Cy rfl ab) rfl rfl (AX (b' := false) 78 rfl (Cy rfl ab) rfl rfl (AX (b' := false) 78 rfl (Cy rfl ab) rfl rfl (AX (b' := false) 78 rfl (Cy rfl ab) rfl rfl (AX (b' := false) 78 rfl (Cy rfl ab) rfl rfl (AX (b' := false) 78 rfl (Cy rfl ab) rfl rfl (AX (b' := false) 78 rfl (Cy rfl ab) rfl rfl (AX (b' := false) 78 rfl (Cy rfl ab) rfl rfl (AX (b' := false) 78 rfl (Cy rfl ab) rfl rfl (AX (b' := false) 78 rfl (Cy rfl ab) rfl rfl ?_)))))))))
        refine AX (b' := false) 78 rfl (Cy rfl ab) rfl rfl (wv (AE (FK rfl ab) rfl) ?_)
        refine wa (B6 (AD (id := 7) (Aq (um ?_))))
        refine uv (A4 rfl rfl (Bq.CE az bo (At.lt aa))) ?_
        refine ua (Aa ?_)
        subst cc; exact le kr ⟨_, _, rfl, cf, false, gn, rfl, rfl, (sc rfl (sc rfl (sc rfl (sc rfl (sc rfl z8)))))⟩
       obtain rfl := Bq.zero az bo
       rw [DN] at bn
       refine AM (Aj (Aj ?_))
       refine Ax (AD (id := 5) ?_)
       obtain rfl := AL bn
       exact mi kr ⟨rfl, rfl, (sc rfl (sc rfl (sc rfl (sc rfl z8))))⟩
      refine Aq (um ?_)
      refine uv (A4 rfl rfl (Bq.CE bl bu (At.lt al))) ?_
      refine ua (Aa ?_)
      subst dp; exact le kr ⟨_, _, rfl, du, bm, dv, rfl, rfl, (sc rfl (sc rfl (sc rfl (sc rfl z8))))⟩
     obtain rfl := Bq.zero bl bu
     rw [EZ] at br
     refine AM (Aj (Aj ?_))
     refine Ax ?_
     obtain rfl := AL br
     exact mi (kd (kc (ka (ka kn)))) ⟨rfl, rfl, (sc rfl (sc rfl z8))⟩
    refine AG (um (Aa ?_))
    refine AV rfl (fun cn => ?_) (fun cn => ?_)
    ·have gp := bt ck cn
     refine Aq (um (ua (ua (Aa (AD (id := 1) ?_)))))
     obtain ⟨rfl, rfl⟩ := Cd gp
     exact mi (kc (kx kr)) ⟨bx, bz, cb, ao, ar, rfl, z8, au⟩
    have gq := bf ck cn
    refine Ar (AD (id := 1) ?_)
    obtain ⟨rfl, rfl⟩ := Cd gq
    exact mi (kc (ka kn)) ⟨ba, bb, bc, ah, ar, rfl, z8, aw⟩
   rintro e1 jz _ ⟨er, et, eu, bp, ei, rfl, ej, gr⟩
   refine AA _ ej ?_
   refine Aq (um ?_)
   obtain ⟨gu, gv⟩ := AF ic
   refine uv (A4 rfl rfl gu) ?_
   refine ua (Aa ?_)
   exact le kr ⟨bw, bk, n + 1, er, et, eu, bp, gv, (av.trans ei), rfl, z8, gr⟩
  have gw := A3 ib fb
  refine AM (Aj (Aj ?_))
  refine Ax ?_
  obtain ⟨rfl, rfl⟩ := Cd gw
  exact mi (kd kr) ⟨ba, bb, bc, ah, av, rfl, z2, aw⟩
 rintro e1 kb _ ⟨a2, n6, c3, ez, j1, rfl, en, kh⟩
 refine AA _ en ?_
 refine Au (AG (um ?_))
 refine uv (Bo rfl) (Aa ?_)
 refine AV rfl (fun cp => ?_) (fun cp => ?_)
 ·have gz := bt r9 cp
  refine AG (ua (ua (Aa ?_)))
  refine kW kn ?_
  refine Aw (Av ?_)
  refine BM results53 (AT rfl) (AT rfl) (sr) ?_
  obtain ⟨rfl, rfl⟩ := Cd gz
  exact ⟨_, _, _, [], rfl, rfl, AI.nil _ _ _ _ _⟩
 have ia := bf r9 cp
 refine Ar (AG (um (ua (ua (Aa (Aw ?_))))))
 refine BM results53 (AT rfl) (AT rfl) (sr) ?_
 obtain ⟨rfl, rfl⟩ := Cd ia
 exact ⟨_, _, _, _, rfl, rfl, kh.any⟩
set_option maxHeartbeats 1000000 in
theorem GP (ad : At 1 (CM 1 eJ) F Am Al Ah) (aa : At 1 eI F Ae Ad Ab) (ae : At 3 (Br eI eP) F Ao An Ak) (ab : At 1 eI F BP BO AU) {r : Bool} (hr : Eu Af Ac Ah Ab Ak AP hour AU = some r) :
    Bp Tryz.prog 9 #[.agg #[vI Af, vI Ac, sL Am Ah.length Al, sL Ae Ab.length Ad, sL Ao Ak.length An], vI AP, vI hour, sL BP AU.length BO] F (.bool r) := by
 refine sp func9 ntmps9 fun K _ _ => ?_
 rw [Eu] at hr
 refine AG ?_
 refine BB rfl rfl ?_; intro b1 jk
 refine ua (Aa (Au (AG ?_)))
 refine uv (Cv isAgg26 sizeOf26 0) ?_
 obtain ⟨ok, h2, r3⟩ := Az hr
 refine cV call14 (Fp ad aa ae h2) (um ?_)
 obtain ⟨g4, r5⟩ := AF r3
 refine nB g4 (uv (Cv isAgg26 sizeOf26 0) (nB g4 ?_))
 obtain ⟨jl, h6, r7⟩ := Az r5
 refine cV call20 (Hr ad aa ae h6) (uv (AE (FK rfl g4) rfl) (um ?_))
 obtain ⟨g8, r9⟩ := AF r7
 refine nB g8 (um (nB g8 ?_))
 refine uv (AJ underlying22 rfl) (nB g8 (uv (C2 rfl rfl) (uv (AE (FK rfl g8) rfl) (Aa ?_))))
 obtain ⟨gv, gw⟩ := AF r9
 refine B9 rfl (fun gi => absurd gi gv) (fun gi => ?_)
 refine Ar (Au ?_)
 refine BK [(.pre, 6), (.pre, 7), (.still, 0), (.still, 2), (.still, 4), (.seq, 1), (.seq, 3), (.seq, 5), (.alloc (.cells (.agg #[vI 0, vI 0, sL none 0 0, sL none 0 0, sL none 0 0] : Value).cells 26 (0, 0)) (fun b => pO b) [], 6), (.alloc (.cells (.agg #[vI 0, vI 0, sL none 0 0, sL none 0 0, sL none 0 0] : Value).cells 50 (0, 0)) (fun b => pO b) [], 7), (.seq, 8), (.still, 9), (.seq, 10)] (by kernel_rfl) (by kernel_rfl) (⟨⟨_, _, rfl, rfl, rfl, rfl, rfl, GC zeroValue26⟩, ⟨⟨_, _, rfl, rfl, rfl, rfl, rfl, GC zeroValue50⟩, trivial⟩⟩) (by rfl) (by kernel_rfl) ?_
 refine ⟨⟨[], rfl, sn _, by kernel_rfl⟩, ?_⟩
 refine ⟨⟨[], rfl, sn _, by kernel_rfl⟩, ?_⟩
 refine mL [4] ([(b1, ce #[vI Af, vI Ac, sL Am Ah.length Al, sL Ae Ab.length Ad, sL Ao Ak.length An] 26)]) rfl (s0 sr) (fun H F' L' er et => Bn isAgg26 sizeOf26 rfl ((Has.own 0 rfl).ext er et) (DD rfl) rfl) (mS [3] rfl (A9 rfl) (mL [4] ([(b1, ce #[vI Af, vI Ac, sL Am Ah.length Al, sL Ae Ab.length Ad, sL Ao Ak.length An] 26)]) rfl (s0 sr) (fun H F' L' er et => Bn isAgg26 sizeOf26 rfl ((Has.own 0 rfl).ext er et) (DD rfl) rfl) ?_))
 refine ⟨_, [(29, .agg #[vI Af, vI Ac, sL Am Ah.length Al, sL Ae Ab.length Ad, sL Ao Ak.length An])], rfl, rfl, z1, by kernel_rfl, ?_⟩; intro H
 obtain ⟨n, n2, l, l2, l3, gz, ia⟩ := Ez gw
 refine c0 call15 (Fa ad aa ae gz) ?_; rintro _ jm _ br cr ⟨cy, cz, da, bl, db, dd, de, bm, df, dg, dh, bn, rfl, rfl, ax, aw, aj⟩
 replace ad := ad.mono (Ay kJ) br
 replace aa := aa.m1 br
 replace ae := ae.mono (Ai kI kP) br
 replace ab := ab.m1 br
 replace ax := ax.new fun p hp => cr p (by simp [hp])
 replace aw := aw.new fun p hp => cr p (by simp [hp])
 replace aj := aj.new fun p hp => cr p (by simp [hp])
 refine AB (lp (lp (lp (ln rfl)))) (kO (kf (fS (fS (fS fO))) kr) ?_)
 refine Aa ⟨_, rfl, br, [4, 2], by kernel_rfl, .inl (.inr (fun d h => by cases h; rfl)), (fc (s0 (s2 (s3 (s3 (s3 sr))))) (fc sm nm)), ?_⟩
 refine ⟨_, [(31, sL BP AU.length BO)], rfl, rfl, z1, by kernel_rfl, ?_⟩; intro H
 obtain ⟨l4, ib, ic⟩ := Az ia
 refine c0 call21 (DO ab ib) ?_; rintro _ jn _ bb eu ⟨eb, ec, ef, bo, rfl, rfl, ak⟩
 replace ad := ad.mono (Ay kJ) bb
 replace aa := aa.m1 bb
 replace ae := ae.mono (Ai kI kP) bb
 replace ab := ab.m1 bb
 replace ax := ax.mono (Ay kJ) bb
 replace aw := aw.m1 bb
 replace aj := aj.mono (Ai kI kP) bb
 replace ak := ak.new fun p hp => eu p (by simp [hp])
 refine AB (lp (ln rfl)) (kO (kf (fS fO) kr) ?_)
 refine Aa ⟨_, rfl, bb, [4], by kernel_rfl, .inl (.inr (fun d h => by cases h; rfl)), (fc (s0 (s2 (s3 (s3 (s3 (s3 sr)))))) nm), ?_⟩
 refine ⟨_, [(33, .agg #[vI Af, vI Ac, sL Am Ah.length Al, sL Ae Ab.length Ad, sL Ao Ak.length An])], rfl, rfl, z1, by kernel_rfl, ?_⟩; intro H
 obtain ⟨n3, n4, l5, l6, l7, ie, ig⟩ := Ez ic
 refine c0 call16 (DR ad aa ae ie) ?_; rintro _ ij _ ba ew ⟨eg, eh, ei, ej, en, eo, ep, bu, rfl, rfl, cj, ck, bc⟩
 replace ad := ad.mono (Ay kJ) ba
 replace aa := aa.m1 ba
 replace ae := ae.mono (Ai kI kP) ba
 replace ab := ab.m1 ba
 replace ax := ax.mono (Ay kJ) ba
 replace aw := aw.m1 ba
 replace aj := aj.mono (Ai kI kP) ba
 replace ak := ak.m1 ba
 replace bc := bc.new fun p hp => ew p (by simp [hp])
 refine AB (lp (ln rfl)) (kO (kf (fS fO) kr) ?_)
 refine Aa ⟨_, rfl, ba, [], by kernel_rfl, .inl (.inl rfl), nm, ?_⟩
 refine HP rfl ?_; intro bw ik
 refine HK (L' := (bw, ce #[vI 0, vI 0, sL none 0 0, sL none 0 0, sL none 0 0] 26) :: ((b1, ce #[vI Af, vI Ac, sL Am Ah.length Al, sL Ae Ab.length Ad, sL Ao Ak.length An] 26) :: (bu ++ (bo ++ (bl ++ (bm ++ (bn ++ []))))))) rfl ?_
 refine HP rfl ?_; intro cn il
 refine HK (L' := (cn, ce #[vI 0, vI 0, sL none 0 0, sL none 0 0, sL none 0 0] 50) :: ((bw, ce #[vI 0, vI 0, sL none 0 0, sL none 0 0, sL none 0 0] 26) :: ((b1, ce #[vI Af, vI Ac, sL Am Ah.length Al, sL Ae Ab.length Ad, sL Ao Ak.length An] 26) :: (bu ++ (bo ++ (bl ++ (bm ++ (bn ++ [])))))))) rfl ?_
 refine ⟨_, [(9, pO bw), (30, .agg #[vI n, vI n2, sL cy cz da, sL db dd de, sL df dg dh])], rfl, rfl, z2, by kernel_rfl, ?_⟩; intro H
 refine BD (i := 1) sizeOf26 rfl rfl rfl (by simp [Value.oneCell']) rfl (DD rfl) (AB rfl ?_)
 refine Aa ⟨undef, rfl, AQ.refl _, [], by kernel_rfl, .inl (.inl rfl), nm, ?_⟩
 refine mS [32] rfl (Da rfl) ?_
 refine ⟨_, [(11, pO cn), (34, .agg #[vI n3, vI n4, sL eg l5.length eh, sL ei l6.length ej, sL en eo ep])], rfl, rfl, z2, by kernel_rfl, ?_⟩; intro H
 refine BD (i := 0) sizeOf50 rfl rfl rfl (by simp [Value.oneCell']) rfl (DD rfl) (AB rfl ?_)
 refine Aa ⟨undef, rfl, AQ.refl _, [], by kernel_rfl, .inl (.inl rfl), nm, ?_⟩
 refine Ce (AG (uv (Cv isAgg50 sizeOf50 0) ?_))
 obtain ⟨n5, im, iq⟩ := Az ig
 refine Bh rfl call17 rfl rfl rfl (pT ((fC (fC (fC fP))).trans (pA pR)) (lp (ln rfl))) (fun F2 h2 h3 => by rw [(AI.A1 bc).1]; exact Ec (cj.mono (Ay kJ) h2) (ck.mono kI h2) (bc.row (Ai kI kP) h2 (aL h3)) im) ?_
 refine ua (Aa ?_)
 obtain ⟨w, ir, gj⟩ := Az iq
 refine jE (((cn, ce #[vI n3, vI n4, sL eg l5.length eh, sL ei l6.length ej, sL en eo ep] 50) :: ((bw, ce #[vI n, vI n2, sL cy cz da, sL db dd de, sL df dg dh] 26) :: ((b1, ce #[vI Af, vI Ac, sL Am Ah.length Al, sL Ae Ab.length Ad, sL Ao Ak.length An] 26) :: (bl ++ (bm ++ (bn ++ (bo ++ (bu ++ []))))))))) [(1, vI AP), (2, vI hour), (3, sL BP AU.length BO), (4, pO b1), (9, pO bw), (10, sL eb ec ef), (11, pO cn), (12, vI w)] ?_ ?_
 ·clear gj
  obtain ⟨k, gk, ey⟩ := Az ir
  refine jE (((cn, ce #[vI n3, vI n4, sL eg l5.length eh, sL ei l6.length ej, sL en eo ep] 50) :: ((bw, ce #[vI n, vI n2, sL cy cz da, sL db dd de, sL df dg dh] 26) :: ((b1, ce #[vI Af, vI Ac, sL Am Ah.length Al, sL Ae Ab.length Ad, sL Ao Ak.length An] 26) :: (bl ++ (bm ++ (bn ++ (bo ++ (bu ++ []))))))))) [(1, vI AP), (2, vI hour), (3, sL BP AU.length BO), (4, pO b1), (9, pO bw), (10, sL eb ec ef), (11, pO cn), (12, vI n5), (59, .bool k)] ?_ ?_
  ·clear ey
   refine Aq (um ?_)
   refine uv (Bx rfl rfl) (um ?_)
   by_cases ai : n5 = 0
   ·have gl := A2 gk ai
    refine nT ai (um (nT ai ?_))
    refine uv (AY rfl rfl) ?_
    refine nT ai (um ?_)
    by_cases bq : AP < 0
    ·have iu := A2 gl bq
     refine fT bq (fT bq (fT bq (fT bq (nT ai ?_))))
     refine uv (AK (Ba rfl bq) rfl) ?_
     refine nT ai (um (AZ (b' := true) 48 rfl rfl rfl rfl (AZ (b' := true) 48 rfl rfl rfl rfl (nT ai ?_))))
     refine uv (AK rfl rfl) ?_
     refine nT ai (um (AZ (b' := true) 52 rfl rfl rfl rfl (AZ (b' := true) 52 rfl rfl rfl rfl (AZ (b' := true) 52 rfl rfl rfl rfl (AZ (b' := true) 52 rfl rfl rfl rfl (AZ (b' := true) 52 rfl rfl rfl rfl (nT ai ?_)))))))
     refine uv (AK rfl rfl) (uv (AK (Ba rfl ai) rfl) (Aa ?_))
     obtain rfl := AL iu
     exact mi (kc (kc (kc (kg (fS (fS fP)) (kg (fS (fS fP)) (kg (fS (fS fP)) (kg (fS fP) kr))))))) ⟨rfl, rfl, (sc rfl z8)⟩
    have gm := A3 gl bq
    refine nF bq (um (nF bq ?_))
    refine uv (Ap Iy rfl) (nF bq (uv (Co isAgg3 2) (nF bq (uv (Hu rfl rfl) (nT ai (uv (AE (AR rfl bq) rfl) ?_))))))
    refine nT ai (um ?_)
    by_cases cp : Ac ≤ AP
    ·have iv := A2 gm cp
     refine fT cp (fT cp (nT ai ?_))
     refine uv (AK (Ba rfl cp) rfl) ?_
     refine nT ai (um (AZ (b' := true) 52 rfl rfl rfl rfl (AZ (b' := true) 52 rfl rfl rfl rfl (AZ (b' := true) 52 rfl rfl rfl rfl (AZ (b' := true) 52 rfl rfl rfl rfl (AZ (b' := true) 52 rfl rfl rfl rfl (nT ai ?_)))))))
     refine uv (AK rfl rfl) (uv (AK (Ba rfl ai) rfl) (Aa ?_))
     obtain rfl := AL iv
     exact mi (kc (kc (kc (kg (fS (fS fP)) (kg (fS (fS fP)) (kg (fS (fS fP)) (kg (fS fP) kr))))))) ⟨rfl, rfl, (sc rfl z8)⟩
    have gn := A3 gm cp
    refine nF cp (um (nF cp ?_))
    refine uv (AY rfl rfl) (nT ai (uv (AE (AR rfl cp) rfl) ?_))
    refine nT ai (um ?_)
    by_cases bk : hour < 0
    ·have iw := A2 gn bk
     refine fT bk (fT bk (fT bk (fT bk (fT bk (nT ai ?_)))))
     refine uv (AK (Ba rfl bk) rfl) (uv (AK (Ba rfl ai) rfl) (Aa ?_))
     obtain rfl := AL iw
     exact mi (kc (kc (kc (kg (fS (fS fP)) (kg (fS (fS fP)) (kg (fS (fS fP)) (kg (fS fP) kr))))))) ⟨rfl, rfl, (sc rfl z8)⟩
    have iy := A3 gn bk
    refine nF bk (um (nF bk ?_))
    refine uv (Ap CB rfl) (nF bk (uv (Co isAgg22 2) (nF bk (uv (AJ underlying22 rfl) (nF bk (uv (Hu rfl rfl) (nT ai ?_)))))))
    refine uv (AE (AR rfl bk) rfl) (uv (AK (Ba rfl ai) rfl) (Aa ?_))
    obtain rfl := AL iy
    exact mi (kc (kc (kc (kg (fS (fS fP)) (kg (fS (fS fP)) (kg (fS (fS fP)) (kg (fS fP) kr))))))) ⟨rfl, rfl, (sc rfl z8)⟩
   have iz := A3 gk ai
   refine fF ai (fF ai (fF ai (fU (fU (fU (fU (fF ai (fF ai (fU ?_)))))))))
   refine fU (fF ai (fF ai (fU (fU (fU (fU (fU (fF ai ?_))))))))
   refine uv (AE (AR rfl ai) rfl) (Aa ?_)
   obtain rfl := AL iz
   exact mi (kc (kc (kc (kg (fS (fS fP)) (kg (fS (fS fP)) (kg (fS (fS fP)) (kg (fS fP) kr))))))) ⟨rfl, rfl, (sc rfl z8)⟩
  refine AV rfl (fun ez => ?_) (fun ez => ?_)
  ·have j0 := bt ey ez
   refine Aq (ua (Aa ?_))
   obtain rfl := AL j0
   exact mi kr ⟨rfl, rfl, z8⟩
  have j1 := bf ey ez
  refine Ar ?_
  obtain rfl := AL j1
  exact mi kr ⟨rfl, rfl, z8⟩
 obtain ⟨w2, gp, gq⟩ := Az gj
 refine jE (((cn, ce #[vI n3, vI n4, sL eg l5.length eh, sL ei l6.length ej, sL en eo ep] 50) :: ((bw, ce #[vI n, vI n2, sL cy cz da, sL db dd de, sL df dg dh] 26) :: ((b1, ce #[vI Af, vI Ac, sL Am Ah.length Al, sL Ae Ab.length Ad, sL Ao Ak.length An] 26) :: (bl ++ (bm ++ (bn ++ (bo ++ (bu ++ []))))))))) [(1, vI AP), (2, vI hour), (3, sL BP AU.length BO), (4, pO b1), (9, pO bw), (10, sL eb ec ef), (11, pO cn), (12, vI w2)] ?_ ?_
 ·clear gq
  refine AG (um ?_)
  refine uv (Bx rfl rfl) (Aa ?_)
  refine cQ (fun fa => ?_) fun fa => ?_
  ·have j2 := A2 gp fa
   refine Aq (uv (Cv isAgg50 sizeOf50 0) (um ?_))
   obtain ⟨n6, j3, j4⟩ := Az j2
   refine Bh rfl call52 rfl rfl rfl (pT ((fC (fC (fC (fS (fS (fS (fS fP))))))).trans (pA pR)) (lp (ln rfl))) (fun F2 h2 h3 => by rw [(AI.A1 bc).1]; exact JX (cj.mono (Ay kJ) h2) (ck.mono kI h2) (bc.row (Ai kI kP) h2 (aL h3)) (ab.mono kI h2) j3) ?_
   refine ua (Aa ?_)
   obtain rfl := AL j4
   exact mi kr ⟨rfl, rfl, z8⟩
  have j5 := A3 gp fa
  refine Ar ?_
  obtain rfl := AL j5
  exact mi kr ⟨rfl, rfl, z8⟩
 refine AG (ua (Aa ?_))
 obtain ⟨w3, want, di, dk⟩ := Ca gq
 refine AO (fun e1 F1 L1 => ∃ (ct : Option Addr) (cu : Nat) (cv : Nat) (bx : LH), AQ ij F1 ∧ L1 = ((bw, ce #[vI n, vI n2, sL cy cz da, sL db dd de, sL df dg dh] 26) :: ((b1, ce #[vI Af, vI Ac, sL Am Ah.length Al, sL Ae Ab.length Ad, sL Ao Ak.length An] 26) :: (bl ++ (bm ++ (bn ++ (bo ++ (bx ++ []))))))) ∧ e1.sub [(1, vI AP), (2, vI hour), (3, sL BP AU.length BO), (4, pO b1), (9, pO bw), (10, sL eb ec ef), (12, vI w3), (13, sL ct cu cv)] ∧ AI K.w0.heap.size 3 1 eI F1 ct cu cv want bx) ?_ ?_
 ·clear dk
  refine AG (um ?_)
  refine uv (Bx rfl rfl) (Aa ?_)
  refine cQ (fun cw => ?_) fun cw => ?_
  ·have fb := A2 di cw
   refine AG (uv (Cv isAgg50 sizeOf50 0) ?_)
   obtain rfl := (AI.A1 bc).1
   refine A5 (Nat.le_refl _) (Ai kI kP) (fC (fC (fC (fS (fS (fS (fS fP))))))) bc ?_; intro j6 bd bz
   replace ab := ab.m1 bd
   replace cj := cj.mono (Ay kJ) bd
   replace ck := ck.m1 bd
   obtain ⟨l8, fe, dm⟩ := Az fb
   refine c0 call26 ((HM FU) cj ck bz (At.nil _ _ _) fe) ?_; rintro _ j7 _ az dp ⟨j8, j9, ja, gr, rfl, rfl, bg⟩
   replace ab := ab.m1 az
   replace cj := cj.mono (Ay kJ) az
   replace ck := ck.m1 az
   replace bz := bz.mono (Ai kI kP) az
   replace bg := bg.new fun p hp => dp p (by simp [hp])
   refine AB (lp (ln rfl)) (kO (kf (fS fO) (kf (fS fO) (kf (fS fO) kr))) ?_)
   refine ua (BR (ua (BR (um ?_))))
   refine uv ((AJ underlying34 rfl).i (AI.FE bg)) (uv (C2 rfl rfl) (Aa ?_))
   refine cQ (fun cx => ?_) fun cx => ?_
   ·have ff := A2 dm cx
    refine Aq (uv (Cv isAgg50 sizeOf50 0) ?_)
    refine um (um (um (um ?_)))
    obtain ⟨l9, n7, fg, fh⟩ := Ca ff
    refine GH rfl call53 rfl rfl rfl (pT ((fC (fC (fC fP))).trans (pA pR)) (ln (lp (ln rfl)))) (fun F2 h2 h3 => by rw [(AI.A1 bg).1]; exact MY (cj.mono (Ay kJ) h2) (ck.mono kI h2) (bz.mono (Ai kI kP) h2) (ab.mono kI h2) (bg.row kJ h2 (aL h3)) fg) (fun _ _ _ _ hq => by obtain ⟨dq, dr, dt, cq, rfl, rfl, bh⟩ := hq; exact ⟨_, _, _, _, rfl, rfl, bh.flat (fun _ _ h => h)⟩) ?_; rintro _ jb _ du dv dw ⟨dq, dr, dt, cq, rfl, rfl, bh⟩
    have dx := ND (Lb' := []) (by rfl) dv dw
    replace bh := bh.new fun p hp => dx p (by simp [hp])
    refine AB (lp (ln (lp (ln rfl)))) (kO (kf (fS (fS fO)) (kf (fS (fS fO)) (kf (fS (fS fO)) kr))) ?_)
    refine um (ox rfl rfl rfl (ox rfl rfl rfl (ua (ua (Aa ?_)))))
    obtain ⟨rfl, rfl⟩ := Cd fh
    exact mi (kd (kc (kc (kg (fS (fS fP)) (kg (fS (fS fP)) (kg (fS (fS fP)) (kg (fS (fS fP)) (ka kn)))))))) ⟨dq, dr, dt, cq, ((bd.trans az).trans du), rfl, z8, bh⟩
   have fi := A3 dm cx
   refine Ar ?_
   obtain ⟨rfl, rfl⟩ := Cd fi
   exact mi (kd (kc (kc (kx (ka (ka (ka (ka (ke kr))))))))) ⟨none, 0, 0, [], (bd.trans az), rfl, z8, AI.nil _ _ _ _ _⟩
  have fj := A3 di cw
  refine Ar ?_
  obtain ⟨rfl, rfl⟩ := Cd fj
  exact mi (kd (kc (kc (ka (ka (ka (ka (ke kn)))))))) ⟨none, 0, 0, [], AQ.refl _, rfl, z8, AI.nil _ _ _ _ _⟩
 rintro e1 jc _ ⟨ct, cu, cv, bx, ao, rfl, dy, ah⟩
 refine AA _ dy ?_
 replace ad := ad.mono (Ay kJ) ao
 replace aa := aa.m1 ao
 replace ae := ae.mono (Ai kI kP) ao
 replace ab := ab.m1 ao
 replace ax := ax.mono (Ay kJ) ao
 replace aw := aw.m1 ao
 replace aj := aj.mono (Ai kI kP) ao
 replace ak := ak.m1 ao
 refine AG (uv (Cv isAgg26 sizeOf26 0) ?_)
 refine um (um (um ?_))
 obtain rfl := (AI.A1 ax).1
 refine A5 (Nat.le_refl _) (Ay kJ) (fC (fC fP)) ax ?_; intro jd aq ay
 replace ad := ad.mono (Ay kJ) aq
 replace aa := aa.m1 aq
 replace ae := ae.mono (Ai kI kP) aq
 replace ab := ab.m1 aq
 replace aw := aw.m1 aq
 replace aj := aj.mono (Ai kI kP) aq
 replace ak := ak.m1 aq
 replace ah := ah.m1 aq
 obtain rfl := (AI.A1 aw).1
 refine A5 (Nat.le_refl _) kI (fC (fC fP)) aw ?_; intro je ar bj
 replace ad := ad.mono (Ay kJ) ar
 replace aa := aa.m1 ar
 replace ae := ae.mono (Ai kI kP) ar
 replace ab := ab.m1 ar
 replace ay := ay.mono (Ay kJ) ar
 replace aj := aj.mono (Ai kI kP) ar
 replace ak := ak.m1 ar
 replace ah := ah.m1 ar
 obtain rfl := (AI.A1 aj).1
 refine A5 (Nat.le_refl _) (Ai kI kP) (fC (fC fP)) aj ?_; intro jf au bp
 replace ad := ad.mono (Ay kJ) au
 replace aa := aa.m1 au
 replace ae := ae.mono (Ai kI kP) au
 replace ab := ab.m1 au
 replace ay := ay.mono (Ay kJ) au
 replace bj := bj.m1 au
 replace ak := ak.m1 au
 replace ah := ah.m1 au
 obtain rfl := (AI.A1 ak).1
 refine A5 (Nat.le_refl _) kI (fC (fC fP)) ak ?_; intro jg av cb
 replace ad := ad.mono (Ay kJ) av
 replace aa := aa.m1 av
 replace ae := ae.mono (Ai kI kP) av
 replace ab := ab.m1 av
 replace ay := ay.mono (Ay kJ) av
 replace bj := bj.m1 av
 replace bp := bp.mono (Ai kI kP) av
 replace ah := ah.m1 av
 obtain ⟨jo, n8, fk, fl⟩ := Ca dk
 refine c0 call54 (MG ay bj bp cb fk) ?_; rintro _ jh _ al gu ⟨ji, jj, rfl, rfl, fm⟩
 replace ad := ad.mono (Ay kJ) al
 replace aa := aa.m1 al
 replace ae := ae.mono (Ai kI kP) al
 replace ab := ab.m1 al
 replace ay := ay.mono (Ay kJ) al
 replace bj := bj.m1 al
 replace bp := bp.mono (Ai kI kP) al
 replace cb := cb.m1 al
 replace ah := ah.m1 al
 refine AB (ln rfl) ?_
 refine um (ox rfl rfl rfl (ox rfl rfl rfl (ua (ua (BR (um (um ?_)))))))
 refine uv (Bx rfl rfl) (um ?_)
 obtain ⟨cc, fo⟩ := AF fl
 refine nT cc (um (nT cc (um (nT cc ?_))))
 obtain ⟨jq, fp, fq⟩ := Az fo
 refine Bh rfl call25 rfl rfl rfl (pT ((fC (fC fP)).trans (pA pR)) (lp (ln rfl))) (fun F2 h2 h3 => by rw [(AI.A1 ah).1]; exact Bv (fm.mono kI h2) (ah.row kI h2 (aL h3)) fp) ?_
 refine uv (AK (Ba rfl cc) rfl) (um ?_)
 obtain ⟨cf, ft⟩ := AF fq
 refine nB cf (uv (Cv isAgg26 sizeOf26 0) (nB cf (uv (Cv isAgg26 sizeOf26 1) (nB cf ?_))))
 obtain ⟨jr, fv, fw⟩ := Az ft
 refine cV call19 (EE ay bj bp ad aa ae fv) (uv (AK (FK rfl cf) rfl) (um ?_))
 obtain ⟨cg, fx⟩ := AF fw
 refine nB cg (um (nB cg (um (nB cg ?_))))
 obtain ⟨js, fy, ga⟩ := Az fx
 refine cV call25 (Bv cb ab fy) (uv (AK (FK rfl cg) rfl) (um ?_))
 obtain ⟨dz, gb⟩ := AF ga
 refine nB dz ?_
 obtain ⟨jt, gg, gh⟩ := Az gb
 refine cV call13 (CA gg) (uv (AK (FK rfl dz) rfl) ?_)
 refine ua (Aa ?_)
 refine kW kn (Aw (B7 results9 ?_))
 obtain rfl := AL gh
 exact rfl
set_option maxHeartbeats 1000000 in
theorem M6 {n : Int} (ab : At 1 (CM 1 eJ) F Am Al Ah) (aa : At 1 eI F Ae Ad Ab) (ad : At 3 (Br eI eP) F Ao An Ak) {r : Bool} (hr : JW Af Ac Ah Ab Ak n = some r) :
    Bp Tryz.prog 10 #[.agg #[vI Af, vI Ac, sL Am Ah.length Al, sL Ae Ab.length Ad, sL Ao Ak.length An], vI n] F (.bool r) := by
 refine sp func10 ntmps10 fun K _ _ => ?_
 rw [JW] at hr
 refine AG ?_
 refine BB rfl rfl ?_; intro b1 fg
 refine ua (BR ?_)
 refine uv (Cv isAgg26 sizeOf26 0) ?_
 obtain ⟨l, n2, h2, r3⟩ := Ca hr
 refine c0 call30 (KY ab aa ad h2) ?_; rintro _ F4 _ bn cn ⟨a8, aq, c9, aw, rfl, rfl, ai⟩
 replace ab := ab.mono (Ay kJ) bn
 replace aa := aa.m1 bn
 replace ad := ad.mono (Ai kI kP) bn
 replace ai := ai.new fun p hp => cn p (by simp [hp])
 refine AB (lp (ln rfl)) (kO (kf (fS fO) kr) ?_)
 refine um (ox rfl rfl rfl (ox rfl rfl rfl (ua (ua (Aa ?_)))))
 obtain ⟨l2, cp, cc⟩ := Az r3
 refine AO (fun e1 F1 L1 => ∃ (al : LH), F4 = F1 ∧ L1 = ((b1, ce #[vI Af, vI Ac, sL Am Ah.length Al, sL Ae Ab.length Ad, sL Ao Ak.length An] 26) :: (al ++ [])) ∧ e1.sub [(1, vI n), (2, pO b1), (5, sL a8 aq c9)] ∧ AI K.w0.heap.size 3 1 eI F1 a8 aq c9 l2 al) ?_ ?_
 ·clear cc
  obtain ⟨k, cf, bo⟩ := Az cp
  refine jE (((b1, ce #[vI Af, vI Ac, sL Am Ah.length Al, sL Ae Ab.length Ad, sL Ao Ak.length An] 26) :: (aw ++ []))) [(1, vI n), (2, pO b1), (5, sL a8 aq c9), (20, .bool k)] ?_ ?_
  ·clear bo
   refine Aq (um ?_)
   refine uv ((AJ underlying22 rfl).i (AI.FE ai)) (uv (C2 rfl rfl) (um ?_))
   by_cases ar : 0 < (l.length : Int)
   ·have cq := A2 cf ar
    refine nT ar (um (nT ar ?_))
    refine uv (Dh rfl rfl (by decide)) (nT ar (uv (Bx rfl rfl) (uv (AK (Ba rfl ar) rfl) (Aa ?_))))
    obtain rfl := AL cq
    exact mi kr ⟨rfl, rfl, z4⟩
   have cr := A3 cf ar
   refine fF ar (fF ar (fF ar ?_))
   refine uv (AE (AR rfl ar) rfl) (Aa ?_)
   obtain rfl := AL cr
   exact mi kr ⟨rfl, rfl, z4⟩
  refine AV rfl (fun bp => ?_) (fun bp => ?_)
  ·have ct := bt bo bp
   refine Aq (um (um (um ?_)))
   refine uv ((AJ underlying22 rfl).i (AI.FE ai)) ?_
   obtain ⟨cu, cv⟩ := AF ct
   refine uv (Dh rfl rfl cu) (um (uv (Dh rfl rfl (by decide)) ?_))
   obtain ⟨x, bq, br, cw⟩ := BG cv
   obtain ⟨fh, fi, fj, cx, bb, cy, cg, rfl, cz, da⟩ := AI.at kI ai (L := (b1, ce #[vI Af, vI Ac, sL Am Ah.length Al, sL Ae Ab.length Ad, sL Ao Ak.length An] 26) :: (aw ++ [])) (fC fP) bq.1 br
   refine uv (C0 underlying22 sizeOf3 bb (AI.idx ai bq)) ?_
   obtain ⟨l3, db, dd⟩ := BI cw
   refine Dq (u := Int.tmod n 8) sizeOf3 kI rfl bb rfl rfl (fun _ => .c .h) ai db bq ?_; intro bu bw
   refine Aa ?_
   obtain rfl := AL dd
   exact mi kr ⟨bu, rfl, rfl, z3, bw⟩
  have de := bf bo bp
  refine Ar ?_
  obtain rfl := AL de
  exact mi kr ⟨aw, rfl, rfl, z3, ai⟩
 rintro e1 _ _ ⟨al, rfl, rfl, bx, ao⟩
 refine AA _ bx ?_
 refine AG (um ?_)
 refine uv (Dh rfl rfl (by decide)) (um (uv (Dh rfl rfl (by decide)) (uv (C2 rfl rfl) ?_)))
 refine uv (BX (v := .agg #[vI (Int.tmod n 2), vI 0, .bool (decide (0 < (Int.tmod n 3)))]) rfl (by intro w; kernel_rfl)) ?_
 refine um (uv (Dh rfl rfl (by decide)) ?_)
 obtain ⟨df, dg⟩ := AF cc
 refine uv (EU rfl rfl df) (um (uv (Dh rfl rfl (by decide)) (um (uv (Dh rfl rfl (by decide)) (uv (C2 rfl rfl) ?_)))))
 refine uv (BX (v := .agg #[vI (1 - (Int.tmod n 2)), vI (Int.tmod n 2), .bool (decide (0 < (Int.tmod n 2)))]) rfl (by intro w; kernel_rfl)) ?_
 refine um (uv (Dh rfl rfl (by decide)) (um (uv (Dh rfl rfl (by decide)) (uv (Bx rfl rfl) ?_))))
 refine uv (BX (v := .agg #[vI (Int.tmod n 2), vI 0, .bool (decide ((Int.tmod n 3) = 0))]) rfl (by intro w; kernel_rfl)) ?_
 refine bA (cs := #[vI (Int.tmod n 2), vI 0, .bool (decide (0 < (Int.tmod n 3))), vI (1 - (Int.tmod n 2)), vI (Int.tmod n 2), .bool (decide (0 < (Int.tmod n 2))), vI (Int.tmod n 2), vI 0, .bool (decide ((Int.tmod n 3) = 0))]) K8 [.agg #[vI (Int.tmod n 2), vI 0, .bool (decide (0 < (Int.tmod n 3)))], .agg #[vI (1 - (Int.tmod n 2)), vI (Int.tmod n 2), .bool (decide (0 < (Int.tmod n 2)))], .agg #[vI (Int.tmod n 2), vI 0, .bool (decide ((Int.tmod n 3) = 0))]] ?_; intro az bz
 have bc : AI K.w0.heap.size 29 3 (Br eI (Br eI bE)) F4 (aD az) 3 3 [(Int.tmod n 2, 0, decide (0 < (Int.tmod n 3))), (1 - (Int.tmod n 2), Int.tmod n 2, decide (0 < (Int.tmod n 2))), (Int.tmod n 2, 0, decide ((Int.tmod n 3) = 0))] [(az, ce #[vI (Int.tmod n 2), vI 0, .bool (decide (0 < (Int.tmod n 3))), vI (1 - (Int.tmod n 2)), vI (Int.tmod n 2), .bool (decide (0 < (Int.tmod n 2))), vI (Int.tmod n 2), vI 0, .bool (decide ((Int.tmod n 3) = 0))] 29)] := AI.Bd (vss := [[vI (Int.tmod n 2), vI 0, .bool (decide (0 < (Int.tmod n 3)))], [vI (1 - (Int.tmod n 2)), vI (Int.tmod n 2), .bool (decide (0 < (Int.tmod n 2)))], [vI (Int.tmod n 2), vI 0, .bool (decide ((Int.tmod n 3) = 0))]]) (Ai kI (Ai kI Be)) bz (.cons ⟨_, _, rfl, rfl, ⟨_, _, rfl, rfl, rfl⟩⟩ (.cons ⟨_, _, rfl, rfl, ⟨_, _, rfl, rfl, rfl⟩⟩ (.cons ⟨_, _, rfl, rfl, ⟨_, _, rfl, rfl, rfl⟩⟩ .nil))) rfl rfl (by simp [maxLen])
 generalize ax : ([(az, ce #[vI (Int.tmod n 2), vI 0, .bool (decide (0 < (Int.tmod n 3))), vI (1 - (Int.tmod n 2)), vI (Int.tmod n 2), .bool (decide (0 < (Int.tmod n 2))), vI (Int.tmod n 2), vI 0, .bool (decide ((Int.tmod n 3) = 0))] 29)] : LH) = bd at bc
 refine Bc (L' := bd ++ ((b1, ce #[vI Af, vI Ac, sL Am Ah.length Al, sL Ae Ab.length Ad, sL Ao Ak.length An] 26) :: (al ++ []))) (by rw [← ax]; exact fO) ?_
 refine Bc (L' := (b1, ce #[vI Af, vI Ac, sL Am Ah.length Al, sL Ae Ab.length Ad, sL Ao Ak.length An] 26) :: (bd ++ (al ++ []))) (List.Perm.symm (fC fP)) ?_
 refine ua (Aa (Au ?_))
 refine BK [(.still, 0), (.still, 1), (.still, 2), (.still, 3), (.still, 4), (.still, 5), (.seq, 6), (.still, 7), (.still, 8), (.still, 9), (.still, 10), (.still, 11), (.seq, 12), (.still, 13), (.still, 14), (.still, 15), (.still, 16), (.seq, 17), (.still, 18), (.still, 19), (.still, 20), (.still, 21), (.still, 22), (.still, 23), (.still, 25), (.seq, 24), (.seq, 26), (.still, 27), (.still, 28), (.still, 29), (.still, 30), (.still, 31), (.still, 32), (.still, 33), (.still, 34), (.still, 35), (.still, 36), (.still, 37), (.still, 38), (.still, 40), (.still, 41), (.seq, 39), (.seq, 42), (.seq, 43), (.still, 44), (.still, 45)] (by kernel_rfl) (by kernel_rfl) (Oy (by kernel_rfl)) (by rfl) (by kernel_rfl) (mA [2] isAgg26 sizeOf26 0 rfl rfl rfl rfl (mS [1] rfl (A9 rfl) (mS (v := vI (Int.tmod n 3)) [52] rfl (Dh rfl rfl (by decide)) (mS [1] rfl (A9 rfl) (mS (v := vI (Int.tmod n 9)) [54] rfl (Dh rfl rfl (by decide)) ?_)))))
 obtain ⟨dh, di⟩ := AF dg
 refine mS (v := vI ((Int.tmod n 9) - 1)) [55] rfl (EU rfl rfl dh) ?_
 refine ⟨_, [(51, .agg #[vI Af, vI Ac, sL Am Ah.length Al, sL Ae Ab.length Ad, sL Ao Ak.length An]), (53, vI (Int.tmod n 3)), (56, vI ((Int.tmod n 9) - 1))], rfl, rfl, z3, by kernel_rfl, ?_⟩; intro H
 obtain ⟨ok, dk, dm⟩ := Az di
 refine cV call5 (BW ab aa ad dk) ?_
 refine Aa ⟨_, rfl, AQ.refl _, [], by kernel_rfl, .inl (.inl rfl), nm, ?_⟩
 refine mS [57] rfl (A9 rfl) ?_
 obtain ⟨ba, dp⟩ := AF dm
 refine EL 58 (v := .agg #[vI Af, vI Ac, sL Am Ah.length Al, sL Ae Ab.length Ad, sL Ao Ak.length An]) (ek := [(2, pO b1), (58, .bool ok)]) (Ls := [(b1, ce #[vI Af, vI Ac, sL Am Ah.length Al, sL Ae Ab.length Ad, sL Ao Ak.length An] 26)]) rfl rfl (Cy rfl ba) rfl rfl rfl (z2) (by kernel_rfl) (s0 (s2 (s3 (s3 sr)))) (fun H F' L' ae ah => Bn isAgg26 sizeOf26 rfl ((Has.own 0 rfl).ext ae ah) (DD rfl) rfl) (EL 58 (v := sL a8 aq c9) (ek := [(5, sL a8 aq c9), (58, .bool ok)]) (Ls := []) rfl rfl (Cy rfl ba) rfl rfl rfl (z2) (by kernel_rfl) sm (fun H F' L' ae ah => A9 rfl) (EL 58 (v := vI n) (ek := [(1, vI n), (58, .bool ok)]) (Ls := []) rfl rfl (Cy rfl ba) rfl rfl rfl (z2) (by kernel_rfl) sm (fun H F' L' ae ah => A9 rfl) (EL 58 (v := vI (Int.tmod n 3)) (ek := [(58, .bool ok), (61, vI n)]) (Ls := []) rfl rfl (Cy rfl ba) rfl rfl rfl (z2) (by kernel_rfl) sm (fun H F' L' ae ah => Dh rfl rfl (by decide)) ?_)))
 refine ⟨_, [(58, .bool ok), (59, .agg #[vI Af, vI Ac, sL Am Ah.length Al, sL Ae Ab.length Ad, sL Ao Ak.length An]), (60, sL a8 aq c9), (62, vI (Int.tmod n 3))], rfl, rfl, z4, by kernel_rfl, ?_⟩; intro H
 refine nB ba ?_
 obtain ⟨bk, dq, dr⟩ := Az dp
 refine Bh rfl call6 rfl rfl rfl (pT ((fC (fS fP)).trans (pA pR)) (lp (ln rfl))) (fun F2 h2 h3 => by rw [(AI.A1 ao).1]; exact Eb (ab.mono (Ay kJ) h2) (aa.mono kI h2) (ad.mono (Ai kI kP) h2) (ao.row kI h2 (aL h3)) dq) ?_
 refine Aa ⟨_, rfl, AQ.refl _, [], by kernel_rfl, .inl (.inl rfl), nm, ?_⟩
 refine mS (v := .bool bk) [58, 63] rfl (AK (FK rfl ba) rfl) (mS [64] rfl (A9 rfl) ?_)
 obtain ⟨bl, dt⟩ := AF dr
 refine EL 65 (v := .agg #[vI Af, vI Ac, sL Am Ah.length Al, sL Ae Ab.length Ad, sL Ao Ak.length An]) (ek := [(2, pO b1), (65, .bool bk)]) (Ls := [(b1, ce #[vI Af, vI Ac, sL Am Ah.length Al, sL Ae Ab.length Ad, sL Ao Ak.length An] 26)]) rfl rfl (Cy rfl bl) rfl rfl rfl (z2) (by kernel_rfl) (s0 (s2 (s3 (s3 sr)))) (fun H F' L' ae ah => Bn isAgg26 sizeOf26 rfl ((Has.own 0 rfl).ext ae ah) (DD rfl) rfl) (EL 65 (v := sL a8 aq c9) (ek := [(5, sL a8 aq c9), (65, .bool bk)]) (Ls := []) rfl rfl (Cy rfl bl) rfl rfl rfl (z2) (by kernel_rfl) sm (fun H F' L' ae ah => A9 rfl) ?_)
 refine ⟨_, [(65, .bool bk), (66, .agg #[vI Af, vI Ac, sL Am Ah.length Al, sL Ae Ab.length Ad, sL Ao Ak.length An]), (67, sL a8 aq c9)], rfl, rfl, z3, by kernel_rfl, ?_⟩; intro H
 refine nB bl ?_
 obtain ⟨au, du, dv⟩ := Az dt
 refine Bh rfl call7 rfl rfl rfl (pT ((fC (fS fP)).trans (pA pR)) (lp (ln rfl))) (fun F2 h2 h3 => by rw [(AI.A1 ao).1]; exact II (ab.mono (Ay kJ) h2) (aa.mono kI h2) (ad.mono (Ai kI kP) h2) (ao.row kI h2 (aL h3)) du) ?_
 refine Aa ⟨_, rfl, AQ.refl _, [], by kernel_rfl, .inl (.inl rfl), nm, ?_⟩
 refine mS (v := .bool au) [65, 68] rfl (AK (FK rfl bl) rfl) (mS [69] rfl (A9 rfl) ?_)
 obtain ⟨av, dw⟩ := AF dv
 refine EL 70 (v := .agg #[vI Af, vI Ac, sL Am Ah.length Al, sL Ae Ab.length Ad, sL Ao Ak.length An]) (ek := [(2, pO b1), (70, .bool au)]) (Ls := [(b1, ce #[vI Af, vI Ac, sL Am Ah.length Al, sL Ae Ab.length Ad, sL Ao Ak.length An] 26)]) rfl rfl (Cy rfl av) rfl rfl rfl (z2) (by kernel_rfl) (s0 (s2 (s3 (s3 sr)))) (fun H F' L' ae ah => Bn isAgg26 sizeOf26 rfl ((Has.own 0 rfl).ext ae ah) (DD rfl) rfl) (EL 70 (v := sL (aD az) 3 3) (ek := [(7, sL (aD az) 3 3), (70, .bool au)]) (Ls := []) rfl rfl (Cy rfl av) rfl rfl rfl (z2) (by kernel_rfl) sm (fun H F' L' ae ah => A9 rfl) (EL 70 (v := vI n) (ek := [(1, vI n), (70, .bool au)]) (Ls := []) rfl rfl (Cy rfl av) rfl rfl rfl (z2) (by kernel_rfl) sm (fun H F' L' ae ah => A9 rfl) (EL 70 (v := vI (Int.tmod n 4)) (ek := [(70, .bool au), (73, vI n)]) (Ls := []) rfl rfl (Cy rfl av) rfl rfl rfl (z2) (by kernel_rfl) sm (fun H F' L' ae ah => Dh rfl rfl (by decide)) (EL 70 (v := sL a8 aq c9) (ek := [(5, sL a8 aq c9), (70, .bool au)]) (Ls := []) rfl rfl (Cy rfl av) rfl rfl rfl (z2) (by kernel_rfl) sm (fun H F' L' ae ah => A9 rfl) ?_))))
 refine ⟨_, [(70, .bool au), (72, sL (aD az) 3 3), (74, vI (Int.tmod n 4))], rfl, rfl, z3, by kernel_rfl, ?_⟩; intro H
 refine nB av ?_
 obtain ⟨dx, dy⟩ := AF dw
 obtain ⟨l4, dz, eb⟩ := BI dy
 refine N1 (l := 0) (h := Int.tmod n 4) (zs := l4) rfl K8 (Ai kI (Ai kI Be)) rfl (.inl ⟨rfl, rfl⟩) (.inr ⟨_, rfl, rfl⟩) (fun _ => .c .h) bc dx dz ?_; intro ec ef eg bg cj
 refine Aa ⟨_, rfl, AQ.refl _, [25, 20], by kernel_rfl, .inl (.inr (fun d h => by cases h; rfl)), (fc sm (fc (s0 (s2 (s3 (s3 sr)))) nm)), ?_⟩
 refine ⟨_, [(70, .bool au), (71, .agg #[vI Af, vI Ac, sL Am Ah.length Al, sL Ae Ab.length Ad, sL Ao Ak.length An]), (75, sL ec ef eg), (76, sL a8 aq c9)], rfl, rfl, z4, by kernel_rfl, ?_⟩; intro H
 refine nB av ?_
 obtain ⟨aj, eh, ei⟩ := Az eb
 refine Bh rfl call8 rfl rfl rfl (pT ((fC fP).trans (pA ((fC fP).trans (pA pR)))) (lp (lp (ln rfl)))) (fun F2 h2 h3 => by rw [(AI.A1 cj).1]; rw [(AI.A1 ao).1]; exact DJ (ab.mono (Ay kJ) h2) (aa.mono kI h2) (ad.mono (Ai kI kP) h2) (cj.row (Ai kI (Ai kI Be)) h2 (aL h3)) (ao.row kI h2 (aL (aR h3))) eh) ?_
 refine Aa ⟨_, rfl, AQ.refl _, [], by kernel_rfl, .inl (.inl rfl), nm, ?_⟩
 refine mS (v := .bool aj) [70, 77] rfl (AK (FK rfl av) rfl) (mS [78] rfl (A9 rfl) ?_)
 obtain ⟨ak, ej⟩ := AF ei
 refine EL 79 (v := .agg #[vI Af, vI Ac, sL Am Ah.length Al, sL Ae Ab.length Ad, sL Ao Ak.length An]) (ek := [(2, pO b1), (79, .bool aj)]) (Ls := [(b1, ce #[vI Af, vI Ac, sL Am Ah.length Al, sL Ae Ab.length Ad, sL Ao Ak.length An] 26)]) rfl rfl (Cy rfl ak) rfl rfl rfl (z2) (by kernel_rfl) (s0 (s2 (s3 (s3 sr)))) (fun H F' L' ae ah => Bn isAgg26 sizeOf26 rfl ((Has.own 0 rfl).ext ae ah) (DD rfl) rfl) (EL 79 (v := vI n) (ek := [(1, vI n), (79, .bool aj)]) (Ls := []) rfl rfl (Cy rfl ak) rfl rfl rfl (z2) (by kernel_rfl) sm (fun H F' L' ae ah => A9 rfl) (EL 79 (v := vI (Int.tmod n 2)) (ek := [(79, .bool aj), (81, vI n)]) (Ls := []) rfl rfl (Cy rfl ak) rfl rfl rfl (z2) (by kernel_rfl) sm (fun H F' L' ae ah => Dh rfl rfl (by decide)) (EL 79 (v := vI n) (ek := [(1, vI n), (79, .bool aj)]) (Ls := []) rfl rfl (Cy rfl ak) rfl rfl rfl (z2) (by kernel_rfl) sm (fun H F' L' ae ah => A9 rfl) (EL 79 (v := vI (Int.tmod n 3)) (ek := [(79, .bool aj), (83, vI n)]) (Ls := []) rfl rfl (Cy rfl ak) rfl rfl rfl (z2) (by kernel_rfl) sm (fun H F' L' ae ah => Dh rfl rfl (by decide)) (EL 79 (v := vI n) (ek := [(1, vI n), (79, .bool aj)]) (Ls := []) rfl rfl (Cy rfl ak) rfl rfl rfl (z2) (by kernel_rfl) sm (fun H F' L' ae ah => A9 rfl) (EL 79 (v := vI (Int.tmod n 2)) (ek := [(79, .bool aj), (85, vI n)]) (Ls := []) rfl rfl (Cy rfl ak) rfl rfl rfl (z2) (by kernel_rfl) sm (fun H F' L' ae ah => Dh rfl rfl (by decide)) (EL 79 (v := vI n) (ek := [(1, vI n), (79, .bool aj)]) (Ls := []) rfl rfl (Cy rfl ak) rfl rfl rfl (z2) (by kernel_rfl) sm (fun H F' L' ae ah => A9 rfl) ?_)))))))
 refine EL 79 (v := vI (Int.tmod n 2)) (ek := [(79, .bool aj), (87, vI n)]) (Ls := []) rfl rfl (Cy rfl ak) rfl rfl rfl (z2) (by kernel_rfl) sm (fun H F' L' ae ah => Dh rfl rfl (by decide)) ?_
 obtain ⟨en, eo⟩ := AF ej
 refine EL 79 (v := vI (1 - (Int.tmod n 2))) (ek := [(79, .bool aj), (88, vI (Int.tmod n 2))]) (Ls := []) rfl rfl (Cy rfl ak) rfl rfl rfl (z2) (by kernel_rfl) sm (fun H F' L' ae ah => EU rfl rfl en) (EL 79 (v := vI n) (ek := [(1, vI n), (79, .bool aj)]) (Ls := []) rfl rfl (Cy rfl ak) rfl rfl rfl (z2) (by kernel_rfl) sm (fun H F' L' ae ah => A9 rfl) (EL 79 (v := vI (Int.tmod n 3)) (ek := [(79, .bool aj), (91, vI n)]) (Ls := []) rfl rfl (Cy rfl ak) rfl rfl rfl (z2) (by kernel_rfl) sm (fun H F' L' ae ah => Dh rfl rfl (by decide)) ?_))
 refine ⟨_, [(79, .bool aj), (86, vI (Int.tmod n 2)), (89, vI (1 - (Int.tmod n 2)))], rfl, rfl, z3, by kernel_rfl, ?_⟩; intro H
 refine nB ak ?_
 refine bA (cs := #[vI (Int.tmod n 2), vI (1 - (Int.tmod n 2))]) Bm [vI (Int.tmod n 2), vI (1 - (Int.tmod n 2))] ?_; intro bm cb
 refine Aa ⟨_, rfl, AQ.refl _, [41, 40, 33, 32, 31, 30, 29], by kernel_rfl, .inl (.inr (fun d h => by cases h; rfl)), (fc sm (fc sm (fc sm (fc sm (fc sm (fc sm (fc (s0 (s1 (s2 (s3 (s3 sr))))) nm))))))), ?_⟩
 refine ⟨_, [(79, .bool aj), (90, sL (aD bm) 2 2), (92, vI (Int.tmod n 3))], rfl, rfl, z3, by kernel_rfl, ?_⟩; intro H
 refine nB ak ?_
 have bh : AI K.w0.heap.size 3 1 eI F4 (aD bm) 2 2 [Int.tmod n 2, 1 - (Int.tmod n 2)] [(bm, ce #[vI (Int.tmod n 2), vI (1 - (Int.tmod n 2))] 3)] := AI.Bd (vss := [[vI (Int.tmod n 2)], [vI (1 - (Int.tmod n 2))]]) kI cb (.cons rfl (.cons rfl .nil)) rfl rfl (by simp [maxLen])
 generalize ay : ([(bm, ce #[vI (Int.tmod n 2), vI (1 - (Int.tmod n 2))] 3)] : LH) = bj at bh
 refine Bc (L' := bj ++ ((b1, ce #[vI Af, vI Ac, sL Am Ah.length Al, sL Ae Ab.length Ad, sL Ao Ak.length An] 26) :: (bg ++ (al ++ [])))) (by rw [← ay]; exact fO) ?_
 refine Bc (L' := (b1, ce #[vI Af, vI Ac, sL Am Ah.length Al, sL Ae Ab.length Ad, sL Ao Ak.length An] 26) :: (bj ++ (bg ++ (al ++ [])))) (List.Perm.symm (fC fP)) ?_
 obtain ⟨ep, er⟩ := AF eo
 obtain ⟨l5, et, eu⟩ := BI er
 refine N1 (l := 0) (h := Int.tmod n 3) (zs := l5) rfl Bm kI rfl (.inl ⟨rfl, rfl⟩) (.inr ⟨_, rfl, rfl⟩) (fun _ => .c .h) bh ep et ?_; intro ew ey ez fa ck
 refine Aa ⟨_, rfl, AQ.refl _, [33, 32, 31, 30, 29], by kernel_rfl, .inl (.inr (fun d h => by cases h; rfl)), (fc sm (fc sm (fc sm (fc sm (fc (s0 (s2 (s3 (s3 (s3 sr))))) nm))))), ?_⟩
 refine ⟨_, [(79, .bool aj), (80, .agg #[vI Af, vI Ac, sL Am Ah.length Al, sL Ae Ab.length Ad, sL Ao Ak.length An]), (82, vI (Int.tmod n 2)), (84, vI (Int.tmod n 3)), (93, sL ew ey ez)], rfl, rfl, z5, by kernel_rfl, ?_⟩; intro H
 refine nB ak ?_
 obtain ⟨fb, fe, ff⟩ := Az eu
 refine Bh rfl call9 rfl rfl rfl (pT ((fC fP).trans (pA pR)) (lp (ln rfl))) (fun F2 h2 h3 => by rw [(AI.A1 ck).1]; exact GP (ab.mono (Ay kJ) h2) (aa.mono kI h2) (ad.mono (Ai kI kP) h2) (ck.row kI h2 (aL h3)) fe) ?_
 refine Aa ⟨_, rfl, AQ.refl _, [], by kernel_rfl, .inl (.inl rfl), nm, ?_⟩
 refine mS (v := .bool fb) [79, 94] rfl (AK (FK rfl ak) rfl) (mS [95] rfl (Da rfl) (Ce (kW kn (Aw (B7 results10 ?_)))))
 obtain rfl := AL ff
 exact rfl
set_option maxHeartbeats 1000000 in
theorem ME {x r : Int} (hr : Jj x y = some (r, r2)) :
    Bp Tryz.prog 108 #[.int .u64 x, .int .u64 y] F (.tuple #[.int .u64 r, .int .u64 r2]) := by
 refine sp func108 ntmps108 fun K _ _ => ?_
 rw [Jj] at hr
 refine AG (ua (ua (BR (um ?_))))
 refine uv (Q3 rfl rfl rfl) ?_
 refine ua (BR (um ?_))
 refine uv (Pv rfl rfl (by decide)) ?_
 refine ua (BR (um ?_))
 refine uv (Q3 rfl rfl rfl) ?_
 refine ua (BR (um ?_))
 refine uv (Pv rfl rfl (by decide)) ?_
 refine ua (BR (um (um ?_)))
 refine uv (Pk rfl rfl rfl) ?_
 obtain ⟨w0, h1, r3⟩ := BI hr
 refine uv ((Da rfl).i h1) ?_
 refine BR (um (um ?_))
 refine uv (Pk rfl rfl rfl) (um (uv (Pv rfl rfl (by decide)) (uv (Qi rfl rfl rfl) ?_)))
 obtain ⟨t, h4, r5⟩ := BI r3
 refine uv ((Da rfl).i h4) ?_
 refine BR (um ?_)
 refine uv (Q3 rfl rfl rfl) ?_
 refine ua (BR (um ?_))
 refine uv (Pv rfl rfl (by decide)) ?_
 refine ua (BR (um (um (um ?_))))
 refine uv (Pk rfl rfl rfl) (uv (Qi rfl rfl rfl) ?_)
 obtain ⟨w1, h6, r7⟩ := BI r5
 refine uv ((Da rfl).i h6) ?_
 refine BR (um (um ?_))
 refine uv (Pk rfl rfl rfl) (um (uv (Qi rfl rfl rfl) (um (uv (Pv rfl rfl (by decide)) (uv (Qi rfl rfl rfl) ?_)))))
 obtain ⟨hi, h8, r9⟩ := BI r7
 refine uv ((Da rfl).i h8) ?_
 refine BR (um (um ?_))
 refine uv (Pk rfl rfl rfl) ?_
 obtain ⟨lo, aa, ab⟩ := BI r9
 refine uv ((Da rfl).i aa) ?_
 refine Aa (Aw ?_)
 refine BM results108 (AT rfl) (AT rfl) (sr) ?_
 obtain ⟨rfl, rfl⟩ := Cd ab
 exact rfl
set_option maxHeartbeats 1000000 in
theorem NL {x r : Int} (hr : Ku x y = some (r, r2)) :
    Bp Tryz.prog 55 #[.int .u64 x, .int .u64 y] F (.tuple #[.int .u64 r, .int .u64 r2]) := by
 refine sp func55 ntmps55 fun K _ _ => ?_
 rw [Ku] at hr
 refine AG (ua (ua (Aa (Au ?_))))
 refine AV rfl (fun c1 => nomatch c1) (fun c1 => ?_)
 refine Ar (AG (um (um ?_)))
 obtain ⟨n, n2, h2, r3⟩ := Ca hr
 refine cV call108 (ME h2) ?_
 refine um (ox rfl rfl rfl (ox rfl rfl rfl (ua (ua (BR (um (um (ua (ua ?_)))))))))
 refine Aa (Aw ?_)
 refine BM results55 (AT rfl) (AT rfl) (sr) ?_
 obtain ⟨rfl, rfl⟩ := Cd r3
 exact rfl
set_option maxHeartbeats 1000000 in
theorem KG {Qu : Option Addr} {Qh : Nat} {x : List Int} {count : Int} (bd : At 1 eI F Qu Qh x) {r : List Int} (hr : GR x count = some r) :
    SH.Spec Tryz.prog 11 #[sL Qu x.length Qh, vI count] F [] fun F' L' v => ∃ (ra : Option Addr) (rn : Nat) (rc : Nat) (rL : LH), v = sL ra rn rc ∧ L' = rL ++ [] ∧ AI 0 3 1 eI F' ra rn rc r rL := by
 refine sp func11 ntmps11 fun K _ _ => ?_
 rw [GR] at hr
 refine AG (ua (Aa (Au (AG (um ?_)))))
 refine uv (AY rfl rfl) (Aa ?_)
 obtain ⟨g2, r3⟩ := AF hr
 refine B9 rfl (fun c1 => absurd c1 g2) (fun c1 => ?_)
 refine Ar (AG (um ?_))
 refine uv (AJ underlying22 rfl) (uv (Rd rfl underlying3 underlying96 rfl) (um (uv (Rd rfl underlying3 underlying96 rfl) ?_)))
 obtain ⟨n, n2, h4, r5⟩ := Ca r3
 refine cV call55 (NL h4) ?_
 refine um (ox rfl rfl rfl (ox rfl rfl rfl (ua (ua (Aa (Au (AG (um ?_))))))))
 refine uv (C2 rfl rfl) (um ?_)
 obtain ⟨g6, r7⟩ := AF r5
 refine nF g6 (um (nF g6 ?_))
 refine uv (C2 rfl rfl) (uv (AE (AR rfl g6) rfl) (Aa ?_))
 obtain ⟨g9, bg⟩ := AF r7
 refine B9 rfl (fun c8 => absurd c8 g9) (fun c8 => ?_)
 refine Ar (AG (um ?_))
 obtain ⟨bh, bj⟩ := AF bg
 refine uv (Sm underlying96 underlying3 rfl bh) ?_
 obtain ⟨bk, bl⟩ := AF bj
 obtain ⟨l, bm, bn⟩ := BI bl
 refine Ft (R := eI) (z0 := 0) (zs := l) rfl Bm (by decide) kI (fun _ => rfl) rfl bk bm (fun _ => .n) ?_; intro ai ab bo aq
 refine ua (BR (um (um ?_)))
 obtain ⟨ae, bp, bq⟩ := BI bn
 refine MT (ys := x) (zs := ae) rfl Bm kI rfl rfl (fun _ => .h) aq (At.src bd) bp ?_; intro ar au
 obtain ⟨n3, br, bu⟩ := BI bq
 refine uv ((Da rfl).i br) (Aa ?_)
 obtain ⟨ad, bw, bc⟩ := Az bu
 refine AO (fun e1 F1 L1 => ∃ (ak : LH), F = F1 ∧ L1 = (ak ++ []) ∧ e1.sub [(7, sL ai ab ab)] ∧ AI K.w0.heap.size 3 1 eI F1 ai ab ab ad ak) ?_ ?_
 ·clear bc
  refine As ?_
  refine A6 (fun ao e1 F1 L1 => ∃ (aa : List Int) (n4 : Int) (aj : LH), CS ao aa n4 = some ad ∧ F = F1 ∧ L1 = (aj ++ []) ∧ e1.sub [(7, sL ai ab ab), (8, vI n4)] ∧ AI K.w0.heap.size 3 1 eI F1 ai ab ab aa aj) FU (m0 kr ⟨ae, n3, ar, bw, rfl, rfl, z2, au⟩) ?_
  rintro ao e1 _ _ ⟨aa, n4, aj, al, rfl, rfl, av, ah⟩
  refine AA _ av ?_
  rcases ao with _ | ao
  ·rw [CS] at al; cases al
  rw [CS] at al
  refine Au (AG (um (um ?_)))
  refine uv ((AJ underlying22 rfl).i (AI.FE ah)) (uv (AY rfl rfl) (Aa ?_))
  refine cQ (fun aw => ?_) fun aw => ?_
  ·have bx := A2 al aw
   refine Ar (As (BK [(.still, 0), (.still, 1), (.still, 2), (.still, 3), (.still, 4), (.still, 5), (.still, 6), (.seq, 7), (.still, 8), (.seq, 9)] (by kernel_rfl) (by kernel_rfl) (trivial) (by rfl) (by kernel_rfl) (mS [8] rfl (A9 rfl) (mS [7] rfl (A9 rfl) (mS [8] rfl (A9 rfl) ?_)))))
   obtain ⟨bz, cb⟩ := AF bx
   have ax := AI.gV ah bz
   refine mS (v := sL (Sv ai ab (Int.toNat n4) 1) (ab - Int.toNat n4) (ab - Int.toNat n4)) [39, 40] rfl (Fb.eq (v' := sL (Sv ai ab (Int.toNat n4) 1) (ab - Int.toNat n4) (ab - Int.toNat n4)) (I3 (l := n4) (h := (ab : Nat)) underlying22 sizeOf3 rfl (.inr ⟨_, rfl, rfl⟩) (.inl ⟨rfl, rfl⟩) (AI.Tb ah ax)) rfl) (mS [7] rfl (A9 rfl) (mS [8] rfl (A9 rfl) ?_))
   obtain ⟨cc, cf⟩ := AF cb
   refine mS (v := sL ai (Int.toNat n4) ab) [42, 43] rfl (PZ underlying22 sizeOf3 rfl rfl ah cc) ?_
   refine ⟨_, [(41, sL (Sv ai ab (Int.toNat n4) 1) (ab - Int.toNat n4) (ab - Int.toNat n4)), (44, sL ai (Int.toNat n4) ab)], rfl, rfl, z2, by kernel_rfl, ?_⟩; intro H
   obtain ⟨cg, cj⟩ := AF cf
   obtain ⟨l2, ck, cn⟩ := BI cj
   refine QV (l := n4) (zs := l2) rfl Bm kI rfl rfl (fun _ => .h) ah cg ck ?_; intro ay az
   refine Aa ⟨_, rfl, AQ.refl _, [0], by kernel_rfl, .inl (.inr (fun d h => by cases h; rfl)), (fc sm nm), ?_⟩
   obtain ⟨cp, cq⟩ := AF cn
   refine mL [38, 45] ([]) rfl sm (fun H F' L' cv cw => A4 rfl rfl cp) ?_
   refine ⟨_, [(46, vI (n4 + (((Nat.min (Int.toNat n4) (aa.length - (Int.toNat n4))) : Nat) : Int)))], rfl, rfl, z1, by kernel_rfl, ?_⟩; intro H
   obtain ⟨n5, cr, ct⟩ := BI cq
   refine uv ((Da rfl).i cr) ?_
   refine Aa ⟨_, rfl, AQ.refl _, [], by kernel_rfl, .inl (.inl rfl), nm, ?_⟩
   refine Ce (AD (id := 1) ?_)
   exact le kr ⟨l2, n5, ay, ct, rfl, rfl, z2, az⟩
  have cu := A3 al aw
  refine AM (Aj (Aj ?_))
  refine Ax ?_
  obtain rfl := AL cu
  exact mi kr ⟨aj, rfl, rfl, z1, ah⟩
 rintro e1 _ _ ⟨ak, rfl, rfl, ba, bb⟩
 refine AA _ ba ?_
 refine AG (um (ua (Aa (Aw ?_))))
 refine B7 results11 ?_
 obtain rfl := AL bc
 exact ⟨_, _, _, _, rfl, rfl, bb.any⟩
end Go.Proofs.YtdhookifhfkcpaaGreat
