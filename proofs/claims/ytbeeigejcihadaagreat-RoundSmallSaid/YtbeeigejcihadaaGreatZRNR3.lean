/- The walks that this claim needs, printed by a program of mine; part 3. -/
import Derived.Test.YtbeeigejcihadaaGreatZRNR2
namespace Go.Proofs.YtbeeigejcihadaaGreat
open Go.SH Go.PL
open Tryz 
variable {F : FS} {from_ B7 Ae AW r2 start to : Int} {Ab : List ((List Int) × Int × Int)} {l AE round : List (Int × Int)} {Af walks : List (List Int)} {Al Hj Ac A2 Co Ai : Nat} {Ak Hg Ad A3 Cl Aj : Option Addr}
set_option maxHeartbeats 1000000 in
theorem G3 (au : Ar 1 eJ F Aj Ai walks) (ah : Ar 1 eJ F Ak Al Af) (_ef : Ar 3 eN F Ad Ac Ab) {r : List (List Int)} (hr : Fo walks Af Ae start Ab = some r) :
    SH.Spec Tryz.prog 79 #[.agg #[sL Aj walks.length Ai, sL Ak Af.length Al, vI Ae, vI start, sL Ad Ab.length Ac]] F [] fun F' L' v => ∃ (ra : Option Addr) (rc : Nat), v = sL ra r.length rc ∧ L' = [] ∧ Ar 1 eJ F' ra rc r := by
 refine sp func79 ntmps79 fun K _ _ => ?_
 rw [Fo] at hr
 refine AJ ?_
 refine Bx rfl rfl ?_; intro b1 uf
 refine ua (BL ?_)
 refine uv (Ah Hn rfl) (uv (BM isAgg23 0) (uv (AQ underlying23 rfl) ?_))
 refine ua (BL (ua (Aa ?_)))
 obtain ⟨out, h8, r9⟩ := Av hr
 refine AU (fun e1 F1 L1 => ∃ (a2 : Option Addr) (n6 : Nat) (c3 : Nat) (jw : LH), F = F1 ∧ L1 = ((b1, ce #[sL Aj walks.length Ai, sL Ak Af.length Al, vI Ae, vI start, sL Ad Ab.length Ac] 50) :: (jw ++ [])) ∧ e1.sub [(1, pO b1), (3, vI (Af.length : Int)), (4, sL a2 n6 c3)] ∧ C0 K.w0.heap.size 22 3 1 eI F1 a2 n6 c3 out jw) ?_ ?_
 ·clear r9
  refine AJ (ua (Aa ?_))
  refine Ap ?_
  refine Bb (fun oe e1 F1 L1 => LA Af oe fun tl i => ∃ (dm : List (List Int)) (jx : Option Addr) (jz : Nat) (kb : Nat) (bh : LH), E5 walks tl i dm = some out ∧ F = F1 ∧ L1 = ((b1, ce #[sL Aj walks.length Ai, sL Ak Af.length Al, vI Ae, vI start, sL Ad Ab.length Ac] 50) :: (bh ++ [])) ∧ e1.sub [(1, pO b1), (3, vI (Af.length : Int)), (4, sL jx jz kb), (5, vI i)] ∧ C0 K.w0.heap.size 22 3 1 eI F1 jx jz kb dm bh) _ (m0 (kc (ke kr)) ⟨_, _, rfl, Bl.start _, [], none, 0, 0, [], h8, rfl, rfl, z4, C0.nil _ _ _ _ _ _⟩) ?_
  rintro oe e1 _ _ ⟨tl, i, ko, dp, dm, jx, jz, kb, bh, kh, rfl, rfl, kt, ej⟩
  refine Az _ kt ?_
  refine Aq (AJ (um (um ?_)))
  refine uv (AV rfl rfl) (Aa ?_)
  refine cQ (fun kj => ?_) fun kj => ?_
  ·obtain ⟨x, ug, rfl, qq, uh, ku⟩ := Bl.succ dp kj
   rw [E5] at kh
   refine Ao (Aq ?_)
   refine Ap ?_
   refine An (um ?_)
   refine Ju (cs := #[]) rfl rfl (Jg Bp) ?_; intro kv kz
   refine uv (Ah IZ rfl) (uv (BM isAgg23 1) (um ?_))
   obtain ⟨x2, og, l0, qs⟩ := Bi kh
   obtain ⟨ui, uj, uk, qt, la, ld, oh, ⟨uo, uq, rfl, qu⟩, qw, lg⟩ := Ar.ta kJ au og.1 l0
   refine uv (Cx underlying23 sizeOf22 la og) (uv (AG isAgg22 rfl (ld _) (lg 0 (by decide))) ?_)
   have en : AM K.w0.heap.size 3 1 eI F (aD kv) 0 0 ([] : List Int) [(kv, ce #[] 3)] := AM.BD (vss := []) kI kz .nil rfl rfl (by simp [maxLen])
   generalize dq : ([(kv, ce #[] 3)] : LH) = eo at en
   refine BA (L' := eo ++ ((b1, ce #[sL Aj walks.length Ai, sL Ak Af.length Al, vI Ae, vI start, sL Ad Ab.length Ac] 50) :: (bh ++ []))) (by rw [← dq]; exact fO) ?_
   refine BA (L' := (b1, ce #[sL Aj walks.length Ai, sL Ak Af.length Al, vI Ae, vI start, sL Ad Ab.length Ac] 50) :: (eo ++ (bh ++ []))) (List.Perm.symm (fC fP)) ?_
   obtain ⟨l, qx, qy, qz⟩ := DS qs
   refine Cq (xs := ([] : List Int)) (ys := x2) (zs := l) rfl Bp rfl rfl (Nat.le_refl _) (fun _ => .c .h) en (Ar.src qu) qx qy (by decide) ?_; intro eg eh ei r0 lh
   refine bA (cs := #[sL eg eh ei]) Fm [sL eg eh ei] ?_; intro ur rb
   obtain ⟨ep, oi, re, rf⟩ := DS qz
   refine Ku (fC (fC (fS fP))) ej ?_; intro er rh ri lj et
   refine kO (kf (fS (fS fO)) (kf (fS (fS fO)) kr)) ?_
   refine Cq (xs := er) (ys := [(eg, eh, ei)]) (zs := er ++ [(eg, eh, ei)]) rfl Fm rfl rfl (Nat.le_refl _) (fun _ => .c (.c .h)) lj (Fg.box (vss := [[sL eg eh ei]]) (ys := [(eg, eh, ei)]) 0 rfl Cv (.cons rfl .nil) rfl rfl) rfl (RP et oi re) (by decide) ?_; intro oj oo oq rj lk
   refine kO (kd kr) ?_
   refine Dv (p := fun X => C0 K.w0.heap.size 22 3 1 eI F oj oo oq ep X) (Jr.push et rfl lk lh oi) (pT ((fC fP).trans (pA ((fC (fS fP)).trans (pA ((fC fP).trans (pA pR)))))) (lp (lp (lp (ln rfl))))) ?_; intro ll lq
   refine kO (kf (fS fO) kr) ?_
   refine ua (Aa (Ay (id := 1) (An (um ?_))))
   refine uv (A0 rfl rfl (Bl.Cs dp kj (Ar.lt ah))) ?_
   refine ua (Aa ?_)
   subst ko; exact le kr ⟨_, _, rfl, ku, ep, oj, oo, oq, ll, rf, rfl, rfl, z4, lq⟩
  obtain rfl := Bl.zero dp kj
  rw [E5] at kh
  refine AI (Am (Am ?_))
  refine At ?_
  obtain rfl := AP kh
  exact mi kr ⟨jx, jz, kb, bh, rfl, rfl, z3, ej⟩
 rintro e1 _ _ ⟨a2, n6, c3, jw, rfl, rfl, lr, rk⟩
 refine Az _ lr ?_
 obtain ⟨dr, rl, ot⟩ := Av r9
 refine AU (fun e1 F1 L1 => ∃ (dt : LH), F = F1 ∧ L1 = (dt ++ []) ∧ e1.sub [(4, sL a2 n6 c3)] ∧ C0 K.w0.heap.size 22 3 1 eI F1 a2 n6 c3 dr dt) ?_ ?_
 ·clear ot
  refine AJ (ua (Aa ?_))
  refine Ap ?_
  refine Bb (fun eu e1 F1 L1 => ∃ (ck : List (List Int)) (changed : Bool) (bl : LH), D6 walks Af eu ck changed = some dr ∧ F = F1 ∧ L1 = ((b1, ce #[sL Aj walks.length Ai, sL Ak Af.length Al, vI Ae, vI start, sL Ad Ab.length Ac] 50) :: (bl ++ [])) ∧ e1.sub [(1, pO b1), (3, vI (Af.length : Int)), (4, sL a2 n6 c3), (6, .bool changed)] ∧ C0 K.w0.heap.size 22 3 1 eI F1 a2 n6 c3 ck bl) FU (m0 kr ⟨out, true, jw, rl, rfl, rfl, z4, rk⟩) ?_
  rintro eu e1 _ _ ⟨ck, changed, bl, ew, rfl, rfl, lu, ey⟩
  refine Az _ lu ?_
  rcases eu with _ | eu
  ·rw [D6] at ew; cases ew
  rw [D6] at ew
  refine Aq (AJ (um (Aa ?_)))
  refine AR rfl (fun lv => ?_) (fun lv => ?_)
  ·have rm := bt ew lv
   refine Ao (Ap ?_)
   refine AJ (ua (BL (ua (Aa ?_))))
   refine Ap ?_
   refine Bb (fun ou e1 F1 L1 => LA Af ou fun ow i2 => ∃ (bm : List (List Int)) (ae : Bool) (bn : LH), E4 walks Af (D6 walks Af eu) ow i2 bm ae = some dr ∧ F = F1 ∧ L1 = ((b1, ce #[sL Aj walks.length Ai, sL Ak Af.length Al, vI Ae, vI start, sL Ad Ab.length Ac] 50) :: (bn ++ [])) ∧ e1.sub [(1, pO b1), (3, vI (Af.length : Int)), (4, sL a2 n6 c3), (6, .bool ae), (7, vI i2)] ∧ C0 K.w0.heap.size 22 3 1 eI F1 a2 n6 c3 bm bn) _ (m0 kr ⟨_, _, rfl, Bl.start _, ck, false, bl, rm, rfl, rfl, z5, ey⟩) ?_
   rintro ou e1 _ _ ⟨ow, i2, lx, du, bm, ae, bn, kl, rfl, rfl, ly, ez⟩
   refine Az _ ly ?_
   refine Aq (AJ (um (um ?_)))
   refine uv (AV rfl rfl) (Aa ?_)
   refine cQ (fun km => ?_) fun km => ?_
   ·obtain ⟨x3, uu, rfl, rp, uw, ma⟩ := Bl.succ du km
    rw [E4] at kl
    refine Ao ?_
    obtain ⟨dv, ak, rq, oy⟩ := BT kl
    refine AU (fun e1 F1 L1 => ∃ (cn : LH), F = F1 ∧ L1 = ((b1, ce #[sL Aj walks.length Ai, sL Ak Af.length Al, vI Ae, vI start, sL Ad Ab.length Ac] 50) :: (cn ++ [])) ∧ e1.sub [(1, pO b1), (3, vI (Af.length : Int)), (4, sL a2 n6 c3), (6, .bool ak), (7, vI i2)] ∧ C0 K.w0.heap.size 22 3 1 eI F1 a2 n6 c3 dv cn) ?_ ?_
    ·clear oy
     refine Ap ?_
     refine AJ (ua (Aa ?_))
     refine Ap ?_
     refine Bb (fun oz e1 F1 L1 => LA Af oz fun p0 k => ∃ (cp : List (List Int)) (ai : Bool) (bo : LH), E8 walks Af i2 p0 k cp ai = some (dv, ak) ∧ F = F1 ∧ L1 = ((b1, ce #[sL Aj walks.length Ai, sL Ak Af.length Al, vI Ae, vI start, sL Ad Ab.length Ac] 50) :: (bo ++ [])) ∧ e1.sub [(1, pO b1), (3, vI (Af.length : Int)), (4, sL a2 n6 c3), (6, .bool ai), (7, vI i2), (8, vI k)] ∧ C0 K.w0.heap.size 22 3 1 eI F1 a2 n6 c3 cp bo) _ (m0 kr ⟨_, _, rfl, Bl.start _, bm, ae, bn, rq, rfl, rfl, z6, ez⟩) ?_
     rintro oz e1 _ _ ⟨p0, k, fa, bp, cp, ai, bo, cq, rfl, rfl, fb, fe⟩
     refine Az _ fb ?_
     refine Aq (AJ (um (um ?_)))
     refine uv (AV rfl rfl) (Aa ?_)
     refine cQ (fun cr => ?_) fun cr => ?_
     ·obtain ⟨x4, ux, rfl, p3, rr, ff⟩ := Bl.succ bp cr
      rw [E8] at cq
      refine Ao ?_
      obtain ⟨dw, al, mb, fg⟩ := BT cq
      refine AU (fun e1 F1 L1 => ∃ (az : LH), F = F1 ∧ L1 = ((b1, ce #[sL Aj walks.length Ai, sL Ak Af.length Al, vI Ae, vI start, sL Ad Ab.length Ac] 50) :: (az ++ [])) ∧ e1.sub [(1, pO b1), (3, vI (Af.length : Int)), (4, sL a2 n6 c3), (6, .bool al), (7, vI i2), (8, vI k)] ∧ C0 K.w0.heap.size 22 3 1 eI F1 a2 n6 c3 dw az) ?_ ?_
      ·clear fg
       refine Ap ?_
       refine AJ (ua (Aa ?_))
       refine Ap ?_
       refine Bb (fun p4 e1 F1 L1 => LA Af p4 fun p5 fh => ∃ (av : List (List Int)) (aa : Bool) (ba : LH), Dj walks i2 k p5 fh av aa = some (dw, al) ∧ F = F1 ∧ L1 = ((b1, ce #[sL Aj walks.length Ai, sL Ak Af.length Al, vI Ae, vI start, sL Ad Ab.length Ac] 50) :: (ba ++ [])) ∧ e1.sub [(1, pO b1), (3, vI (Af.length : Int)), (4, sL a2 n6 c3), (6, .bool aa), (7, vI i2), (8, vI k), (9, vI fh)] ∧ C0 K.w0.heap.size 22 3 1 eI F1 a2 n6 c3 av ba) _ (m0 kr ⟨_, _, rfl, Bl.start _, cp, ai, bo, mb, rfl, rfl, z7, fe⟩) ?_
       rintro p4 e1 _ _ ⟨p5, fh, bq, aw, av, aa, ba, ct, rfl, rfl, fi, br⟩
       refine Az _ fi ?_
       refine Aq (AJ (um (um ?_)))
       refine uv (AV rfl rfl) (Aa ?_)
       refine cQ (fun bj => ?_) fun bj => ?_
       ·obtain ⟨x5, uy, rfl, p6, ru, bu⟩ := Bl.succ aw bj
        rw [Dj] at ct
        refine Ao (Aq ?_)
        refine Ap (Aq ?_)
        obtain ⟨bb, k2, mc, dx⟩ := BT ct
        refine AU (fun e1 F1 L1 => ∃ (bc : LH), F = F1 ∧ L1 = ((b1, ce #[sL Aj walks.length Ai, sL Ak Af.length Al, vI Ae, vI start, sL Ad Ab.length Ac] 50) :: (bc ++ [])) ∧ e1.sub [(1, pO b1), (3, vI (Af.length : Int)), (4, sL a2 n6 c3), (6, .bool aa), (7, vI i2), (8, vI k), (9, vI fh), (63, .bool k2)] ∧ C0 K.w0.heap.size 22 3 1 eI F1 a2 n6 c3 bb bc) ?_ ?_
        ·clear dx
         refine An (um (um ?_))
         obtain ⟨x6, fj, bw, me⟩ := Bi mc
         have fk := (C0.A6 br).1
         refine Mv (fC fP) br bw ?_; intro p7 cv cw ry rz s5 cx bx bz bd cy
         refine kO (kf (fS (fS (fS fO))) kr) ?_
         obtain ⟨s6, s7, s8, p8, fl, fm, mg, rfl, p9, fo⟩ := AM.at Cv bz (L := (b1, ce #[sL Aj walks.length Ai, sL Ak Af.length Al, vI Ae, vI start, sL Ad Ab.length Ac] 50) :: (cv ++ (cx ++ (cw ++ [])))) (fC fP) fj.1 bx
         refine uv (Cx underlying23 sizeOf22 fl (KV fk fj)) (uv (AG isAgg22 rfl fm (fo 0 (by decide))) (um ?_))
         obtain ⟨x7, fp, fq, fs⟩ := Bi me
         obtain ⟨s9, sa, sb, pa, ft, fv, mh, rfl, pb, fw⟩ := AM.at kI bd (L := (b1, ce #[sL Aj walks.length Ai, sL Ak Af.length Al, vI Ae, vI start, sL Ad Ab.length Ac] 50) :: (cv ++ (cx ++ (cw ++ [])))) (fC (fS fP)) fp.1 fq
         refine uv (Cx underlying22 sizeOf3 ft (AM.idx bd fp)) (uv (AG isAgg3 rfl fv (fw 0 (by decide))) (uv (AV rfl rfl) (um ?_)))
         by_cases ab : x7 < 0
         ·have mj := A5 fs ab
          refine fT ab (fT ab (fT ab (fT ab (fT ab (fT ab (fT ab (fT ab (fT ab ?_))))))))
          refine uv (AF (AX rfl ab) rfl) ?_
          refine Dv (p := fun X => C0 K.w0.heap.size 22 3 1 eI F a2 n6 c3 av X) (K3.On cy bz bx bd bw) (pT ((fC fP).trans (pA ((fC fP).trans (pA ((fC fP).trans (pA pR)))))) (lp (lp (lp (ln rfl))))) ?_; intro fx fy
          refine kO (kf (fS fO) kr) (Aa ?_)
          obtain ⟨rfl, rfl⟩ := B9 mj
          exact mi kr ⟨fx, rfl, rfl, z8, fy⟩
         have ml := A4 fs ab
         refine nF ab (uv (Ah IZ rfl) (nF ab (uv (BM isAgg23 0) ?_)))
         refine nF ab (um (nF ab ?_))
         obtain ⟨x8, g0, ga, mn⟩ := Bi ml
         obtain ⟨sd, se, sf, pd, gb, gg, mo, ⟨sg, sh, rfl, mq⟩, pe, gh⟩ := Ar.ta kJ au g0.1 ga
         refine uv (Cx underlying23 sizeOf22 gb g0) (nF ab (uv (AG isAgg22 rfl (gg _) (gh 0 (by decide))) ?_))
         refine nF ab (um (nF ab ?_))
         obtain ⟨x9, gi, gj, mr⟩ := Bi mn
         obtain ⟨si, sj, sk, pf, gk, gl, mu, rfl, pg, gm⟩ := Ar.ta kI mq gi.1 gj
         refine uv (Cx underlying22 sizeOf3 gk gi) (nF ab (uv (AG isAgg3 rfl (gl _) (gm 0 (by decide))) (nF ab (uv (AV rfl rfl) (uv (AD (AL rfl ab) rfl) ?_)))))
         refine Dv (p := fun X => C0 K.w0.heap.size 22 3 1 eI F a2 n6 c3 av X) (K3.On cy bz bx bd bw) (pT ((fC fP).trans (pA ((fC fP).trans (pA ((fC fP).trans (pA pR)))))) (lp (lp (lp (ln rfl))))) ?_; intro gn gp
         refine kO (kf (fS fO) kr) (Aa ?_)
         obtain ⟨rfl, rfl⟩ := B9 mr
         exact mi kr ⟨gn, rfl, rfl, z8, gp⟩
        rintro e1 _ _ ⟨bc, rfl, rfl, gq, cb⟩
        refine Az _ gq ?_
        refine AR rfl (fun dy => ?_) (fun dy => ?_)
        ·have mv := bt dx dy
         refine AI (Am ?_)
         refine At ?_
         refine An (um ?_)
         refine uv (A0 rfl rfl (Bl.Cs aw bj (Ar.lt ah))) ?_
         refine ua (Aa ?_)
         subst bq; exact le kr ⟨_, _, rfl, bu, bb, aa, bc, mv, rfl, rfl, z7, cb⟩
        have mw := bf dx dy
        refine Ao (Aq ?_)
        obtain ⟨uz, bk, cc, mx⟩ := Bi mw
        have cf := (C0.A6 cb).1
        refine I2 (fC fP) cb cc ?_; intro ph ao aq sq ss su ar ax ay aj cz
        refine kW (kf (fS (fS (fS fO))) kr) (Ie (by kernel_rfl) (by kernel_rfl) (by kernel_rfl) ?_)
        refine wm (wm ?_)
        obtain ⟨sv, sw, sx, pj, gr, gu, na, rfl, pk, gv⟩ := AM.at Cv ay (L := (b1, ce #[sL Aj walks.length Ai, sL Ak Af.length Al, vI Ae, vI start, sL Ad Ab.length Ac] 50) :: (ao ++ (ar ++ (aq ++ [])))) (fC fP) bk.1 ax
        refine wv (Cx underlying23 sizeOf22 gr (KV cf bk)) (wv (AG isAgg22 rfl gu (gv 0 (by decide))) (wm ?_))
        obtain ⟨pn, gw, gz, nc⟩ := Bi mx
        obtain ⟨sy, tc, td, po, ia, ib, nf, rfl, pq, ic⟩ := AM.at kI aj (L := (b1, ce #[sL Aj walks.length Ai, sL Ak Af.length Al, vI Ae, vI start, sL Ad Ab.length Ac] 50) :: (ao ++ (ar ++ (aq ++ [])))) (fC (fS fP)) gw.1 gz
        refine wv (Cx underlying22 sizeOf3 ia (AM.idx aj gw)) (wv (AG isAgg3 rfl ib (ic 0 (by decide))) (wv (Ah IZ rfl) (wv (BM isAgg23 0) (wm ?_))))
        obtain ⟨va, ie, ig, ng⟩ := Bi nc
        obtain ⟨te, tf, tg, pr, ij, ik, nh, ⟨th, ti, rfl, ni⟩, pt, il⟩ := Ar.ta kJ au ie.1 ig
        refine wv (Cx underlying23 sizeOf22 ij ie) (wv (AG isAgg22 rfl (ik _) (il 0 (by decide))) (wm ?_))
        obtain ⟨pv, im, iq, nj⟩ := Bi ng
        obtain ⟨tj, tk, tm, pw, ir, iu, nk, rfl, px, iv⟩ := Ar.ta kI ni im.1 iq
        refine wv (Cx underlying22 sizeOf3 ir im) (wv (AG isAgg3 rfl (iu _) (iv 0 (by decide))) ?_)
        obtain ⟨nn, np⟩ := AB nj
        refine wv (A0 rfl rfl nn) ?_
        refine wa (B1 ?_)
        obtain ⟨da, k3, nq, dz⟩ := BT np
        refine AU (fun e1 F1 L1 => ∃ (bg : LH), F = F1 ∧ L1 = ((b1, ce #[sL Aj walks.length Ai, sL Ak Af.length Al, vI Ae, vI start, sL Ad Ab.length Ac] 50) :: (bg ++ [])) ∧ e1.sub [(1, pO b1), (3, vI (Af.length : Int)), (4, sL a2 n6 c3), (6, .bool aa), (7, vI i2), (8, vI k), (9, vI fh), (10, vI (pn + pv)), (98, .bool k3)] ∧ C0 K.w0.heap.size 22 3 1 eI F1 a2 n6 c3 da bg) ?_ ?_
        ·clear dz
         refine An (um (um ?_))
         obtain ⟨tn, tp, tq, py, iw, iy, nr, rfl, pz, iz⟩ := AM.at Cv ay (L := (b1, ce #[sL Aj walks.length Ai, sL Ak Af.length Al, vI Ae, vI start, sL Ad Ab.length Ac] 50) :: (ao ++ (ar ++ (aq ++ [])))) (fC fP) bk.1 ax
         refine uv (Cx underlying23 sizeOf22 iw (KV cf bk)) (uv (AG isAgg22 rfl iy (iz 0 (by decide))) (um ?_))
         obtain ⟨tr, cu, db, j0⟩ := Bi nq
         obtain ⟨tt, tu, tv, q0, j1, j2, ns, rfl, qb, j3⟩ := AM.at kI aj (L := (b1, ce #[sL Aj walks.length Ai, sL Ak Af.length Al, vI Ae, vI start, sL Ad Ab.length Ac] 50) :: (ao ++ (ar ++ (aq ++ [])))) (fC (fS fP)) cu.1 db
         refine uv (Cx underlying22 sizeOf3 j1 (AM.idx aj cu)) (uv (AG isAgg3 rfl j2 (j3 0 (by decide))) (uv (AV rfl rfl) (um ?_)))
         by_cases ad : tr < 0
         ·have nt := A5 j0 ad
          refine fT ad (fT ad (fT ad (fT ad (fT ad (fT ad (fT ad (fT ad (fT ad ?_))))))))
          refine uv (AF (AX rfl ad) rfl) ?_
          refine Dv (p := fun X => C0 K.w0.heap.size 22 3 1 eI F a2 n6 c3 bb X) (K3.On cz ay ax aj cc) (pT ((fC fP).trans (pA ((fC fP).trans (pA ((fC fP).trans (pA pR)))))) (lp (lp (lp (ln rfl))))) ?_; intro j4 j5
          refine kO (kf (fS fO) kr) (Aa ?_)
          obtain ⟨rfl, rfl⟩ := B9 nt
          exact mi kr ⟨j4, rfl, rfl, (sc rfl z8), j5⟩
         have nu := A4 j0 ad
         refine nF ad (um (nF ad (um (nF ad (um (nF ad ?_))))))
         obtain ⟨tw, tx, tz, qc, j6, j7, nv, rfl, qd, j8⟩ := AM.at Cv ay (L := (b1, ce #[sL Aj walks.length Ai, sL Ak Af.length Al, vI Ae, vI start, sL Ad Ab.length Ac] 50) :: (ao ++ (ar ++ (aq ++ [])))) (fC fP) bk.1 ax
         refine uv (Cx underlying23 sizeOf22 j6 (KV cf bk)) (nF ad (uv (AG isAgg22 rfl j7 (j8 0 (by decide))) ?_))
         refine nF ad (um (nF ad ?_))
         obtain ⟨u0, u1, u2, qe, j9, ja, nw, rfl, qf, jb⟩ := AM.at kI aj (L := (b1, ce #[sL Aj walks.length Ai, sL Ak Af.length Al, vI Ae, vI start, sL Ad Ab.length Ac] 50) :: (ao ++ (ar ++ (aq ++ [])))) (fC (fS fP)) cu.1 db
         refine uv (Cx underlying22 sizeOf3 j9 (AM.idx aj cu)) (nF ad (uv (AG isAgg3 rfl ja (jb 0 (by decide))) (nF ad (uv (AV rfl rfl) (uv (AD (AL rfl ad) rfl) ?_)))))
         refine Dv (p := fun X => C0 K.w0.heap.size 22 3 1 eI F a2 n6 c3 bb X) (K3.On cz ay ax aj cc) (pT ((fC fP).trans (pA ((fC fP).trans (pA ((fC fP).trans (pA pR)))))) (lp (lp (lp (ln rfl))))) ?_; intro jc jd
         refine kO (kf (fS fO) kr) (Aa ?_)
         obtain ⟨rfl, rfl⟩ := B9 nu
         exact mi kr ⟨jc, rfl, rfl, (sc rfl z8), jd⟩
        rintro e1 _ _ ⟨bg, rfl, rfl, je, cg⟩
        refine Az _ je ?_
        refine AR rfl (fun eb => ?_) (fun eb => ?_)
        ·have ny := bt dz eb
         refine AJ (um (um ?_))
         obtain ⟨vb, jf, jg, nz⟩ := Bi ny
         have jh := (C0.A6 cg).1
         refine Mv (fC fP) cg jg ?_; intro qg dd de u3 u4 u5 df dg dh cj ji
         refine kO (kf (fS (fS (fS fO))) kr) ?_
         obtain ⟨u6, u7, u9, qh, jj, jk, o0, rfl, qi, jl⟩ := AM.at Cv dh (L := (b1, ce #[sL Aj walks.length Ai, sL Ak Af.length Al, vI Ae, vI start, sL Ad Ab.length Ac] 50) :: (dd ++ (df ++ (de ++ [])))) (fC fP) jf.1 dg
         refine uv (Cx underlying23 sizeOf22 jj (KV jh jf)) (uv (AG isAgg22 rfl jk (jl 0 (by decide))) ?_)
         refine um (um ?_)
         obtain ⟨vc, ec, jm, o1⟩ := Bi nz
         obtain ⟨ub, uc, ud, qj, di, qk, o2, rfl, ql, qn⟩ := AM.at kI cj (L := (b1, ce #[sL Aj walks.length Ai, sL Ak Af.length Al, vI Ae, vI start, sL Ad Ab.length Ac] 50) :: (dd ++ (df ++ (de ++ [])))) (fC (fS fP)) ec.1 jm
         refine uv (Cx underlying22 sizeOf3 di (AM.idx cj ec)) ?_
         obtain ⟨l2, o3, o4⟩ := BC o1
         refine EH (u := pn + pv) sizeOf3 kI rfl di rfl rfl (fun _ => .c (.s .h)) cj o3 ec ?_; intro qo jn
         obtain ⟨dk, o6, o7⟩ := BC o4
         refine Dv (p := fun X => C0 K.w0.heap.size 22 3 1 eI F a2 n6 c3 dk X) (K3.Ln ji dh dg jn o6) (pT ((fC fP).trans (pA ((fC fP).trans (pA ((fC fP).trans (pA pR)))))) (lp (lp (lp (ln rfl))))) ?_; intro jo jq
         refine kO (kf (fS fO) kr) ?_
         refine Aa (An (ua (Aa (Ay (id := 9) (An (um ?_))))))
         refine uv (A0 rfl rfl (Bl.Cs aw bj (Ar.lt ah))) ?_
         refine ua (Aa ?_)
         subst bq; exact le kr ⟨_, _, rfl, bu, dk, true, jo, o7, rfl, rfl, z7, jq⟩
        have o8 := bf dz eb
        refine Ao (Ay (id := 9) (An (um ?_)))
        refine uv (A0 rfl rfl (Bl.Cs aw bj (Ar.lt ah))) ?_
        refine ua (Aa ?_)
        subst bq; exact le kr ⟨_, _, rfl, bu, da, aa, bg, o8, rfl, rfl, z7, cg⟩
       obtain rfl := Bl.zero aw bj
       rw [Dj] at ct
       refine AI (Am (Am ?_))
       refine At (Ay (id := 7) ?_)
       obtain ⟨rfl, rfl⟩ := B9 ct
       exact mi kr ⟨ba, rfl, rfl, z6, br⟩
      rintro e1 _ _ ⟨az, rfl, rfl, jr, js⟩
      refine Az _ jr ?_
      refine An (um ?_)
      refine uv (A0 rfl rfl (Bl.Cs bp cr (Ar.lt ah))) ?_
      refine ua (Aa ?_)
      subst fa; exact le kr ⟨_, _, rfl, ff, dw, al, az, fg, rfl, rfl, z6, js⟩
     obtain rfl := Bl.zero bp cr
     rw [E8] at cq
     refine AI (Am (Am ?_))
     refine At (Ay (id := 5) ?_)
     obtain ⟨rfl, rfl⟩ := B9 cq
     exact mi kr ⟨bo, rfl, rfl, z5, fe⟩
    rintro e1 _ _ ⟨cn, rfl, rfl, jt, o9⟩
    refine Az _ jt ?_
    refine An (um ?_)
    refine uv (A0 rfl rfl (Bl.Cs du km (Ar.lt ah))) ?_
    refine ua (Aa ?_)
    subst lx; exact le kr ⟨_, _, rfl, ma, dv, ak, cn, oy, rfl, rfl, z5, o9⟩
   obtain rfl := Bl.zero du km
   rw [E4] at kl
   refine AI (Am (Am ?_))
   refine At (Ay (id := 3) ?_)
   exact le kr ⟨bm, ae, bn, kl, rfl, rfl, z4, ez⟩
  have oc := bf ew lv
  refine AI (Am (Am ?_))
  refine At ?_
  obtain rfl := AP oc
  exact mi (kd kr) ⟨bl, rfl, rfl, z1, ey⟩
 rintro e1 _ _ ⟨dt, rfl, rfl, ju, jv⟩
 refine Az _ ju ?_
 refine AJ (um (ua (Aa ?_)))
 obtain rfl := (C0.A6 jv).1
 refine Nt (Nat.le_refl _) kI fP jv ?_; intro ue qp od
 refine AA (C3 results79 ?_)
 obtain rfl := AP ot
 exact ⟨_, _, rfl, rfl, od⟩
set_option maxHeartbeats 1000000 in
theorem Nn (ad : Ar 1 eJ F Aj Ai walks) (ae : Ar 1 eJ F Ak Al Af) (aa : Ar 3 eN F Ad Ac Ab) {r : Int} (hr : JA walks Af Ae start Ab from_ to = some (r, r2)) :
    Bv Tryz.prog 26 #[.agg #[sL Aj walks.length Ai, sL Ak Af.length Al, vI Ae, vI start, sL Ad Ab.length Ac], vI from_, vI to] F (.tuple #[vI r, vI r2]) := by
 refine sp func26 ntmps26 fun K _ _ => ?_
 rw [JA] at hr
 refine AJ ?_
 refine Bx rfl rfl ?_; intro b1 cn
 refine ua (ua (Aa (Aq (AJ ?_))))
 refine uv (CA isAgg50 sizeOf50 0) ?_
 obtain ⟨n, h2, r3⟩ := Av hr
 refine cV call18 (C1 ad ae aa h2) ?_
 refine ua (BL (um ?_))
 refine uv (Bt rfl rfl) (Aa ?_)
 refine cQ (fun c4 => ?_) fun c4 => ?_
 ·have r5 := A5 r3 c4
  refine AJ (um (ua (ua (Aa ?_))))
  refine kW kn ?_
  refine AA (As ?_)
  refine BG results26 (AH rfl) (AH rfl) (sr) ?_
  obtain ⟨rfl, rfl⟩ := B9 r5
  exact rfl
 have r6 := A4 r3 c4
 refine Ao (Aq ?_)
 obtain ⟨k, h7, r8⟩ := Av r6
 refine jE ([(b1, ce #[sL Aj walks.length Ai, sL Ak Af.length Al, vI Ae, vI start, sL Ad Ab.length Ac] 50)]) [(1, vI from_), (2, vI to), (3, pO b1), (28, .bool k)] ?_ ?_
 ·clear r8
  refine An (um ?_)
  refine uv (Ah Hn rfl) (uv (BM isAgg23 0) (uv (AQ underlying23 rfl) ?_))
  obtain ⟨g9, bc⟩ := AB h7
  refine uv (DP rfl rfl g9) ?_
  obtain ⟨ok, bd, aw⟩ := Av bc
  refine cV call70 (Cb bd) (um ?_)
  rcases EE ok with ab | ab
  ·have bg := bt aw ab
   refine fB ab (fB ab (fB ab (fB ab (fB ab (fB ab ?_)))))
   refine uv (AF (Gl rfl ab) rfl) (Aa ?_)
   obtain rfl := AP bg
   exact mi kr ⟨rfl, rfl, z4⟩
  have bh := bf aw ab
  refine nB ab (um (nB ab ?_))
  refine uv (Ah Hn rfl) (nB ab (uv (BM isAgg23 0) (nB ab (uv (AQ underlying23 rfl) (nB ab ?_)))))
  obtain ⟨bj, bk⟩ := AB bh
  refine uv (DP rfl rfl bj) (nB ab ?_)
  obtain ⟨cp, bl, bm⟩ := Av bk
  refine cV call70 (Cb bl) (uv (AD (Gl rfl ab) rfl) (Aa ?_))
  obtain rfl := AP bm
  exact mi kr ⟨rfl, rfl, z4⟩
 refine AR rfl (fun ah => ?_) (fun ah => ?_)
 ·have bn := bt r8 ah
  refine AJ (ua (ua (Aa ?_)))
  refine kW kn ?_
  refine AA (As ?_)
  refine BG results26 (AH rfl) (AH rfl) (sr) ?_
  obtain ⟨rfl, rfl⟩ := B9 bn
  exact rfl
 have bo := bf r8 ah
 refine Ao (AJ ?_)
 refine uv (CA isAgg50 sizeOf50 0) ?_
 obtain ⟨l, bp, bq⟩ := Av bo
 refine c0 call79 (G3 ad ae aa bp) ?_; rintro _ cq _ br bu ⟨cr, ct, rfl, rfl, bw⟩
 refine Aw (ln rfl) (um ?_)
 obtain ⟨x, ax, ai, bx⟩ := Bi bq
 obtain ⟨cu, cv, cw, bz, aj, ak, ay, ⟨cx, cy, rfl, cb⟩, cc, al⟩ := Ar.ta kJ bw ax.1 ai
 refine uv (Cx underlying23 sizeOf22 aj ax) (uv (AG isAgg22 rfl (ak _) (al 0 (by decide))) (um ?_))
 obtain ⟨x2, az, ao, ba⟩ := Bi bx
 obtain ⟨cz, da, db, cf, aq, ar, bb, rfl, cg, au⟩ := Ar.ta kI cb az.1 ao
 refine uv (Cx underlying22 sizeOf3 aq az) (uv (AG isAgg3 rfl (ar _) (au 0 (by decide))) ?_)
 refine ua (Aa (Aq (AJ (um ?_))))
 refine uv (AV rfl rfl) (Aa ?_)
 refine cQ (fun av => ?_) fun av => ?_
 ·have cj := A5 ba av
  refine AJ (ua (ua (Aa ?_)))
  refine kW kn ?_
  refine AA (As ?_)
  refine BG results26 (AH rfl) (AH rfl) (sr) ?_
  obtain ⟨rfl, rfl⟩ := B9 cj
  exact rfl
 have ck := A4 ba av
 refine Ao (AJ (um (ua (ua (Aa ?_)))))
 refine kW kn (AA (BG results26 (AH rfl) (AH rfl) (sr) ?_))
 obtain ⟨rfl, rfl⟩ := B9 ck
 exact rfl
set_option maxHeartbeats 1000000 in
theorem OQ (ak : Ar 1 eJ F Aj Ai walks) (ax : Ar 1 eJ F Ak Al Af) (ao : Ar 3 eN F Ad Ac Ab) {r : List Int} (hr : Mr walks Af Ae start Ab from_ to = some (r, r2)) :
    SH.Spec Tryz.prog 27 #[.agg #[sL Aj walks.length Ai, sL Ak Af.length Al, vI Ae, vI start, sL Ad Ab.length Ac], vI from_, vI to] F [] fun F' L' v => ∃ (ra : Option Addr) (rn : Nat) (rc : Nat) (rL : LH), v = .tuple #[sL ra rn rc, vI r2] ∧ L' = rL ++ [] ∧ AM 0 3 1 eI F' ra rn rc r rL := by
 refine sp func27 ntmps27 fun K _ _ => ?_
 rw [Mr] at hr
 refine AJ ?_
 refine Bx rfl rfl ?_; intro b1 iz
 refine ua (ua (Aa (Aq (AJ ?_))))
 refine uv (CA isAgg26 sizeOf26 0) ?_
 refine um (um ?_)
 obtain ⟨n, n2, h2, r3⟩ := BT hr
 refine cV call25 (KH ak ax ao h2) ?_
 refine um (ox rfl rfl rfl (ox rfl rfl rfl (ua (ua (BL (um ?_))))))
 refine uv (Bt rfl rfl) (Aa ?_)
 refine cQ (fun c4 => ?_) fun c4 => ?_
 ·have r5 := A5 r3 c4
  refine AJ (um (ua (ua (Aa ?_))))
  refine kW kn ?_
  refine AA (As ?_)
  refine BG results27 (AH rfl) (AH rfl) (sr) ?_
  obtain ⟨rfl, rfl⟩ := B9 r5
  exact ⟨_, _, _, [], rfl, rfl, AM.nil _ _ _ _ _⟩
 have r6 := A4 r3 c4
 refine Ao (AJ ?_)
 refine uv (CA isAgg26 sizeOf26 0) ?_
 obtain ⟨d, n3, h7, r8⟩ := BT r6
 refine c0 call72 (Cd ak ax ao h7) ?_; rintro _ F9 _ dq gr ⟨gu, rfl, rfl, dr⟩
 replace ak := ak.m2 dq
 refine Aw (ln rfl) ?_
 refine um (ox rfl rfl rfl (ox rfl rfl rfl (ua (ua (BL (um ?_))))))
 refine bA (cs := #[vI from_]) Bp [vI from_] ?_; intro dh dt
 have bw : AM K.w0.heap.size 3 1 eI F9 (aD dh) 1 1 [from_] [(dh, ce #[vI from_] 3)] := AM.BD (vss := [[vI from_]]) kI dt (.cons rfl .nil) rfl rfl (by simp [maxLen])
 generalize bc : ([(dh, ce #[vI from_] 3)] : LH) = bd at bw
 refine BA (L' := bd ++ [(b1, ce #[sL Aj walks.length Ai, sL Ak Af.length Al, vI Ae, vI start, sL Ad Ab.length Ac] 26)]) (by rw [← bc]; exact fO) ?_
 refine BA (L' := (b1, ce #[sL Aj walks.length Ai, sL Ak Af.length Al, vI Ae, vI start, sL Ad Ab.length Ac] 26) :: (bd ++ [])) (List.Perm.symm (fC fP)) ?_
 refine ua (Aa ?_)
 obtain ⟨out, gv, g0⟩ := Av r8
 refine AU (fun e1 F1 L1 => ∃ (du : Option Addr) (dv : Nat) (dw : Nat) (bg : LH), F9 = F1 ∧ L1 = (bg ++ []) ∧ e1.sub [(12, sL du dv dw)] ∧ AM K.w0.heap.size 3 1 eI F1 du dv dw out bg) ?_ ?_
 ·clear g0
  refine Ap ?_
  refine Bb (fun di e1 F1 L1 => ∃ (ae : Int) (az : List Int) (dk : Value) (bh : Option Addr) (bj : Nat) (bk : Nat) (ar : LH), HJ walks to d di ae az = some out ∧ F9 = F1 ∧ L1 = ((b1, ce #[sL Aj walks.length Ai, sL Ak Af.length Al, vI Ae, vI start, sL Ad Ab.length Ac] 26) :: (ar ++ [])) ∧ e1.sub [(1, vI ae), (2, vI to), (3, pO b1), (10, dk), (12, sL bh bj bk)] ∧ KK 122 (DZ (GM 1 eJ) (DZ (GM 1 eJ) (DZ eI (DZ eI (DZ (GM 3 eN) (DZ (Nf 25 (cI .i64)) (DZ (GM 2 eP) (Nf 15 (cI .i64))))))))) F1 dk d ∧ AM K.w0.heap.size 3 1 eI F1 bh bj bk az ar) FU (m0 kr ⟨from_, [from_], gu, (aD dh), 1, 1, bd, gv, rfl, rfl, z5, dr, bw⟩) ?_
  rintro di e1 _ _ ⟨ae, az, dk, bh, bj, bk, ar, bx, rfl, rfl, dx, dy, bz⟩
  refine Az _ dx ?_
  rcases di with _ | di
  ·rw [HJ] at bx; cases bx
  rw [HJ] at bx
  refine Aq (AJ (um (um ?_)))
  refine uv (Bt rfl rfl) (Aa ?_)
  refine cQ (fun dz => ?_) fun dz => ?_
  ·have gw := A5 bx dz
   refine Ao (Ap ?_)
   obtain ⟨ah, gz, ga⟩ := Av gw
   refine AU (fun e1 F1 L1 => ∃ (dm : Value), F9 = F1 ∧ L1 = ((b1, ce #[sL Aj walks.length Ai, sL Ak Af.length Al, vI Ae, vI start, sL Ad Ab.length Ac] 26) :: (ar ++ [])) ∧ e1.sub [(1, vI ah), (2, vI to), (3, pO b1), (10, dm), (12, sL bh bj bk)] ∧ KK 122 (DZ (GM 1 eJ) (DZ (GM 1 eJ) (DZ eI (DZ eI (DZ (GM 3 eN) (DZ (Nf 25 (cI .i64)) (DZ (GM 2 eP) (Nf 15 (cI .i64))))))))) F1 dm d) ?_ ?_
   ·clear ga
    refine AJ (uv (Ah CI rfl) (uv (BM isAgg23 0) (um ?_)))
    obtain ⟨x, gb, eb, ia⟩ := Bi gz
    obtain ⟨j0, j1, j2, ib, ec, ef, gg, ⟨gh, gi, rfl, gj⟩, ic, eg⟩ := Ar.ta kJ ak gb.1 eb
    refine uv (Cx underlying23 sizeOf22 ec gb) (uv (AG isAgg22 rfl (ef _) (eg 0 (by decide))) (uv (AQ underlying22 rfl) ?_))
    refine um (Aa ?_)
    refine Ap ?_
    refine Bb (fun gk e1 F1 L1 => LA x gk fun tl k => ∃ (cb : Value), HL to d ae tl k = some ah ∧ F9 = F1 ∧ L1 = ((b1, ce #[sL Aj walks.length Ai, sL Ak Af.length Al, vI Ae, vI start, sL Ad Ab.length Ac] 26) :: (ar ++ [])) ∧ e1.sub [(1, vI ae), (2, vI to), (3, pO b1), (10, cb), (12, sL bh bj bk), (39, sL gh x.length gi), (40, vI (x.length : Int)), (41, vI k)] ∧ KK 122 (DZ (GM 1 eJ) (DZ (GM 1 eJ) (DZ eI (DZ eI (DZ (GM 3 eN) (DZ (Nf 25 (cI .i64)) (DZ (GM 2 eP) (Nf 15 (cI .i64))))))))) F1 cb d) _ (m0 kr ⟨_, _, rfl, Bl.start _, dk, ia, rfl, rfl, z8, dy⟩) ?_
    rintro gk e1 _ _ ⟨tl, k, eh, bl, cb, Cs, rfl, rfl, ei, ba⟩
    refine Az _ ei (AJ (uv (AV rfl rfl) ?_))
    refine Aa (Aq ?_)
    refine cQ (fun dp => ?_) fun dp => ?_
    ·obtain ⟨x2, j3, rfl, ej, gl, en⟩ := Bl.succ bl dp
     rw [HL] at Cs
     refine Ao (Aq ?_)
     refine Ap ?_
     refine AJ (um ?_)
     obtain ⟨j4, j5, j6, ie, eo, ep, gm, rfl, ig, er⟩ := Ar.ta kI gj gl.1 ej
     refine uv (Cx underlying22 sizeOf3 eo gl) (uv (AG isAgg3 rfl (ep _) (er 0 (by decide))) ?_)
     refine ua (ua (Aa ?_))
     obtain ⟨k2, gn, et⟩ := Av Cs
     refine AU (fun e1 F1 L1 => ∃ (cc : Value), F9 = F1 ∧ L1 = ((b1, ce #[sL Aj walks.length Ai, sL Ak Af.length Al, vI Ae, vI start, sL Ad Ab.length Ac] 26) :: (ar ++ [])) ∧ e1.sub [(1, vI ae), (2, vI to), (3, pO b1), (10, cc), (12, sL bh bj bk), (13, vI k), (39, sL gh x.length gi), (40, vI (x.length : Int)), (41, vI k), (79, .bool k2)] ∧ KK 122 (DZ (GM 1 eJ) (DZ (GM 1 eJ) (DZ eI (DZ eI (DZ (GM 3 eN) (DZ (Nf 25 (cI .i64)) (DZ (GM 2 eP) (Nf 15 (cI .i64))))))))) F1 cc d) ?_ ?_
     ·clear et
      refine Ie (by kernel_rfl) (by kernel_rfl) (by kernel_rfl) (wm (wv (CQ rfl rfl) (wm ?_)))
      by_cases al : 0 < x2
      ·have ij := A5 gn al
       refine Bf (b := true) 48 rfl (Env.CY rfl al) (wm (Bf (b := true) 48 rfl (Env.CY rfl al) (wm (Bf (b := true) 48 rfl (Env.CY rfl al) (wm (Bf (b := true) 48 rfl (Env.CY rfl al) ?_))))))
       obtain ⟨Ax, ai, ad, aj, aa, bm, AE, BH, ik, il⟩ := J3 ij
       have cf := ba; rw [ik] at cf; obtain ⟨gp, j7, im, eu, ay, ⟨_, _, rfl, ⟨bn, bo, rfl, j8⟩, ⟨_, _, rfl, ⟨bp, bq, rfl, j9⟩, ⟨_, _, rfl, rfl, ⟨_, _, rfl, rfl, ⟨_, _, rfl, ⟨br, au, rfl, iq⟩, ⟨_, _, rfl, ⟨rfl, aq⟩, ⟨_, _, rfl, ⟨av, aw, rfl, ir⟩, ⟨rfl, iu⟩⟩⟩⟩⟩⟩⟩⟩⟩ := cf; subst eu
       have ay : F9 gp = some (.cells ((([sL bn Ax.length bo] : List Value) ++ (([sL bp ai.length bq] : List Value) ++ (([vI ad] : List Value) ++ (([vI aj] : List Value) ++ (([sL br aa.length au] : List Value) ++ (bm.flatMap (cI .i64) ++ (([sL av AE.length aw] : List Value) ++ (BH.flatMap (cI .i64))))))))).toArray) 122 im) := ay
       refine wv (A9 rfl) (Bf (b := true) 48 rfl (Env.CY rfl al) (wv (Ah Gg rfl) (Bf (b := true) 48 rfl (Env.CY rfl al) ?_)))
       obtain ⟨cg, ew⟩ := AB il
       refine wv (Bs underlying118 sizeOf116 rfl rfl cg) (Bf (b := true) 48 rfl (Env.CY rfl al) ?_)
       obtain ⟨cj, ey⟩ := AB ew
       obtain ⟨x3, iv, bb, ez⟩ := Bi ey
       have ck : (k * 5 + to : Int).toNat = (k : Int).toNat * 5 + (to : Int).toNat := by have := cg; have := cj; omega
       have cn := H6 (Bj .i64) aq ck bb (HH (Au (A := ([sL bn Ax.length bo] : List Value)) (k := 1) (o := 4) rfl (Au (A := ([sL bp ai.length bq] : List Value)) (k := 1) (o := 3) rfl (Au (A := ([vI ad] : List Value)) (k := 1) (o := 2) rfl (Au (A := ([vI aj] : List Value)) (k := 1) (o := 1) rfl (Au (A := ([sL br aa.length au] : List Value)) (k := 1) (o := 0) rfl (BJ (B := ([sL av AE.length aw] : List Value) ++ (BH.flatMap (cI .i64))) (IG (Bj .i64) aq)))))))) (Iy (Au (A := ([sL bn Ax.length bo] : List Value)) (k := 1) (o := 4) rfl (Au (A := ([sL bp ai.length bq] : List Value)) (k := 1) (o := 3) rfl (Au (A := ([vI ad] : List Value)) (k := 1) (o := 2) rfl (Au (A := ([vI aj] : List Value)) (k := 1) (o := 1) rfl (Au (A := ([sL br aa.length au] : List Value)) (k := 1) (o := 0) rfl (BJ (B := ([sL av AE.length aw] : List Value) ++ (BH.flatMap (cI .i64))) (IG (Bj .i64) aq))))))))
       refine wv (Bs underlying116 sizeOf3 rfl rfl cj) (Bf (b := true) 48 rfl (Env.CY rfl al) (wv (AG isAgg3 rfl (Has.frozen ay) ((cn).2.2 0 (by decide))) (Bf (b := true) 48 rfl (Env.CY rfl al) (wv (Bt rfl rfl) (wv (AF (AX rfl al) rfl) (wm ?_))))))
       obtain ⟨ab, fa⟩ := AB ez
       refine Bf (b := true) 59 rfl (Env.CY rfl ab) (wm (Bf (b := true) 59 rfl (Env.CY rfl ab) (wm (Bf (b := true) 59 rfl (Env.CY rfl ab) (wm (Bf (b := true) 59 rfl (Env.CY rfl ab) (wm (Bf (b := true) 59 rfl (Env.CY rfl ab) ?_))))))))
       refine wv (A9 rfl) (Bf (b := true) 59 rfl (Env.CY rfl ab) (wv (Ah Gg rfl) (Bf (b := true) 59 rfl (Env.CY rfl ab) ?_)))
       obtain ⟨cp, fb⟩ := AB fa
       refine wv (Bs underlying118 sizeOf116 rfl rfl cp) (Bf (b := true) 59 rfl (Env.CY rfl ab) ?_)
       obtain ⟨cq, fe⟩ := AB fb
       have cr : (k * 5 + to : Int).toNat = (k : Int).toNat * 5 + (to : Int).toNat := by have := cp; have := cq; omega
       have ct := H6 (Bj .i64) aq cr bb (HH (Au (A := ([sL bn Ax.length bo] : List Value)) (k := 1) (o := 4) rfl (Au (A := ([sL bp ai.length bq] : List Value)) (k := 1) (o := 3) rfl (Au (A := ([vI ad] : List Value)) (k := 1) (o := 2) rfl (Au (A := ([vI aj] : List Value)) (k := 1) (o := 1) rfl (Au (A := ([sL br aa.length au] : List Value)) (k := 1) (o := 0) rfl (BJ (B := ([sL av AE.length aw] : List Value) ++ (BH.flatMap (cI .i64))) (IG (Bj .i64) aq)))))))) (Iy (Au (A := ([sL bn Ax.length bo] : List Value)) (k := 1) (o := 4) rfl (Au (A := ([sL bp ai.length bq] : List Value)) (k := 1) (o := 3) rfl (Au (A := ([vI ad] : List Value)) (k := 1) (o := 2) rfl (Au (A := ([vI aj] : List Value)) (k := 1) (o := 1) rfl (Au (A := ([sL br aa.length au] : List Value)) (k := 1) (o := 0) rfl (BJ (B := ([sL av AE.length aw] : List Value) ++ (BH.flatMap (cI .i64))) (IG (Bj .i64) aq))))))))
       refine wv (Bs underlying116 sizeOf3 rfl rfl cq) (Bf (b := true) 59 rfl (Env.CY rfl ab) (wv (AG isAgg3 rfl (Has.frozen ay) ((ct).2.2 0 (by decide))) (Bf (b := true) 59 rfl (Env.CY rfl ab) ?_)))
       obtain ⟨ff, fg⟩ := AB fe
       refine wv (A0 rfl rfl ff) ?_
       refine Bf (b := true) 59 rfl (Env.CY rfl ab) (wm (Bf (b := true) 59 rfl (Env.CY rfl ab) (wm (Bf (b := true) 59 rfl (Env.CY rfl ab) (wm (Bf (b := true) 59 rfl (Env.CY rfl ab) ?_))))))
       refine wv (A9 rfl) (Bf (b := true) 59 rfl (Env.CY rfl ab) (wv (Ah Gg rfl) (Bf (b := true) 59 rfl (Env.CY rfl ab) ?_)))
       obtain ⟨cu, fh⟩ := AB fg
       refine wv (Bs underlying118 sizeOf116 rfl rfl cu) (Bf (b := true) 59 rfl (Env.CY rfl ab) ?_)
       obtain ⟨cv, fi⟩ := AB fh
       obtain ⟨x4, iw, cw, fj⟩ := Bi fi
       have cx : (ae * 5 + to : Int).toNat = (ae : Int).toNat * 5 + (to : Int).toNat := by have := cu; have := cv; omega
       have cy := H6 (Bj .i64) aq cx cw (HH (Au (A := ([sL bn Ax.length bo] : List Value)) (k := 1) (o := 4) rfl (Au (A := ([sL bp ai.length bq] : List Value)) (k := 1) (o := 3) rfl (Au (A := ([vI ad] : List Value)) (k := 1) (o := 2) rfl (Au (A := ([vI aj] : List Value)) (k := 1) (o := 1) rfl (Au (A := ([sL br aa.length au] : List Value)) (k := 1) (o := 0) rfl (BJ (B := ([sL av AE.length aw] : List Value) ++ (BH.flatMap (cI .i64))) (IG (Bj .i64) aq)))))))) (Iy (Au (A := ([sL bn Ax.length bo] : List Value)) (k := 1) (o := 4) rfl (Au (A := ([sL bp ai.length bq] : List Value)) (k := 1) (o := 3) rfl (Au (A := ([vI ad] : List Value)) (k := 1) (o := 2) rfl (Au (A := ([vI aj] : List Value)) (k := 1) (o := 1) rfl (Au (A := ([sL br aa.length au] : List Value)) (k := 1) (o := 0) rfl (BJ (B := ([sL av AE.length aw] : List Value) ++ (BH.flatMap (cI .i64))) (IG (Bj .i64) aq))))))))
       refine wv (Bs underlying116 sizeOf3 rfl rfl cv) (Bf (b := true) 59 rfl (Env.CY rfl ab) (wv (AG isAgg3 rfl (Has.frozen ay) ((cy).2.2 0 (by decide))) (Bf (b := true) 59 rfl (Env.CY rfl ab) (wv (BO rfl rfl) (wv (AF (AX rfl ab) rfl) (B1 ?_))))))
       obtain rfl := AP fj
       exact mi kr ⟨pO gp, rfl, rfl, (sc rfl (sc rfl z8)), ba⟩
      have fk := A4 gn al
      refine A1 (b' := false) 48 rfl (Env.C8 rfl al) rfl rfl (A1 (b' := false) 48 rfl (Env.C8 rfl al) rfl rfl (A1 (b' := false) 48 rfl (Env.C8 rfl al) rfl rfl (A1 (b' := false) 48 rfl (Env.C8 rfl al) rfl rfl (A1 (b' := false) 48 rfl (Env.C8 rfl al) rfl rfl (A1 (b' := false) 48 rfl (Env.C8 rfl al) rfl rfl (A1 (b' := false) 48 rfl (Env.C8 rfl al) rfl rfl (A1 (b' := false) 48 rfl (Env.C8 rfl al) rfl rfl (A1 (b' := false) 48 rfl (Env.C8 rfl al) rfl rfl ?_))))))))
      refine wv (AD (AL rfl al) rfl) ?_
      refine wm (A1 (b' := false) 59 rfl rfl rfl rfl (A1 (b' := false) 59 rfl rfl rfl rfl (A1 (b' := false) 59 rfl rfl rfl rfl (A1 (b' := false) 59 rfl rfl rfl rfl (A1 (b' := false) 59 rfl rfl rfl rfl (A1 (b' := false) 59 rfl rfl rfl rfl (A1 (b' := false) 59 rfl rfl rfl rfl (A1 (b' := false) 59 rfl rfl rfl rfl (A1 (b' := false) 59 rfl rfl rfl rfl ?_)))))))))
      refine A1 (b' := false) 59 rfl rfl rfl rfl (A1 (b' := false) 59 rfl rfl rfl rfl (A1 (b' := false) 59 rfl rfl rfl rfl (A1 (b' := false) 59 rfl rfl rfl rfl (A1 (b' := false) 59 rfl rfl rfl rfl (A1 (b' := false) 59 rfl rfl rfl rfl (A1 (b' := false) 59 rfl rfl rfl rfl (A1 (b' := false) 59 rfl rfl rfl rfl (A1 (b' := false) 59 rfl rfl rfl rfl (A1 (b' := false) 59 rfl rfl rfl rfl ?_)))))))))
      refine wv (AD rfl rfl) (B1 ?_)
      obtain rfl := AP fk
      exact mi kr ⟨cb, rfl, rfl, (sc rfl (sc rfl z8)), ba⟩
     rintro e1 _ _ ⟨cc, rfl, rfl, cz, da⟩
     refine Az _ cz ?_
     refine AR rfl (fun bu => ?_) (fun bu => ?_)
     ·have fl := bt et bu
      refine AJ (um (ua (Aa (AI ?_))))
      refine Ki rfl ?_
      refine Am (Am ?_)
      refine At ?_
      obtain rfl := AP fl
      exact mi kr ⟨cc, rfl, rfl, z5, da⟩
     have fm := bf et bu
     refine Ao (Ay (id := 3) (An ?_))
     refine uv (A0 rfl rfl (Bl.Cs bl dp (Ar.lt gj))) ?_
     refine um (Aa ?_)
     subst eh; exact le kr ⟨_, _, rfl, en, cc, fm, rfl, rfl, z8, da⟩
    obtain rfl := Bl.zero bl dp
    rw [HL] at Cs
    refine AI (Am (Am ?_))
    refine At ?_
    obtain rfl := AP Cs
    exact mi kr ⟨cb, rfl, rfl, z5, ba⟩
   rintro e1 _ _ ⟨dm, rfl, rfl, db, fo⟩
   refine Az _ db ?_
   refine An (um (um ?_))
   refine bA (cs := #[vI ah]) Bp [vI ah] ?_; intro iy gq
   obtain ⟨dd, fp, fq, fs⟩ := DS ga
   refine Cq (xs := az) (ys := [ah]) (zs := dd) rfl Bp rfl rfl (Nat.le_refl _) (fun _ => .c (.c .h)) bz (Fg.box (vss := [[vI ah]]) (ys := [ah]) 0 rfl kI (.cons rfl .nil) rfl rfl) fp fq (by decide) ?_; intro ft fv fw de df
   refine kO (kd kr) ?_
   refine ua (Aa (Ay (id := 1) ?_))
   exact le kr ⟨ah, dd, dm, ft, fv, fw, de, fs, rfl, rfl, z5, fo, df⟩
  have fx := A4 bx dz
  refine AI (Am (Am ?_))
  refine At ?_
  obtain rfl := AP fx
  exact mi (kd kr) ⟨bh, bj, bk, ar, rfl, rfl, z1, bz⟩
 rintro e1 _ _ ⟨du, dv, dw, bg, rfl, rfl, dg, fy⟩
 refine Az _ dg ?_
 refine AJ (um (ua (ua (Aa (AA ?_)))))
 refine BG results27 (AH rfl) (AH rfl) (sr) ?_
 obtain ⟨rfl, rfl⟩ := B9 g0
 exact ⟨_, _, _, _, rfl, rfl, fy.any⟩
set_option maxHeartbeats 1000000 in
theorem Mz {ab : Option Addr} {ad : Nat} {path : List Int} (ah : Ar 1 eJ F Aj Ai walks) (_h_hears : Ar 1 eJ F Ak Al Af) (_h_notices : Ar 3 eN F Ad Ac Ab) (aa : Ar 1 eI F ab ad path) {r : Int} (hr : Ji walks Af Ae start Ab path = some r) :
    Bv Tryz.prog 28 #[.agg #[sL Aj walks.length Ai, sL Ak Af.length Al, vI Ae, vI start, sL Ad Ab.length Ac], sL ab path.length ad] F (vI r) := by
 refine sp func28 ntmps28 fun K _ _ => ?_
 rw [Ji] at hr
 refine AJ ?_
 refine Bx rfl rfl ?_; intro b1 dv
 refine ua (BL (ua (Aa ?_)))
 obtain ⟨sum, h2, r3⟩ := Av hr
 refine jE ([]) [(5, vI sum)] ?_ ?_
 ·clear r3
  refine AJ (ua (Aa ?_))
  refine Ap ?_
  refine Bb (fun bn e1 F1 L1 => LA path bn fun tl i => ∃ (ae : Int), Ec walks Af path tl i ae = some sum ∧ F = F1 ∧ L1 = [(b1, ce #[sL Aj walks.length Ai, sL Ak Af.length Al, vI Ae, vI start, sL Ad Ab.length Ac] 50)] ∧ e1.sub [(1, sL ab path.length ad), (2, pO b1), (5, vI ae), (6, vI i)]) _ (m0 kr ⟨_, _, rfl, Bl.start _, 0, h2, rfl, rfl, z4⟩) ?_
  rintro bn e1 _ _ ⟨tl, i, bo, ak, ae, r6, rfl, rfl, cj⟩
  refine Az _ cj ?_
  refine Aq (AJ (um (um ?_)))
  refine uv (AQ underlying22 rfl) (uv (AV rfl rfl) (Aa ?_))
  refine cQ (fun c9 => ?_) fun c9 => ?_
  ·obtain ⟨x, dw, rfl, ai, al, aj⟩ := Bl.succ ak c9
   rw [Ec] at r6
   refine Ao (Aq ?_)
   refine Ap (Aq (dW ?_))
   refine wm (wm ?_)
   obtain ⟨dx, dy, dz, ck, ao, aq, bp, rfl, cn, ar⟩ := Ar.ta kI aa al.1 ai
   refine wv (Cx underlying22 sizeOf3 ao al) (wv (AG isAgg3 rfl (aq _) (ar 0 (by decide))) (wv (Ah Hn rfl) (wv (BM isAgg23 0) (wv (AQ underlying23 rfl) ?_))))
   obtain ⟨cp, cq⟩ := AB r6
   refine wv (DP rfl rfl cp) ?_
   obtain ⟨ok, cr, ct⟩ := Av cq
   refine ES rfl call70 rfl rfl rfl (Cb cr) (B1 ?_)
   obtain ⟨cu, bq⟩ := AB ct
   refine AR rfl (fun br => absurd (cu.symm.trans br) (by decide)) (fun br => ?_)
   refine Ao (Aq (AJ (um ?_)))
   refine uv (BO rfl rfl) (Aa ?_)
   refine cQ (fun au => ?_) fun au => ?_
   ·have cv := A5 bq au
    refine AI (Am ?_)
    refine At ?_
    refine An (um ?_)
    refine uv (A0 rfl rfl (Bl.Cs ak c9 (Ar.lt aa))) ?_
    refine ua (Aa ?_)
    subst bo; exact le kr ⟨_, _, rfl, aj, ae, cv, rfl, rfl, z4⟩
   have cw := A4 bq au
   refine Ao (dW (wv (Ah IZ rfl) (wv (BM isAgg23 0) ?_)))
   refine wm (wm ?_)
   obtain ⟨cx, cy⟩ := AB cw
   refine wv (DP rfl rfl cx) ?_
   obtain ⟨x2, bu, av, cz⟩ := Bi cy
   obtain ⟨eb, ec, ef, da, aw, ax, bw, rfl, db, ay⟩ := Ar.ta kI aa bu.1 av
   refine wv (Cx underlying22 sizeOf3 aw bu) (wv (AG isAgg3 rfl (ax _) (ay 0 (by decide))) ?_)
   obtain ⟨x3, bx, az, dd⟩ := Bi cz
   obtain ⟨eg, eh, ei, de, ba, bb, bz, ⟨ej, en, rfl, df⟩, dg, bc⟩ := Ar.ta kJ ah bx.1 az
   refine wv (Cx underlying23 sizeOf22 ba bx) (wv (AG isAgg22 rfl (bb _) (bc 0 (by decide))) ?_)
   refine wm (wm ?_)
   obtain ⟨eo, ep, er, dh, bd, bg, cb, rfl, di, bh⟩ := Ar.ta kI aa al.1 ai
   refine wv (Cx underlying22 sizeOf3 bd al) (wv (AG isAgg3 rfl (bg _) (bh 0 (by decide))) ?_)
   obtain ⟨x4, cc, bj, dk⟩ := Bi dd
   obtain ⟨et, eu, ew, dm, bk, bl, cf, rfl, dp, bm⟩ := Ar.ta kI df cc.1 bj
   refine wv (Cx underlying22 sizeOf3 bk cc) (wv (AG isAgg3 rfl (bl _) (bm 0 (by decide))) ?_)
   refine wa (B1 (Aq (AJ (um ?_))))
   refine uv (AV rfl rfl) (Aa ?_)
   obtain ⟨dq, dr⟩ := AB dk
   refine BP rfl (fun cg => absurd cg dq) (fun cg => ?_)
   refine Ao (An (um (um ?_)))
   obtain ⟨dt, du⟩ := AB dr
   refine uv (A0 rfl rfl dt) ?_
   refine ua (Aa (Ay (id := 1) (An (um ?_))))
   refine uv (A0 rfl rfl (Bl.Cs ak c9 (Ar.lt aa))) ?_
   refine ua (Aa ?_)
   subst bo; exact le kr ⟨_, _, rfl, aj, ae + x4, du, rfl, rfl, z4⟩
  obtain rfl := Bl.zero ak c9
  rw [Ec] at r6
  refine AI (Am (Am ?_))
  refine At ?_
  obtain rfl := AP r6
  exact mi kn ⟨rfl, rfl, z1⟩
 refine AJ (um (ua (Aa (AA ?_))))
 refine C3 results28 ?_
 obtain rfl := AP r3
 exact rfl
set_option maxHeartbeats 1000000 in
theorem Gq (ab : Ar 1 eJ F Aj Ai walks) (ad : Ar 1 eJ F Ak Al Af) (aa : Ar 3 eN F Ad Ac Ab) {r : Bool} (hr : Eg walks Af Ae start Ab from_ to = some r) :
    Bv Tryz.prog 6 #[.agg #[sL Aj walks.length Ai, sL Ak Af.length Al, vI Ae, vI start, sL Ad Ab.length Ac], vI from_, vI to] F (.bool r) := by
 refine sp func6 ntmps6 fun K _ _ => ?_
 rw [Eg] at hr
 refine AJ ?_
 refine Bx rfl rfl ?_; intro b1 gi
 refine ua (Aa (Aq (AJ ?_)))
 refine uv (CA isAgg26 sizeOf26 0) ?_
 obtain ⟨ok, h2, r3⟩ := Av hr
 refine cV call15 (DQ ab ad aa h2) (Aa ?_)
 obtain ⟨g5, r6⟩ := AB r3
 refine AR rfl (fun c7 => absurd (g5.symm.trans c7) (by decide)) (fun c7 => ?_)
 refine Ao (Aq ?_)
 refine Bg [(.pre, 4), (.pre, 5), (.still, 0), (.still, 2), (.seq, 1), (.seq, 3), (.alloc (.cells (.agg #[sL none 0 0, sL none 0 0, vI 0, vI 0, sL none 0 0] : Value).cells 26 (0, 0)) (fun b => pO b) [], 4), (.alloc (.cells (.agg #[sL none 0 0, sL none 0 0, vI 0, vI 0, sL none 0 0] : Value).cells 50 (0, 0)) (fun b => pO b) [], 5), (.seq, 6), (.seq, 7)] (by kernel_rfl) (by kernel_rfl) (⟨⟨_, _, rfl, rfl, rfl, rfl, rfl, EI zeroValue26⟩, ⟨⟨_, _, rfl, rfl, rfl, rfl, rfl, EI zeroValue50⟩, trivial⟩⟩) (by rfl) (by kernel_rfl) ?_
 refine ⟨⟨[], rfl, sn _, by kernel_rfl⟩, ?_⟩
 refine ⟨⟨[], rfl, sn _, by kernel_rfl⟩, ?_⟩
 refine mL [3] ([(b1, ce #[sL Aj walks.length Ai, sL Ak Af.length Al, vI Ae, vI start, sL Ad Ab.length Ac] 26)]) rfl (s0 sr) (fun H F' L' cz da => AZ isAgg26 sizeOf26 rfl ((Has.own 0 rfl).ext cz da) (B2 rfl) rfl) (mL [3] ([(b1, ce #[sL Aj walks.length Ai, sL Ak Af.length Al, vI Ae, vI start, sL Ad Ab.length Ac] 26)]) rfl (s0 sr) (fun H F' L' cz da => AZ isAgg26 sizeOf26 rfl ((Has.own 0 rfl).ext cz da) (B2 rfl) rfl) ?_)
 refine ⟨_, [(18, .agg #[sL Aj walks.length Ai, sL Ak Af.length Al, vI Ae, vI start, sL Ad Ab.length Ac])], rfl, rfl, z1, by kernel_rfl, ?_⟩; intro H
 obtain ⟨l, l2, n, n2, l3, h8, r9⟩ := Fx r6
 refine c0 call16 (DX ab ad aa h8) ?_; rintro _ gj _ ba bd ⟨bk, bl, bm, au, bn, bo, bp, av, bq, br, bu, aw, rfl, rfl, ah, ai, aj⟩
 replace ab := ab.m2 ba
 replace ad := ad.m2 ba
 replace aa := aa.m3 ba
 replace ah := ah.new fun p hp => bd p (by simp [hp])
 replace ai := ai.new fun p hp => bd p (by simp [hp])
 replace aj := aj.new fun p hp => bd p (by simp [hp])
 refine Aw (lp (lp (lp (ln rfl)))) (kO (kf (fS (fS (fS fO))) kr) ?_)
 refine Aa ⟨_, rfl, ba, [2], by kernel_rfl, .inl (.inr (fun d h => by cases h; rfl)), (fc (s0 (s2 (s3 (s3 (s3 sr))))) nm), ?_⟩
 refine ⟨_, [(20, .agg #[sL Aj walks.length Ai, sL Ak Af.length Al, vI Ae, vI start, sL Ad Ab.length Ac])], rfl, rfl, z1, by kernel_rfl, ?_⟩; intro H
 obtain ⟨l4, l5, n3, n4, l6, fb, fe⟩ := Fx r9
 refine c0 call17 (CP ab ad aa fb) ?_; rintro _ gk _ ar db ⟨ck, cn, cp, cq, cr, ct, cu, ay, rfl, rfl, cv, cw, aq⟩
 replace ab := ab.m2 ar
 replace ad := ad.m2 ar
 replace aa := aa.m3 ar
 replace ah := ah.m2 ar
 replace ai := ai.m2 ar
 replace aj := aj.m3 ar
 replace aq := aq.new fun p hp => db p (by simp [hp])
 refine Aw (lp (ln rfl)) (kO (kf (fS fO) kr) ?_)
 refine Aa ⟨_, rfl, ar, [], by kernel_rfl, .inl (.inl rfl), nm, ?_⟩
 refine FT rfl ?_; intro bb ff
 refine GI (L' := (bb, ce #[sL none 0 0, sL none 0 0, vI 0, vI 0, sL none 0 0] 26) :: ((b1, ce #[sL Aj walks.length Ai, sL Ak Af.length Al, vI Ae, vI start, sL Ad Ab.length Ac] 26) :: (ay ++ (au ++ (av ++ (aw ++ [])))))) rfl ?_
 refine FT rfl ?_; intro bh fg
 refine GI (L' := (bh, ce #[sL none 0 0, sL none 0 0, vI 0, vI 0, sL none 0 0] 50) :: ((bb, ce #[sL none 0 0, sL none 0 0, vI 0, vI 0, sL none 0 0] 26) :: ((b1, ce #[sL Aj walks.length Ai, sL Ak Af.length Al, vI Ae, vI start, sL Ad Ab.length Ac] 26) :: (ay ++ (au ++ (av ++ (aw ++ []))))))) rfl ?_
 refine ⟨_, [(7, pO bb), (19, .agg #[sL bk bl bm, sL bn bo bp, vI n, vI n2, sL bq br bu])], rfl, rfl, z2, by kernel_rfl, ?_⟩; intro H
 refine A8 (i := 1) sizeOf26 rfl rfl rfl (by simp [Value.oneCell']) rfl (B2 rfl) (Aw rfl ?_)
 refine Aa ⟨undef, rfl, AN.refl _, [], by kernel_rfl, .inl (.inl rfl), nm, ?_⟩
 refine ⟨_, [(8, pO bh), (21, .agg #[sL ck l4.length cn, sL cp l5.length cq, vI n3, vI n4, sL cr ct cu])], rfl, rfl, z2, by kernel_rfl, ?_⟩; intro H
 refine A8 (i := 0) sizeOf50 rfl rfl rfl (by simp [Value.oneCell']) rfl (B2 rfl) (Aw rfl ?_)
 refine Aa ⟨undef, rfl, AN.refl _, [], by kernel_rfl, .inl (.inl rfl), nm, ?_⟩
 refine Bo (AJ (uv (CA isAgg26 sizeOf26 1) ?_))
 refine um (um ?_)
 obtain ⟨n5, n6, fh, fi⟩ := BT fe
 refine Bn rfl call25 rfl rfl rfl (pT ((fC (fC (fC (fS fP)))).trans (pA ((fC (fC (fC (fS fP)))).trans (pA ((fC (fC (fC (fS fP)))).trans (pA pR)))))) (lp (lp (lp (ln rfl))))) (fun F2 h2 h3 => by rw [(AM.A6 ah).1]; rw [(AM.A6 ai).1]; rw [(AM.A6 aj).1]; exact KH (ah.row kJ h2 (aL h3)) (ai.row kJ h2 (aL (aR h3))) (aj.row kN h2 (aL (aR (aR h3)))) fh) ?_
 refine um (ox rfl rfl rfl (ox rfl rfl rfl (ua (ua (BL ?_)))))
 refine uv (CA isAgg50 sizeOf50 0) ?_
 refine um (um ?_)
 obtain ⟨n7, n8, fj, fk⟩ := BT fi
 refine Bn rfl call26 rfl rfl rfl (pT ((fC (fC (fC fP))).trans (pA pR)) (lp (ln rfl))) (fun F2 h2 h3 => by rw [(AM.A6 aq).1]; exact Nn (cv.mono kJ h2) (cw.mono kJ h2) (aq.row kN h2 (aL h3)) fj) ?_
 refine um (ox rfl rfl rfl (ox rfl rfl rfl (ua (ua (BL ?_)))))
 refine uv (CA isAgg26 sizeOf26 1) ?_
 refine um (um ?_)
 obtain ⟨l7, n9, fl, fm⟩ := BT fk
 refine BU rfl call27 rfl rfl rfl (pT ((fC (fC (fC (fS fP)))).trans (pA ((fC (fC (fC (fS fP)))).trans (pA ((fC (fC (fC (fS fP)))).trans (pA pR)))))) (ln (lp (lp (lp (ln rfl)))))) (fun F2 h2 h3 => by rw [(AM.A6 ah).1]; rw [(AM.A6 ai).1]; rw [(AM.A6 aj).1]; exact OQ (ah.row kJ h2 (aL h3)) (ai.row kJ h2 (aL (aR h3))) (aj.row kN h2 (aL (aR (aR h3)))) fl) (fun _ _ _ _ hq => by obtain ⟨ei, ej, en, bc, rfl, rfl, ae⟩ := hq; exact ⟨_, _, _, _, rfl, rfl, ae.flat (fun _ _ h => h)⟩) ?_; rintro _ gl _ al dd de ⟨ei, ej, en, bc, rfl, rfl, ae⟩
 replace ab := ab.m2 al
 replace ad := ad.m2 al
 replace aa := aa.m3 al
 replace cv := cv.m2 al
 replace cw := cw.m2 al
 replace ah := ah.m2 al
 replace ai := ai.m2 al
 replace aj := aj.m3 al
 replace aq := aq.m3 al
 have df := HD (Lb' := []) (by rfl) dd de
 replace ae := ae.new fun p hp => df p (by simp [hp])
 refine Aw (lp (ln (lp (lp (lp (ln rfl)))))) (kO (kf (fS (fS (fS (fS fO)))) (kf (fS (fS (fS (fS fO)))) (kf (fS (fS (fS (fS fO)))) kr))) ?_)
 refine um (ox rfl rfl rfl (ox rfl rfl rfl (ua (ua (Aa (Aq ?_))))))
 obtain ⟨k, fo, eo⟩ := Av fm
 refine jE (((bh, ce #[sL ck l4.length cn, sL cp l5.length cq, vI n3, vI n4, sL cr ct cu] 50) :: ((bb, ce #[sL bk bl bm, sL bn bo bp, vI n, vI n2, sL bq br bu] 26) :: ((b1, ce #[sL Aj walks.length Ai, sL Ak Af.length Al, vI Ae, vI start, sL Ad Ab.length Ac] 26) :: (au ++ (av ++ (aw ++ (ay ++ (bc ++ []))))))))) [(1, vI from_), (2, vI to), (3, pO b1), (7, pO bb), (8, pO bh), (11, vI n7), (12, vI n8), (13, sL ei ej en), (64, .bool k)] ?_ ?_
 ·clear eo
  refine An (um (um ?_))
  refine uv (Bt rfl rfl) (um ?_)
  obtain ⟨cx, fp⟩ := AB fo
  refine nF cx (um (nF cx (um (nF cx ?_))))
  refine uv (Bt rfl rfl) (uv (AD (AL rfl cx) rfl) (um ?_))
  obtain ⟨cy, fq⟩ := AB fp
  refine nF cy (um (nF cy (um (nF cy ?_))))
  refine uv (Bt rfl rfl) (uv (AD (AL rfl cy) rfl) (um ?_))
  obtain ⟨bg, ep⟩ := AB fq
  refine nF bg (um (nF bg ?_))
  refine uv (Bt rfl rfl) ?_
  refine nF bg (um ?_)
  by_cases az : n8 ≠ 0
  ·have fs := A5 ep az
   refine nT az (um (nT az ?_))
   refine uv ((AQ underlying22 rfl).i (AM.Gh ae)) (nT az (uv (CQ rfl rfl) (nF bg (uv (AF (AX rfl az) rfl) (uv (AD (AL rfl bg) rfl) (Aa ?_))))))
   obtain rfl := AP fs
   exact mi (kc (kc (kc (kg (fS fP) (kg (fS fP) (kg (fS fP) (kg (fS fP) kr))))))) ⟨rfl, rfl, (sc rfl z8)⟩
  have ft := A4 ep az
  refine fF az (fF az (fF az (nF bg ?_)))
  refine uv (AD (AL rfl az) rfl) (uv (AD (AL rfl bg) rfl) (Aa ?_))
  obtain rfl := AP ft
  exact mi (kc (kc (kc (kg (fS fP) (kg (fS fP) (kg (fS fP) (kg (fS fP) kr))))))) ⟨rfl, rfl, (sc rfl z8)⟩
 obtain ⟨fv, fw⟩ := AB eo
 refine AR rfl (fun er => absurd (fv.symm.trans er) (by decide)) (fun er => ?_)
 refine Ao (Aq ?_)
 obtain ⟨k2, et, eu⟩ := Av fw
 refine jE (((bb, ce #[sL bk bl bm, sL bn bo bp, vI n, vI n2, sL bq br bu] 26) :: ((b1, ce #[sL Aj walks.length Ai, sL Ak Af.length Al, vI Ae, vI start, sL Ad Ab.length Ac] 26) :: (au ++ (av ++ (aw ++ [])))))) [(3, pO b1), (7, pO bb), (95, .bool k2)] ?_ ?_
 ·clear eu
  refine An (um ?_)
  refine uv (BO rfl rfl) (um ?_)
  by_cases ak : n8 = 0
  ·have fx := A5 et ak
   refine nT ak (um (nT ak ?_))
   refine uv ((AQ underlying22 rfl).i (AM.Gh ae)) (nT ak (uv (BO rfl rfl) ?_))
   refine nT ak (um ?_)
   obtain ⟨bj, fy⟩ := AB fx
   refine nF bj (um (nF bj ?_))
   obtain ⟨x, ew, dg, g0⟩ := Bi fy
   obtain ⟨gm, gn, gp, ga, dh, di, dk, rfl, ey, bw⟩ := AM.at kI ae (L := (bh, ce #[sL ck l4.length cn, sL cp l5.length cq, vI n3, vI n4, sL cr ct cu] 50) :: ((bb, ce #[sL bk bl bm, sL bn bo bp, vI n, vI n2, sL bq br bu] 26) :: ((b1, ce #[sL Aj walks.length Ai, sL Ak Af.length Al, vI Ae, vI start, sL Ad Ab.length Ac] 26) :: (au ++ (av ++ (aw ++ (ay ++ (bc ++ [])))))))) (fC (fC (fC (fS (fS (fS (fS fP))))))) ew.1 dg
   refine uv (Cx underlying22 sizeOf3 dh (AM.idx ae ew)) (nF bj (uv (AG isAgg3 rfl di (bw 0 (by decide))) ?_))
   refine nF bj (um (nF bj ?_))
   refine uv (Bt rfl rfl) (nT ak (uv (AD (AL rfl bj) rfl) ?_))
   refine nT ak (um ?_)
   obtain ⟨ao, dm⟩ := AB g0
   refine nF ao (um (nF ao (um (nF ao ?_))))
   refine uv ((AQ underlying22 rfl).i (AM.Gh ae)) (nF ao ?_)
   obtain ⟨dp, dq⟩ := AB dm
   refine uv (DP rfl rfl dp) (nF ao ?_)
   obtain ⟨x2, bx, bz, dr⟩ := Bi dq
   obtain ⟨gb, gg, gh, ez, cb, cc, dt, rfl, fa, cf⟩ := AM.at kI ae (L := (bh, ce #[sL ck l4.length cn, sL cp l5.length cq, vI n3, vI n4, sL cr ct cu] 50) :: ((bb, ce #[sL bk bl bm, sL bn bo bp, vI n, vI n2, sL bq br bu] 26) :: ((b1, ce #[sL Aj walks.length Ai, sL Ak Af.length Al, vI Ae, vI start, sL Ad Ab.length Ac] 26) :: (au ++ (av ++ (aw ++ (ay ++ (bc ++ [])))))))) (fC (fC (fC (fS (fS (fS (fS fP))))))) bx.1 bz
   refine uv (Cx underlying22 sizeOf3 cb (AM.idx ae bx)) (nF ao (uv (AG isAgg3 rfl cc (cf 0 (by decide))) ?_))
   refine nF ao (um (nF ao ?_))
   refine uv (Bt rfl rfl) (nT ak (uv (AD (AL rfl ao) rfl) ?_))
   refine nT ak (um ?_)
   obtain ⟨ax, du⟩ := AB dr
   refine nF ax (uv (CA isAgg50 sizeOf50 0) ?_)
   refine nF ax (um (nF ax ?_))
   obtain ⟨gq, dv, dw⟩ := Av du
   refine Bn rfl call28 rfl rfl rfl (pT ((fC (fC (fC (fS (fS (fS fP)))))).trans (pA ((fC (fC (fC (fS (fS (fS fP)))))).trans (pA pR)))) (lp (lp (ln rfl)))) (fun F2 h2 h3 => by rw [(AM.A6 aq).1]; rw [(AM.A6 ae).1]; exact Mz (cv.mono kJ h2) (cw.mono kJ h2) (aq.row kN h2 (aL h3)) (ae.row kI h2 (aL (aR h3))) dv) ?_
   refine nF ax (um (nF ax ?_))
   refine uv (Bt rfl rfl) (nT ak (uv (AD (AL rfl ax) rfl) (uv (AF (AX rfl ak) rfl) (Aa ?_))))
   obtain rfl := AP dw
   exact mi (kd (kc (kc (ka (ka (ka kn)))))) ⟨rfl, rfl, z3⟩
  have dx := A4 et ak
  refine fF ak (fF ak (fF ak (fF ak (fU (fU (fU (fU (fU (fF ak ?_)))))))))
  refine fF ak (fU (fU (fU (fU (fU (fU (fU (fU (fF ak ?_)))))))))
  refine fF ak (fU (fU (fU (fU (fU (fF ak ?_))))))
  refine uv (AD (AL rfl ak) rfl) (Aa ?_)
  obtain rfl := AP dx
  exact mi (kd (kc (kc (ka (ka (ka kn)))))) ⟨rfl, rfl, z3⟩
 obtain ⟨dy, dz⟩ := AB eu
 refine AR rfl (fun cg => absurd (dy.symm.trans cg) (by decide)) (fun cg => ?_)
 refine Ao (AJ ?_)
 refine uv (CA isAgg26 sizeOf26 0) (uv (CA isAgg26 sizeOf26 1) ?_)
 obtain ⟨gr, eb, ec⟩ := Av dz
 refine Bn rfl call24 rfl rfl rfl (pT ((fC (fC fP)).trans (pA ((fC (fC fP)).trans (pA ((fC (fC fP)).trans (pA pR)))))) (lp (lp (lp (ln rfl))))) (fun F2 h2 h3 => by rw [(AM.A6 ah).1]; rw [(AM.A6 ai).1]; rw [(AM.A6 aj).1]; exact CX (ah.row kJ h2 (aL h3)) (ai.row kJ h2 (aL (aR h3))) (aj.row kN h2 (aL (aR (aR h3)))) (ab.mono kJ h2) (ad.mono kJ h2) (aa.mono kN h2) eb) ?_
 refine um ?_
 obtain ⟨cj, ef⟩ := AB ec
 refine nB cj ?_
 obtain ⟨gu, eg, eh⟩ := Av ef
 refine cV call14 (B0 eg) (uv (AF (Gl rfl cj) rfl) ?_)
 refine ua (Aa ?_)
 refine kW kn (AA (C3 results6 ?_))
 obtain rfl := AP eh
 exact rfl
theorem Mf (ab : Ar 2 eP F Hg Hj l) {r : List (Int × Int)} (hr : IV l = some r) :
    SH.Spec Tryz.prog 29 #[sL Hg l.length Hj] F [] fun F' L' v => ∃ (ra : Option Addr) (rn : Nat) (rc : Nat) (rL : LH), v = sL ra rn rc ∧ L' = rL ++ [] ∧ AM 0 29 2 eP F' ra rn rc r rL := by
 refine sp func29 ntmps29 fun K _ _ => ?_
 rw [IV] at hr
 refine AJ (ua (BL (um ?_)))
 refine uv (AQ underlying30 rfl) ?_
 obtain ⟨g1, r2⟩ := AB hr
 obtain ⟨l2, h3, r4⟩ := BC r2
 refine Hs (R := eP) (z0 := (0, 0)) (zs := l2) rfl Nj (by decide) kP (fun _ => ⟨_, _, rfl, rfl, rfl⟩) rfl g1 h3 (fun _ => .n) ?_; intro a5 n8 aj ad
 refine ua (BL (um (um ?_)))
 obtain ⟨out, ae, ah⟩ := BC r4
 refine KX (ys := l) (zs := out) rfl Nj kP rfl rfl (fun _ => .h) ad (Ar.src ab) ae ?_; intro ai aa
 refine BL (um (ua (Aa (AA ?_))))
 refine C3 results29 ?_
 obtain rfl := AP ah
 exact ⟨_, _, _, _, rfl, rfl, aa.any⟩
theorem Oy (ab : Ar 1 eJ F Aj Ai walks) (ad : Ar 1 eJ F Ak Al Af) (aa : Ar 3 eN F Ad Ac Ab) (ae : Ar 2 eP F Cl Co round) {r : List Int} (hr : Md walks Af Ae start Ab round = some (r, r2)) :
    SH.Spec Tryz.prog 30 #[.agg #[sL Aj walks.length Ai, sL Ak Af.length Al, vI Ae, vI start, sL Ad Ab.length Ac], sL Cl round.length Co] F [] fun F' L' v => ∃ (ra : Option Addr) (rn : Nat) (rc : Nat) (rL : LH), v = .tuple #[sL ra rn rc, vI r2] ∧ L' = rL ++ [] ∧ AM 0 3 1 eI F' ra rn rc r rL := by
 refine sp func30 ntmps30 fun K _ _ => ?_
 rw [Md] at hr
 refine AJ ?_
 refine Bx rfl rfl ?_; intro b1 ak
 refine ua (ua (BL ?_))
 refine uv (CA isAgg26 sizeOf26 0) (um ?_)
 obtain ⟨d, l, n, h2, r3⟩ := Ia hr
 refine c0 call80 (MI ab ad aa ae h2) ?_; rintro _ F4 _ al ai ⟨v8, ao, aq, ar, aj, rfl, rfl, au, ah⟩
 replace ah := ah.new fun p hp => ai p (by simp [hp])
 refine Aw (lp (ln rfl)) (kO (kf (fS fO) kr) ?_)
 refine um (ox rfl rfl rfl (ox rfl rfl rfl (ox rfl rfl rfl (ua (ua (ua (BL (um (um ?_)))))))))
 refine ua (ua (Aa ?_))
 refine kW (kd kr) (AA (BG results30 (AH rfl) (AH rfl) (sr) ?_))
 obtain ⟨rfl, rfl⟩ := B9 r3
 exact ⟨_, _, _, _, rfl, rfl, ah.any⟩
set_option maxHeartbeats 1000000 in
theorem IT (ae : Ar 1 eJ F Aj Ai walks) (ah : Ar 1 eJ F Ak Al Af) (aa : Ar 3 eN F Ad Ac Ab) (ab : Ar 2 eP F Cl Co round) {r : List Int} (hr : G5 walks Af Ae start Ab round = some (r, r2)) :
    SH.Spec Tryz.prog 31 #[.agg #[sL Aj walks.length Ai, sL Ak Af.length Al, vI Ae, vI start, sL Ad Ab.length Ac], sL Cl round.length Co] F [] fun F' L' v => ∃ (ra : Option Addr) (rn : Nat) (rc : Nat) (rL : LH), v = .tuple #[sL ra rn rc, vI r2] ∧ L' = rL ++ [] ∧ AM 0 3 1 eI F' ra rn rc r rL := by
 refine sp func31 ntmps31 fun K _ _ => ?_
 rw [G5] at hr
 refine AJ ?_
 refine Bx rfl rfl ?_; intro b1 ia
 refine ua (ua (Aa (Aq (AJ ?_))))
 refine uv (CA isAgg50 sizeOf50 0) ?_
 obtain ⟨n, h2, r3⟩ := Av hr
 refine cV call18 (C1 ae ah aa h2) ?_
 refine ua (BL (um ?_))
 refine uv (Bt rfl rfl) (Aa ?_)
 refine cQ (fun c4 => ?_) fun c4 => ?_
 ·have r5 := A5 r3 c4
  refine AJ (um (ua (ua (Aa ?_))))
  refine kW kn ?_
  refine AA (As ?_)
  refine BG results31 (AH rfl) (AH rfl) (sr) ?_
  obtain ⟨rfl, rfl⟩ := B9 r5
  exact ⟨_, _, _, [], rfl, rfl, AM.nil _ _ _ _ _⟩
 have r6 := A4 r3 c4
 refine Ao (Aq (AJ (um ?_)))
 refine uv (AQ underlying72 rfl) (uv (CQ rfl rfl) (Aa ?_))
 refine cQ (fun c7 => ?_) fun c7 => ?_
 ·have r8 := A5 r6 c7
  refine AJ (ua (ua (Aa ?_)))
  refine kW kn ?_
  refine AA (As ?_)
  refine BG results31 (AH rfl) (AH rfl) (sr) ?_
  obtain ⟨rfl, rfl⟩ := B9 r8
  exact ⟨_, _, _, [], rfl, rfl, AM.nil _ _ _ _ _⟩
 have r9 := A4 r6 c7
 refine Ao (AJ ?_)
 refine uv (CA isAgg50 sizeOf50 0) ?_
 obtain ⟨l, fb, fe⟩ := Av r9
 refine c0 call79 (G3 ae ah aa fb) ?_; rintro _ dz _ aq ff ⟨eb, ec, rfl, rfl, ef⟩
 replace aa := aa.m3 aq
 replace ab := ab.m4 aq
 refine Aw (ln rfl) ?_
 refine ua (BL ?_)
 refine uv (Ah MH rfl) (uv (BM isAgg3 0) ?_)
 refine ua (ua (BL (ua (Aa ?_))))
 refine AU (fun e1 F1 L1 => ∃ (out : List Int) (cb : Option Addr) (cc : Nat) (cf : Nat) (al : LH), ID out = some (r, r2) ∧ dz = F1 ∧ L1 = (al ++ []) ∧ e1.sub [(10, sL cb cc cf)] ∧ AM K.w0.heap.size 3 1 eI F1 cb cc cf out al) ?_ ?_
 ·refine AJ (ua (Aa ?_))
  refine Ap ?_
  refine Bb (fun eg e1 F1 L1 => LA round eg fun tl i => ∃ (at_ : Int) (minute : Int) (ai : List Int) (ar : Option Addr) (au : Nat) (av : Nat) (aj : LH), Fv Af Ab l tl at_ minute ai = some (r, r2) ∧ dz = F1 ∧ L1 = ((b1, ce #[sL Aj walks.length Ai, sL Ak Af.length Al, vI Ae, vI start, sL Ad Ab.length Ac] 50) :: (aj ++ [])) ∧ e1.sub [(1, sL Cl round.length Co), (2, pO b1), (7, sL eb l.length ec), (8, vI at_), (9, vI minute), (10, sL ar au av), (11, vI i)] ∧ AM K.w0.heap.size 3 1 eI F1 ar au av ai aj) _ (m0 (kc (ke kr)) ⟨_, _, rfl, Bl.start _, start, 0, [], none, 0, 0, [], fe, rfl, rfl, z7, AM.nil _ _ _ _ _⟩) ?_
  rintro eg e1 _ _ ⟨tl, i, cg, ao, at_, minute, ai, ar, au, av, aj, bu, rfl, rfl, cj, aw⟩
  refine Az _ cj ?_
  refine Aq (AJ (um (um ?_)))
  refine uv (AQ underlying72 rfl) (uv (AV rfl rfl) (Aa ?_))
  refine cQ (fun bw => ?_) fun bw => ?_
  ·obtain ⟨x, ib, rfl, ck, eh, cn⟩ := Bl.succ ao bw
   rw [Fv] at bu
   refine Ao (Aq ?_)
   refine Ap ?_
   refine AJ (um (um ?_))
   obtain ⟨ic, ie, ig, fg, cp, cq, ak, ⟨_, _, rfl, rfl, rfl⟩, cr, ct⟩ := Ar.ta kP ab eh.1 ck
   refine uv (Cx underlying72 sizeOf127 cp eh) (uv (AZ isAgg127 sizeOf127 rfl (cq _) ak (Ba ak cr ct)) ?_)
   refine Bh rfl zeroValue127 ?_; intro ei fh
   refine A8 (i := 0) sizeOf127 rfl rfl rfl (by simp [Value.oneCell']) rfl (B2 rfl) (Aw rfl ?_)
   refine Aa (Aq ?_)
   obtain ⟨k, fi, cu⟩ := Av bu
   refine jE (((ei, ce #[vI x.1, vI x.2] 127) :: ((b1, ce #[sL Aj walks.length Ai, sL Ak Af.length Al, vI Ae, vI start, sL Ad Ab.length Ac] 50) :: (aj ++ [])))) [(1, sL Cl round.length Co), (2, pO b1), (7, sL eb l.length ec), (8, vI at_), (9, vI minute), (10, sL ar au av), (11, vI i), (12, pO ei), (50, .bool k)] ?_ ?_
   ·clear cu
    refine An (uv (Ah Lm rfl) (uv (BM isAgg3 0) (uv (Ah Hn rfl) (uv (BM isAgg23 1) (uv (AQ underlying23 rfl) ?_)))))
    obtain ⟨fj, fk⟩ := AB fi
    refine uv (DP rfl rfl fj) ?_
    obtain ⟨ok, fl, ej⟩ := Av fk
    refine cV call70 (Cb fl) (um ?_)
    rcases EE ok with ad | ad
    ·have fm := bt ej ad
     refine fB ad (fB ad (fB ad (fB ad (fB ad (fB ad (fB ad ?_))))))
     refine uv (AF (Gl rfl ad) rfl) (Aa ?_)
     obtain rfl := AP fm
     exact mi kr ⟨rfl, rfl, (sc rfl z8)⟩
    have fo := bf ej ad
    refine nB ad (uv (Ah N9 rfl) (nB ad (uv (BM isAgg3 0) (nB ad (uv (Ah C9 rfl) (nB ad (uv (BM isAgg48 1) ?_)))))))
    refine nB ad (uv (AQ underlying48 rfl) (nB ad ?_))
    obtain ⟨fp, fq⟩ := AB fo
    refine uv (DP rfl rfl fp) (nB ad ?_)
    obtain ⟨ij, fs, ft⟩ := Av fq
    refine cV call70 (Cb fs) (uv (AD (Gl rfl ad) rfl) (Aa ?_))
    obtain rfl := AP ft
    exact mi kr ⟨rfl, rfl, (sc rfl z8)⟩
   refine AR rfl (fun cv => ?_) (fun cv => ?_)
   ·have fv := bt cu cv
    refine AJ (ua (ua (Aa ?_)))
    refine kW kn ?_
    refine AA (As (AK (As (As (AK (As ?_))))))
    refine BG results31 (AH rfl) (AH rfl) (sr) ?_
    obtain ⟨rfl, rfl⟩ := B9 fv
    exact ⟨_, _, _, [], rfl, rfl, AM.nil _ _ _ _ _⟩
   have fw := bf cu cv
   refine Ao (Aq ?_)
   refine dW ?_
   refine wm (wm ?_)
   obtain ⟨x2, bx, ax, fx⟩ := Bi fw
   obtain ⟨ik, il, im, fy, cw, cx, en, ⟨iq, ir, rfl, g0⟩, ga, cy⟩ := Ar.ta kJ ef bx.1 ax
   refine wv (Cx underlying23 sizeOf22 cw bx) (wv (AG isAgg22 rfl (cx _) (cy 0 (by decide))) (wv (Ah Lm rfl) (wv (BM isAgg3 0) ?_)))
   obtain ⟨x3, bz, ay, eo⟩ := Bi fx
   obtain ⟨iu, iv, iw, gb, cz, da, ep, rfl, gg, db⟩ := Ar.ta kI g0 bz.1 ay
   refine wv (Cx underlying22 sizeOf3 cz bz) (wv (AG isAgg3 rfl (da _) (db 0 (by decide))) (wv (AV rfl rfl) (B1 ?_)))
   refine cQ (fun dd => ?_) fun dd => ?_
   ·have gh := A5 eo dd
    refine AJ (ua (ua (Aa ?_)))
    refine kW kn ?_
    refine AA (As (AK (As (As (AK (As ?_))))))
    refine BG results31 (AH rfl) (AH rfl) (sr) ?_
    obtain ⟨rfl, rfl⟩ := B9 gh
    exact ⟨_, _, _, [], rfl, rfl, AM.nil _ _ _ _ _⟩
   have gi := A4 eo dd
   refine Ao (dW ?_)
   refine wm (wm (wm ?_))
   obtain ⟨iy, iz, j0, er, az, ba, de, ⟨gj, gk, rfl, df⟩, et, bb⟩ := Ar.ta kJ ef bx.1 ax
   refine wv (Cx underlying23 sizeOf22 az bx) (wv (AG isAgg22 rfl (ba _) (bb 0 (by decide))) (wv (Ah Lm rfl) (wv (BM isAgg3 0) ?_)))
   obtain ⟨gl, gm, gn, eu, bc, bd, dg, rfl, ew, bg⟩ := Ar.ta kI df bz.1 ay
   refine wv (Cx underlying22 sizeOf3 bc bz) (wv (AG isAgg3 rfl (bd _) (bg 0 (by decide))) ?_)
   obtain ⟨dh, di⟩ := AB gi
   refine wv (A0 rfl rfl dh) (wv (Ah C9 rfl) (wv (BM isAgg48 1) (wv (Ah N9 rfl) (wv (BM isAgg3 0) ?_))))
   obtain ⟨x4, bh, bj, dk⟩ := Bi di
   obtain ⟨gp, gq, gr, ey, bk, bl, dm, ⟨_, _, rfl, ⟨gu, gv, rfl, gw⟩, ⟨_, _, rfl, rfl, rfl⟩⟩, ez, bm⟩ := Ar.ta kN aa bh.1 bj
   refine wv (Cx underlying48 sizeOf110 bk bh) (wv (Ah MM rfl) (wv (AG isAgg3 rfl (bl _) (bm 1 (by decide))) ?_))
   obtain ⟨dp, dq⟩ := AB dk
   refine wv (A0 rfl rfl dp) ?_
   refine wa (Sn ?_)
   refine uv (Ah Lm rfl) (uv (BM isAgg3 0) ?_)
   refine ua (Aa (An (um (um ?_))))
   refine bA (cs := #[vI ((minute + x3) + x4.2.1)]) Bp [vI ((minute + x3) + x4.2.1)] ?_; intro gz fa
   obtain ⟨bn, dr, dt, du⟩ := DS dq
   refine Cq (xs := ai) (ys := [(minute + x3) + x4.2.1]) (zs := bn) rfl Bp rfl rfl (Nat.le_refl _) (fun _ => .c (.c (.c .h))) aw (Fg.box (vss := [[vI ((minute + x3) + x4.2.1)]]) (ys := [(minute + x3) + x4.2.1]) 0 rfl kI (.cons rfl .nil) rfl rfl) dr dt (by decide) ?_; intro dv dw dx bo bp
   refine kO (kd kr) ?_
   refine ua (Aa (Ay (id := 1) (An (um ?_))))
   refine uv (A0 rfl rfl (Bl.Cs ao bw (Ar.lt ab))) ?_
   refine ua (Aa ?_)
   subst cg; exact le (kd kr) ⟨_, _, rfl, cn, x.1, (minute + x3) + x4.2.1, bn, dv, dw, dx, bo, du, rfl, rfl, z7, bp⟩
  obtain rfl := Bl.zero ao bw
  rw [Fv] at bu
  refine AI (Am (Am ?_))
  refine At ?_
  exact mi (kd kr) ⟨ai, ar, au, av, aj, bu, rfl, rfl, z1, aw⟩
 rintro e1 _ _ ⟨out, cb, cc, cf, al, bq, rfl, rfl, br, dy⟩
 refine Az _ br ?_
 rw [ID] at bq
 refine AJ (um (ua (ua (Aa (AA ?_)))))
 refine BG results31 (AH rfl) (AH rfl) (sr) ?_
 obtain ⟨rfl, rfl⟩ := B9 bq
 exact ⟨_, _, _, _, rfl, rfl, dy.any⟩
set_option maxHeartbeats 1000000 in
theorem Fu (bg : Ar 2 eP F Hg Hj l) {r : List (Int × Int)} (hr : EB l = some r) :
    SH.Spec Tryz.prog 32 #[sL Hg l.length Hj] F [] fun F' L' v => ∃ (ra : Option Addr) (rn : Nat) (rc : Nat) (rL : LH), v = sL ra rn rc ∧ L' = rL ++ [] ∧ AM 0 127 2 eP F' ra rn rc r rL := by
 refine sp func32 ntmps32 fun K _ _ => ?_
 rw [EB] at hr
 refine AJ (ua (BL (ua (Aa ?_))))
 obtain ⟨out, h7, r8⟩ := Av hr
 refine AU (fun e1 F1 L1 => ∃ (a1 : Option Addr) (n5 : Nat) (c2 : Nat) (aq : LH), F = F1 ∧ L1 = (aq ++ []) ∧ e1.sub [(3, sL a1 n5 c2)] ∧ AM K.w0.heap.size 127 2 eP F1 a1 n5 c2 out aq) ?_ ?_
 ·clear r8
  refine AJ (um ?_)
  refine uv (AQ underlying30 rfl) ?_
  refine um (Aa ?_)
  refine Ap ?_
  refine Bb (fun bh e1 F1 L1 => LA l bh fun tl k => ∃ (aa : List (Int × Int)) (a9 : Option Addr) (aj : Nat) (ak : Nat) (ab : LH), E6 tl aa = some out ∧ F = F1 ∧ L1 = (ab ++ []) ∧ e1.sub [(3, sL a9 aj ak), (6, sL Hg l.length Hj), (7, vI (l.length : Int)), (8, vI k)] ∧ AM K.w0.heap.size 127 2 eP F1 a9 aj ak aa ab) _ (m0 (ke kr) ⟨_, _, rfl, Bl.start _, [], none, 0, 0, [], h7, rfl, rfl, z4, AM.nil _ _ _ _ _⟩) ?_
  rintro bh e1 _ _ ⟨tl, k, ar, ae, aa, a9, aj, ak, ab, al, rfl, rfl, au, ah⟩
  refine Az _ au (AJ (uv (AV rfl rfl) ?_))
  refine Aa (Aq ?_)
  refine cQ (fun ao => ?_) fun ao => ?_
  ·obtain ⟨x, bx, rfl, av, bj, aw⟩ := Bl.succ ae ao
   rw [E6] at al
   refine Ao (Aq ?_)
   refine Ap (AJ ?_)
   obtain ⟨bz, cb, cc, bk, ax, ay, ad, ⟨_, _, rfl, rfl, rfl⟩, az, ba⟩ := Ar.ta kP bg bj.1 av
   refine uv (Cx underlying30 sizeOf29 ax bj) (uv (AZ isAgg29 sizeOf29 rfl (ay _) ad (Ba ad az ba)) ?_)
   refine Bh rfl zeroValue29 ?_; intro cf bl
   refine A8 (i := 0) sizeOf29 rfl rfl rfl (by simp [Value.oneCell']) rfl (B2 rfl) (Aw rfl ?_)
   refine Aa (An (um ?_))
   refine uv (CA isAgg29 sizeOf29 0) ?_
   refine bA (cs := #[vI x.1, vI x.2]) Qu [.agg #[vI x.1, vI x.2]] ?_; intro cg bm
   obtain ⟨ai, bn, bo, bp⟩ := DS al
   refine Cq (xs := aa) (ys := [(x.1, x.2)]) (zs := ai) rfl Qu rfl rfl (Nat.le_refl _) (fun _ => .c (.c .h)) ah (Fg.box (vss := [[vI x.1, vI x.2]]) (ys := [(x.1, x.2)]) 0 rfl kP (.cons ⟨_, _, rfl, rfl, rfl⟩ .nil) rfl rfl) bn bo (by decide) ?_; intro bq br bu bb bc
   refine kO (kd kr) ?_
   refine ua (Aa (Ay (id := 1) (An ?_)))
   refine uv (A0 rfl rfl (Bl.Cs ae ao (Ar.lt bg))) ?_
   refine um (Aa ?_)
   subst ar; exact le (kd kr) ⟨_, _, rfl, aw, ai, bq, br, bu, bb, bp, rfl, rfl, z4, bc⟩
  obtain rfl := Bl.zero ae ao
  rw [E6] at al
  refine AI (Am (Am ?_))
  refine At ?_
  obtain rfl := AP al
  exact mi kr ⟨a9, aj, ak, ab, rfl, rfl, z1, ah⟩
 rintro e1 _ _ ⟨a1, n5, c2, aq, rfl, rfl, bd, bw⟩
 refine Az _ bd ?_
 refine AJ (um (ua (Aa (AA ?_))))
 refine C3 results32 ?_
 obtain rfl := AP r8
 exact ⟨_, _, _, _, rfl, rfl, bw.any⟩
set_option maxHeartbeats 1000000 in
theorem J4 (aw : Ar 1 eJ F Aj Ai walks) (ae : Ar 1 eJ F Ak Al Af) (aa : Ar 3 eN F Ad Ac Ab) (ad : Ar 2 eP F Cl Co round) {r : List (List Int)} (hr : HN walks Af Ae start Ab round = some (r, r2)) :
    SH.Spec Tryz.prog 35 #[.agg #[sL Aj walks.length Ai, sL Ak Af.length Al, vI Ae, vI start, sL Ad Ab.length Ac], sL Cl round.length Co] F [] fun F' L' v => ∃ (ra : Option Addr) (rn : Nat) (rc : Nat) (rL : LH), v = .tuple #[sL ra rn rc, vI r2] ∧ L' = rL ++ [] ∧ AM 0 22 1 eJ F' ra rn rc r rL := by
 refine sp func35 ntmps35 fun K _ _ => ?_
 rw [HN] at hr
 refine AJ ?_
 refine Bx rfl rfl ?_; intro b1 lh
 refine ua (ua (BL ?_))
 refine uv (CA isAgg50 sizeOf50 0) (um ?_)
 obtain ⟨l, n, h2, r3⟩ := BT hr
 refine c0 call31 (IT aw ae aa ad h2) ?_; rintro _ F4 _ eg j4 ⟨a8, bn, c9, aj, rfl, rfl, al⟩
 replace ae := ae.m2 eg
 replace aa := aa.m3 eg
 replace ad := ad.m4 eg
 replace al := al.new fun p hp => j4 p (by simp [hp])
 refine Aw (lp (ln rfl)) (kO (kf (fS fO) kr) ?_)
 refine um (ox rfl rfl rfl (ox rfl rfl rfl (ua (ua (Aa (Aq (AJ (um ?_))))))))
 refine uv (Bt rfl rfl) (Aa ?_)
 refine cQ (fun eh => ?_) fun eh => ?_
 ·have j5 := A5 r3 eh
  refine AJ (um (ua (ua (Aa ?_))))
  refine kW kn ?_
  refine AA (As ?_)
  refine BG results35 (AH rfl) (AH rfl) (sr) ?_
  obtain ⟨rfl, rfl⟩ := B9 j5
  exact ⟨_, _, _, [], rfl, rfl, AM.nil _ _ _ _ _⟩
 have j6 := A4 r3 eh
 refine Ao (AJ (ua (Aa ?_)))
 obtain ⟨out, j7, ia⟩ := Av j6
 refine AU (fun e1 F1 L1 => ∃ (ei : Option Addr) (ej : Nat) (en : Nat) (bo : LH), AN F4 F1 ∧ L1 = (bo ++ []) ∧ e1.sub [(8, sL ei ej en)] ∧ AM K.w0.heap.size 22 1 eJ F1 ei ej en out bo) ?_ ?_
 ·clear ia
  refine AJ (ua (Aa ?_))
  refine Ap ?_
  refine Bb (fun ib e1 F1 L1 => LA Ab ib fun tl n2 => ∃ (ax : List (List Int)) (ay : Option Addr) (az : Nat) (ba : Nat) (ah : LH), EZ Af Ae round l tl n2 ax = some out ∧ AN F4 F1 ∧ L1 = ((b1, ce #[sL Aj walks.length Ai, sL Ak Af.length Al, vI Ae, vI start, sL Ad Ab.length Ac] 50) :: (aj ++ (ah ++ []))) ∧ e1.sub [(1, sL Cl round.length Co), (2, pO b1), (6, sL a8 bn c9), (8, sL ay az ba), (9, vI n2)] ∧ AM K.w0.heap.size 22 1 eJ F1 ay az ba ax ah) _ (m0 (kc (ka (ke kr))) ⟨_, _, rfl, Bl.start _, [], none, 0, 0, [], j7, AN.refl _, rfl, z5, AM.nil _ _ _ _ _⟩) ?_
  rintro ib e1 cb _ ⟨tl, n2, eo, bp, ax, ay, az, ba, ah, du, ao, rfl, ep, bb⟩
  refine Az _ ep ?_
  replace ae := ae.m2 ao
  replace aa := aa.m3 ao
  replace ad := ad.m4 ao
  replace al := al.m1 ao
  refine Aq (AJ (um ?_))
  refine uv (Ah C9 rfl) (uv (BM isAgg48 0) (uv (AQ underlying48 rfl) (uv (AV rfl rfl) (Aa ?_))))
  refine cQ (fun dv => ?_) fun dv => ?_
  ·obtain ⟨x, lj, rfl, j8, lk, er⟩ := Bl.succ bp dv
   rw [EZ] at du
   refine Ao ?_
   obtain ⟨cc, j9, ic⟩ := Av du
   refine AU (fun e1 F1 L1 => ∃ (dw : Option Addr) (dx : Nat) (dy : Nat) (bc : LH), AN cb F1 ∧ L1 = ((b1, ce #[sL Aj walks.length Ai, sL Ak Af.length Al, vI Ae, vI start, sL Ad Ab.length Ac] 50) :: (aj ++ (bc ++ []))) ∧ e1.sub [(1, sL Cl round.length Co), (2, pO b1), (6, sL a8 bn c9), (8, sL dw dx dy), (9, vI n2)] ∧ AM K.w0.heap.size 22 1 eJ F1 dw dx dy cc bc) ?_ ?_
   ·clear ic
    refine Ap (AJ (uv (Ah LK rfl) (uv (BM isAgg3 0) ?_)))
    obtain ⟨ja, jb⟩ := AB j9
    obtain ⟨l2, jc, jd⟩ := BC jb
    refine Hs (R := eI) (z0 := 0) (zs := l2) rfl Bp (by decide) kI (fun _ => rfl) rfl ja jc (fun _ => .c .n) ?_; intro aq ai et eu
    refine ua (Aa ?_)
    obtain ⟨l3, je, ie⟩ := Av jd
    refine AU (fun e1 F1 L1 => ∃ (bq : LH), cb = F1 ∧ L1 = ((b1, ce #[sL Aj walks.length Ai, sL Ak Af.length Al, vI Ae, vI start, sL Ad Ab.length Ac] 50) :: (aj ++ (ah ++ (bq ++ [])))) ∧ e1.sub [(1, sL Cl round.length Co), (2, pO b1), (6, sL a8 bn c9), (8, sL ay az ba), (9, vI n2), (10, sL aq ai ai)] ∧ AM K.w0.heap.size 3 1 eI F1 aq ai ai l3 bq) ?_ ?_
    ·clear ie
     refine AJ (ua (Aa ?_))
     refine Ap ?_
     obtain ⟨jf, jg⟩ := AB je
     refine Bb (fun dz e1 F1 L1 => ∃ (h : Int), CC 0 Ae h dz ∧ ∃ (l4 : List Int) (ar : LH), Fb Af round l n2 dz h l4 = some l3 ∧ cb = F1 ∧ L1 = ((b1, ce #[sL Aj walks.length Ai, sL Ak Af.length Al, vI Ae, vI start, sL Ad Ab.length Ac] 50) :: (aj ++ (ah ++ (ar ++ [])))) ∧ e1.sub [(1, sL Cl round.length Co), (2, pO b1), (6, sL a8 bn c9), (8, sL ay az ba), (9, vI n2), (10, sL aq ai ai), (11, vI h)] ∧ AM K.w0.heap.size 3 1 eI F1 aq ai ai l4 ar) _ (m0 (kc (kg (fS fP) (kg (fS fP) kr))) ⟨_, CC.start _ _, l2, et, jg, rfl, rfl, z7, eu⟩) ?_
     rintro dz e1 _ _ ⟨h, br, l4, ar, eb, rfl, rfl, ew, bd⟩
     refine Az _ ew ?_
     refine Aq (AJ (um ?_))
     refine uv (Ah LK rfl) (uv (BM isAgg3 0) (uv (AV rfl rfl) (Aa ?_)))
     refine cQ (fun ec => ?_) fun ec => ?_
     ·obtain ⟨dz, rfl, ey⟩ := CC.succ br ec
      rw [Fb] at eb
      refine Ao ?_
      obtain ⟨l5, jh, ig⟩ := Av eb
      refine AU (fun e1 F1 L1 => ∃ (bg : LH), cb = F1 ∧ L1 = ((b1, ce #[sL Aj walks.length Ai, sL Ak Af.length Al, vI Ae, vI start, sL Ad Ab.length Ac] 50) :: (aj ++ (ah ++ (bg ++ [])))) ∧ e1.sub [(1, sL Cl round.length Co), (2, pO b1), (6, sL a8 bn c9), (8, sL ay az ba), (9, vI n2), (10, sL aq ai ai), (11, vI h)] ∧ AM K.w0.heap.size 3 1 eI F1 aq ai ai l5 bg) ?_ ?_
      ·clear ig
       refine Ap ?_
       refine AJ (um (um ?_))
       obtain ⟨x2, ez, fa, ji⟩ := Bi jh
       obtain ⟨ll, lq, lr, jj, cf, jk, ij, rfl, jl, jm⟩ := AM.at kI bd (L := (b1, ce #[sL Aj walks.length Ai, sL Ak Af.length Al, vI Ae, vI start, sL Ad Ab.length Ac] 50) :: (aj ++ (ah ++ (ar ++ [])))) (fC (fS (fS fP))) ez.1 fa
       refine uv (Cx underlying22 sizeOf3 cf (AM.idx bd ez)) ?_
       obtain ⟨l6, jn, jo⟩ := BC ji
       refine EH (u := -1) sizeOf3 kI rfl cf rfl rfl (fun _ => .c (.s (.s .h))) bd jn ez ?_; intro fb fe
       refine BL (um ?_)
       refine uv (AQ underlying72 rfl) ?_
       obtain ⟨jq, jr⟩ := AB jo
       refine uv (DP rfl rfl jq) ?_
       refine ua (Aa ?_)
       refine Ap ?_
       refine Bb (fun ef e1 F1 L1 => ∃ (l7 : List Int) (i : Int) (ak : LH), Eb Af round l n2 h ef l7 i = some l5 ∧ cb = F1 ∧ L1 = ((b1, ce #[sL Aj walks.length Ai, sL Ak Af.length Al, vI Ae, vI start, sL Ad Ab.length Ac] 50) :: (aj ++ (ah ++ (ak ++ [])))) ∧ e1.sub [(1, sL Cl round.length Co), (2, pO b1), (6, sL a8 bn c9), (8, sL ay az ba), (9, vI n2), (10, sL aq ai ai), (11, vI h), (12, vI i)] ∧ AM K.w0.heap.size 3 1 eI F1 aq ai ai l7 ak) FU (m0 kr ⟨l6, (round.length : Int) - 1, fb, jr, rfl, rfl, z8, fe⟩) ?_
       rintro ef e1 _ _ ⟨l7, i, ak, au, rfl, rfl, cg, av⟩
       refine Az _ cg ?_
       rcases ef with _ | ef
       ·rw [Eb] at au; cases au
       rw [Eb] at au
       refine Aq (AJ (um ?_))
       refine uv (HV rfl rfl) (Aa ?_)
       refine cQ (fun bu => ?_) fun bu => ?_
       ·have ff := A5 au bu
        refine Ao (Aq ?_)
        refine Ap ?_
        obtain ⟨k, fg, bw⟩ := Av ff
        refine jE (((b1, ce #[sL Aj walks.length Ai, sL Ak Af.length Al, vI Ae, vI start, sL Ad Ab.length Ac] 50) :: (aj ++ (ah ++ (ak ++ []))))) [(1, sL Cl round.length Co), (2, pO b1), (6, sL a8 bn c9), (8, sL ay az ba), (9, vI n2), (10, sL aq ai ai), (11, vI h), (12, vI i), (67, .bool k)] ?_ ?_
        ·clear bw
         refine Ie (by kernel_rfl) (by kernel_rfl) (by kernel_rfl) ?_
         refine wm (wm ?_)
         obtain ⟨x3, bh, bj, cj⟩ := Bi fg
         obtain ⟨js, jt, ju, ik, ck, cn, fh, ⟨_, _, rfl, rfl, rfl⟩, il, cp⟩ := Ar.ta kP ad bh.1 bj
         refine wv (Cx underlying72 sizeOf127 ck bh) (wv (Ah N9 rfl) (wv (AG isAgg3 rfl (cn _) (cp 1 (by decide))) (wm (wv (BO rfl rfl) (wm ?_)))))
         by_cases ab : x3.2 = n2
         ·have fi := A5 cj ab
          refine Bf (b := true) 55 rfl (Env.CY rfl ab) (wv (Ah Hn rfl) (Bf (b := true) 55 rfl (Env.CY rfl ab) (wv (BM isAgg23 0) ?_)))
          refine Bf (b := true) 55 rfl (Env.CY rfl ab) (wm (Bf (b := true) 55 rfl (Env.CY rfl ab) (wm (Bf (b := true) 55 rfl (Env.CY rfl ab) ?_))))
          obtain ⟨jv, jw, jx, im, cq, cr, fj, ⟨_, _, rfl, rfl, rfl⟩, iq, ct⟩ := Ar.ta kP ad bh.1 bj
          refine wv (Cx underlying72 sizeOf127 cq bh) (Bf (b := true) 55 rfl (Env.CY rfl ab) (wv (Ah Lm rfl) (Bf (b := true) 55 rfl (Env.CY rfl ab) (wv (AG isAgg3 rfl (cr _) (ct 0 (by decide))) (Bf (b := true) 55 rfl (Env.CY rfl ab) ?_)))))
          obtain ⟨x4, cu, cv, fk⟩ := Bi fi
          obtain ⟨jz, kb, kh, ir, cw, cx, fl, ⟨kj, kl, rfl, fm⟩, iu, cy⟩ := Ar.ta kJ ae cu.1 cv
          refine wv (Cx underlying23 sizeOf22 cw cu) (Bf (b := true) 55 rfl (Env.CY rfl ab) (wv (AG isAgg22 rfl (cx _) (cy 0 (by decide))) ?_))
          refine Bf (b := true) 55 rfl (Env.CY rfl ab) (wm (Bf (b := true) 55 rfl (Env.CY rfl ab) ?_))
          obtain ⟨ok, fo, fp⟩ := Av fk
          refine ES rfl call75 rfl rfl rfl (GJ fm fo) (wv (AF (AX rfl ab) rfl) (B1 ?_))
          obtain rfl := AP fp
          exact mi kr ⟨rfl, rfl, (sc rfl z8)⟩
         have fq := A4 cj ab
         refine A1 (b' := false) 55 rfl (Env.C8 rfl ab) rfl rfl (A1 (b' := false) 55 rfl (Env.C8 rfl ab) rfl rfl (A1 (b' := false) 55 rfl (Env.C8 rfl ab) rfl rfl (A1 (b' := false) 55 rfl (Env.C8 rfl ab) rfl rfl (A1 (b' := false) 55 rfl (Env.C8 rfl ab) rfl rfl (A1 (b' := false) 55 rfl (Env.C8 rfl ab) rfl rfl (A1 (b' := false) 55 rfl (Env.C8 rfl ab) rfl rfl (A1 (b' := false) 55 rfl (Env.C8 rfl ab) rfl rfl (A1 (b' := false) 55 rfl (Env.C8 rfl ab) rfl rfl (A1 (b' := false) 55 rfl (Env.C8 rfl ab) rfl rfl ?_)))))))))
         refine A1 (b' := false) 55 rfl (Env.C8 rfl ab) rfl rfl (wv (AD (AL rfl ab) rfl) (B1 ?_))
         obtain rfl := AP fq
         exact mi kr ⟨rfl, rfl, (sc rfl z8)⟩
        refine AR rfl (fun bx => ?_) (fun bx => ?_)
        ·have fs := bt bw bx
         refine An (um (um (um (um ?_))))
         obtain ⟨x5, cz, da, ft⟩ := Bi fs
         obtain ⟨km, ko, kt, iv, db, dd, fv, rfl, iw, de⟩ := AM.at kI al (L := (b1, ce #[sL Aj walks.length Ai, sL Ak Af.length Al, vI Ae, vI start, sL Ad Ab.length Ac] 50) :: (aj ++ (ah ++ (ak ++ [])))) (fC fP) cz.1 da
         refine uv (Cx underlying22 sizeOf3 db (AM.idx al cz)) (uv (AG isAgg3 rfl dd (de 0 (by decide))) ?_)
         obtain ⟨x6, bz, df, fw⟩ := Bi ft
         obtain ⟨ku, kv, kz, iy, bk, iz, fx, rfl, j0, j1⟩ := AM.at kI av (L := (b1, ce #[sL Aj walks.length Ai, sL Ak Af.length Al, vI Ae, vI start, sL Ad Ab.length Ac] 50) :: (aj ++ (ah ++ (ak ++ [])))) (fC (fS (fS fP))) bz.1 df
         refine uv (Cx underlying22 sizeOf3 bk (AM.idx av bz)) ?_
         obtain ⟨l8, fy, g0⟩ := BC fw
         refine EH (u := x5) sizeOf3 kI rfl bk rfl rfl (fun _ => .c (.s (.s .h))) av fy bz ?_; intro dg dh
         refine Aa (Ay (id := 5) (An (um ?_)))
         obtain ⟨ga, gb⟩ := AB g0
         refine uv (DP rfl rfl ga) ?_
         refine ua (Aa ?_)
         exact le kr ⟨l8, i - 1, dg, gb, rfl, rfl, z8, dh⟩
        have gg := bf bw bx
        refine Ao (Ay (id := 5) (An (um ?_)))
        obtain ⟨gh, gi⟩ := AB gg
        refine uv (DP rfl rfl gh) ?_
        refine ua (Aa ?_)
        exact le kr ⟨l7, i - 1, ak, gi, rfl, rfl, z8, av⟩
       have gj := A4 au bu
       refine AI (Am (Am ?_))
       refine At (Ay (id := 3) ?_)
       obtain rfl := AP gj
       exact mi kr ⟨ak, rfl, rfl, z7, av⟩
      rintro e1 _ _ ⟨bg, rfl, rfl, di, gk⟩
      refine Az _ di ?_
      refine An (um ?_)
      refine uv (A0 rfl rfl (CC.Cs br ec jf)) ?_
      refine ua (Aa ?_)
      exact le kr ⟨_, ey, l5, bg, ig, rfl, rfl, z7, gk⟩
     obtain rfl := CC.zero br ec
     rw [Fb] at eb
     refine AI (Am (Am ?_))
     refine At ?_
     obtain rfl := AP eb
     exact mi kr ⟨ar, rfl, rfl, z6, bd⟩
    rintro e1 _ _ ⟨bq, rfl, rfl, dk, dm⟩
    refine Az _ dk ?_
    refine An (um (um ?_))
    refine bA (cs := #[sL aq ai ai]) Fm [sL aq ai ai] ?_; intro l0 j2
    obtain rfl := (AM.A6 dm).1
    refine B6 (Nat.le_refl _) kI (fC (fC (fS (fS fP)))) dm ?_; intro la bl gl
    replace bb := bb.m2 bl
    obtain ⟨gm, gn, gp, gq⟩ := DS ie
    refine Cq (xs := ax) (ys := [l3]) (zs := gm) rfl Fm rfl rfl (Nat.le_refl _) (fun _ => .c (.c (.s .h))) bb (Fg.box (vss := [[sL aq l3.length l3.length]]) (ys := [l3]) 0 rfl kJ (.cons ⟨_, _, rfl, gl⟩ .nil) rfl rfl) gn gp (by decide) ?_; intro gr gu gv dp dq
    refine kO (kd kr) ?_
    refine ua (Aa (Ay (id := 1) ?_))
    obtain rfl := AP gq
    exact mi kr ⟨gr, gu, gv, dp, bl, rfl, z5, dq⟩
   rintro e1 ld _ ⟨dw, dx, dy, bc, bm, rfl, dr, gw⟩
   refine Az _ dr ?_
   replace aa := aa.m3 bm
   refine An (um ?_)
   refine uv (A0 rfl rfl (Bl.Cs bp dv (Ar.lt aa))) ?_
   refine ua (Aa ?_)
   subst eo; exact le kr ⟨_, _, rfl, er, cc, dw, dx, dy, bc, ic, (ao.trans bm), rfl, z5, gw⟩
  obtain rfl := Bl.zero bp dv
  rw [EZ] at du
  refine AI (Am (Am ?_))
  refine At ?_
  obtain rfl := AP du
  exact mi (kd (kx kr)) ⟨ay, az, ba, ah, ao, rfl, z1, bb⟩
 rintro e1 lg _ ⟨ei, ej, en, bo, j3, rfl, dt, gz⟩
 refine Az _ dt ?_
 refine AJ (um (ua (ua (Aa (AA ?_)))))
 refine BG results35 (AH rfl) (AH rfl) (sr) ?_
 obtain ⟨rfl, rfl⟩ := B9 ia
 exact ⟨_, _, _, _, rfl, rfl, gz.any⟩
set_option maxHeartbeats 1000000 in
theorem JD (ae : Ar 1 eJ F Aj Ai walks) (ah : Ar 1 eJ F Ak Al Af) (aa : Ar 3 eN F Ad Ac Ab) (ar : Ar 2 eP F Cl Co round) {r : List (Int × Int)} (hr : Hu walks Af Ae start Ab round = some (r, r2)) :
    SH.Spec Tryz.prog 38 #[.agg #[sL Aj walks.length Ai, sL Ak Af.length Al, vI Ae, vI start, sL Ad Ab.length Ac], sL Cl round.length Co] F [] fun F' L' v => ∃ (ra : Option Addr) (rn : Nat) (rc : Nat) (rL : LH), v = .tuple #[sL ra rn rc, vI r2] ∧ L' = rL ++ [] ∧ AM 0 56 2 eP F' ra rn rc r rL := by
 refine sp func38 ntmps38 fun K _ _ => ?_
 rw [Hu] at hr
 refine AJ ?_
 refine Bx rfl rfl ?_; intro b1 ia
 refine ua (ua (BL ?_))
 refine uv (CA isAgg50 sizeOf50 0) (um ?_)
 obtain ⟨l, n, h2, r3⟩ := BT hr
 refine c0 call35 (J4 ae ah aa ar h2) ?_; rintro _ F4 _ ck fk ⟨a8, eh, c9, aj, rfl, rfl, al⟩
 replace ae := ae.m2 ck
 replace ah := ah.m2 ck
 replace aa := aa.m3 ck
 replace al := al.new fun p hp => fk p (by simp [hp])
 refine Aw (lp (ln rfl)) (kO (kf (fS fO) kr) ?_)
 refine um (ox rfl rfl rfl (ox rfl rfl rfl (ua (ua (Aa (Aq (AJ (um ?_))))))))
 refine uv (Bt rfl rfl) (Aa ?_)
 refine cQ (fun cn => ?_) fun cn => ?_
 ·have fl := A5 r3 cn
  refine AJ (um (ua (ua (Aa ?_))))
  refine kW kn ?_
  refine AA (As ?_)
  refine BG results38 (AH rfl) (AH rfl) (sr) ?_
  obtain ⟨rfl, rfl⟩ := B9 fl
  exact ⟨_, _, _, [], rfl, rfl, AM.nil _ _ _ _ _⟩
 have fm := A4 r3 cn
 refine Ao (AJ ?_)
 refine uv (CA isAgg50 sizeOf50 0) ?_
 obtain ⟨l2, fo, fp⟩ := Av fm
 refine c0 call22 (Cg ae ah aa fo) ?_; rintro _ ei _ bd cp ⟨ej, en, eo, ak, rfl, rfl, ad⟩
 replace aa := aa.m3 bd
 replace al := al.m2 bd
 replace ad := ad.new fun p hp => cp p (by simp [hp])
 refine Aw (lp (ln rfl)) (kO (kf (fS fO) kr) ?_)
 refine ua (BL (ua (Aa ?_)))
 obtain ⟨out, fq, ep⟩ := Av fp
 refine AU (fun e1 F1 L1 => ∃ (cq : Option Addr) (cr : Nat) (ct : Nat) (ax : LH), ei = F1 ∧ L1 = (ax ++ []) ∧ e1.sub [(9, sL cq cr ct)] ∧ AM K.w0.heap.size 56 2 eP F1 cq cr ct out ax) ?_ ?_
 ·clear ep
  refine AJ (ua (Aa ?_))
  refine Ap ?_
  refine Bb (fun er e1 F1 L1 => LA l2 er fun tl i => ∃ (ao : List (Int × Int)) (ba : Option Addr) (bb : Nat) (bc : Nat) (ai : LH), DW Ab l tl ao = some out ∧ ei = F1 ∧ L1 = ((b1, ce #[sL Aj walks.length Ai, sL Ak Af.length Al, vI Ae, vI start, sL Ad Ab.length Ac] 50) :: (aj ++ (ak ++ (ai ++ [])))) ∧ e1.sub [(2, pO b1), (6, sL a8 eh c9), (8, sL ej en eo), (9, sL ba bb bc), (10, vI i)] ∧ AM K.w0.heap.size 56 2 eP F1 ba bb bc ao ai) _ (m0 (kc (kg (fS fP) (ka (ke kr)))) ⟨_, _, rfl, Bl.start _, [], none, 0, 0, [], fq, rfl, rfl, z5, AM.nil _ _ _ _ _⟩) ?_
  rintro er e1 _ _ ⟨tl, i, bg, au, ao, ba, bb, bc, ai, cj, rfl, rfl, cu, ay⟩
  refine Az _ cu ?_
  refine Aq (AJ (um (um ?_)))
  refine uv ((AQ underlying57 rfl).i (AM.Gh ad)) (uv (AV rfl rfl) (Aa ?_))
  refine cQ (fun bh => ?_) fun bh => ?_
  ·obtain ⟨x, ib, rfl, av, aw, bj⟩ := Bl.succ au bh
   rw [DW] at cj
   refine Ao (Aq ?_)
   refine Ap (dW ?_)
   refine wm (wm (wm ?_))
   obtain ⟨ic, ie, ig, fs, cv, cw, et, ⟨_, _, rfl, rfl, rfl⟩, ft, cx⟩ := AM.at kP ad (L := (b1, ce #[sL Aj walks.length Ai, sL Ak Af.length Al, vI Ae, vI start, sL Ad Ab.length Ac] 50) :: (aj ++ (ak ++ (ai ++ [])))) (fC (fS fP)) aw.1 av
   refine wv (Cx underlying57 sizeOf56 cv (AM.idx ad aw)) (wv (Ah LJ rfl) (wv (AG isAgg3 rfl cw (cx 0 (by decide))) ?_))
   obtain ⟨x2, eu, cy, fv⟩ := Bi cj
   obtain ⟨ij, ik, il, fw, cz, da, ew, ⟨im, iq, rfl, fx⟩, fy, db⟩ := AM.at kJ al (L := (b1, ce #[sL Aj walks.length Ai, sL Ak Af.length Al, vI Ae, vI start, sL Ad Ab.length Ac] 50) :: (aj ++ (ak ++ (ai ++ [])))) (fC fP) eu.1 cy
   refine wv (Cx underlying23 sizeOf22 cz (AM.idx al eu)) (wv (AG isAgg22 rfl da (db 0 (by decide))) ?_)
   refine wm (wm ?_)
   obtain ⟨ir, iu, iv, g0, dd, de, ey, ⟨_, _, rfl, rfl, rfl⟩, ga, df⟩ := AM.at kP ad (L := (b1, ce #[sL Aj walks.length Ai, sL Ak Af.length Al, vI Ae, vI start, sL Ad Ab.length Ac] 50) :: (aj ++ (ak ++ (ai ++ [])))) (fC (fS fP)) aw.1 av
   refine wv (Cx underlying57 sizeOf56 dd (AM.idx ad aw)) (wv (Ah OI rfl) (wv (AG isAgg3 rfl de (df 1 (by decide))) ?_))
   obtain ⟨x3, ez, dg, gb⟩ := Bi fv
   obtain ⟨iw, iy, iz, gg, dh, di, fa, rfl, gh, dk⟩ := Ar.ta kI fx ez.1 dg
   refine wv (Cx underlying22 sizeOf3 dh ez) (wv (AG isAgg3 rfl (di _) (dk 0 (by decide))) ?_)
   refine wa (B1 ?_)
   obtain ⟨k, fb, dm⟩ := Av gb
   refine jE (((b1, ce #[sL Aj walks.length Ai, sL Ak Af.length Al, vI Ae, vI start, sL Ad Ab.length Ac] 50) :: (aj ++ (ak ++ (ai ++ []))))) [(2, pO b1), (6, sL a8 eh c9), (8, sL ej en eo), (9, sL ba bb bc), (10, vI i), (59, .bool k)] ?_ ?_
   ·clear dm
    refine Ie (by kernel_rfl) (by kernel_rfl) (by kernel_rfl) (wm (wv (AV rfl rfl) (wm ?_)))
    by_cases ab : x3 < 0
    ·have dp := A5 fb ab
     refine A1 (b' := true) 46 rfl (Env.CY rfl ab) rfl rfl (A1 (b' := true) 46 rfl (Env.CY rfl ab) rfl rfl (A1 (b' := true) 46 rfl (Env.CY rfl ab) rfl rfl (A1 (b' := true) 46 rfl (Env.CY rfl ab) rfl rfl (A1 (b' := true) 46 rfl (Env.CY rfl ab) rfl rfl (A1 (b' := true) 46 rfl (Env.CY rfl ab) rfl rfl (A1 (b' := true) 46 rfl (Env.CY rfl ab) rfl rfl (A1 (b' := true) 46 rfl (Env.CY rfl ab) rfl rfl (A1 (b' := true) 46 rfl (Env.CY rfl ab) rfl rfl (A1 (b' := true) 46 rfl (Env.CY rfl ab) rfl rfl ?_)))))))))
     refine A1 (b' := true) 46 rfl (Env.CY rfl ab) rfl rfl (A1 (b' := true) 46 rfl (Env.CY rfl ab) rfl rfl ?_)
     refine wv (AF (AX rfl ab) rfl) (B1 ?_)
     obtain rfl := AP dp
     exact mi kr ⟨rfl, rfl, z6⟩
    have dq := A4 fb ab
    refine Bf (b := false) 46 rfl (Env.C8 rfl ab) (wm (Bf (b := false) 46 rfl (Env.C8 rfl ab) ?_))
    refine wv (Ah C9 rfl) (Bf (b := false) 46 rfl (Env.C8 rfl ab) (wv (BM isAgg48 0) ?_))
    refine Bf (b := false) 46 rfl (Env.C8 rfl ab) (wm (Bf (b := false) 46 rfl (Env.C8 rfl ab) (wm (Bf (b := false) 46 rfl (Env.C8 rfl ab) ?_))))
    obtain ⟨gi, gj, gk, fe, bk, bl, dr, ⟨_, _, rfl, rfl, rfl⟩, ff, bm⟩ := AM.at kP ad (L := (b1, ce #[sL Aj walks.length Ai, sL Ak Af.length Al, vI Ae, vI start, sL Ad Ab.length Ac] 50) :: (aj ++ (ak ++ (ai ++ [])))) (fC (fS fP)) aw.1 av
    refine wv (Cx underlying57 sizeOf56 bk (AM.idx ad aw)) (Bf (b := false) 46 rfl (Env.C8 rfl ab) (wv (Ah LJ rfl) (Bf (b := false) 46 rfl (Env.C8 rfl ab) (wv (AG isAgg3 rfl bl (bm 0 (by decide))) (Bf (b := false) 46 rfl (Env.C8 rfl ab) ?_)))))
    obtain ⟨x4, bn, bo, dt⟩ := Bi dq
    obtain ⟨gl, gm, gn, fg, bp, bq, du, ⟨_, _, rfl, ⟨gp, gq, rfl, gr⟩, ⟨_, _, rfl, rfl, rfl⟩⟩, fh, br⟩ := Ar.ta kN aa bn.1 bo
    refine wv (Cx underlying48 sizeOf110 bp bn) (Bf (b := false) 46 rfl (Env.C8 rfl ab) (wv (Ah JF rfl) (Bf (b := false) 46 rfl (Env.C8 rfl ab) (wv (AG isAgg3 rfl (bq _) (br 2 (by decide))) (Bf (b := false) 46 rfl (Env.C8 rfl ab) (wv (CQ rfl rfl) (wv (AD (AL rfl ab) rfl) ?_)))))))
    refine B1 ?_
    obtain rfl := AP dt
    exact mi kr ⟨rfl, rfl, z6⟩
   refine AR rfl (fun az => ?_) (fun az => ?_)
   ·have dv := bt dm az
    refine An (um (um (um ?_)))
    obtain ⟨gu, gv, gw, fi, bu, bw, aq, ⟨_, _, rfl, rfl, rfl⟩, bx, bz⟩ := AM.at kP ad (L := (b1, ce #[sL Aj walks.length Ai, sL Ak Af.length Al, vI Ae, vI start, sL Ad Ab.length Ac] 50) :: (aj ++ (ak ++ (ai ++ [])))) (fC (fS fP)) aw.1 av
    refine uv (Cx underlying57 sizeOf56 bu (AM.idx ad aw)) (uv (AZ isAgg56 sizeOf56 rfl bw aq (Ba aq bx bz)) ?_)
    refine bA (cs := #[vI x.1, vI x.2]) Iq [.agg #[vI x.1, vI x.2]] ?_; intro gz fj
    obtain ⟨cb, dw, dx, dy⟩ := DS dv
    refine Cq (xs := ao) (ys := [(x.1, x.2)]) (zs := cb) rfl Iq rfl rfl (Nat.le_refl _) (fun _ => .c (.c (.s (.s .h)))) ay (Fg.box (vss := [[vI x.1, vI x.2]]) (ys := [(x.1, x.2)]) 0 rfl kP (.cons ⟨_, _, rfl, rfl, rfl⟩ .nil) rfl rfl) dw dx (by decide) ?_; intro dz eb ec cc cf
    refine kO (kd kr) ?_
    refine ua (Aa (Ay (id := 1) (An (um ?_))))
    refine uv (A0 rfl rfl (Bl.Cs au bh (AM.PI ad))) ?_
    refine ua (Aa ?_)
    subst bg; exact le kr ⟨_, _, rfl, bj, cb, dz, eb, ec, cc, dy, rfl, rfl, z5, cf⟩
   have ef := bf dm az
   refine Ao (Ay (id := 1) (An (um ?_)))
   refine uv (A0 rfl rfl (Bl.Cs au bh (AM.PI ad))) ?_
   refine ua (Aa ?_)
   subst bg; exact le kr ⟨_, _, rfl, bj, ao, ba, bb, bc, ai, ef, rfl, rfl, z5, ay⟩
  obtain rfl := Bl.zero au bh
  rw [DW] at cj
  refine AI (Am (Am ?_))
  refine At ?_
  obtain rfl := AP cj
  exact mi (kd (kx (kx kr))) ⟨ba, bb, bc, ai, rfl, rfl, z1, ay⟩
 rintro e1 _ _ ⟨cq, cr, ct, ax, rfl, rfl, cg, eg⟩
 refine Az _ cg ?_
 refine AJ (um (ua (ua (Aa (AA ?_)))))
 refine BG results38 (AH rfl) (AH rfl) (sr) ?_
 obtain ⟨rfl, rfl⟩ := B9 ep
 exact ⟨_, _, _, _, rfl, rfl, eg.any⟩
set_option maxHeartbeats 1000000 in
theorem H9 {Lx : Option Addr} {Lp : Nat} {s1 : List (Int × Int)} {Lu : Option Addr} {LC : Nat} {s2 : List (Int × Int)} (ad : Ar 2 eP F Lx Lp s1) (ah : Ar 2 eP F Lu LC s2) {r : Bool} (hr : DE s1 s2 = some r) :
    Bv Tryz.prog 85 #[sL Lx s1.length Lp, sL Lu s2.length LC] F (.bool r) := by
 refine sp func85 ntmps85 fun K _ _ => ?_
 rw [DE] at hr
 refine AJ (ua (Aa (Aq (AJ (um ?_)))))
 refine uv (AQ underlying30 rfl) (um (uv (AQ underlying30 rfl) (uv (Bt rfl rfl) (Aa ?_))))
 obtain ⟨g2, r3⟩ := AB hr
 refine BP rfl (fun c4 => absurd c4 g2) (fun c4 => ?_)
 refine Ao ?_
 obtain ⟨h5, r6⟩ := Ij r3
 refine jE ([]) [] ?_ ?_
 ·clear r6
  refine AJ (um ?_)
  refine uv (AQ underlying30 rfl) ?_
  refine um (Aa ?_)
  refine Ap ?_
  refine Bb (fun ba e1 F1 L1 => LA s1 ba fun tl k => BY s2 tl k = some () ∧ F = F1 ∧ L1 = [] ∧ e1.sub [(0, sL Lx s1.length Lp), (1, sL Lu s2.length LC), (12, vI (s1.length : Int)), (13, vI k)]) _ (m0 kr ⟨_, _, rfl, Bl.start _, h5, rfl, rfl, z4⟩) ?_
  rintro ba e1 _ _ ⟨tl, k, bg, ai, r9, rfl, rfl, aj⟩
  refine Az _ aj (AJ (uv (AV rfl rfl) ?_))
  refine Aa (Aq ?_)
  refine cQ (fun ae => ?_) fun ae => ?_
  ·obtain ⟨x, bn, rfl, ak, bb, al⟩ := Bl.succ ai ae
   rw [BY] at r9
   refine Ao (Aq ?_)
   refine Ap ?_
   refine AJ (um (ua ?_))
   refine dN ?_
   refine wm (wm ?_)
   obtain ⟨bo, bp, bq, bh, ao, aq, aa, ⟨_, _, rfl, rfl, rfl⟩, ar, au⟩ := Ar.ta kP ad bb.1 ak
   refine wv (Cx underlying30 sizeOf29 ao bb) (wv (AZ isAgg29 sizeOf29 rfl (aq _) aa (Ba aa ar au)) ?_)
   refine wm (wm ?_)
   obtain ⟨x2, bc, av, bj⟩ := Bi r9
   obtain ⟨br, bu, bw, bk, aw, ax, ab, ⟨_, _, rfl, rfl, rfl⟩, ay, az⟩ := Ar.ta kP ah bc.1 av
   refine wv (Cx underlying30 sizeOf29 aw bc) (wv (AZ isAgg29 sizeOf29 rfl (ax _) ab (Ba ab ay az)) (wv (PM (Q3 _ _ _ _) (fun w => NW (eq_29 _ _ _ _ w)) rfl rfl) (B1 ?_)))
   obtain ⟨bl, bm⟩ := AB bj
   refine BP rfl (fun bd => absurd bd bl) (fun bd => ?_)
   refine Ao (Ay (id := 1) (An ?_))
   refine uv (A0 rfl rfl (Bl.Cs ai ae (Ar.lt ad))) ?_
   refine um (Aa ?_)
   subst bg; exact le kr ⟨_, _, rfl, al, bm, rfl, rfl, z4⟩
  obtain rfl := Bl.zero ai ae
  rw [BY] at r9
  refine AI (Am (Am ?_))
  refine At ?_
  clear r9
  exact mi kr ⟨rfl, rfl, (sn _)⟩
 refine AJ (ua (Aa (AA ?_)))
 refine C3 results85 ?_
 obtain rfl := AP r6
 exact rfl
theorem Mi {Qg : Option Addr} {Qh : Nat} {a : List (Int × Int)} {Qe : Option Addr} {FO : Nat} {b : List (Int × Int)} (aa : Ar 2 eP F Qg Qh a) (ab : Ar 2 eP F Qe FO b) {r : Bool} (hr : IL a b = some r) :
    Bv Tryz.prog 39 #[sL Qg a.length Qh, sL Qe b.length FO] F (.bool r) := by
 refine sp func39 ntmps39 fun K _ _ => ?_
 rw [IL] at hr
 refine AJ (ua (BL (um (um ?_))))
 obtain ⟨ok, h1, r2⟩ := Av hr
 refine cV call85 (H9 aa ab h1) ?_
 refine ua (Aa (AA ?_))
 refine C3 results39 ?_
 obtain rfl := AP r2
 exact rfl
set_option maxHeartbeats 1000000 in
theorem GQ (ab : Ar 1 (GM 1 (iE .i64)) F Aj Ai walks) (ad : Ar 1 (GM 1 (iE .i64)) F Ak Al Af) (aa : Ar 3 eN F Ad Ac Ab) (ak : Ar 2 eP F Hg Hj l) {r : Bool} (hr : EC walks Af Ae start Ab l = some r) :
    Bv Tryz.prog 7 #[.agg #[.slice Aj walks.length Ai, .slice Ak Af.length Al, .int .i64 Ae, .int .i64 start, .slice Ad Ab.length Ac], .slice Hg l.length Hj] F (.bool r) := by
 refine Nx (args := [.agg #[.slice Aj walks.length Ai, .slice Ak Af.length Al, .int .i64 Ae, .int .i64 start, .slice Ad Ab.length Ac], .slice Hg l.length Hj]) func7 rfl ntmps7 (B2 rfl) ?_
 intro K _ _; rw [EC] at hr
 refine AJ ?_
 refine Bx rfl rfl ?_; intro b1 me
 refine oa rfl rfl (Aa (Aq (AJ ?_)))
 refine ov (AZ (cs := #[.slice Aj walks.length Ai, .slice Ak Af.length Al, .int .i64 Ae, .int .i64 start, .slice Ad Ab.length Ac]) isAgg26 sizeOf26 rfl (Has.own 0 rfl) (B2 rfl) rfl) rfl ?_
 obtain ⟨ok, h2, r3⟩ := Av hr
 refine I0 rfl call15 rfl rfl rfl (DQ ab ad aa h2) ?_
 refine om rfl rfl ?_
 obtain ⟨g4, r5⟩ := AB r3
 refine BV (b := false) 18 rfl (LQ rfl g4) (om rfl rfl (BV (b := false) 18 rfl (LQ rfl g4) ?_))
 refine ov (AQ underlying30 rfl) rfl ?_
 refine BV (b := false) 18 rfl (LQ rfl g4) ?_
 refine ov (CQ rfl rfl) rfl ?_
 refine ov (AD (Gl rfl g4) rfl) rfl ?_
 refine Aa ?_
 obtain ⟨g7, r8⟩ := AB r5
 refine BP rfl (fun c9 => absurd c9 g7) (fun c9 => ?_)
 refine Ao (Aq ?_)
 refine Bg [(.pre, 6), (.pre, 7), (.still, 0), (.still, 2), (.still, 4), (.seq, 1), (.seq, 3), (.seq, 5), (.alloc (.cells (.agg #[.slice none 0 0, .slice none 0 0, .int .i64 0, .int .i64 0, .slice none 0 0] : Value).cells 26 (0, 0)) (fun b => .pointer (some ⟨b, 0, none⟩)) [], 6), (.alloc (.cells (.agg #[.slice none 0 0, .slice none 0 0, .int .i64 0, .int .i64 0, .slice none 0 0] : Value).cells 50 (0, 0)) (fun b => .pointer (some ⟨b, 0, none⟩)) [], 7), (.seq, 8), (.still, 9), (.seq, 10)] (by kernel_rfl) (by kernel_rfl) (⟨⟨_, _, rfl, rfl, rfl, rfl, rfl, EI zeroValue26⟩, ⟨⟨_, _, rfl, rfl, rfl, rfl, rfl, EI zeroValue50⟩, trivial⟩⟩) (by rfl) (by kernel_rfl) ?_
 refine ⟨⟨[], rfl, sn _, by kernel_rfl⟩, ?_⟩
 refine ⟨⟨[], rfl, sn _, by kernel_rfl⟩, ?_⟩
 refine FV (v := .agg #[.slice Aj walks.length Ai, .slice Ak Af.length Al, .int .i64 Ae, .int .i64 start, .slice Ad Ab.length Ac]) (ek := [(2, .pointer (some ⟨b1, 0, none⟩))]) (Ls := [(b1, ce #[.slice Aj walks.length Ai, .slice Ak Af.length Al, .int .i64 Ae, .int .i64 start, .slice Ad Ab.length Ac] 26)]) rfl rfl rfl rfl ((sc rfl (sn _))) (by kernel_rfl) (s0 sr) (fun H F' L' bn bo => AZ (cs := #[.slice Aj walks.length Ai, .slice Ak Af.length Al, .int .i64 Ae, .int .i64 start, .slice Ad Ab.length Ac]) isAgg26 sizeOf26 rfl ((Has.own 0 rfl).ext bn bo) (B2 rfl) rfl) ?_
 refine FV (v := .slice Hg l.length Hj) (ek := [(1, .slice Hg l.length Hj)]) (Ls := []) rfl rfl rfl rfl ((sc rfl (sn _))) (by kernel_rfl) sm (fun H F' L' bn bo => AO rfl) ?_
 refine FV (v := .agg #[.slice Aj walks.length Ai, .slice Ak Af.length Al, .int .i64 Ae, .int .i64 start, .slice Ad Ab.length Ac]) (ek := [(2, .pointer (some ⟨b1, 0, none⟩))]) (Ls := [(b1, ce #[.slice Aj walks.length Ai, .slice Ak Af.length Al, .int .i64 Ae, .int .i64 start, .slice Ad Ab.length Ac] 26)]) rfl rfl rfl rfl ((sc rfl (sn _))) (by kernel_rfl) (s0 sr) (fun H F' L' bn bo => AZ (cs := #[.slice Aj walks.length Ai, .slice Ak Af.length Al, .int .i64 Ae, .int .i64 start, .slice Ad Ab.length Ac]) isAgg26 sizeOf26 rfl ((Has.own 0 rfl).ext bn bo) (B2 rfl) rfl) ?_
 refine ⟨_, [(24, .agg #[.slice Aj walks.length Ai, .slice Ak Af.length Al, .int .i64 Ae, .int .i64 start, .slice Ad Ab.length Ac])], rfl, rfl, (sc rfl (sn _)), by kernel_rfl, ?_⟩; intro H
 obtain ⟨l2, l3, n, n2, l4, jn, jo⟩ := Fx r8
 refine c0 call16 (DX ab ad aa jn) ?_; rintro _ mg _ ef fe ⟨dm, eu, dp, da, dq, ew, dr, db, dt, ey, du, dd, rfl, rfl, bb, ay, ao⟩
 replace ab := ab.mono (AT (Be _)) ef
 replace ad := ad.mono (AT (Be _)) ef
 replace aa := aa.m3 ef
 replace ak := ak.m4 ef
 replace bb := bb.new fun p hp => fe p (by simp [hp])
 replace ay := ay.new fun p hp => fe p (by simp [hp])
 replace ao := ao.new fun p hp => fe p (by simp [hp])
 refine Aw (lp (lp (lp (ln rfl)))) ?_
 refine kO (kf (fS (fS (fS fO))) kr) ?_
 refine Aa ⟨_, rfl, ef, [4, 2], by kernel_rfl, .inl (.inr (fun d h => by cases h; rfl)), (fc (s0 (s2 (s3 (s3 (s3 sr))))) (fc sm nm)), ?_⟩
 refine ⟨_, [(26, .slice Hg l.length Hj)], rfl, rfl, (sc rfl (sn _)), by kernel_rfl, ?_⟩; intro H
 obtain ⟨l5, jq, jr⟩ := Av jo
 refine c0 call29 (Mf ak jq) ?_; rintro _ mh _ cu fx ⟨ji, jj, jk, de, rfl, rfl, aq⟩
 replace ab := ab.mono (AT (Be _)) cu
 replace ad := ad.mono (AT (Be _)) cu
 replace aa := aa.m3 cu
 replace ak := ak.m4 cu
 replace bb := bb.mono (AT (Be _)) cu
 replace ay := ay.mono (AT (Be _)) cu
 replace ao := ao.m3 cu
 replace aq := aq.new fun p hp => fx p (by simp [hp])
 refine Aw (lp (ln rfl)) ?_
 refine kO (kf (fS fO) kr) ?_
 refine Aa ⟨_, rfl, cu, [4], by kernel_rfl, .inl (.inr (fun d h => by cases h; rfl)), (fc (s0 (s2 (s3 (s3 (s3 (s3 sr)))))) nm), ?_⟩
 refine ⟨_, [(28, .agg #[.slice Aj walks.length Ai, .slice Ak Af.length Al, .int .i64 Ae, .int .i64 start, .slice Ad Ab.length Ac])], rfl, rfl, (sc rfl (sn _)), by kernel_rfl, ?_⟩; intro H
 obtain ⟨l6, l7, n3, n4, l8, js, jt⟩ := Fx jr
 refine c0 call17 (CP ab ad aa js) ?_; rintro _ mj _ cr fy ⟨bx, bz, cb, cc, cf, dy, cg, df, rfl, rfl, bk, bl, ai⟩
 replace ab := ab.mono (AT (Be _)) cr
 replace ad := ad.mono (AT (Be _)) cr
 replace aa := aa.m3 cr
 replace ak := ak.m4 cr
 replace bb := bb.mono (AT (Be _)) cr
 replace ay := ay.mono (AT (Be _)) cr
 replace ao := ao.m3 cr
 replace aq := aq.m4 cr
 replace ai := ai.new fun p hp => fy p (by simp [hp])
 refine Aw (lp (ln rfl)) ?_
 refine kO (kf (fS fO) kr) ?_
 refine Aa ⟨_, rfl, cr, [], by kernel_rfl, .inl (.inl rfl), nm, ?_⟩
 refine FT rfl ?_; intro ec ju
 refine GI (L' := (ec, ce #[.slice none 0 0, .slice none 0 0, .int .i64 0, .int .i64 0, .slice none 0 0] 26) :: ((b1, ce #[.slice Aj walks.length Ai, .slice Ak Af.length Al, .int .i64 Ae, .int .i64 start, .slice Ad Ab.length Ac] 26) :: (df ++ (de ++ (da ++ (db ++ (dd ++ []))))))) rfl ?_
 refine FT rfl ?_; intro cv jv
 refine GI (L' := (cv, ce #[.slice none 0 0, .slice none 0 0, .int .i64 0, .int .i64 0, .slice none 0 0] 50) :: ((ec, ce #[.slice none 0 0, .slice none 0 0, .int .i64 0, .int .i64 0, .slice none 0 0] 26) :: ((b1, ce #[.slice Aj walks.length Ai, .slice Ak Af.length Al, .int .i64 Ae, .int .i64 start, .slice Ad Ab.length Ac] 26) :: (df ++ (de ++ (da ++ (db ++ (dd ++ [])))))))) rfl ?_
 refine ⟨_, [(5, .pointer (some ⟨ec, 0, none⟩)), (25, .agg #[.slice dm eu dp, .slice dq ew dr, .int .i64 n, .int .i64 n2, .slice dt ey du])], rfl, rfl, (sc rfl (sc rfl (sn _))), by kernel_rfl, ?_⟩; intro H
 refine A8 (i := 1) sizeOf26 rfl rfl rfl (by simp [Value.oneCell']) rfl (B2 rfl) ?_
 refine Aw (L' := (cv, ce #[.slice none 0 0, .slice none 0 0, .int .i64 0, .int .i64 0, .slice none 0 0] 50) :: ((ec, ce #[.slice dm eu dp, .slice dq ew dr, .int .i64 n, .int .i64 n2, .slice dt ey du] 26) :: ((b1, ce #[.slice Aj walks.length Ai, .slice Ak Af.length Al, .int .i64 Ae, .int .i64 start, .slice Ad Ab.length Ac] 26) :: (df ++ (de ++ (da ++ (db ++ (dd ++ [])))))))) rfl ?_
 refine Aa ⟨undef, rfl, AN.refl _, [], by kernel_rfl, .inl (.inl rfl), nm, ?_⟩
 refine FV (v := .slice ji jj jk) (ek := [(27, .slice ji jj jk)]) (Ls := []) rfl rfl rfl rfl ((sc rfl (sn _))) (by kernel_rfl) sm (fun H F' L' bn bo => BB rfl) ?_
 refine ⟨_, [(7, .pointer (some ⟨cv, 0, none⟩)), (29, .agg #[.slice bx l6.length bz, .slice cb l7.length cc, .int .i64 n3, .int .i64 n4, .slice cf dy cg])], rfl, rfl, (sc rfl (sc rfl (sn _))), by kernel_rfl, ?_⟩; intro H
 refine A8 (i := 0) sizeOf50 rfl rfl rfl (by simp [Value.oneCell']) rfl (B2 rfl) ?_
 refine Aw (L' := (cv, ce #[.slice bx l6.length bz, .slice cb l7.length cc, .int .i64 n3, .int .i64 n4, .slice cf dy cg] 50) :: ((ec, ce #[.slice dm eu dp, .slice dq ew dr, .int .i64 n, .int .i64 n2, .slice dt ey du] 26) :: ((b1, ce #[.slice Aj walks.length Ai, .slice Ak Af.length Al, .int .i64 Ae, .int .i64 start, .slice Ad Ab.length Ac] 26) :: (df ++ (de ++ (da ++ (db ++ (dd ++ [])))))))) rfl ?_
 refine Aa ⟨undef, rfl, AN.refl _, [], by kernel_rfl, .inl (.inl rfl), nm, ?_⟩
 refine Bo ?_
 refine AJ ?_
 refine ov (AZ (cs := #[.slice dm eu dp, .slice dq ew dr, .int .i64 n, .int .i64 n2, .slice dt ey du]) isAgg26 sizeOf26 rfl (Has.own 1 rfl) (B2 rfl) rfl) rfl ?_
 refine om rfl rfl ?_
 obtain ⟨l9, n5, jw, jx⟩ := BT jt
 refine BU (Lb := []) (Lt := da ++ (db ++ (dd ++ (de ++ [])))) (Lr := (cv, ce #[.slice bx l6.length bz, .slice cb l7.length cc, .int .i64 n3, .int .i64 n4, .slice cf dy cg] 50) :: ((ec, ce #[.slice dm eu dp, .slice dq ew dr, .int .i64 n, .int .i64 n2, .slice dt ey du] 26) :: ((b1, ce #[.slice Aj walks.length Ai, .slice Ak Af.length Al, .int .i64 Ae, .int .i64 start, .slice Ad Ab.length Ac] 26) :: (df ++ [])))) rfl call30 rfl rfl rfl (pT ((fC (fC (fC (fS (fS fP))))).trans (pA ((fC (fC (fC (fS (fS fP))))).trans (pA ((fC (fC (fC (fS (fS fP))))).trans (pA ((fC (fC (fC (fS fP)))).trans (pA pR)))))))) (ln (lp (lp (lp (lp (ln rfl))))))) (fun F2 h2 h3 => by rw [(AM.A6 bb).1]; rw [(AM.A6 ay).1]; rw [(AM.A6 ao).1]; rw [(AM.A6 aq).1]; exact Oy (bb.row (AT (Be _)) h2 (aL h3)) (ay.row (AT (Be _)) h2 (aL (aR h3))) (ao.row kN h2 (aL (aR (aR h3)))) (aq.row kP h2 (aL (aR (aR (aR h3))))) jw) (fun _ _ _ _ hq => by obtain ⟨jz, kb, kh, dg, rfl, rfl, cj⟩ := hq; exact ⟨_, _, _, _, rfl, rfl, cj.flat (fun _ _ h => h)⟩) ?_; rintro _ ml _ bw g0 ga ⟨jz, kb, kh, dg, rfl, rfl, cj⟩
 replace ab := ab.mono (AT (Be _)) bw
 replace ad := ad.mono (AT (Be _)) bw
 replace aa := aa.m3 bw
 replace ak := ak.m4 bw
 replace bk := bk.mono (AT (Be _)) bw
 replace bl := bl.mono (AT (Be _)) bw
 replace bb := bb.mono (AT (Be _)) bw
 replace ay := ay.mono (AT (Be _)) bw
 replace ao := ao.m3 bw
 replace aq := aq.m4 bw
 replace ai := ai.m3 bw
 have gb := HD (Lb' := []) (by rfl) g0 ga
 replace cj := cj.new fun p hp => gb p (by simp [hp])
 refine Aw (lp (ln (lp (lp (lp (lp (ln rfl))))))) ?_
 refine kO (kf (fS (fS (fS (fS (fS fO))))) (kf (fS (fS (fS (fS (fS fO))))) (kf (fS (fS (fS (fS (fS fO))))) kr))) ?_
 refine om rfl rfl (ox rfl rfl rfl (ox rfl rfl rfl (oa rfl rfl (oa rfl rfl (Aa (Aq ?_))))))
 refine Bg [(.still, 0), (.still, 1), (.seq, 2), (.seq, 3), (.still, 4), (.still, 5), (.still, 6), (.still, 7), (.still, 8)] (by kernel_rfl) (by kernel_rfl) (trivial) (by rfl) (by kernel_rfl) ?_
 refine FV (v := .agg #[.slice bx l6.length bz, .slice cb l7.length cc, .int .i64 n3, .int .i64 n4, .slice cf dy cg]) (ek := [(7, .pointer (some ⟨cv, 0, none⟩))]) (Ls := [(cv, ce #[.slice bx l6.length bz, .slice cb l7.length cc, .int .i64 n3, .int .i64 n4, .slice cf dy cg] 50)]) rfl rfl rfl rfl ((sc rfl (sn _))) (by kernel_rfl) (s0 (s2 (s1 (s1 (s3 (s3 (s3 (s3 (s3 (s3 sr)))))))))) (fun H F' L' bn bo => AZ (cs := #[.slice bx l6.length bz, .slice cb l7.length cc, .int .i64 n3, .int .i64 n4, .slice cf dy cg]) isAgg50 sizeOf50 rfl ((Has.own 0 rfl).ext bn bo) (B2 rfl) rfl) ?_
 refine FV (v := .slice Hg l.length Hj) (ek := [(1, .slice Hg l.length Hj)]) (Ls := []) rfl rfl rfl rfl ((sc rfl (sn _))) (by kernel_rfl) sm (fun H F' L' bn bo => AO rfl) ?_
 refine ⟨_, [(38, .slice Hg l.length Hj)], rfl, rfl, (sc rfl (sn _)), by kernel_rfl, ?_⟩; intro H
 obtain ⟨mn, kj, kl⟩ := Av jx
 refine c0 call32 (Fu ak kj) ?_; rintro _ mo _ bp gg ⟨km, ko, kt, dz, rfl, rfl, ep⟩
 replace ab := ab.mono (AT (Be _)) bp
 replace ad := ad.mono (AT (Be _)) bp
 replace aa := aa.m3 bp
 replace ak := ak.m4 bp
 replace bk := bk.mono (AT (Be _)) bp
 replace bl := bl.mono (AT (Be _)) bp
 replace bb := bb.mono (AT (Be _)) bp
 replace ay := ay.mono (AT (Be _)) bp
 replace ao := ao.m3 bp
 replace aq := aq.m4 bp
 replace ai := ai.m3 bp
 replace cj := cj.mono (Be _) bp
 replace ep := ep.new fun p hp => gg p (by simp [hp])
 refine Aw (lp (ln rfl)) ?_
 refine kO (kf (fS fO) (kf (fS fO) (kf (fS fO) kr))) ?_
 refine Aa ⟨_, rfl, bp, [0], by kernel_rfl, .inl (.inr (fun d h => by cases h; rfl)), (fc (s0 (s2 (s1 (s1 (s3 (s3 (s3 (s3 (s3 (s3 (s3 sr))))))))))) nm), ?_⟩
 refine ⟨_, [(37, .agg #[.slice bx l6.length bz, .slice cb l7.length cc, .int .i64 n3, .int .i64 n4, .slice cf dy cg]), (39, .slice km ko kt)], rfl, rfl, (sc rfl (sc rfl (sn _))), by kernel_rfl, ?_⟩; intro H
 obtain ⟨mq, n6, ku, kv⟩ := BT kl
 refine BU (Lb := []) (Lt := df ++ (dz ++ [])) (Lr := (cv, ce #[.slice bx l6.length bz, .slice cb l7.length cc, .int .i64 n3, .int .i64 n4, .slice cf dy cg] 50) :: ((ec, ce #[.slice dm eu dp, .slice dq ew dr, .int .i64 n, .int .i64 n2, .slice dt ey du] 26) :: ((b1, ce #[.slice Aj walks.length Ai, .slice Ak Af.length Al, .int .i64 Ae, .int .i64 start, .slice Ad Ab.length Ac] 26) :: (dg ++ (da ++ (db ++ (dd ++ (de ++ [])))))))) rfl call31 rfl rfl rfl (pT ((fC (fC (fC (fS (fS (fS (fS (fS (fS fP))))))))).trans (pA ((fC (fC (fC fP))).trans (pA pR)))) (ln (lp (lp (ln rfl))))) (fun F2 h2 h3 => by rw [(AM.A6 ai).1]; rw [(AM.A6 ep).1]; exact IT (bk.mono (AT (Be _)) h2) (bl.mono (AT (Be _)) h2) (ai.row kN h2 (aL h3)) (ep.row kP h2 (aL (aR h3))) ku) (fun _ _ _ _ hq => by obtain ⟨ez, cw, fa, eb, rfl, rfl, cn⟩ := hq; exact ⟨_, _, _, _, rfl, rfl, cn.flat (fun _ _ h => h)⟩) ?_; rintro _ mr _ bq gh gi ⟨ez, cw, fa, eb, rfl, rfl, cn⟩
 replace ab := ab.mono (AT (Be _)) bq
 replace ad := ad.mono (AT (Be _)) bq
 replace aa := aa.m3 bq
 replace ak := ak.m4 bq
 replace bk := bk.mono (AT (Be _)) bq
 replace bl := bl.mono (AT (Be _)) bq
 replace bb := bb.mono (AT (Be _)) bq
 replace ay := ay.mono (AT (Be _)) bq
 replace ao := ao.m3 bq
 replace aq := aq.m4 bq
 replace ai := ai.m3 bq
 replace cj := cj.mono (Be _) bq
 have fg := HD (Lb' := []) (by rfl) gh gi
 replace cn := cn.new fun p hp => fg p (by simp [hp])
 refine Aw (lp (ln (lp (lp (ln rfl))))) ?_
 refine kO (kf (fS (fS (fS fO))) (kf (fS (fS (fS fO))) (kf (fS (fS (fS fO))) kr))) ?_
 refine Aa ⟨_, rfl, bq, [], by kernel_rfl, .inl (.inl rfl), nm, ?_⟩
 refine FV (v := .tuple #[.slice ez cw fa, .int .i64 n6]) (ek := [(40, .tuple #[.slice ez cw fa, .int .i64 n6])]) (Ls := []) rfl rfl rfl rfl ((sc rfl (sn _))) (by kernel_rfl) sm (fun H F' L' bn bo => AO rfl) ?_
 refine FV (v := .slice ez cw fa) (ek := [(36, .tuple #[.slice ez cw fa, .int .i64 n6])]) (Ls := []) rfl rfl rfl rfl ((sc rfl (sn _))) (by kernel_rfl) sm (fun H F' L' bn bo => CF rfl rfl) ?_
 refine FV (v := .int .i64 n6) (ek := [(36, .tuple #[.slice ez cw fa, .int .i64 n6])]) (Ls := []) rfl rfl rfl rfl ((sc rfl (sn _))) (by kernel_rfl) sm (fun H F' L' bn bo => CF rfl rfl) ?_
 refine FV (v := .slice ez cw fa) (ek := [(41, .slice ez cw fa)]) (Ls := []) rfl rfl rfl rfl ((sc rfl (sn _))) (by kernel_rfl) sm (fun H F' L' bn bo => BB rfl) ?_
 refine FV (v := .int .i64 n6) (ek := [(42, .int .i64 n6)]) (Ls := []) rfl rfl rfl rfl ((sc rfl (sn _))) (by kernel_rfl) sm (fun H F' L' bn bo => BB rfl) ?_
 refine Bo ?_
 refine Aq (AJ (om rfl rfl (om rfl rfl ?_)))
 refine ov (Bt rfl rfl) rfl ?_
 refine om rfl rfl ?_
 obtain ⟨eg, gj⟩ := AB kv
 refine BV (b := false) 46 rfl (Env.C8 rfl eg) (om rfl rfl (BV (b := false) 46 rfl (Env.C8 rfl eg) (om rfl rfl (BV (b := false) 46 rfl (Env.C8 rfl eg) ?_))))
 obtain ⟨mu, gk, gl⟩ := Av gj
 refine Bn (Lt := dg ++ (eb ++ [])) (Lr := (cv, ce #[.slice bx l6.length bz, .slice cb l7.length cc, .int .i64 n3, .int .i64 n4, .slice cf dy cg] 50) :: ((ec, ce #[.slice dm eu dp, .slice dq ew dr, .int .i64 n, .int .i64 n2, .slice dt ey du] 26) :: ((b1, ce #[.slice Aj walks.length Ai, .slice Ak Af.length Al, .int .i64 Ae, .int .i64 start, .slice Ad Ab.length Ac] 26) :: (df ++ (dz ++ (da ++ (db ++ (dd ++ (de ++ []))))))))) rfl call33 rfl rfl rfl (pT ((fC (fC (fC (fS (fS (fS fP)))))).trans (pA ((fC (fC (fC fP))).trans (pA pR)))) (lp (lp (ln rfl)))) (fun F2 h2 h3 => by rw [(AM.A6 cj).1]; rw [(AM.A6 cn).1]; exact Fi (cj.row (Be _) h2 (aL h3)) (cn.row (Be _) h2 (aL (aR h3))) gk) ?_
 refine BV (b := false) 46 rfl (Env.C8 rfl eg) ?_
 refine ov (Bz rfl) rfl ?_
 refine ov (AD (AL rfl eg) rfl) rfl ?_
 refine Aa ?_
 obtain ⟨gm, gn⟩ := AB gl
 refine AR rfl (fun fh => absurd (gm.symm.trans fh) (by decide)) (fun fh => ?_)
 refine Ao (AJ ?_)
 refine ov (AZ (cs := #[.slice dm eu dp, .slice dq ew dr, .int .i64 n, .int .i64 n2, .slice dt ey du]) isAgg26 sizeOf26 rfl (Has.own 1 rfl) (B2 rfl) rfl) rfl ?_
 refine om rfl rfl ?_
 obtain rfl := (AM.A6 bb).1
 refine B6 (Nat.le_refl _) (AT (Be _)) (fC (fC (fC (fS (fS (fS (fS fP))))))) bb ?_; intro kz bc ae
 replace ab := ab.mono (AT (Be _)) bc
 replace ad := ad.mono (AT (Be _)) bc
 replace aa := aa.m3 bc
 replace ak := ak.m4 bc
 replace bk := bk.mono (AT (Be _)) bc
 replace bl := bl.mono (AT (Be _)) bc
 replace ay := ay.mono (AT (Be _)) bc
 replace ao := ao.m3 bc
 replace aq := aq.m4 bc
 replace ai := ai.m3 bc
 obtain rfl := (AM.A6 ay).1
 refine B6 (Nat.le_refl _) (AT (Be _)) (fC (fC (fC (fS (fS (fS (fS fP))))))) ay ?_; intro l0 bd ah
 replace ab := ab.mono (AT (Be _)) bd
 replace ad := ad.mono (AT (Be _)) bd
 replace aa := aa.m3 bd
 replace ak := ak.m4 bd
 replace bk := bk.mono (AT (Be _)) bd
 replace bl := bl.mono (AT (Be _)) bd
 replace ae := ae.mono (AT (Be _)) bd
 replace ao := ao.m3 bd
 replace aq := aq.m4 bd
 replace ai := ai.m3 bd
 obtain rfl := (AM.A6 ao).1
 refine B6 (Nat.le_refl _) kN (fC (fC (fC (fS (fS (fS (fS fP))))))) ao ?_; intro la bg aj
 replace ab := ab.mono (AT (Be _)) bg
 replace ad := ad.mono (AT (Be _)) bg
 replace aa := aa.m3 bg
 replace ak := ak.m4 bg
 replace bk := bk.mono (AT (Be _)) bg
 replace bl := bl.mono (AT (Be _)) bg
 replace ae := ae.mono (AT (Be _)) bg
 replace ah := ah.mono (AT (Be _)) bg
 replace aq := aq.m4 bg
 replace ai := ai.m3 bg
 obtain rfl := (AM.A6 aq).1
 refine B6 (Nat.le_refl _) kP (fC (fC (fC (fS (fS (fS (fS fP))))))) aq ?_; intro ld bh al
 replace ab := ab.mono (AT (Be _)) bh
 replace ad := ad.mono (AT (Be _)) bh
 replace aa := aa.m3 bh
 replace ak := ak.m4 bh
 replace bk := bk.mono (AT (Be _)) bh
 replace bl := bl.mono (AT (Be _)) bh
 replace ae := ae.mono (AT (Be _)) bh
 replace ah := ah.mono (AT (Be _)) bh
 replace aj := aj.m3 bh
 replace ai := ai.m3 bh
 obtain ⟨mv, n7, gp, gq⟩ := BT gn
 refine c0 call34 (L4 ae ah aj al gp) ?_; rintro _ lg _ az jl ⟨lh, lj, rfl, rfl, ct⟩
 replace ab := ab.mono (AT (Be _)) az
 replace ad := ad.mono (AT (Be _)) az
 replace aa := aa.m3 az
 replace ak := ak.m4 az
 replace bk := bk.mono (AT (Be _)) az
 replace bl := bl.mono (AT (Be _)) az
 replace ae := ae.mono (AT (Be _)) az
 replace ah := ah.mono (AT (Be _)) az
 replace aj := aj.m3 az
 replace al := al.m4 az
 replace ai := ai.m3 az
 refine Aw (ln rfl) ?_
 refine om rfl rfl (ox rfl rfl rfl (ox rfl rfl rfl (oa rfl rfl (oa rfl rfl (Aa (Aq ?_))))))
 refine Bg [(.still, 0), (.still, 1), (.seq, 2), (.seq, 3), (.still, 4), (.still, 5), (.still, 6), (.still, 7), (.seq, 8)] (by kernel_rfl) (by kernel_rfl) (trivial) (by rfl) (by kernel_rfl) ?_
 refine FV (v := .agg #[.slice bx l6.length bz, .slice cb l7.length cc, .int .i64 n3, .int .i64 n4, .slice cf dy cg]) (ek := [(7, .pointer (some ⟨cv, 0, none⟩))]) (Ls := [(cv, ce #[.slice bx l6.length bz, .slice cb l7.length cc, .int .i64 n3, .int .i64 n4, .slice cf dy cg] 50)]) rfl rfl rfl rfl ((sc rfl (sn _))) (by kernel_rfl) (s0 (s2 (s1 (s1 (s3 (s3 (s3 (s3 sr)))))))) (fun H F' L' bn bo => AZ (cs := #[.slice bx l6.length bz, .slice cb l7.length cc, .int .i64 n3, .int .i64 n4, .slice cf dy cg]) isAgg50 sizeOf50 rfl ((Has.own 0 rfl).ext bn bo) (B2 rfl) rfl) ?_
 refine FV (v := .slice Hg l.length Hj) (ek := [(1, .slice Hg l.length Hj)]) (Ls := []) rfl rfl rfl rfl ((sc rfl (sn _))) (by kernel_rfl) sm (fun H F' L' bn bo => AO rfl) ?_
 refine ⟨_, [(60, .slice Hg l.length Hj)], rfl, rfl, (sc rfl (sn _)), by kernel_rfl, ?_⟩; intro H
 obtain ⟨mw, gr, gu⟩ := Av gq
 refine c0 call32 (Fu ak gr) ?_; rintro _ lk _ ar fi ⟨gv, gw, gz, jm, rfl, rfl, cp⟩
 replace ab := ab.mono (AT (Be _)) ar
 replace ad := ad.mono (AT (Be _)) ar
 replace aa := aa.m3 ar
 replace ak := ak.m4 ar
 replace bk := bk.mono (AT (Be _)) ar
 replace bl := bl.mono (AT (Be _)) ar
 replace ae := ae.mono (AT (Be _)) ar
 replace ah := ah.mono (AT (Be _)) ar
 replace aj := aj.m3 ar
 replace al := al.m4 ar
 replace ct := ct.mono (AT (Be _)) ar
 replace ai := ai.m3 ar
 replace cp := cp.new fun p hp => fi p (by simp [hp])
 refine Aw (lp (ln rfl)) ?_
 refine kO (kf (fS fO) (kf (fS fO) (kf (fS fO) kr))) ?_
 refine Aa ⟨_, rfl, ar, [0], by kernel_rfl, .inl (.inr (fun d h => by cases h; rfl)), (fc (s0 (s2 (s1 (s1 (s3 (s3 (s3 (s3 (s3 sr))))))))) nm), ?_⟩
 refine ⟨_, [(59, .agg #[.slice bx l6.length bz, .slice cb l7.length cc, .int .i64 n3, .int .i64 n4, .slice cf dy cg]), (61, .slice gv gw gz)], rfl, rfl, (sc rfl (sc rfl (sn _))), by kernel_rfl, ?_⟩; intro H
 obtain rfl := (AM.A6 ai).1
 refine B6 (Nat.le_refl _) kN (fC (fC (fC (fS (fS fP))))) ai ?_; intro ll au ck
 replace ab := ab.mono (AT (Be _)) au
 replace ad := ad.mono (AT (Be _)) au
 replace aa := aa.m3 au
 replace ak := ak.m4 au
 replace bk := bk.mono (AT (Be _)) au
 replace bl := bl.mono (AT (Be _)) au
 replace ae := ae.mono (AT (Be _)) au
 replace ah := ah.mono (AT (Be _)) au
 replace aj := aj.m3 au
 replace al := al.m4 au
 replace ct := ct.mono (AT (Be _)) au
 replace cp := cp.m4 au
 obtain rfl := (AM.A6 cp).1
 refine B6 (Nat.le_refl _) kP (fC (fC (fC fP))) cp ?_; intro lq av ia
 replace ab := ab.mono (AT (Be _)) av
 replace ad := ad.mono (AT (Be _)) av
 replace aa := aa.m3 av
 replace ak := ak.m4 av
 replace bk := bk.mono (AT (Be _)) av
 replace bl := bl.mono (AT (Be _)) av
 replace ae := ae.mono (AT (Be _)) av
 replace ah := ah.mono (AT (Be _)) av
 replace aj := aj.m3 av
 replace al := al.m4 av
 replace ct := ct.mono (AT (Be _)) av
 replace ck := ck.m3 av
 obtain ⟨mx, n8, ib, ic⟩ := BT gu
 refine c0 call35 (J4 bk bl ck ia ib) ?_; rintro _ lr _ aw fj ⟨dh, di, dk, dv, rfl, rfl, dw⟩
 replace ab := ab.mono (AT (Be _)) aw
 replace ad := ad.mono (AT (Be _)) aw
 replace aa := aa.m3 aw
 replace ak := ak.m4 aw
 replace bk := bk.mono (AT (Be _)) aw
 replace bl := bl.mono (AT (Be _)) aw
 replace ae := ae.mono (AT (Be _)) aw
 replace ah := ah.mono (AT (Be _)) aw
 replace aj := aj.m3 aw
 replace al := al.m4 aw
 replace ct := ct.mono (AT (Be _)) aw
 replace ck := ck.m3 aw
 replace dw := dw.new fun p hp => fj p (by simp [hp])
 refine Aw (lp (ln rfl)) ?_
 refine kO (kf (fS fO) (kf (fS fO) (kf (fS fO) kr))) ?_
 refine Aa ⟨_, rfl, ((au.trans av).trans aw), [], by kernel_rfl, .inl (.inl rfl), nm, ?_⟩
 refine FV (v := .tuple #[.slice dh di dk, .int .i64 n8]) (ek := [(62, .tuple #[.slice dh di dk, .int .i64 n8])]) (Ls := []) rfl rfl rfl rfl ((sc rfl (sn _))) (by kernel_rfl) sm (fun H F' L' bn bo => AO rfl) ?_
 refine FV (v := .slice dh di dk) (ek := [(58, .tuple #[.slice dh di dk, .int .i64 n8])]) (Ls := []) rfl rfl rfl rfl ((sc rfl (sn _))) (by kernel_rfl) sm (fun H F' L' bn bo => CF rfl rfl) ?_
 refine FV (v := .int .i64 n8) (ek := [(58, .tuple #[.slice dh di dk, .int .i64 n8])]) (Ls := []) rfl rfl rfl rfl ((sc rfl (sn _))) (by kernel_rfl) sm (fun H F' L' bn bo => CF rfl rfl) ?_
 refine FV (v := .slice dh di dk) (ek := [(63, .slice dh di dk)]) (Ls := []) rfl rfl rfl rfl ((sc rfl (sn _))) (by kernel_rfl) sm (fun H F' L' bn bo => BB rfl) ?_
 refine ⟨_, [(64, .int .i64 n8)], rfl, rfl, (sc rfl (sn _)), by kernel_rfl, ?_⟩; intro H
 refine oa rfl rfl ?_
 refine Aa ⟨_, rfl, AN.refl _, [], by kernel_rfl, .inl (.inl rfl), nm, ?_⟩
 refine Bo ?_
 refine Aq (AJ (om rfl rfl (om rfl rfl ?_)))
 refine ov (Bt rfl rfl) rfl ?_
 refine om rfl rfl ?_
 obtain ⟨eh, ie⟩ := AB ic
 refine BV (b := false) 68 rfl (Env.C8 rfl eh) (om rfl rfl (BV (b := false) 68 rfl (Env.C8 rfl eh) (om rfl rfl (BV (b := false) 68 rfl (Env.C8 rfl eh) ?_))))
 obtain ⟨na, ig, ij⟩ := Av ie
 refine Bn (Lt := dv ++ []) (Lr := (cv, ce #[.slice bx l6.length bz, .slice cb l7.length cc, .int .i64 n3, .int .i64 n4, .slice cf l8.length cg] 50) :: ((ec, ce #[.slice dm l2.length dp, .slice dq l3.length dr, .int .i64 n, .int .i64 n2, .slice dt l4.length du] 26) :: ((b1, ce #[.slice Aj walks.length Ai, .slice Ak Af.length Al, .int .i64 Ae, .int .i64 start, .slice Ad Ab.length Ac] 26) :: (eb ++ (dz ++ (dg ++ [])))))) rfl call36 rfl rfl rfl (pT ((fC (fC (fC fP))).trans (pA pR)) (lp (ln rfl))) (fun F2 h2 h3 => by rw [(AM.A6 dw).1]; exact Gt (ct.mono (AT (Be _)) h2) (dw.row (AT (Be _)) h2 (aL h3)) ig) ?_
 refine BV (b := false) 68 rfl (Env.C8 rfl eh) ?_
 refine ov (Bz rfl) rfl ?_
 refine ov (AD (AL rfl eh) rfl) rfl ?_
 refine Aa ?_
 obtain ⟨ik, il⟩ := AB ij
 refine AR rfl (fun fk => absurd (ik.symm.trans fk) (by decide)) (fun fk => ?_)
 refine Ao (AJ ?_)
 refine ov (AZ (cs := #[.slice dm l2.length dp, .slice dq l3.length dr, .int .i64 n, .int .i64 n2, .slice dt l4.length du]) isAgg26 sizeOf26 rfl (Has.own 1 rfl) (B2 rfl) rfl) rfl ?_
 refine om rfl rfl ?_
 obtain ⟨nc, n9, im, iq⟩ := BT il
 refine c0 call37 (Ly ae ah aj al im) ?_; rintro _ lu _ ba fl ⟨lv, lx, ly, ei, rfl, rfl, br⟩
 replace ab := ab.mono (AT (Be _)) ba
 replace ad := ad.mono (AT (Be _)) ba
 replace aa := aa.m3 ba
 replace ak := ak.m4 ba
 replace bk := bk.mono (AT (Be _)) ba
 replace bl := bl.mono (AT (Be _)) ba
 replace ae := ae.mono (AT (Be _)) ba
 replace ah := ah.mono (AT (Be _)) ba
 replace aj := aj.m3 ba
 replace al := al.m4 ba
 replace ck := ck.m3 ba
 replace br := br.new fun p hp => fl p (by simp [hp])
 refine Aw (lp (ln rfl)) ?_
 refine kO (kf (fS fO) (kf (fS fO) (kf (fS fO) kr))) ?_
 refine om rfl rfl (ox rfl rfl rfl (ox rfl rfl rfl (oa rfl rfl (oa rfl rfl (Aa (Aq ?_))))))
 refine Bg [(.still, 0), (.still, 1), (.seq, 2), (.seq, 3), (.still, 4), (.still, 5), (.still, 6), (.still, 7), (.seq, 8)] (by kernel_rfl) (by kernel_rfl) (trivial) (by rfl) (by kernel_rfl) ?_
 refine FV (v := .agg #[.slice bx l6.length bz, .slice cb l7.length cc, .int .i64 n3, .int .i64 n4, .slice cf l8.length cg]) (ek := [(7, .pointer (some ⟨cv, 0, none⟩))]) (Ls := [(cv, ce #[.slice bx l6.length bz, .slice cb l7.length cc, .int .i64 n3, .int .i64 n4, .slice cf l8.length cg] 50)]) rfl rfl rfl rfl ((sc rfl (sn _))) (by kernel_rfl) (s0 (s2 (s1 (s1 (s3 (s3 (s3 (s3 (s3 sr))))))))) (fun H F' L' bn bo => AZ (cs := #[.slice bx l6.length bz, .slice cb l7.length cc, .int .i64 n3, .int .i64 n4, .slice cf l8.length cg]) isAgg50 sizeOf50 rfl ((Has.own 0 rfl).ext bn bo) (B2 rfl) rfl) ?_
 refine FV (v := .slice Hg l.length Hj) (ek := [(1, .slice Hg l.length Hj)]) (Ls := []) rfl rfl rfl rfl ((sc rfl (sn _))) (by kernel_rfl) sm (fun H F' L' bn bo => AO rfl) ?_
 refine ⟨_, [(82, .slice Hg l.length Hj)], rfl, rfl, (sc rfl (sn _)), by kernel_rfl, ?_⟩; intro H
 obtain ⟨nf, ir, iu⟩ := Av iq
 refine c0 call32 (Fu ak ir) ?_; rintro _ ma _ ax fm ⟨iv, iw, iy, ej, rfl, rfl, dx⟩
 replace ab := ab.mono (AT (Be _)) ax
 replace ad := ad.mono (AT (Be _)) ax
 replace aa := aa.m3 ax
 replace ak := ak.m4 ax
 replace bk := bk.mono (AT (Be _)) ax
 replace bl := bl.mono (AT (Be _)) ax
 replace ae := ae.mono (AT (Be _)) ax
 replace ah := ah.mono (AT (Be _)) ax
 replace aj := aj.m3 ax
 replace al := al.m4 ax
 replace ck := ck.m3 ax
 replace br := br.m4 ax
 replace dx := dx.new fun p hp => fm p (by simp [hp])
 refine Aw (lp (ln rfl)) ?_
 refine kO (kf (fS fO) (kf (fS fO) (kf (fS fO) kr))) ?_
 refine Aa ⟨_, rfl, ax, [0], by kernel_rfl, .inl (.inr (fun d h => by cases h; rfl)), (fc (s0 (s2 (s1 (s1 (s3 (s3 (s3 (s3 (s3 (s3 sr)))))))))) nm), ?_⟩
 refine ⟨_, [(81, .agg #[.slice bx l6.length bz, .slice cb l7.length cc, .int .i64 n3, .int .i64 n4, .slice cf l8.length cg]), (83, .slice iv iw iy)], rfl, rfl, (sc rfl (sc rfl (sn _))), by kernel_rfl, ?_⟩; intro H
 obtain ⟨ng, ff, iz, j0⟩ := BT iu
 refine BU (Lb := []) (Lt := ej ++ []) (Lr := (cv, ce #[.slice bx l6.length bz, .slice cb l7.length cc, .int .i64 n3, .int .i64 n4, .slice cf l8.length cg] 50) :: ((ec, ce #[.slice dm l2.length dp, .slice dq l3.length dr, .int .i64 n, .int .i64 n2, .slice dt l4.length du] 26) :: ((b1, ce #[.slice Aj walks.length Ai, .slice Ak Af.length Al, .int .i64 Ae, .int .i64 start, .slice Ad Ab.length Ac] 26) :: (ei ++ (dv ++ (eb ++ (dz ++ (dg ++ [])))))))) rfl call38 rfl rfl rfl (pT ((fC (fC (fC fP))).trans (pA pR)) (ln (lp (ln rfl)))) (fun F2 h2 h3 => by rw [(AM.A6 dx).1]; exact JD (bk.mono (AT (Be _)) h2) (bl.mono (AT (Be _)) h2) (ck.mono kN h2) (dx.row kP h2 (aL h3)) iz) (fun _ _ _ _ hq => by obtain ⟨cx, cy, cz, en, rfl, rfl, bu⟩ := hq; exact ⟨_, _, _, _, rfl, rfl, bu.flat (fun _ _ h => h)⟩) ?_; rintro _ mb _ bj fo fp ⟨cx, cy, cz, en, rfl, rfl, bu⟩
 replace ab := ab.mono (AT (Be _)) bj
 replace ad := ad.mono (AT (Be _)) bj
 replace aa := aa.m3 bj
 replace ak := ak.m4 bj
 replace ae := ae.mono (AT (Be _)) bj
 replace ah := ah.mono (AT (Be _)) bj
 replace aj := aj.m3 bj
 replace al := al.m4 bj
 replace br := br.m4 bj
 have fq := HD (Lb' := []) (by rfl) fo fp
 replace bu := bu.new fun p hp => fq p (by simp [hp])
 refine Aw (lp (ln (lp (ln rfl)))) ?_
 refine kO (kf (fS (fS fO)) (kf (fS (fS fO)) (kf (fS (fS fO)) kr))) ?_
 refine Aa ⟨_, rfl, bj, [], by kernel_rfl, .inl (.inl rfl), nm, ?_⟩
 refine FV (v := .tuple #[.slice cx cy cz, .int .i64 ff]) (ek := [(84, .tuple #[.slice cx cy cz, .int .i64 ff])]) (Ls := []) rfl rfl rfl rfl ((sc rfl (sn _))) (by kernel_rfl) sm (fun H F' L' bn bo => AO rfl) ?_
 refine FV (v := .slice cx cy cz) (ek := [(80, .tuple #[.slice cx cy cz, .int .i64 ff])]) (Ls := []) rfl rfl rfl rfl ((sc rfl (sn _))) (by kernel_rfl) sm (fun H F' L' bn bo => CF rfl rfl) ?_
 refine FV (v := .int .i64 ff) (ek := [(80, .tuple #[.slice cx cy cz, .int .i64 ff])]) (Ls := []) rfl rfl rfl rfl ((sc rfl (sn _))) (by kernel_rfl) sm (fun H F' L' bn bo => CF rfl rfl) ?_
 refine FV (v := .slice cx cy cz) (ek := [(85, .slice cx cy cz)]) (Ls := []) rfl rfl rfl rfl ((sc rfl (sn _))) (by kernel_rfl) sm (fun H F' L' bn bo => BB rfl) ?_
 refine ⟨_, [(86, .int .i64 ff)], rfl, rfl, (sc rfl (sn _)), by kernel_rfl, ?_⟩; intro H
 refine oa rfl rfl ?_
 refine Aa ⟨_, rfl, AN.refl _, [], by kernel_rfl, .inl (.inl rfl), nm, ?_⟩
 refine Bo ?_
 refine AJ (om rfl rfl (om rfl rfl ?_))
 refine ov (BO rfl rfl) rfl ?_
 refine om rfl rfl ?_
 obtain ⟨eo, j1⟩ := AB j0
 refine BV (b := true) 90 rfl (Env.CY rfl eo) (om rfl rfl (BV (b := true) 90 rfl (Env.CY rfl eo) ?_))
 obtain ⟨nh, j2, j3⟩ := Av j1
 refine BU (Lb := []) (Lt := ei ++ []) (Lr := (cv, ce #[.slice bx l6.length bz, .slice cb l7.length cc, .int .i64 n3, .int .i64 n4, .slice cf l8.length cg] 50) :: ((ec, ce #[.slice dm l2.length dp, .slice dq l3.length dr, .int .i64 n, .int .i64 n2, .slice dt l4.length du] 26) :: ((b1, ce #[.slice Aj walks.length Ai, .slice Ak Af.length Al, .int .i64 Ae, .int .i64 start, .slice Ad Ab.length Ac] 26) :: (en ++ (ej ++ (dv ++ (eb ++ (dz ++ (dg ++ []))))))))) rfl call21 rfl rfl rfl (pT ((fC (fC (fC (fS (fS fP))))).trans (pA pR)) (ln (lp (ln rfl)))) (fun F2 h2 h3 => by rw [(AM.A6 br).1]; exact CJ (br.row kP h2 (aL h3)) j2) (fun _ _ _ _ hq => by obtain ⟨j4, j5, j6, fb, rfl, rfl, cq⟩ := hq; exact ⟨_, _, _, _, rfl, rfl, cq.flat (fun _ _ h => h)⟩) ?_; rintro _ mc _ bm fs ft ⟨j4, j5, j6, fb, rfl, rfl, cq⟩
 replace ab := ab.mono (AT (Be _)) bm
 replace ad := ad.mono (AT (Be _)) bm
 replace aa := aa.m3 bm
 replace ak := ak.m4 bm
 replace ae := ae.mono (AT (Be _)) bm
 replace ah := ah.mono (AT (Be _)) bm
 replace aj := aj.m3 bm
 replace al := al.m4 bm
 replace bu := bu.m4 bm
 have fv := HD (Lb' := []) (by rfl) fs ft
 replace cq := cq.new fun p hp => fv p (by simp [hp])
 refine Aw (lp (ln (lp (ln rfl)))) ?_
 refine kO (kf (fS (fS fO)) (kf (fS (fS fO)) (kf (fS (fS fO)) kr))) ?_
 refine BV (b := true) 90 rfl (Env.CY rfl eo) (om rfl rfl (BV (b := true) 90 rfl (Env.CY rfl eo) ?_))
 obtain ⟨ni, j7, j8⟩ := Av j3
 refine Bn (Lt := fb ++ (en ++ [])) (Lr := (cv, ce #[.slice bx l6.length bz, .slice cb l7.length cc, .int .i64 n3, .int .i64 n4, .slice cf l8.length cg] 50) :: ((ec, ce #[.slice dm l2.length dp, .slice dq l3.length dr, .int .i64 n, .int .i64 n2, .slice dt l4.length du] 26) :: ((b1, ce #[.slice Aj walks.length Ai, .slice Ak Af.length Al, .int .i64 Ae, .int .i64 start, .slice Ad Ab.length Ac] 26) :: (ei ++ (ej ++ (dv ++ (eb ++ (dz ++ (dg ++ []))))))))) rfl call20 rfl rfl rfl (pT ((fC (fC (fC fP))).trans (pA ((fC (fC (fC (fS fP)))).trans (pA pR)))) (lp (lp (ln rfl)))) (fun F2 h2 h3 => by rw [(AM.A6 cq).1]; rw [(AM.A6 bu).1]; exact CL (cq.row kP h2 (aL h3)) (bu.row kP h2 (aL (aR h3))) j7) ?_
 refine ov (AF (AX rfl eo) rfl) rfl ?_
 refine om rfl rfl ?_
 obtain ⟨er, j9⟩ := AB j8
 refine BV (b := true) 96 rfl (LQ rfl er) ?_
 refine ov (AZ (cs := #[.slice dm l2.length dp, .slice dq l3.length dr, .int .i64 n, .int .i64 n2, .slice dt l4.length du]) isAgg26 sizeOf26 rfl (Has.own 1 rfl) (B2 rfl) rfl) rfl ?_
 refine BV (b := true) 96 rfl (LQ rfl er) ?_
 refine ov (AZ (cs := #[.slice Aj walks.length Ai, .slice Ak Af.length Al, .int .i64 Ae, .int .i64 start, .slice Ad Ab.length Ac]) isAgg26 sizeOf26 rfl (Has.own 2 rfl) (B2 rfl) rfl) rfl ?_
 refine BV (b := true) 96 rfl (LQ rfl er) ?_
 obtain ⟨nj, ja, jb⟩ := Av j9
 refine I0 rfl call24 rfl rfl rfl (CX ae ah aj ab ad aa ja) ?_
 refine ov (AF (Gl rfl er) rfl) rfl ?_
 refine om rfl rfl ?_
 obtain ⟨et, jc⟩ := AB jb
 refine BV (b := true) 101 rfl (LQ rfl et) (om rfl rfl (BV (b := true) 101 rfl (LQ rfl et) (om rfl rfl (BV (b := true) 101 rfl (LQ rfl et) ?_))))
 obtain ⟨nk, jd, je⟩ := Av jc
 refine I0 rfl call39 rfl rfl rfl (Mi al ak jd) ?_
 refine ov (AF (Gl rfl et) rfl) rfl ?_
 refine om rfl rfl ?_
 obtain ⟨fw, jf⟩ := AB je
 refine BV (b := true) 106 rfl (LQ rfl fw) ?_
 obtain ⟨nn, jg, jh⟩ := Av jf
 refine I0 rfl call14 rfl rfl rfl (B0 jg) ?_
 refine ov (AF (Gl rfl fw) rfl) rfl ?_
 refine oa rfl rfl (Aa ?_)
 refine kW kn ?_
 refine AA ?_
 refine C3 results7 ?_
 obtain rfl := AP jh
 exact rfl
set_option maxHeartbeats 1000000 in
theorem OH (al : Ar 1 eJ F Aj Ai walks) (ao : Ar 1 eJ F Ak Al Af) (aa : Ar 3 eN F Ad Ac Ab) {r : List (Int × Int)} (hr : Mm walks Af Ae start Ab = some (r, r2)) :
    SH.Spec Tryz.prog 40 #[.agg #[sL Aj walks.length Ai, sL Ak Af.length Al, vI Ae, vI start, sL Ad Ab.length Ac]] F [] fun F' L' v => ∃ (ra : Option Addr) (rn : Nat) (rc : Nat) (rL : LH), v = .tuple #[sL ra rn rc, vI r2] ∧ L' = rL ++ [] ∧ AM 0 32 2 eP F' ra rn rc r rL := by
 refine sp func40 ntmps40 fun K _ _ => ?_
 rw [Mm] at hr
 refine AJ ?_
 refine Bx rfl rfl ?_; intro b1 fa
 refine ua (ua (BL ?_))
 refine uv (CA isAgg26 sizeOf26 0) ?_
 obtain ⟨d, n, h2, r3⟩ := BT hr
 refine c0 call72 (Cd al ao aa h2) ?_; rintro _ F4 _ db fb ⟨v8, rfl, rfl, dd⟩
 replace aa := aa.m3 db
 refine Aw (ln rfl) ?_
 refine um (ox rfl rfl rfl (ox rfl rfl rfl (ua (ua (Aa (Aq (AJ (um ?_))))))))
 refine uv (Bt rfl rfl) (Aa ?_)
 refine cQ (fun bk => ?_) fun bk => ?_
 ·have de := A5 r3 bk
  refine AJ (um (ua (ua (Aa ?_))))
  refine kW kn ?_
  refine AA (As ?_)
  refine BG results40 (AH rfl) (AH rfl) (sr) ?_
  obtain ⟨rfl, rfl⟩ := B9 de
  exact ⟨_, _, _, [], rfl, rfl, AM.nil _ _ _ _ _⟩
 have df := A4 r3 bk
 refine Ao (AJ (ua (Aa ?_)))
 obtain ⟨out, dg, cp⟩ := Av df
 refine AU (fun e1 F1 L1 => ∃ (bl : Option Addr) (bm : Nat) (bn : Nat) (av : LH), F4 = F1 ∧ L1 = (av ++ []) ∧ e1.sub [(6, sL bl bm bn)] ∧ AM K.w0.heap.size 32 2 eP F1 bl bm bn out av) ?_ ?_
 ·clear cp
  refine AJ (um ?_)
  obtain ⟨Ax, ae, ad, ah, ab, ai, AE, BH, dh, di⟩ := J3 dg
  have cq := dd; rw [dh] at cq; obtain ⟨cr, fe, dk, bo, aq, ⟨_, _, rfl, ⟨dm, dp, rfl, dq⟩, ⟨_, _, rfl, ⟨dr, dt, rfl, du⟩, ⟨_, _, rfl, rfl, ⟨_, _, rfl, rfl, ⟨_, _, rfl, ⟨dv, dw, rfl, dx⟩, ⟨_, _, rfl, ⟨rfl, ct⟩, ⟨_, _, rfl, ⟨cu, cv, rfl, bh⟩, ⟨rfl, dy⟩⟩⟩⟩⟩⟩⟩⟩⟩ := cq; subst bo
  have aq : F4 cr = some (.cells ((([sL dm Ax.length dp] : List Value) ++ (([sL dr ae.length dt] : List Value) ++ (([vI ad] : List Value) ++ (([vI ah] : List Value) ++ (([sL dv ab.length dw] : List Value) ++ (ai.flatMap (cI .i64) ++ (([sL cu AE.length cv] : List Value) ++ (BH.flatMap (cI .i64))))))))).toArray) 122 dk) := aq
  refine uv (A9 rfl) (uv (Ah GB rfl) (uv (AG isAgg41 rfl (Has.frozen aq) (DN (Au (k := 1) (o := 29) rfl (Au (k := 1) (o := 28) rfl (Au (k := 1) (o := 27) rfl (Au (k := 1) (o := 26) rfl (Au (k := 1) (o := 25) rfl (Au (k := 25) (o := 0) (IG (Bj .i64) ct) (BJ rfl))))))))) (uv (AQ underlying41 rfl) ?_)))
  refine um (Aa ?_)
  refine Ap ?_
  refine Bb (fun cw e1 F1 L1 => LA AE cw fun tl k => ∃ (aj : List (Int × Int)) (ax : Option Addr) (ay : Nat) (az : Nat) (ak : LH), GK Ab Ax ae ad ah ab ai AE BH tl aj = some out ∧ F4 = F1 ∧ L1 = ((b1, ce #[sL Aj walks.length Ai, sL Ak Af.length Al, vI Ae, vI start, sL Ad Ab.length Ac] 26) :: (ak ++ [])) ∧ e1.sub [(1, pO b1), (4, pO cr), (6, sL ax ay az), (20, sL cu AE.length cv), (21, vI (AE.length : Int)), (22, vI k)] ∧ AM K.w0.heap.size 32 2 eP F1 ax ay az aj ak) _ (m0 (kc (ke kr)) ⟨_, _, rfl, Bl.start _, [], none, 0, 0, [], di, rfl, rfl, z6, AM.nil _ _ _ _ _⟩) ?_
  rintro cw e1 _ _ ⟨tl, k, ba, ar, aj, ax, ay, az, ak, bj, rfl, rfl, bp, aw⟩
  refine Az _ bp (AJ (uv (AV rfl rfl) ?_))
  refine Aa (Aq ?_)
  refine cQ (fun bb => ?_) fun bb => ?_
  ·obtain ⟨x, ff, rfl, bq, cx, bc⟩ := Bl.succ ar bb
   rw [GK] at bj
   refine Ao (Aq ?_)
   refine Ap (AJ ?_)
   obtain ⟨fg, fh, fi, dz, br, bu, au, ⟨_, _, rfl, rfl, rfl⟩, bw, bx⟩ := Ar.ta kP bh cx.1 bq
   refine uv (Cx underlying41 sizeOf32 br cx) (uv (AZ isAgg32 sizeOf32 rfl (bu _) au (Ba au bw bx)) ?_)
   refine Bh rfl zeroValue32 ?_; intro fj eb
   refine A8 (i := 0) sizeOf32 rfl rfl rfl (by simp [Value.oneCell']) rfl (B2 rfl) (Aw rfl (dN (wm (wv (CA isAgg32 sizeOf32 0) ?_))))
   obtain ⟨n2, ec, ef⟩ := Av bj
   refine ES rfl call86 rfl rfl rfl (Jm aq dq du dx ct bh dy ec) (wv (Ah BF rfl) (wv (BM isAgg24 1) (wv (Ah LG rfl) (wv (BM isAgg3 0) ?_))))
   obtain ⟨x2, cy, bz, eg⟩ := Bi ef
   obtain ⟨fk, fl, fm, eh, cb, cc, cz, ⟨_, _, rfl, ⟨fo, fp, rfl, fq⟩, ⟨_, _, rfl, rfl, rfl⟩⟩, ei, cf⟩ := Ar.ta kN aa cy.1 bz
   refine wv (Cx underlying24 sizeOf35 cb cy) (wv (Ah Ic rfl) (wv (AG isAgg3 rfl (cc _) (cf 2 (by decide))) ?_))
   obtain ⟨ok, ej, da⟩ := Av eg
   refine ES rfl call77 rfl rfl rfl (Ed ej) (wv (Bz rfl) (B1 ?_))
   refine AR rfl (fun cg => ?_) (fun cg => ?_)
   ·have en := bt da cg
    refine An (um ?_)
    refine uv (CA isAgg32 sizeOf32 0) ?_
    refine bA (cs := #[vI x.1, vI x.2]) HR [.agg #[vI x.1, vI x.2]] ?_; intro fs eo
    obtain ⟨bd, ep, er, et⟩ := DS en
    refine Cq (xs := aj) (ys := [(x.1, x.2)]) (zs := bd) rfl HR rfl rfl (Nat.le_refl _) (fun _ => .c (.c (.c .h))) aw (Fg.box (vss := [[vI x.1, vI x.2]]) (ys := [(x.1, x.2)]) 0 rfl kP (.cons ⟨_, _, rfl, rfl, rfl⟩ .nil) rfl rfl) ep er (by decide) ?_; intro eu ew ey cj ck
    refine kO (kd kr) ?_
    refine ua (Aa (Ay (id := 1) (An ?_)))
    refine uv (A0 rfl rfl (Bl.Cs ar bb (Ar.lt bh))) ?_
    refine um (Aa ?_)
    subst ba; exact le (kd kr) ⟨_, _, rfl, bc, bd, eu, ew, ey, cj, et, rfl, rfl, z6, ck⟩
   have ez := bf da cg
   refine Ao (Ay (id := 1) (An ?_))
   refine uv (A0 rfl rfl (Bl.Cs ar bb (Ar.lt bh))) ?_
   refine um (Aa ?_)
   subst ba; exact le (kd kr) ⟨_, _, rfl, bc, aj, ax, ay, az, ak, ez, rfl, rfl, z6, aw⟩
  obtain rfl := Bl.zero ar bb
  rw [GK] at bj
  refine AI (Am (Am ?_))
  refine At ?_
  obtain rfl := AP bj
  exact mi (kd kr) ⟨ax, ay, az, ak, rfl, rfl, z1, aw⟩
 rintro e1 _ _ ⟨bl, bm, bn, av, rfl, rfl, bg, cn⟩
 refine Az _ bg ?_
 refine AJ (um (ua (ua (Aa (AA ?_)))))
 refine BG results40 (AH rfl) (AH rfl) (sr) ?_
 obtain ⟨rfl, rfl⟩ := B9 cp
 exact ⟨_, _, _, _, rfl, rfl, cn.any⟩
set_option maxHeartbeats 1000000 in
theorem Jn (aj : Ar 1 eJ F Aj Ai walks) (aa : Ar 1 eJ F Ak Al Af) (ab : Ar 3 eN F Ad Ac Ab) {r : Int} (hr : GV walks Af Ae start Ab AW B7 = some r) :
    Bv Tryz.prog 44 #[.agg #[sL Aj walks.length Ai, sL Ak Af.length Al, vI Ae, vI start, sL Ad Ab.length Ac], .agg #[vI AW, vI B7]] F (vI r) := by
 refine sp func44 ntmps44 fun K _ _ => ?_
 rw [GV] at hr
 refine AJ ?_
 refine Bx rfl rfl ?_; intro b1 dz
 refine Bx rfl rfl ?_; intro b2 eb
 refine ua (BL ?_)
 refine uv (CA isAgg50 sizeOf50 1) ?_
 obtain ⟨l, h3, r4⟩ := Av hr
 refine c0 call79 (G3 aj aa ab h3) ?_; rintro _ F5 _ bu ec ⟨a9, ar, rfl, rfl, cr⟩
 replace aa := aa.m2 bu
 replace ab := ab.m3 bu
 refine Aw (ln rfl) ?_
 refine ua (BL (ua (Aa ?_)))
 obtain ⟨out, ct, bw⟩ := Av r4
 refine jE ([]) [(6, vI out)] ?_ ?_
 ·clear bw
  refine AJ (ua (Aa ?_))
  refine Ap ?_
  refine Bb (fun bx e1 F1 L1 => LA Af bx fun tl s_ => ∃ (ae : Int), CS start Ab AW B7 l tl s_ ae = some out ∧ F5 = F1 ∧ L1 = [(b2, ce #[vI AW, vI B7] 56), (b1, ce #[sL Aj walks.length Ai, sL Ak Af.length Al, vI Ae, vI start, sL Ad Ab.length Ac] 50)] ∧ e1.sub [(2, pO b1), (3, pO b2), (5, sL a9 l.length ar), (6, vI ae), (7, vI s_)]) _ (m0 kr ⟨_, _, rfl, Bl.start _, -1, ct, rfl, rfl, z5⟩) ?_
  rintro bx e1 _ _ ⟨tl, s_, ak, ah, ae, aq, rfl, rfl, au⟩
  refine Az _ au ?_
  refine Aq (AJ (um ?_))
  refine uv (Ah Hn rfl) (uv (BM isAgg23 1) (uv (AQ underlying23 rfl) (uv (AV rfl rfl) (Aa ?_))))
  refine cQ (fun ao => ?_) fun ao => ?_
  ·obtain ⟨x, ef, rfl, av, bz, al⟩ := Bl.succ ah ao
   rw [CS] at aq
   refine Ao (Aq ?_)
   refine Ap ?_
   refine AJ (um ?_)
   refine uv (Ah MH rfl) (uv (BM isAgg3 1) ?_)
   obtain ⟨x2, cb, aw, cu⟩ := Bi aq
   obtain ⟨eg, eh, ei, cv, ax, ay, cc, ⟨ej, en, rfl, cw⟩, cx, az⟩ := Ar.ta kJ cr cb.1 aw
   refine uv (Cx underlying23 sizeOf22 ax cb) (uv (AG isAgg22 rfl (ay _) (az 0 (by decide))) (um ?_))
   obtain ⟨x3, cf, ba, cy⟩ := Bi cu
   obtain ⟨eo, ep, er, cz, bb, bc, cg, rfl, da, bd⟩ := Ar.ta kI cw cf.1 ba
   refine uv (Cx underlying22 sizeOf3 bb cf) (uv (AG isAgg3 rfl (bc _) (bd 0 (by decide))) ?_)
   refine ua (Aa (Aq ?_))
   obtain ⟨k, cj, bg⟩ := Av cy
   refine jE ([(b2, ce #[vI AW, vI B7] 56), (b1, ce #[sL Aj walks.length Ai, sL Ak Af.length Al, vI Ae, vI start, sL Ad Ab.length Ac] 50)]) [(2, pO b1), (3, pO b2), (5, sL a9 l.length ar), (6, vI ae), (7, vI s_), (8, vI x3), (38, .bool k)] ?_ ?_
   ·clear bg
    refine Ie (by kernel_rfl) (by kernel_rfl) (by kernel_rfl) (wm (wv (AV rfl rfl) (wm ?_)))
    by_cases ad : x3 < 0
    ·have db := A5 cj ad
     refine A1 (b' := true) 28 rfl (Env.CY rfl ad) rfl rfl (A1 (b' := true) 28 rfl (Env.CY rfl ad) rfl rfl (A1 (b' := true) 28 rfl (Env.CY rfl ad) rfl rfl (A1 (b' := true) 28 rfl (Env.CY rfl ad) rfl rfl (A1 (b' := true) 28 rfl (Env.CY rfl ad) rfl rfl (A1 (b' := true) 28 rfl (Env.CY rfl ad) rfl rfl (A1 (b' := true) 28 rfl (Env.CY rfl ad) rfl rfl (A1 (b' := true) 28 rfl (Env.CY rfl ad) rfl rfl (A1 (b' := true) 28 rfl (Env.CY rfl ad) rfl rfl ?_))))))))
     refine wv (AF (AX rfl ad) rfl) (B1 ?_)
     obtain rfl := AP db
     exact mi kr ⟨rfl, rfl, z7⟩
    have dd := A4 cj ad
    refine Bf (b := false) 28 rfl (Env.C8 rfl ad) (wv (Ah Hn rfl) (Bf (b := false) 28 rfl (Env.C8 rfl ad) (wv (BM isAgg23 1) ?_)))
    refine Bf (b := false) 28 rfl (Env.C8 rfl ad) (wm (Bf (b := false) 28 rfl (Env.C8 rfl ad) ?_))
    obtain ⟨et, eu, ew, de, bh, bj, ck, ⟨ey, ez, rfl, df⟩, dg, bk⟩ := Ar.ta kJ aa bz.1 av
    refine wv (Cx underlying23 sizeOf22 bh bz) (Bf (b := false) 28 rfl (Env.C8 rfl ad) (wv (AG isAgg22 rfl (bj _) (bk 0 (by decide))) (Bf (b := false) 28 rfl (Env.C8 rfl ad) (wv (Ah OI rfl) (Bf (b := false) 28 rfl (Env.C8 rfl ad) (wv (BM isAgg3 0) (Bf (b := false) 28 rfl (Env.C8 rfl ad) ?_)))))))
    obtain ⟨ok, dh, di⟩ := Av dd
    refine ES rfl call75 rfl rfl rfl (GJ df dh) (Bf (b := false) 28 rfl (Env.C8 rfl ad) (wv (Bz rfl) (wv (AD (AL rfl ad) rfl) (B1 ?_))))
    obtain rfl := AP di
    exact mi kr ⟨rfl, rfl, z7⟩
   refine AR rfl (fun bl => ?_) (fun bl => ?_)
   ·have dk := bt bg bl
    refine AI (Am ?_)
    refine At ?_
    refine An (um ?_)
    refine uv (A0 rfl rfl (Bl.Cs ah ao (Ar.lt aa))) ?_
    refine ua (Aa ?_)
    subst ak; exact le kr ⟨_, _, rfl, al, ae, dk, rfl, rfl, z5⟩
   have dm := bf bg bl
   refine Ao (AJ (um ?_))
   refine uv (Ah C9 rfl) (uv (BM isAgg48 1) (uv (Ah LJ rfl) (uv (BM isAgg3 0) ?_)))
   obtain ⟨x4, cn, bm, dp⟩ := Bi dm
   obtain ⟨fa, fb, fe, dq, bn, bo, cp, ⟨_, _, rfl, ⟨ff, fg, rfl, fh⟩, ⟨_, _, rfl, rfl, rfl⟩⟩, dr, bp⟩ := Ar.ta kN ab cn.1 bm
   refine uv (Cx underlying48 sizeOf110 bn cn) (uv (Ah MM rfl) (uv (AG isAgg3 rfl (bo _) (bp 1 (by decide))) ?_))
   obtain ⟨dt, du⟩ := AB dp
   refine uv (A0 rfl rfl dt) ?_
   refine ua (Aa ?_)
   obtain ⟨k2, cq, bq⟩ := Av du
   refine jE ([(b2, ce #[vI AW, vI B7] 56), (b1, ce #[sL Aj walks.length Ai, sL Ak Af.length Al, vI Ae, vI start, sL Ad Ab.length Ac] 50)]) [(2, pO b1), (3, pO b2), (5, sL a9 l.length ar), (6, vI ae), (7, vI s_), (8, vI (x3 + x4.2.1)), (54, .bool k2)] ?_ ?_
   ·clear bq
    refine An (um ?_)
    refine uv (AV rfl rfl) (um ?_)
    by_cases ai : ae < 0
    ·have dv := A5 cq ai
     refine fT ai (fT ai (fT ai ?_))
     refine uv (AF (AX rfl ai) rfl) (Aa ?_)
     obtain rfl := AP dv
     exact mi kr ⟨rfl, rfl, z7⟩
    have dw := A4 cq ai
    refine nF ai (um (nF ai (um (nF ai ?_))))
    refine uv (AV rfl rfl) (uv (AD (AL rfl ai) rfl) (Aa ?_))
    obtain rfl := AP dw
    exact mi kr ⟨rfl, rfl, z7⟩
   refine AR rfl (fun br => ?_) (fun br => ?_)
   ·have dx := bt bq br
    refine An (um (ua (Aa (Ay (id := 1) (An (um ?_))))))
    refine uv (A0 rfl rfl (Bl.Cs ah ao (Ar.lt aa))) ?_
    refine ua (Aa ?_)
    subst ak; exact le kr ⟨_, _, rfl, al, x3 + x4.2.1, dx, rfl, rfl, z5⟩
   have dy := bf bq br
   refine Ao (Ay (id := 1) (An (um ?_)))
   refine uv (A0 rfl rfl (Bl.Cs ah ao (Ar.lt aa))) ?_
   refine ua (Aa ?_)
   subst ak; exact le kr ⟨_, _, rfl, al, ae, dy, rfl, rfl, z5⟩
  obtain rfl := Bl.zero ah ao
  rw [CS] at aq
  refine AI (Am (Am ?_))
  refine At ?_
  obtain rfl := AP aq
  exact mi kn ⟨rfl, rfl, z1⟩
 refine AJ (um (ua (Aa (AA ?_))))
 refine C3 results44 ?_
 obtain rfl := AP bw
 exact rfl
set_option maxHeartbeats 1000000 in
theorem Kt (ad : Ar 1 eJ F Aj Ai walks) (ae : Ar 1 eJ F Ak Al Af) (aa : Ar 3 eN F Ad Ac Ab) {r : List (Int × Int)} (hr : Iu walks Af Ae start Ab = some r) :
    SH.Spec Tryz.prog 41 #[.agg #[sL Aj walks.length Ai, sL Ak Af.length Al, vI Ae, vI start, sL Ad Ab.length Ac]] F [] fun F' L' v => ∃ (ra : Option Addr) (rn : Nat) (rc : Nat) (rL : LH), v = sL ra rn rc ∧ L' = rL ++ [] ∧ AM 0 56 2 eP F' ra rn rc r rL := by
 refine sp func41 ntmps41 fun K _ _ => ?_
 rw [Iu] at hr
 refine AJ ?_
 refine Bx rfl rfl ?_; intro b1 eg
 refine ua (BL ?_)
 refine uv (CA isAgg50 sizeOf50 0) ?_
 obtain ⟨l, h2, r3⟩ := Av hr
 refine c0 call22 (Cg ad ae aa h2) ?_; rintro _ F4 _ bj dd ⟨a8, cv, c9, aj, rfl, rfl, ah⟩
 replace ad := ad.m2 bj
 replace ae := ae.m2 bj
 replace aa := aa.m3 bj
 replace ah := ah.new fun p hp => dd p (by simp [hp])
 refine Aw (lp (ln rfl)) (kO (kf (fS fO) kr) ?_)
 refine ua (BL (ua (Aa ?_)))
 obtain ⟨out, de, cw⟩ := Av r3
 refine AU (fun e1 F1 L1 => ∃ (bk : Option Addr) (bl : Nat) (bm : Nat) (ar : LH), F4 = F1 ∧ L1 = (ar ++ []) ∧ e1.sub [(4, sL bk bl bm)] ∧ AM K.w0.heap.size 56 2 eP F1 bk bl bm out ar) ?_ ?_
 ·clear cw
  refine AJ (ua (Aa ?_))
  refine Ap ?_
  refine Bb (fun cx e1 F1 L1 => LA l cx fun tl i => ∃ (ak : List (Int × Int)) (aw : Option Addr) (ax : Nat) (ay : Nat) (ai : LH), Ew walks Af Ae start Ab tl ak = some out ∧ F4 = F1 ∧ L1 = ((b1, ce #[sL Aj walks.length Ai, sL Ak Af.length Al, vI Ae, vI start, sL Ad Ab.length Ac] 50) :: (aj ++ (ai ++ []))) ∧ e1.sub [(1, pO b1), (3, sL a8 cv c9), (4, sL aw ax ay), (5, vI i)] ∧ AM K.w0.heap.size 56 2 eP F1 aw ax ay ak ai) _ (m0 (kc (ka (ke kr))) ⟨_, _, rfl, Bl.start _, [], none, 0, 0, [], de, rfl, rfl, z4, AM.nil _ _ _ _ _⟩) ?_
  rintro cx e1 _ _ ⟨tl, i, ba, al, ak, aw, ax, ay, ai, bh, rfl, rfl, bn, au⟩
  refine Az _ bn ?_
  refine Aq (AJ (um (um ?_)))
  refine uv ((AQ underlying57 rfl).i (AM.Gh ah)) (uv (AV rfl rfl) (Aa ?_))
  refine cQ (fun bb => ?_) fun bb => ?_
  ·obtain ⟨x, eh, rfl, av, az, bc⟩ := Bl.succ al bb
   rw [Ew] at bh
   refine Ao (Aq ?_)
   refine Ap (dW (wv (CA isAgg50 sizeOf50 0) ?_))
   refine wm (wm ?_)
   obtain ⟨ei, ej, en, df, bo, bp, ao, ⟨_, _, rfl, rfl, rfl⟩, bq, br⟩ := AM.at kP ah (L := (b1, ce #[sL Aj walks.length Ai, sL Ak Af.length Al, vI Ae, vI start, sL Ad Ab.length Ac] 50) :: (aj ++ (ai ++ []))) (fC fP) az.1 av
   refine wv (Cx underlying57 sizeOf56 bo (AM.idx ah az)) (wv (AZ isAgg56 sizeOf56 rfl bp ao (Ba ao bq br)) ?_)
   obtain ⟨n, dg, dh⟩ := Av bh
   refine ES rfl call44 rfl rfl rfl (Jn ad ae aa dg) ?_
   refine wa (B1 ?_)
   obtain ⟨k, cy, bu⟩ := Av dh
   refine jE (((b1, ce #[sL Aj walks.length Ai, sL Ak Af.length Al, vI Ae, vI start, sL Ad Ab.length Ac] 50) :: (aj ++ (ai ++ [])))) [(1, pO b1), (3, sL a8 cv c9), (4, sL aw ax ay), (5, vI i), (36, .bool k)] ?_ ?_
   ·clear bu
    refine Ie (by kernel_rfl) (by kernel_rfl) (by kernel_rfl) (wm (wv (AV rfl rfl) (wm ?_)))
    by_cases ab : n < 0
    ·have di := A5 cy ab
     refine A1 (b' := true) 23 rfl (Env.CY rfl ab) rfl rfl (A1 (b' := true) 23 rfl (Env.CY rfl ab) rfl rfl (A1 (b' := true) 23 rfl (Env.CY rfl ab) rfl rfl (A1 (b' := true) 23 rfl (Env.CY rfl ab) rfl rfl (A1 (b' := true) 23 rfl (Env.CY rfl ab) rfl rfl (A1 (b' := true) 23 rfl (Env.CY rfl ab) rfl rfl (A1 (b' := true) 23 rfl (Env.CY rfl ab) rfl rfl (A1 (b' := true) 23 rfl (Env.CY rfl ab) rfl rfl (A1 (b' := true) 23 rfl (Env.CY rfl ab) rfl rfl (A1 (b' := true) 23 rfl (Env.CY rfl ab) rfl rfl ?_)))))))))
     refine A1 (b' := true) 23 rfl (Env.CY rfl ab) rfl rfl (A1 (b' := true) 23 rfl (Env.CY rfl ab) rfl rfl ?_)
     refine wv (AF (AX rfl ab) rfl) (B1 ?_)
     obtain rfl := AP di
     exact mi kr ⟨rfl, rfl, z5⟩
    have dk := A4 cy ab
    refine Bf (b := false) 23 rfl (Env.C8 rfl ab) (wm (Bf (b := false) 23 rfl (Env.C8 rfl ab) ?_))
    refine wv (Ah C9 rfl) (Bf (b := false) 23 rfl (Env.C8 rfl ab) (wv (BM isAgg48 0) ?_))
    refine Bf (b := false) 23 rfl (Env.C8 rfl ab) (wm (Bf (b := false) 23 rfl (Env.C8 rfl ab) (wm (Bf (b := false) 23 rfl (Env.C8 rfl ab) ?_))))
    obtain ⟨eo, ep, er, dm, bw, bx, cz, ⟨_, _, rfl, rfl, rfl⟩, dp, bz⟩ := AM.at kP ah (L := (b1, ce #[sL Aj walks.length Ai, sL Ak Af.length Al, vI Ae, vI start, sL Ad Ab.length Ac] 50) :: (aj ++ (ai ++ []))) (fC fP) az.1 av
    refine wv (Cx underlying57 sizeOf56 bw (AM.idx ah az)) (Bf (b := false) 23 rfl (Env.C8 rfl ab) (wv (Ah LJ rfl) (Bf (b := false) 23 rfl (Env.C8 rfl ab) (wv (AG isAgg3 rfl bx (bz 0 (by decide))) (Bf (b := false) 23 rfl (Env.C8 rfl ab) ?_)))))
    obtain ⟨x2, da, cb, Cs⟩ := Bi dk
    obtain ⟨et, eu, ew, dq, cc, cf, db, ⟨_, _, rfl, ⟨ey, ez, rfl, fa⟩, ⟨_, _, rfl, rfl, rfl⟩⟩, dr, cg⟩ := Ar.ta kN aa da.1 cb
    refine wv (Cx underlying48 sizeOf110 cc da) (Bf (b := false) 23 rfl (Env.C8 rfl ab) (wv (Ah JF rfl) (Bf (b := false) 23 rfl (Env.C8 rfl ab) (wv (AG isAgg3 rfl (cf _) (cg 2 (by decide))) (Bf (b := false) 23 rfl (Env.C8 rfl ab) (wv (CQ rfl rfl) (wv (AD (AL rfl ab) rfl) ?_)))))))
    refine B1 ?_
    obtain rfl := AP Cs
    exact mi kr ⟨rfl, rfl, z5⟩
   refine AR rfl (fun cj => ?_) (fun cj => ?_)
   ·have dt := bt bu cj
    refine An (um (um (um ?_)))
    obtain ⟨fb, fe, ff, du, ck, cn, aq, ⟨_, _, rfl, rfl, rfl⟩, cp, cq⟩ := AM.at kP ah (L := (b1, ce #[sL Aj walks.length Ai, sL Ak Af.length Al, vI Ae, vI start, sL Ad Ab.length Ac] 50) :: (aj ++ (ai ++ []))) (fC fP) az.1 av
    refine uv (Cx underlying57 sizeOf56 ck (AM.idx ah az)) (uv (AZ isAgg56 sizeOf56 rfl cn aq (Ba aq cp cq)) ?_)
    refine bA (cs := #[vI x.1, vI x.2]) Iq [.agg #[vI x.1, vI x.2]] ?_; intro fg dv
    obtain ⟨bd, dw, dx, dy⟩ := DS dt
    refine Cq (xs := ak) (ys := [(x.1, x.2)]) (zs := bd) rfl Iq rfl rfl (Nat.le_refl _) (fun _ => .c (.c (.s .h))) au (Fg.box (vss := [[vI x.1, vI x.2]]) (ys := [(x.1, x.2)]) 0 rfl kP (.cons ⟨_, _, rfl, rfl, rfl⟩ .nil) rfl rfl) dw dx (by decide) ?_; intro dz eb ec cr ct
    refine kO (kd kr) ?_
    refine ua (Aa (Ay (id := 1) (An (um ?_))))
    refine uv (A0 rfl rfl (Bl.Cs al bb (AM.PI ah))) ?_
    refine ua (Aa ?_)
    subst ba; exact le kr ⟨_, _, rfl, bc, bd, dz, eb, ec, cr, dy, rfl, rfl, z4, ct⟩
   have ef := bf bu cj
   refine Ao (Ay (id := 1) (An (um ?_)))
   refine uv (A0 rfl rfl (Bl.Cs al bb (AM.PI ah))) ?_
   refine ua (Aa ?_)
   subst ba; exact le kr ⟨_, _, rfl, bc, ak, aw, ax, ay, ai, ef, rfl, rfl, z4, au⟩
  obtain rfl := Bl.zero al bb
  rw [Ew] at bh
  refine AI (Am (Am ?_))
  refine At ?_
  obtain rfl := AP bh
  exact mi (kd (kx kr)) ⟨aw, ax, ay, ai, rfl, rfl, z1, au⟩
 rintro e1 _ _ ⟨bk, bl, bm, ar, rfl, rfl, bg, cu⟩
 refine Az _ bg ?_
 refine AJ (um (ua (Aa (AA ?_))))
 refine C3 results41 ?_
 obtain rfl := AP cw
 exact ⟨_, _, _, _, rfl, rfl, cu.any⟩
set_option maxHeartbeats 1000000 in
theorem Lh (ad : Ar 1 eJ F Aj Ai walks) (ae : Ar 1 eJ F Ak Al Af) (aa : Ar 3 eN F Ad Ac Ab) {r : Bool} (hr : Jv walks Af Ae start Ab AW B7 = some r) :
    Bv Tryz.prog 43 #[.agg #[sL Aj walks.length Ai, sL Ak Af.length Al, vI Ae, vI start, sL Ad Ab.length Ac], .agg #[vI AW, vI B7]] F (.bool r) := by
 refine sp func43 ntmps43 fun K _ _ => ?_
 rw [Jv] at hr
 refine AJ ?_
 refine Bx rfl rfl ?_; intro b1 bn
 refine Bx rfl rfl ?_; intro b2 bo
 refine ua (BL ?_)
 refine uv (CA isAgg50 sizeOf50 1) ?_
 obtain ⟨l, h3, r4⟩ := Av hr
 refine c0 call22 (Cg ad ae aa h3) ?_; rintro _ F5 _ bp bg ⟨a9, bh, bj, aj, rfl, rfl, ab⟩
 replace ab := ab.new fun p hp => bg p (by simp [hp])
 refine Aw (lp (ln rfl)) (kO (kf (fS fO) (kf (fS fO) kr)) ?_)
 refine ua (Aa ?_)
 refine AU (fun e1 F1 L1 => Jc = some r ∧ F5 = F1 ∧ L1 = [] ∧ e1.sub []) ?_ ?_
 ·refine AJ (ua (Aa ?_))
  refine Ap (kW (kc (kd kr)) ?_)
  refine Bb (fun bb e1 F1 L1 => LA l bb fun tl i => GG AW B7 tl = some r ∧ F5 = F1 ∧ L1 = ((b2, ce #[vI AW, vI B7] 56) :: (aj ++ [])) ∧ e1.sub [(3, pO b2), (5, sL a9 bh bj), (6, vI i)]) _ (m0 kr ⟨_, _, rfl, Bl.start _, r4, rfl, rfl, z3⟩) ?_
  rintro bb e1 _ _ ⟨tl, i, ao, ai, ak, rfl, rfl, aq⟩
  refine Az _ aq ?_
  refine Aq (AJ (um (um ?_)))
  refine uv ((AQ underlying57 rfl).i (AM.Gh ab)) (uv (AV rfl rfl) (Aa ?_))
  refine cQ (fun al => ?_) fun al => ?_
  ·obtain ⟨x, bq, rfl, ar, bc, au⟩ := Bl.succ ai al
   rw [GG] at ak
   refine Ao (Aq ?_)
   refine Ap (dW ?_)
   refine wm (wm ?_)
   obtain ⟨br, bu, bw, bk, av, aw, ah, ⟨_, _, rfl, rfl, rfl⟩, ax, ay⟩ := AM.at kP ab (L := (b2, ce #[vI AW, vI B7] 56) :: (aj ++ [])) (fC fP) bc.1 ar
   refine wv (Cx underlying57 sizeOf56 av (AM.idx ab bc)) (wv (AZ isAgg56 sizeOf56 rfl aw ah (Ba ah ax ay)) (wv (CA isAgg56 sizeOf56 0) (wv (QJ (RU _ _ _ _) (RA _ _ _ _) rfl rfl) (B1 ?_))))
   refine cQ (fun az => ?_) fun az => ?_
   ·have bl := A5 ak az
    refine AJ (ua (Aa ?_))
    refine kW kn ?_
    refine AA (AK (As (As (AK (As ?_)))))
    refine C3 results43 ?_
    obtain rfl := AP bl
    exact rfl
   have bm := A4 ak az
   refine Ao (Ay (id := 1) (An (um ?_)))
   refine uv (A0 rfl rfl (Bl.Cs ai al (AM.PI ab))) ?_
   refine ua (Aa ?_)
   subst ao; exact le kr ⟨_, _, rfl, au, bm, rfl, rfl, z3⟩
  obtain rfl := Bl.zero ai al
  rw [GG] at ak
  refine AI (Am (Am ?_))
  refine At ?_
  exact mi kn ⟨ak, rfl, rfl, (sn _)⟩
 rintro e1 _ _ ⟨bd, rfl, rfl, ba⟩
 refine Az _ ba ?_
 rw [Jc] at bd
 refine AJ (ua (Aa (AA ?_)))
 refine C3 results43 ?_
 obtain rfl := AP bd
 exact rfl
set_option maxHeartbeats 1000000 in
theorem Gp (ab : Ar 1 eJ F Aj Ai walks) (ad : Ar 1 eJ F Ak Al Af) (aa : Ar 3 eN F Ad Ac Ab) {r : Bool} (hr : Ep walks Af Ae start Ab AW B7 = some r) :
    Bv Tryz.prog 8 #[.agg #[sL Aj walks.length Ai, sL Ak Af.length Al, vI Ae, vI start, sL Ad Ab.length Ac], .agg #[vI AW, vI B7]] F (.bool r) := by
 refine sp func8 ntmps8 fun K _ _ => ?_
 rw [Ep] at hr
 refine AJ ?_
 refine Bx rfl rfl ?_; intro b1 jb
 refine Bx rfl rfl ?_; intro b2 jc
 refine ua (Aa (Aq (AJ ?_)))
 refine uv (CA isAgg26 sizeOf26 1) ?_
 obtain ⟨ok, h3, r4⟩ := Av hr
 refine cV call15 (DQ ab ad aa h3) (Aa ?_)
 refine AR rfl (fun c5 => ?_) (fun c5 => ?_)
 ·have r6 := bt r4 c5
  refine AJ ?_
  obtain ⟨jd, h7, r8⟩ := Av r6
  refine cV call14 (B0 h7) ?_
  refine ua (Aa ?_)
  refine kW kn ?_
  refine AA (As ?_)
  refine C3 results8 ?_
  obtain rfl := AP r8
  exact rfl
 have r9 := bf r4 c5
 refine Ao (Aq ?_)
 refine Bg [(.pre, 4), (.pre, 5), (.still, 0), (.still, 2), (.seq, 1), (.seq, 3), (.alloc (.cells (.agg #[sL none 0 0, sL none 0 0, vI 0, vI 0, sL none 0 0] : Value).cells 26 (0, 0)) (fun b => pO b) [], 4), (.alloc (.cells (.agg #[sL none 0 0, sL none 0 0, vI 0, vI 0, sL none 0 0] : Value).cells 50 (0, 0)) (fun b => pO b) [], 5), (.seq, 6), (.seq, 7)] (by kernel_rfl) (by kernel_rfl) (⟨⟨_, _, rfl, rfl, rfl, rfl, rfl, EI zeroValue26⟩, ⟨⟨_, _, rfl, rfl, rfl, rfl, rfl, EI zeroValue50⟩, trivial⟩⟩) (by rfl) (by kernel_rfl) ?_
 refine ⟨⟨[], rfl, sn _, by kernel_rfl⟩, ?_⟩
 refine ⟨⟨[], rfl, sn _, by kernel_rfl⟩, ?_⟩
 refine mA [2] isAgg26 sizeOf26 1 rfl rfl rfl rfl (mA [2] isAgg26 sizeOf26 1 rfl rfl rfl rfl ?_)
 refine ⟨_, [(15, .agg #[sL Aj walks.length Ai, sL Ak Af.length Al, vI Ae, vI start, sL Ad Ab.length Ac])], rfl, rfl, z1, by kernel_rfl, ?_⟩; intro H
 obtain ⟨l, l2, n, n2, l3, il, im⟩ := Fx r9
 refine c0 call16 (DX ab ad aa il) ?_; rintro _ je _ bn ck ⟨eg, eh, ei, bo, ej, en, eo, bp, ep, er, et, bq, rfl, rfl, ai, aj, ak⟩
 replace ab := ab.m2 bn
 replace ad := ad.m2 bn
 replace aa := aa.m3 bn
 replace ai := ai.new fun p hp => ck p (by simp [hp])
 replace aj := aj.new fun p hp => ck p (by simp [hp])
 replace ak := ak.new fun p hp => ck p (by simp [hp])
 refine Aw (lp (lp (lp (ln rfl)))) (kO (kf (fS (fS (fS fO))) (kf (fS (fS (fS fO))) kr)) ?_)
 refine Aa ⟨_, rfl, bn, [2], by kernel_rfl, .inl (.inr (fun d h => by cases h; rfl)), (fc (s0 (s1 (s2 (s3 (s3 (s3 sr)))))) nm), ?_⟩
 refine ⟨_, [(17, .agg #[sL Aj walks.length Ai, sL Ak Af.length Al, vI Ae, vI start, sL Ad Ab.length Ac])], rfl, rfl, z1, by kernel_rfl, ?_⟩; intro H
 obtain ⟨l4, l5, n3, n4, l6, iq, ir⟩ := Fx im
 refine c0 call17 (CP ab ad aa iq) ?_; rintro _ jf _ bb eu ⟨bw, bx, bz, cb, cc, cf, cg, cn, rfl, rfl, bc, bd, ae⟩
 replace ab := ab.m2 bb
 replace ad := ad.m2 bb
 replace aa := aa.m3 bb
 replace ai := ai.m2 bb
 replace aj := aj.m2 bb
 replace ak := ak.m3 bb
 replace ae := ae.new fun p hp => eu p (by simp [hp])
 refine Aw (lp (ln rfl)) (kO (kf (fS fO) (kf (fS fO) kr)) ?_)
 refine Aa ⟨_, rfl, bb, [], by kernel_rfl, .inl (.inl rfl), nm, ?_⟩
 refine FT rfl ?_; intro cp iu
 refine GI (L' := (cp, ce #[sL none 0 0, sL none 0 0, vI 0, vI 0, sL none 0 0] 26) :: ((b2, ce #[vI AW, vI B7] 32) :: ((b1, ce #[sL Aj walks.length Ai, sL Ak Af.length Al, vI Ae, vI start, sL Ad Ab.length Ac] 26) :: (cn ++ (bo ++ (bp ++ (bq ++ []))))))) rfl ?_
 refine FT rfl ?_; intro cj iv
 refine GI (L' := (cj, ce #[sL none 0 0, sL none 0 0, vI 0, vI 0, sL none 0 0] 50) :: ((cp, ce #[sL none 0 0, sL none 0 0, vI 0, vI 0, sL none 0 0] 26) :: ((b2, ce #[vI AW, vI B7] 32) :: ((b1, ce #[sL Aj walks.length Ai, sL Ak Af.length Al, vI Ae, vI start, sL Ad Ab.length Ac] 26) :: (cn ++ (bo ++ (bp ++ (bq ++ [])))))))) rfl ?_
 refine ⟨_, [(5, pO cp), (16, .agg #[sL eg eh ei, sL ej en eo, vI n, vI n2, sL ep er et])], rfl, rfl, z2, by kernel_rfl, ?_⟩; intro H
 refine A8 (i := 1) sizeOf26 rfl rfl rfl (by simp [Value.oneCell']) rfl (B2 rfl) (Aw rfl ?_)
 refine Aa ⟨undef, rfl, AN.refl _, [], by kernel_rfl, .inl (.inl rfl), nm, ?_⟩
 refine ⟨_, [(6, pO cj), (18, .agg #[sL bw l4.length bx, sL bz l5.length cb, vI n3, vI n4, sL cc cf cg])], rfl, rfl, z2, by kernel_rfl, ?_⟩; intro H
 refine A8 (i := 0) sizeOf50 rfl rfl rfl (by simp [Value.oneCell']) rfl (B2 rfl) (Aw rfl ?_)
 refine Aa ⟨undef, rfl, AN.refl _, [], by kernel_rfl, .inl (.inl rfl), nm, ?_⟩
 refine Bo (AJ (uv (CA isAgg50 sizeOf50 0) ?_))
 obtain ⟨n5, iw, iy⟩ := Av ir
 refine Bn rfl call18 rfl rfl rfl (pT ((fC (fC (fC (fC fP)))).trans (pA pR)) (lp (ln rfl))) (fun F2 h2 h3 => by rw [(AM.A6 ae).1]; exact C1 (bc.mono kJ h2) (bd.mono kJ h2) (ae.row kN h2 (aL h3)) iw) ?_
 refine ua (BL ?_)
 refine uv (CA isAgg26 sizeOf26 1) ?_
 obtain ⟨l7, n6, iz, j0⟩ := BT iy
 refine BU rfl call40 rfl rfl rfl (pT ((fC (fC (fC (fC (fS fP))))).trans (pA ((fC (fC (fC (fC (fS fP))))).trans (pA ((fC (fC (fC (fC (fS fP))))).trans (pA pR)))))) (ln (lp (lp (lp (ln rfl)))))) (fun F2 h2 h3 => by rw [(AM.A6 ai).1]; rw [(AM.A6 aj).1]; rw [(AM.A6 ak).1]; exact OH (ai.row kJ h2 (aL h3)) (aj.row kJ h2 (aL (aR h3))) (ak.row kN h2 (aL (aR (aR h3)))) iz) (fun _ _ _ _ hq => by obtain ⟨bj, bk, bl, ew, rfl, rfl, aw⟩ := hq; exact ⟨_, _, _, _, rfl, rfl, aw.flat (fun _ _ h => h)⟩) ?_; rintro _ jg _ ax ey ez ⟨bj, bk, bl, ew, rfl, rfl, aw⟩
 replace ab := ab.m2 ax
 replace ad := ad.m2 ax
 replace aa := aa.m3 ax
 replace bc := bc.m2 ax
 replace bd := bd.m2 ax
 replace ai := ai.m2 ax
 replace aj := aj.m2 ax
 replace ak := ak.m3 ax
 replace ae := ae.m3 ax
 have fa := HD (Lb' := []) (by rfl) ey ez
 replace aw := aw.new fun p hp => fa p (by simp [hp])
 refine Aw (lp (ln (lp (lp (lp (ln rfl)))))) (kO (kf (fS (fS (fS (fS fO)))) (kf (fS (fS (fS (fS fO)))) (kf (fS (fS (fS (fS fO)))) (kf (fS (fS (fS (fS fO)))) kr)))) ?_)
 refine um (ox rfl rfl rfl (ox rfl rfl rfl (ua (ua (Aa (Aq ?_))))))
 obtain ⟨k, j1, gz⟩ := Av j0
 refine jF (((cj, ce #[sL bw l4.length bx, sL bz l5.length cb, vI n3, vI n4, sL cc cf cg] 50) :: ((cp, ce #[sL eg eh ei, sL ej en eo, vI n, vI n2, sL ep er et] 26) :: ((b2, ce #[vI AW, vI B7] 32) :: ((b1, ce #[sL Aj walks.length Ai, sL Ak Af.length Al, vI Ae, vI start, sL Ad Ab.length Ac] 26) :: (bo ++ (bp ++ (bq ++ (cn ++ []))))))))) [(2, pO b1), (3, pO b2), (5, pO cp), (6, pO cj), (7, vI n5), (49, .bool k)] ?_ fun j2 al => ?_
 ·clear gz
  refine Bg [(.still, 0), (.still, 1), (.still, 2), (.still, 3), (.still, 4), (.still, 5), (.still, 6), (.still, 7), (.still, 8), (.still, 9), (.still, 10), (.still, 11), (.still, 12), (.still, 13), (.still, 14), (.still, 15), (.still, 16), (.still, 18), (.seq, 17), (.seq, 19), (.seq, 20), (.still, 21), (.still, 22), (.still, 23)] (by kernel_rfl) (by kernel_rfl) (trivial) (by rfl) (by kernel_rfl) (mS [9] rfl (AO rfl) (mS [7] rfl (AO rfl) (mS (v := .bool (decide (n6 ≠ n5))) [26, 27] rfl (Bt rfl rfl) (mS [28] rfl (AO rfl) ?_))))
  obtain ⟨cq, ia⟩ := AB j1
  refine Bq 29 (v := vI n5) (ek := [(7, vI n5), (29, .bool (decide (n6 ≠ n5)))]) (Ls := []) rfl rfl (Env.C8 rfl cq) rfl rfl rfl (z2) (by kernel_rfl) sm (fun H F' L' aq ar => AO rfl) (Bq 29 (v := .bool (decide (n5 ≠ 0))) (ek := [(29, .bool (decide (n6 ≠ n5))), (30, vI n5)]) (Ls := []) rfl rfl (Env.C8 rfl cq) rfl rfl rfl (z2) (by kernel_rfl) sm (fun H F' L' aq ar => Bt rfl rfl) (Bq 29 (v := .bool (decide (n5 ≠ 0))) (ek := [(29, .bool (decide (n6 ≠ n5))), (31, .bool (decide (n5 ≠ 0)))]) (Ls := []) rfl rfl (Env.C8 rfl cq) rfl rfl rfl (z2) (by kernel_rfl) sm (fun H F' L' aq ar => AO rfl) ?_))
  by_cases bm : n5 ≠ 0
  ·have j3 := A5 ia bm
   refine Bq 32 (v := sL bj bk bl) (ek := [(8, sL bj bk bl), (32, .bool (decide (n5 ≠ 0)))]) (Ls := []) rfl rfl (Env.CY rfl bm) rfl rfl rfl (z2) (by kernel_rfl) sm (fun H F' L' aq ar => AO rfl) (Bq 32 (v := vI (l7.length : Int)) (ek := [(32, .bool (decide (n5 ≠ 0))), (33, sL bj bk bl)]) (Ls := []) rfl rfl (Env.CY rfl bm) rfl rfl rfl (z2) (by kernel_rfl) sm (fun H F' L' aq ar => (AQ underlying41 rfl).i (AM.Gh aw)) (Bq 32 (v := .bool (decide (0 < (l7.length : Int)))) (ek := [(32, .bool (decide (n5 ≠ 0))), (34, vI (l7.length : Int))]) (Ls := []) rfl rfl (Env.CY rfl bm) rfl rfl rfl (z2) (by kernel_rfl) sm (fun H F' L' aq ar => CQ rfl rfl) (Bq 29 (v := .bool (decide (0 < (l7.length : Int)))) (ek := [(29, .bool (decide (n6 ≠ n5))), (32, .bool (decide (n5 ≠ 0))), (35, .bool (decide (0 < (l7.length : Int))))]) (Ls := []) rfl rfl (Env.C8 rfl cq) rfl rfl rfl (z3) (by kernel_rfl) sm (fun H F' L' aq ar => AF (AX rfl bm) rfl) (mS (v := .bool (decide (0 < (l7.length : Int)))) [29, 36] rfl (AD (AL rfl cq) rfl) (mS [37] rfl (AO rfl) ?_)))))
   obtain ⟨cr, ib⟩ := AB j3
   refine Bq 38 (v := vI n5) (ek := [(7, vI n5), (38, .bool (decide (0 < (l7.length : Int))))]) (Ls := []) rfl rfl (Env.C8 rfl cr) rfl rfl rfl (z2) (by kernel_rfl) sm (fun H F' L' aq ar => AO rfl) (Bq 38 (v := .bool (decide (n5 = 0))) (ek := [(38, .bool (decide (0 < (l7.length : Int)))), (39, vI n5)]) (Ls := []) rfl rfl (Env.C8 rfl cr) rfl rfl rfl (z2) (by kernel_rfl) sm (fun H F' L' aq ar => BO rfl rfl) (Bq 38 (v := .bool (decide (n5 = 0))) (ek := [(38, .bool (decide (0 < (l7.length : Int)))), (40, .bool (decide (n5 = 0)))]) (Ls := []) rfl rfl (Env.C8 rfl cr) rfl rfl rfl (z2) (by kernel_rfl) sm (fun H F' L' aq ar => AO rfl) ?_))
   by_cases ba : n5 = 0
   ·have j4 := A5 ib ba
    refine Bq 41 (v := sL bj bk bl) (ek := [(8, sL bj bk bl), (41, .bool (decide (n5 = 0)))]) (Ls := []) rfl rfl (Env.CY rfl ba) rfl rfl rfl (z2) (by kernel_rfl) sm (fun H F' L' aq ar => AO rfl) (Bq 41 (v := .agg #[sL bw l4.length bx, sL bz l5.length cb, vI n3, vI n4, sL cc cf cg]) (ek := [(6, pO cj), (41, .bool (decide (n5 = 0)))]) (Ls := [(cj, ce #[sL bw l4.length bx, sL bz l5.length cb, vI n3, vI n4, sL cc cf cg] 50)]) rfl rfl (Env.CY rfl ba) rfl rfl rfl (z2) (by kernel_rfl) (s0 (s2 (s1 (s1 (s1 (s3 (s3 (s3 (s3 (s3 sr)))))))))) (fun H F' L' aq ar => AZ isAgg50 sizeOf50 rfl ((Has.own 0 rfl).ext aq ar) (B2 rfl) rfl) ?_)
    refine ⟨_, [(41, .bool (decide (n5 = 0))), (42, sL bj bk bl)], rfl, rfl, z2, by kernel_rfl, ?_⟩; intro H
    refine nT ba ?_
    obtain ⟨l8, j5, j6⟩ := Av j4
    refine BU rfl call21 rfl rfl rfl (pT ((fC (fC (fC (fC fP)))).trans (pA pR)) (ln (lp (ln rfl)))) (fun F2 h2 h3 => by rw [(AM.A6 aw).1]; exact CJ (aw.row kP h2 (aL h3)) j5) (fun _ _ _ _ hq => by obtain ⟨ic, ie, ig, fb, rfl, rfl, ay⟩ := hq; exact ⟨_, _, _, _, rfl, rfl, ay.flat (fun _ _ h => h)⟩) ?_; rintro _ jh _ bg fe ff ⟨ic, ie, ig, fb, rfl, rfl, ay⟩
    replace bc := bc.m2 bg
    replace bd := bd.m2 bg
    replace ae := ae.m3 bg
    have fg := HD (Lb' := []) (by rfl) fe ff
    replace ay := ay.new fun p hp => fg p (by simp [hp])
    refine Aw (lp (ln (lp (ln rfl)))) (kO (kf (fS (fS fO)) (kf (fS (fS fO)) (kf (fS (fS fO)) (kf (fS (fS fO)) kr)))) ?_)
    refine Aa ⟨_, rfl, bg, [18, 8, 7, 1, 0], by kernel_rfl, .inl (.inr (fun d h => by cases h; rfl)), (fc (s0 (s2 (s1 (s1 (s1 (s3 (s3 (s3 (s3 (s3 (s3 sr))))))))))) (fc sm (fc sm (fc sm (fc sm nm))))), ?_⟩
    refine ⟨_, [(41, .bool (decide (n5 = 0))), (44, .agg #[sL bw l4.length bx, sL bz l5.length cb, vI n3, vI n4, sL cc cf cg])], rfl, rfl, z2, by kernel_rfl, ?_⟩; intro H
    refine nT ba ?_
    obtain ⟨l9, j7, j8⟩ := Av j6
    refine BU rfl call41 rfl rfl rfl (pT ((fC (fC (fC (fC (fS (fS (fS (fS (fS fP))))))))).trans (pA pR)) (ln (lp (ln rfl)))) (fun F2 h2 h3 => by rw [(AM.A6 ae).1]; exact Kt (bc.mono kJ h2) (bd.mono kJ h2) (ae.row kN h2 (aL h3)) j7) (fun _ _ _ _ hq => by obtain ⟨ij, cx, ik, cy, rfl, rfl, au⟩ := hq; exact ⟨_, _, _, _, rfl, rfl, au.flat (fun _ _ h => h)⟩) ?_; rintro _ ji _ ct fh fi ⟨ij, cx, ik, cy, rfl, rfl, au⟩
    replace ay := ay.m4 ct
    have cz := HD (Lb' := []) (by rfl) fh fi
    replace au := au.new fun p hp => cz p (by simp [hp])
    refine Aw (lp (ln (lp (ln rfl)))) (kO (kf (fS (fS fO)) (kf (fS (fS fO)) (kf (fS (fS fO)) (kf (fS (fS fO)) kr)))) ?_)
    refine Aa ⟨_, rfl, ct, [8, 7, 1, 0], by kernel_rfl, .inl (.inr (fun d h => by cases h; rfl)), (fc sm (fc sm (fc sm (fc sm nm)))), ?_⟩
    refine ⟨_, [(41, .bool (decide (n5 = 0))), (43, sL ic ie ig), (45, sL ij cx ik)], rfl, rfl, z3, by kernel_rfl, ?_⟩; intro H
    refine nT ba ?_
    obtain ⟨da, fj, fk⟩ := Av j8
    refine Bn rfl call20 rfl rfl rfl (pT ((fC (fC (fC (fC (fS (fS fP)))))).trans (pA ((fC (fC (fC (fC fP)))).trans (pA pR)))) (lp (lp (ln rfl)))) (fun F2 h2 h3 => by rw [(AM.A6 ay).1]; rw [(AM.A6 au).1]; exact CL (ay.row kP h2 (aL h3)) (au.row kP h2 (aL (aR h3))) fj) ?_
    refine Aa ⟨_, rfl, AN.refl _, [8, 7, 1, 0], by kernel_rfl, .inl (.inr (fun d h => by cases h; rfl)), (fc sm (fc sm (fc sm (fc sm nm)))), ?_⟩
    refine Bq 41 (v := .bool (!da)) (ek := [(41, .bool (decide (n5 = 0))), (46, .bool da)]) (Ls := []) rfl rfl (Env.CY rfl ba) rfl rfl rfl (z2) (by kernel_rfl) sm (fun H F' L' aq ar => Bz rfl) (Bq 38 (v := .bool (!da)) (ek := [(38, .bool (decide (0 < (l7.length : Int)))), (41, .bool (decide (n5 = 0))), (47, .bool (!da))]) (Ls := []) rfl rfl (Env.C8 rfl cr) rfl rfl rfl (z3) (by kernel_rfl) sm (fun H F' L' aq ar => AF (AX rfl ba) rfl) (mS (v := .bool (!da)) [38, 48] rfl (AD (AL rfl cr) rfl) (Bo ?_)))
    obtain rfl := AP fk
    exact mi (kc (kc (kc (kc (kx (kg (fS (fS (fS fP))) (kg (fS (fS (fS fP))) (kg (fS (fS (fS fP))) (ka kn))))))))) ⟨(bg.trans ct), rfl, z6⟩
   have fl := A4 ib ba
   refine Dc (ek := [(41, .bool (decide (n5 = 0)))]) (b' := false) 41 rfl rfl (Env.C8 rfl ba) rfl rfl rfl rfl z1 (by kernel_rfl) (Dc (ek := [(41, .bool (decide (n5 = 0)))]) (b' := false) 41 rfl rfl (Env.C8 rfl ba) rfl rfl rfl rfl z1 (by kernel_rfl) ?_)
   refine ⟨_, [(41, .bool (decide (n5 = 0))), (42, undef)], rfl, rfl, z2, by kernel_rfl, ?_⟩; intro H
   refine fF ba ?_
   refine Aa ⟨_, rfl, AN.refl _, [18, 8, 7, 1, 0], by kernel_rfl, .inl (.inr (fun d h => by cases h; rfl)), (fc sm (fc sm (fc sm (fc sm (fc sm nm))))), ?_⟩
   refine ⟨_, [(41, .bool (decide (n5 = 0))), (44, undef)], rfl, rfl, z2, by kernel_rfl, ?_⟩; intro H
   refine fF ba ?_
   refine Aa ⟨_, rfl, AN.refl _, [8, 7, 1, 0], by kernel_rfl, .inl (.inr (fun d h => by cases h; rfl)), (fc sm (fc sm (fc sm (fc sm nm)))), ?_⟩
   refine ⟨_, [(41, .bool (decide (n5 = 0))), (43, undef), (45, undef)], rfl, rfl, z3, by kernel_rfl, ?_⟩; intro H
   refine fF ba ?_
   refine Aa ⟨_, rfl, AN.refl _, [8, 7, 1, 0], by kernel_rfl, .inl (.inr (fun d h => by cases h; rfl)), (fc sm (fc sm (fc sm (fc sm nm)))), ?_⟩
   refine Dc (ek := [(41, .bool (decide (n5 = 0)))]) (b' := false) 41 rfl rfl (Env.C8 rfl ba) rfl rfl rfl rfl z1 (by kernel_rfl) (Bq 38 (v := .bool false) (ek := [(38, .bool (decide (0 < (l7.length : Int)))), (41, .bool (decide (n5 = 0))), (47, undef)]) (Ls := []) rfl rfl (Env.C8 rfl cr) rfl rfl rfl (z3) (by kernel_rfl) sm (fun H F' L' aq ar => AD (AL rfl ba) rfl) (mS (v := .bool false) [38, 48] rfl (AD (AL rfl cr) rfl) (Bo ?_)))
   obtain rfl := AP fl
   exact mi (kc (kc (kc (kc (kx kr))))) ⟨AN.refl _, rfl, z6⟩
  have db := A4 ia bm
  refine Dc (ek := [(32, .bool (decide (n5 ≠ 0)))]) (b' := false) 32 rfl rfl (Env.C8 rfl bm) rfl rfl rfl rfl z1 (by kernel_rfl) (Dc (ek := [(32, .bool (decide (n5 ≠ 0)))]) (b' := false) 32 rfl rfl (Env.C8 rfl bm) rfl rfl rfl rfl z1 (by kernel_rfl) (Dc (ek := [(32, .bool (decide (n5 ≠ 0)))]) (b' := false) 32 rfl rfl (Env.C8 rfl bm) rfl rfl rfl rfl z1 (by kernel_rfl) (Bq 29 (v := .bool false) (ek := [(29, .bool (decide (n6 ≠ n5))), (32, .bool (decide (n5 ≠ 0))), (35, undef)]) (Ls := []) rfl rfl (Env.C8 rfl cq) rfl rfl rfl (z3) (by kernel_rfl) sm (fun H F' L' aq ar => AD (AL rfl bm) rfl) (mS (v := .bool false) [29, 36] rfl (AD (AL rfl cq) rfl) (mS [37] rfl (AO rfl) (Bq 38 (v := vI n5) (ek := [(7, vI n5), (38, .bool false)]) (Ls := []) rfl rfl rfl rfl rfl rfl (z2) (by kernel_rfl) sm (fun H F' L' aq ar => AO rfl) (Bq 38 (v := .bool (decide (n5 = 0))) (ek := [(38, .bool false), (39, vI n5)]) (Ls := []) rfl rfl rfl rfl rfl rfl (z2) (by kernel_rfl) sm (fun H F' L' aq ar => BO rfl rfl) ?_)))))))
  refine Bq 38 (v := .bool (decide (n5 = 0))) (ek := [(38, .bool false), (40, .bool (decide (n5 = 0)))]) (Ls := []) rfl rfl rfl rfl rfl rfl (z2) (by kernel_rfl) sm (fun H F' L' aq ar => AO rfl) ?_
  by_cases ah : n5 = 0
  ·have fm := A5 db ah
   refine Bq 41 (v := sL bj bk bl) (ek := [(8, sL bj bk bl), (41, .bool (decide (n5 = 0)))]) (Ls := []) rfl rfl (Env.CY rfl ah) rfl rfl rfl (z2) (by kernel_rfl) sm (fun H F' L' aq ar => AO rfl) (Bq 41 (v := .agg #[sL bw l4.length bx, sL bz l5.length cb, vI n3, vI n4, sL cc cf cg]) (ek := [(6, pO cj), (41, .bool (decide (n5 = 0)))]) (Ls := [(cj, ce #[sL bw l4.length bx, sL bz l5.length cb, vI n3, vI n4, sL cc cf cg] 50)]) rfl rfl (Env.CY rfl ah) rfl rfl rfl (z2) (by kernel_rfl) (s0 (s2 (s1 (s1 (s1 (s3 (s3 (s3 (s3 (s3 sr)))))))))) (fun H F' L' aq ar => AZ isAgg50 sizeOf50 rfl ((Has.own 0 rfl).ext aq ar) (B2 rfl) rfl) ?_)
   refine ⟨_, [(41, .bool (decide (n5 = 0))), (42, sL bj bk bl)], rfl, rfl, z2, by kernel_rfl, ?_⟩; intro H
   refine nT ah ?_
   obtain ⟨jj, fo, fp⟩ := Av fm
   refine BU rfl call21 rfl rfl rfl (pT ((fC (fC (fC (fC fP)))).trans (pA pR)) (ln (lp (ln rfl)))) (fun F2 h2 h3 => by rw [(AM.A6 aw).1]; exact CJ (aw.row kP h2 (aL h3)) fo) (fun _ _ _ _ hq => by obtain ⟨dd, de, df, dg, rfl, rfl, ao⟩ := hq; exact ⟨_, _, _, _, rfl, rfl, ao.flat (fun _ _ h => h)⟩) ?_; rintro _ j9 _ az dh di ⟨dd, de, df, dg, rfl, rfl, ao⟩
   replace bc := bc.m2 az
   replace bd := bd.m2 az
   replace ae := ae.m3 az
   have dk := HD (Lb' := []) (by rfl) dh di
   replace ao := ao.new fun p hp => dk p (by simp [hp])
   refine Aw (lp (ln (lp (ln rfl)))) (kO (kf (fS (fS fO)) (kf (fS (fS fO)) (kf (fS (fS fO)) (kf (fS (fS fO)) kr)))) ?_)
   refine Aa ⟨_, rfl, az, [18, 8, 7, 1, 0], by kernel_rfl, .inl (.inr (fun d h => by cases h; rfl)), (fc (s0 (s2 (s1 (s1 (s1 (s3 (s3 (s3 (s3 (s3 (s3 sr))))))))))) (fc sm (fc sm (fc sm (fc sm nm))))), ?_⟩
   refine ⟨_, [(41, .bool (decide (n5 = 0))), (44, .agg #[sL bw l4.length bx, sL bz l5.length cb, vI n3, vI n4, sL cc cf cg])], rfl, rfl, z2, by kernel_rfl, ?_⟩; intro H
   refine nT ah ?_
   obtain ⟨jk, fq, fs⟩ := Av fp
   refine BU rfl call41 rfl rfl rfl (pT ((fC (fC (fC (fC (fS (fS (fS (fS (fS fP))))))))).trans (pA pR)) (ln (lp (ln rfl)))) (fun F2 h2 h3 => by rw [(AM.A6 ae).1]; exact Kt (bc.mono kJ h2) (bd.mono kJ h2) (ae.row kN h2 (aL h3)) fq) (fun _ _ _ _ hq => by obtain ⟨dm, dp, dq, dr, rfl, rfl, av⟩ := hq; exact ⟨_, _, _, _, rfl, rfl, av.flat (fun _ _ h => h)⟩) ?_; rintro _ ja _ bh dt du ⟨dm, dp, dq, dr, rfl, rfl, av⟩
   replace ao := ao.m4 bh
   have dv := HD (Lb' := []) (by rfl) dt du
   replace av := av.new fun p hp => dv p (by simp [hp])
   refine Aw (lp (ln (lp (ln rfl)))) (kO (kf (fS (fS fO)) (kf (fS (fS fO)) (kf (fS (fS fO)) (kf (fS (fS fO)) kr)))) ?_)
   refine Aa ⟨_, rfl, bh, [8, 7, 1, 0], by kernel_rfl, .inl (.inr (fun d h => by cases h; rfl)), (fc sm (fc sm (fc sm (fc sm nm)))), ?_⟩
   refine ⟨_, [(41, .bool (decide (n5 = 0))), (43, sL dd de df), (45, sL dm dp dq)], rfl, rfl, z3, by kernel_rfl, ?_⟩; intro H
   refine nT ah ?_
   obtain ⟨dw, ft, fv⟩ := Av fs
   refine Bn rfl call20 rfl rfl rfl (pT ((fC (fC (fC (fC (fS (fS fP)))))).trans (pA ((fC (fC (fC (fC fP)))).trans (pA pR)))) (lp (lp (ln rfl)))) (fun F2 h2 h3 => by rw [(AM.A6 ao).1]; rw [(AM.A6 av).1]; exact CL (ao.row kP h2 (aL h3)) (av.row kP h2 (aL (aR h3))) ft) ?_
   refine Aa ⟨_, rfl, AN.refl _, [8, 7, 1, 0], by kernel_rfl, .inl (.inr (fun d h => by cases h; rfl)), (fc sm (fc sm (fc sm (fc sm nm)))), ?_⟩
   refine Bq 41 (v := .bool (!dw)) (ek := [(41, .bool (decide (n5 = 0))), (46, .bool dw)]) (Ls := []) rfl rfl (Env.CY rfl ah) rfl rfl rfl (z2) (by kernel_rfl) sm (fun H F' L' aq ar => Bz rfl) (Bq 38 (v := .bool (!dw)) (ek := [(38, .bool false), (41, .bool (decide (n5 = 0))), (47, .bool (!dw))]) (Ls := []) rfl rfl rfl rfl rfl rfl (z3) (by kernel_rfl) sm (fun H F' L' aq ar => AF (AX rfl ah) rfl) (mS (v := .bool (!dw)) [38, 48] rfl (AD rfl rfl) (Bo ?_)))
   obtain rfl := AP fv
   exact mi (kc (kc (kc (kc (kx (kg (fS (fS (fS fP))) (kg (fS (fS (fS fP))) (kg (fS (fS (fS fP))) (ka kn))))))))) ⟨(az.trans bh), rfl, z6⟩
  have fw := A4 db ah
  refine Dc (ek := [(41, .bool (decide (n5 = 0)))]) (b' := false) 41 rfl rfl (Env.C8 rfl ah) rfl rfl rfl rfl z1 (by kernel_rfl) (Dc (ek := [(41, .bool (decide (n5 = 0)))]) (b' := false) 41 rfl rfl (Env.C8 rfl ah) rfl rfl rfl rfl z1 (by kernel_rfl) ?_)
  refine ⟨_, [(41, .bool (decide (n5 = 0))), (42, undef)], rfl, rfl, z2, by kernel_rfl, ?_⟩; intro H
  refine fF ah ?_
  refine Aa ⟨_, rfl, AN.refl _, [18, 8, 7, 1, 0], by kernel_rfl, .inl (.inr (fun d h => by cases h; rfl)), (fc sm (fc sm (fc sm (fc sm (fc sm nm))))), ?_⟩
  refine ⟨_, [(41, .bool (decide (n5 = 0))), (44, undef)], rfl, rfl, z2, by kernel_rfl, ?_⟩; intro H
  refine fF ah ?_
  refine Aa ⟨_, rfl, AN.refl _, [8, 7, 1, 0], by kernel_rfl, .inl (.inr (fun d h => by cases h; rfl)), (fc sm (fc sm (fc sm (fc sm nm)))), ?_⟩
  refine ⟨_, [(41, .bool (decide (n5 = 0))), (43, undef), (45, undef)], rfl, rfl, z3, by kernel_rfl, ?_⟩; intro H
  refine fF ah ?_
  refine Aa ⟨_, rfl, AN.refl _, [8, 7, 1, 0], by kernel_rfl, .inl (.inr (fun d h => by cases h; rfl)), (fc sm (fc sm (fc sm (fc sm nm)))), ?_⟩
  refine Dc (ek := [(41, .bool (decide (n5 = 0)))]) (b' := false) 41 rfl rfl (Env.C8 rfl ah) rfl rfl rfl rfl z1 (by kernel_rfl) (Bq 38 (v := .bool false) (ek := [(38, .bool false), (41, .bool (decide (n5 = 0))), (47, undef)]) (Ls := []) rfl rfl rfl rfl rfl rfl (z3) (by kernel_rfl) sm (fun H F' L' aq ar => AD (AL rfl ah) rfl) (mS (v := .bool false) [38, 48] rfl (AD rfl rfl) (Bo ?_)))
  obtain rfl := AP fw
  exact mi (kc (kc (kc (kc (kx kr))))) ⟨AN.refl _, rfl, z6⟩
 replace ab := ab.m2 al
 replace ad := ad.m2 al
 replace aa := aa.m3 al
 replace bc := bc.m2 al
 replace bd := bd.m2 al
 replace ai := ai.m2 al
 replace aj := aj.m2 al
 replace ak := ak.m3 al
 replace ae := ae.m3 al
 obtain ⟨fx, fy⟩ := AB gz
 refine AR rfl (fun dx => absurd (fx.symm.trans dx) (by decide)) (fun dx => ?_)
 refine Ao (AJ ?_)
 refine uv (CA isAgg26 sizeOf26 1) (uv (CA isAgg32 sizeOf32 2) ?_)
 obtain ⟨n7, n8, g0, ga⟩ := BT fy
 refine Bn rfl call42 rfl rfl rfl (pT ((fC (fC (fC (fC fP)))).trans (pA ((fC (fC (fC (fC fP)))).trans (pA ((fC (fC (fC (fC fP)))).trans (pA pR)))))) (lp (lp (lp (ln rfl))))) (fun F2 h2 h3 => by rw [(AM.A6 ai).1]; rw [(AM.A6 aj).1]; rw [(AM.A6 ak).1]; exact K4 (ai.row kJ h2 (aL h3)) (aj.row kJ h2 (aL (aR h3))) (ak.row kN h2 (aL (aR (aR h3)))) g0) ?_
 refine um (ox rfl rfl rfl (ox rfl rfl rfl (ua (ua (BL (ua (Aa ?_)))))))
 obtain ⟨w, k2, dy, dz⟩ := BT ga
 refine jE (((cp, ce #[sL eg eh ei, sL ej en eo, vI n, vI n2, sL ep er et] 26) :: ((b1, ce #[sL Aj walks.length Ai, sL Ak Af.length Al, vI Ae, vI start, sL Ad Ab.length Ac] 26) :: (bo ++ (bp ++ (bq ++ [])))))) [(2, pO b1), (5, pO cp), (7, vI w), (9, vI n8), (10, vI n7), (11, vI k2)] ?_ ?_
 ·clear dz
  refine AJ (um ?_)
  refine uv (BO rfl rfl) (Aa ?_)
  refine cQ (fun cu => ?_) fun cu => ?_
  ·have gb := A5 dy cu
   refine AJ (ua (BL ?_))
   refine uv (CA isAgg50 sizeOf50 0) (uv (CA isAgg32 sizeOf32 2) ?_)
   obtain ⟨jl, gg, eb⟩ := Av gb
   refine Bn rfl call43 rfl rfl rfl (pT ((fC (fC (fC (fC (fS (fS (fS fP))))))).trans (pA pR)) (lp (ln rfl))) (fun F2 h2 h3 => by rw [(AM.A6 ae).1]; exact Lh (bc.mono kJ h2) (bd.mono kJ h2) (ae.row kN h2 (aL h3)) gg) ?_
   refine Aa ?_
   refine AR rfl (fun cv => ?_) (fun cv => ?_)
   ·have gh := bt eb cv
    refine AJ (uv (CA isAgg50 sizeOf50 0) (uv (CA isAgg32 sizeOf32 2) ?_))
    obtain ⟨n9, gi, ec⟩ := Av gh
    refine Bn rfl call44 rfl rfl rfl (pT ((fC (fC (fC (fC (fS (fS (fS fP))))))).trans (pA pR)) (lp (ln rfl))) (fun F2 h2 h3 => by rw [(AM.A6 ae).1]; exact Jn (bc.mono kJ h2) (bd.mono kJ h2) (ae.row kN h2 (aL h3)) gi) ?_
    refine ua (ua (BL (um ?_)))
    refine uv (AV rfl rfl) (Aa ?_)
    refine cQ (fun cw => ?_) fun cw => ?_
    ·have gj := A5 ec cw
     refine An (ua (ua (Aa ?_)))
     obtain ⟨rfl, rfl⟩ := B9 gj
     exact mi (kd (kc (kd (kc (ka (ka (ka kn))))))) ⟨rfl, rfl, z6⟩
    have gk := A4 ec cw
    refine Ao ?_
    obtain ⟨rfl, rfl⟩ := B9 gk
    exact mi (kd (kc (kd (kc (ka (ka (ka kn))))))) ⟨rfl, rfl, z6⟩
   have gl := bf eb cv
   refine Ao ?_
   obtain ⟨rfl, rfl⟩ := B9 gl
   exact mi (kd (kc (kd (kc (ka (ka (ka kn))))))) ⟨rfl, rfl, z6⟩
  have gm := A4 dy cu
  refine Ao ?_
  obtain ⟨rfl, rfl⟩ := B9 gm
  exact mi (kd (kc (kd (kc (ka (ka (ka kn))))))) ⟨rfl, rfl, z6⟩
 refine AJ (um (um ?_))
 refine uv (BO rfl rfl) (um ?_)
 obtain ⟨br, gn⟩ := AB dz
 refine nT br (um (nT br (um (nT br ?_))))
 refine uv (BO rfl rfl) (uv (AF (AX rfl br) rfl) (um ?_))
 obtain ⟨bu, gp⟩ := AB gn
 refine nT bu (uv (CA isAgg26 sizeOf26 0) (nT bu (uv (CA isAgg26 sizeOf26 1) (nT bu ?_))))
 obtain ⟨jm, gq, gr⟩ := Av gp
 refine Bn rfl call24 rfl rfl rfl (pT ((fC (fC fP)).trans (pA ((fC (fC fP)).trans (pA ((fC (fC fP)).trans (pA pR)))))) (lp (lp (lp (ln rfl))))) (fun F2 h2 h3 => by rw [(AM.A6 ai).1]; rw [(AM.A6 aj).1]; rw [(AM.A6 ak).1]; exact CX (ai.row kJ h2 (aL h3)) (aj.row kJ h2 (aL (aR h3))) (ak.row kN h2 (aL (aR (aR h3)))) (ab.mono kJ h2) (ad.mono kJ h2) (aa.mono kN h2) gq) ?_
 refine uv (AF (AX rfl bu) rfl) (um ?_)
 obtain ⟨ef, gu⟩ := AB gr
 refine nB ef ?_
 obtain ⟨jn, gv, gw⟩ := Av gu
 refine cV call14 (B0 gv) (uv (AF (Gl rfl ef) rfl) ?_)
 refine ua (Aa ?_)
 refine kW kn (AA (C3 results8 ?_))
 obtain rfl := AP gw
 exact rfl
set_option maxHeartbeats 1000000 in
theorem IM {aj : Int} (ah : Ar 1 eJ F Aj Ai walks) (ai : Ar 1 eJ F Ak Al Af) (ab : Ar 3 eN F Ad Ac Ab) {r : Bool} (hr : Hc walks Af Ae start Ab aj = some r) :
    Bv Tryz.prog 45 #[.agg #[sL Aj walks.length Ai, sL Ak Af.length Al, vI Ae, vI start, sL Ad Ab.length Ac], vI aj] F (.bool r) := by
 refine sp func45 ntmps45 fun K _ _ => ?_
 rw [Hc] at hr
 refine AJ ?_
 refine Bx rfl rfl ?_; intro b1 bl
 refine ua (BL ?_)
 refine uv (CA isAgg26 sizeOf26 0) ?_
 obtain ⟨l, l2, n, n2, l3, h2, r3⟩ := Fx hr
 refine c0 call17 (CP ah ai ab h2) ?_; rintro _ F4 _ bm aw ⟨a8, c9, bn, bo, bp, bq, br, ax, rfl, rfl, ar, au, ad⟩
 replace ad := ad.new fun p hp => aw p (by simp [hp])
 refine Aw (lp (ln rfl)) (kO (kf (fS fO) kr) ?_)
 refine Bh rfl zeroValue50 ?_; intro bu ay
 refine A8 (i := 0) sizeOf50 rfl rfl rfl (by simp [Value.oneCell']) rfl (B2 rfl) (Aw rfl (BL (uv (CA isAgg50 sizeOf50 0) ?_)))
 obtain ⟨n3, az, av⟩ := Av r3
 refine Bn rfl call18 rfl rfl rfl (pT ((fC (fC fP)).trans (pA pR)) (lp (ln rfl))) (fun F2 h2 h3 => by rw [(AM.A6 ad).1]; exact C1 (ar.mono kJ h2) (au.mono kJ h2) (ad.row kN h2 (aL h3)) az) ?_
 refine uv (BO rfl rfl) (um ?_)
 by_cases aa : n3 = 0
 ·have ba := A5 av aa
  refine nT aa (uv (CA isAgg50 sizeOf50 0) (nT aa ?_))
  obtain ⟨l4, bb, bc⟩ := Av ba
  refine BU rfl call22 rfl rfl rfl (pT ((fC (fC fP)).trans (pA pR)) (ln (lp (ln rfl)))) (fun F2 h2 h3 => by rw [(AM.A6 ad).1]; exact Cg (ar.mono kJ h2) (au.mono kJ h2) (ad.row kN h2 (aL h3)) bb) (fun _ _ _ _ hq => by obtain ⟨bd, bg, bh, ak, rfl, rfl, ae⟩ := hq; exact ⟨_, _, _, _, rfl, rfl, ae.flat (fun _ _ h => h)⟩) ?_; rintro _ bw _ bj al ao ⟨bd, bg, bh, ak, rfl, rfl, ae⟩
  have aq := HD (Lb' := []) (by rfl) al ao
  replace ae := ae.new fun p hp => aq p (by simp [hp])
  refine Aw (lp (ln (lp (ln rfl)))) (kO (kf (fS (fS fO)) (kf (fS (fS fO)) kr)) (nT aa (uv ((AQ underlying57 rfl).i (AM.Gh ae)) ?_)))
  refine nT aa (um (nT aa ?_))
  refine uv (CQ rfl rfl) (uv (AF (AX rfl aa) rfl) ?_)
  refine ua (Aa ?_)
  refine kW kn (AA (C3 results45 ?_))
  obtain rfl := AP bc
  exact rfl
 have bk := A4 av aa
 refine fF aa (fF aa (fF aa (fF aa (fF aa ?_))))
 refine uv (AD (AL rfl aa) rfl) ?_
 refine ua (Aa ?_)
 refine kW kn (AA (C3 results45 ?_))
 obtain rfl := AP bk
 exact rfl
theorem LR (ab : Ar 2 eP F Hg Hj l) {r : List (Int × Int)} (hr : IB l = some r) :
    SH.Spec Tryz.prog 46 #[sL Hg l.length Hj] F [] fun F' L' v => ∃ (ra : Option Addr) (rn : Nat) (rc : Nat) (rL : LH), v = sL ra rn rc ∧ L' = rL ++ [] ∧ AM 0 32 2 eP F' ra rn rc r rL := by
 refine sp func46 ntmps46 fun K _ _ => ?_
 rw [IB] at hr
 refine AJ (ua (BL (um ?_)))
 refine uv (AQ underlying41 rfl) ?_
 obtain ⟨g1, r2⟩ := AB hr
 obtain ⟨l2, h3, r4⟩ := BC r2
 refine Hs (R := eP) (z0 := (0, 0)) (zs := l2) rfl HR (by decide) kP (fun _ => ⟨_, _, rfl, rfl, rfl⟩) rfl g1 h3 (fun _ => .n) ?_; intro a5 n8 aj ad
 refine ua (BL (um (um ?_)))
 obtain ⟨out, ae, ah⟩ := BC r4
 refine KX (ys := l) (zs := out) rfl HR kP rfl rfl (fun _ => .h) ad (Ar.src ab) ae ?_; intro ai aa
 refine BL (um (ua (Aa (AA ?_))))
 refine C3 results46 ?_
 obtain rfl := AP ah
 exact ⟨_, _, _, _, rfl, rfl, aa.any⟩
set_option maxHeartbeats 1000000 in
theorem MG {ba : (List (List Int)) → (List (List Int)) → Int → Int → (List ((List Int) × Int × Int)) → (List (List Int)) → Int → Int → (List (Int × Int)) → Option (Int)} (et : ∀ {Aj : Option Addr} {Ai : Nat} {walks : List (List Int)} {Ak : Option Addr} {Al : Nat} {Af : List (List Int)} {Ae start : Int} {Ad : Option Addr} {Ac : Nat} {Ab : List ((List Int) × Int × Int)} {aa : Option Addr} {ab : Nat} {Ax : List (List Int)} {at_ minute : Int} {ad : Option Addr} {ae : Nat} {ah : List (Int × Int)} {F : FS} (_ : Ar 1 eJ F Aj Ai walks) (_ : Ar 1 eJ F Ak Al Af) (_ : Ar 3 eN F Ad Ac Ab) (_ : Ar 1 eJ F aa ab Ax) (_ : Ar 2 eP F ad ae ah) {r : Int} , ba walks Af Ae start Ab Ax at_ minute ah = some r → Bv Tryz.prog 91 #[.agg #[sL Aj walks.length Ai, sL Ak Af.length Al, vI Ae, vI start, sL Ad Ab.length Ac], sL aa Ax.length ab, vI at_, vI minute, sL ad ah.length ae] F (vI r)) {aa : Option Addr} {ab : Nat} {Ax : List (List Int)} {at_ minute : Int} {ad : Option Addr} {ae : Nat} {ah : List (Int × Int)} (bb : Ar 1 eJ F Aj Ai walks) (av : Ar 1 eJ F Ak Al Af) (aj : Ar 3 eN F Ad Ac Ab) (ar : Ar 1 eJ F aa ab Ax) (ak : Ar 2 eP F ad ae ah) {r : Int} (hr : Jj ba walks Af Ae start Ab Ax at_ minute ah = some r) :
    Bv Tryz.prog 91 #[.agg #[sL Aj walks.length Ai, sL Ak Af.length Al, vI Ae, vI start, sL Ad Ab.length Ac], sL aa Ax.length ab, vI at_, vI minute, sL ad ah.length ae] F (vI r) := by
 refine sp func91 ntmps91 fun K _ _ => ?_
 rw [Jj] at hr
 refine AJ ?_
 refine Bx rfl rfl ?_; intro b1 mu
 refine ua (Aa (Aq (AJ (um ?_))))
 refine uv (AQ underlying57 rfl) (uv (BO rfl rfl) (Aa ?_))
 refine cQ (fun c2 => ?_) fun c2 => ?_
 ·have r3 := A5 hr c2
  refine AJ (um (ua (Aa ?_)))
  refine kW kn ?_
  refine AA (As ?_)
  refine C3 results91 ?_
  obtain rfl := AP r3
  exact rfl
 have r4 := A4 hr c2
 refine Ao (AJ (ua (Aa ?_)))
 obtain ⟨cc, h5, r6⟩ := Av r4
 refine jE ([]) [(11, vI cc)] ?_ ?_
 ·clear r6
  refine AJ (ua (Aa ?_))
  refine Ap ?_
  refine Bb (fun iz e1 F1 L1 => LA Af iz fun tl s_ => ∃ (ax : Int), Fj walks Af Ae start Ab Ax at_ minute ah ba tl s_ ax = some cc ∧ F = F1 ∧ L1 = [(b1, ce #[sL Aj walks.length Ai, sL Ak Af.length Al, vI Ae, vI start, sL Ad Ab.length Ac] 50)] ∧ e1.sub [(1, sL aa Ax.length ab), (2, vI at_), (3, vI minute), (4, sL ad ah.length ae), (5, pO b1), (11, vI ax), (12, vI s_)]) _ (m0 kr ⟨_, _, rfl, Bl.start _, -1, h5, rfl, rfl, z7⟩) ?_
  rintro iz e1 _ _ ⟨tl, s_, jq, eu, ax, r9, rfl, rfl, ew⟩
  refine Az _ ew ?_
  refine Aq (AJ (um ?_))
  refine uv (Ah Hn rfl) (uv (BM isAgg23 0) (uv (AQ underlying23 rfl) (uv (AV rfl rfl) (Aa ?_))))
  refine cQ (fun eg => ?_) fun eg => ?_
  ·obtain ⟨x, mv, rfl, ey, j0, ez⟩ := Bl.succ eu eg
   rw [Fj] at r9
   refine Ao ?_
   obtain ⟨az, jr, j1⟩ := Av r9
   refine jE ([(b1, ce #[sL Aj walks.length Ai, sL Ak Af.length Al, vI Ae, vI start, sL Ad Ab.length Ac] 50)]) [(1, sL aa Ax.length ab), (2, vI at_), (3, vI minute), (4, sL ad ah.length ae), (5, pO b1), (11, vI az), (12, vI s_)] ?_ ?_
   ·clear j1
    refine Ap ?_
    refine AJ (ua (Aa ?_))
    refine Ap ?_
    refine Bb (fun j2 e1 F1 L1 => LA Ab j2 fun j3 n => ∃ (al : Int), E3 walks Af Ae start Ab Ax at_ minute ah ba s_ x j3 n al = some az ∧ F = F1 ∧ L1 = [(b1, ce #[sL Aj walks.length Ai, sL Ak Af.length Al, vI Ae, vI start, sL Ad Ab.length Ac] 50)] ∧ e1.sub [(1, sL aa Ax.length ab), (2, vI at_), (3, vI minute), (4, sL ad ah.length ae), (5, pO b1), (11, vI al), (12, vI s_), (13, vI n)]) _ (m0 kr ⟨_, _, rfl, Bl.start _, ax, jr, rfl, rfl, z8⟩) ?_
    rintro j2 e1 _ _ ⟨j3, n, fa, bk, al, eh, rfl, rfl, fb⟩
    refine Az _ fb ?_
    refine Aq (AJ (um ?_))
    refine uv (Ah C9 rfl) (uv (BM isAgg48 0) (uv (AQ underlying48 rfl) (uv (AV rfl rfl) (Aa ?_))))
    refine cQ (fun ei => ?_) fun ei => ?_
    ·obtain ⟨x2, mw, rfl, cf, ej, fe⟩ := Bl.succ bk ei
     rw [E3] at eh
     refine Ao ?_
     obtain ⟨bg, js, j4⟩ := Av eh
     refine jE ([(b1, ce #[sL Aj walks.length Ai, sL Ak Af.length Al, vI Ae, vI start, sL Ad Ab.length Ac] 50)]) [(1, sL aa Ax.length ab), (2, vI at_), (3, vI minute), (4, sL ad ah.length ae), (5, pO b1), (11, vI bg), (12, vI s_), (13, vI n)] ?_ ?_
     ·clear j4
      refine Ap ?_
      refine AJ (ua (Aa ?_))
      obtain ⟨rest, jt, j5⟩ := Av js
      refine AU (fun e1 F1 L1 => ∃ (en : Option Addr) (eo : Nat) (ep : Nat) (bc : LH), F = F1 ∧ L1 = ((b1, ce #[sL Aj walks.length Ai, sL Ak Af.length Al, vI Ae, vI start, sL Ad Ab.length Ac] 50) :: (bc ++ [])) ∧ e1.sub [(1, sL aa Ax.length ab), (2, vI at_), (3, vI minute), (4, sL ad ah.length ae), (5, pO b1), (11, vI al), (12, vI s_), (13, vI n), (14, sL en eo ep)] ∧ AM K.w0.heap.size 56 2 eP F1 en eo ep rest bc) ?_ ?_
      ·clear j5
       refine AJ (ua (Aa ?_))
       refine Ap ?_
       refine Bb (fun j6 e1 F1 L1 => LA ah j6 fun j7 i => ∃ (aw : List (Int × Int)) (bw : Option Addr) (bx : Nat) (bz : Nat) (ay : LH), D8 x n j7 aw = some rest ∧ F = F1 ∧ L1 = ((b1, ce #[sL Aj walks.length Ai, sL Ak Af.length Al, vI Ae, vI start, sL Ad Ab.length Ac] 50) :: (ay ++ [])) ∧ e1.sub [(1, sL aa Ax.length ab), (2, vI at_), (3, vI minute), (4, sL ad ah.length ae), (5, pO b1), (11, vI al), (12, vI s_), (13, vI n), (14, sL bw bx bz), (15, vI i)] ∧ AM K.w0.heap.size 56 2 eP F1 bw bx bz aw ay) _ (m0 (kc (ke kr)) ⟨_, _, rfl, Bl.start _, [], none, 0, 0, [], jt, rfl, rfl, (sc rfl (sc rfl z8)), AM.nil _ _ _ _ _⟩) ?_
       rintro j6 e1 _ _ ⟨j7, i, cg, bd, aw, bw, bx, bz, ay, er, rfl, rfl, ff, bl⟩
       refine Az _ ff ?_
       refine Aq (AJ (um (um ?_)))
       refine uv (AQ underlying57 rfl) (uv (AV rfl rfl) (Aa ?_))
       refine cQ (fun cj => ?_) fun cj => ?_
       ·obtain ⟨x3, mx, rfl, bm, cb, ck⟩ := Bl.succ bd cj
        rw [D8] at er
        refine Ao (Aq ?_)
        refine Ap ?_
        obtain ⟨k, j8, fg⟩ := Av er
        refine jE (((b1, ce #[sL Aj walks.length Ai, sL Ak Af.length Al, vI Ae, vI start, sL Ad Ab.length Ac] 50) :: (ay ++ []))) [(1, sL aa Ax.length ab), (2, vI at_), (3, vI minute), (4, sL ad ah.length ae), (5, pO b1), (11, vI al), (12, vI s_), (13, vI n), (14, sL bw bx bz), (15, vI i), (62, .bool k)] ?_ ?_
        ·clear fg
         refine Ie (by kernel_rfl) (by kernel_rfl) (by kernel_rfl) ?_
         refine wm (wm ?_)
         obtain ⟨na, nc, nf, ju, fh, fi, j9, ⟨_, _, rfl, rfl, rfl⟩, jv, fj⟩ := Ar.ta kP ak cb.1 bm
         refine wv (Cx underlying57 sizeOf56 fh cb) (wv (Ah LJ rfl) (wv (AG isAgg3 rfl (fi _) (fj 0 (by decide))) (wm (wv (Bt rfl rfl) (wm ?_)))))
         by_cases aq : x3.1 ≠ n
         ·have Cs := A5 j8 aq
          refine A1 (b' := true) 49 rfl (Env.CY rfl aq) rfl rfl (A1 (b' := true) 49 rfl (Env.CY rfl aq) rfl rfl (A1 (b' := true) 49 rfl (Env.CY rfl aq) rfl rfl (A1 (b' := true) 49 rfl (Env.CY rfl aq) rfl rfl (A1 (b' := true) 49 rfl (Env.CY rfl aq) rfl rfl (A1 (b' := true) 49 rfl (Env.CY rfl aq) rfl rfl (A1 (b' := true) 49 rfl (Env.CY rfl aq) rfl rfl (A1 (b' := true) 49 rfl (Env.CY rfl aq) rfl rfl (A1 (b' := true) 49 rfl (Env.CY rfl aq) rfl rfl (A1 (b' := true) 49 rfl (Env.CY rfl aq) rfl rfl ?_)))))))))
          refine A1 (b' := true) 49 rfl (Env.CY rfl aq) rfl rfl (A1 (b' := true) 49 rfl (Env.CY rfl aq) rfl rfl ?_)
          refine wv (AF (AX rfl aq) rfl) (B1 ?_)
          obtain rfl := AP Cs
          exact mi kr ⟨rfl, rfl, (sc rfl (sc rfl (sc rfl z8)))⟩
         have jw := A4 j8 aq
         refine Bf (b := false) 49 rfl (Env.C8 rfl aq) (wv (Ah Hn rfl) (Bf (b := false) 49 rfl (Env.C8 rfl aq) (wv (BM isAgg23 0) ?_)))
         refine Bf (b := false) 49 rfl (Env.C8 rfl aq) (wm (Bf (b := false) 49 rfl (Env.C8 rfl aq) ?_))
         obtain ⟨ng, nh, ni, jx, fk, fl, ja, ⟨nj, nk, rfl, jz⟩, kb, fm⟩ := Ar.ta kJ av j0.1 ey
         refine wv (Cx underlying23 sizeOf22 fk j0) (Bf (b := false) 49 rfl (Env.C8 rfl aq) (wv (AG isAgg22 rfl (fl _) (fm 0 (by decide))) ?_))
         refine Bf (b := false) 49 rfl (Env.C8 rfl aq) (wm (Bf (b := false) 49 rfl (Env.C8 rfl aq) (wm (Bf (b := false) 49 rfl (Env.C8 rfl aq) ?_))))
         obtain ⟨nn, np, nq, kh, fo, fp, jb, ⟨_, _, rfl, rfl, rfl⟩, kj, fq⟩ := Ar.ta kP ak cb.1 bm
         refine wv (Cx underlying57 sizeOf56 fo cb) (Bf (b := false) 49 rfl (Env.C8 rfl aq) (wv (Ah OI rfl) (Bf (b := false) 49 rfl (Env.C8 rfl aq) (wv (AG isAgg3 rfl (fp _) (fq 1 (by decide))) (Bf (b := false) 49 rfl (Env.C8 rfl aq) ?_)))))
         obtain ⟨ok, kl, km⟩ := Av jw
         refine ES rfl call75 rfl rfl rfl (GJ jz kl) (Bf (b := false) 49 rfl (Env.C8 rfl aq) (wv (Bz rfl) (wv (AD (AL rfl aq) rfl) (B1 ?_))))
         obtain rfl := AP km
         exact mi kr ⟨rfl, rfl, (sc rfl (sc rfl (sc rfl z8)))⟩
        refine AR rfl (fun fs => ?_) (fun fs => ?_)
        ·have ko := bt fg fs
         refine An (um (um (um ?_)))
         obtain ⟨nr, ns, nt, kt, ft, fv, bh, ⟨_, _, rfl, rfl, rfl⟩, fw, cn⟩ := Ar.ta kP ak cb.1 bm
         refine uv (Cx underlying57 sizeOf56 ft cb) (uv (AZ isAgg56 sizeOf56 rfl (fv _) bh (Ba bh fw cn)) ?_)
         refine bA (cs := #[vI x3.1, vI x3.2]) Iq [.agg #[vI x3.1, vI x3.2]] ?_; intro ku jc
         obtain ⟨bj, fx, fy, g0⟩ := DS ko
         refine Cq (xs := aw) (ys := [(x3.1, x3.2)]) (zs := bj) rfl Iq rfl rfl (Nat.le_refl _) (fun _ => .c (.c .h)) bl (Fg.box (vss := [[vI x3.1, vI x3.2]]) (ys := [(x3.1, x3.2)]) 0 rfl kP (.cons ⟨_, _, rfl, rfl, rfl⟩ .nil) rfl rfl) fx fy (by decide) ?_; intro ga gb gg cp cq
         refine kO (kd kr) ?_
         refine ua (Aa (Ay (id := 5) (An (um ?_))))
         refine uv (A0 rfl rfl (Bl.Cs bd cj (Ar.lt ak))) ?_
         refine ua (Aa ?_)
         subst cg; exact le kr ⟨_, _, rfl, ck, bj, ga, gb, gg, cp, g0, rfl, rfl, (sc rfl (sc rfl z8)), cq⟩
        have gh := bf fg fs
        refine Ao (Ay (id := 5) (An (um ?_)))
        refine uv (A0 rfl rfl (Bl.Cs bd cj (Ar.lt ak))) ?_
        refine ua (Aa ?_)
        subst cg; exact le kr ⟨_, _, rfl, ck, aw, bw, bx, bz, ay, gh, rfl, rfl, (sc rfl (sc rfl z8)), bl⟩
       obtain rfl := Bl.zero bd cj
       rw [D8] at er
       refine AI (Am (Am ?_))
       refine At ?_
       obtain rfl := AP er
       exact mi kr ⟨bw, bx, bz, ay, rfl, rfl, (sc rfl z8), bl⟩
      rintro e1 _ _ ⟨en, eo, ep, bc, rfl, rfl, cr, bn⟩
      refine Az _ cr (Aq ?_)
      obtain ⟨k2, ct, bo⟩ := Av j5
      refine jE (((b1, ce #[sL Aj walks.length Ai, sL Ak Af.length Al, vI Ae, vI start, sL Ad Ab.length Ac] 50) :: (bc ++ []))) [(1, sL aa Ax.length ab), (2, vI at_), (3, vI minute), (4, sL ad ah.length ae), (5, pO b1), (11, vI al), (12, vI s_), (13, vI n), (14, sL en eo ep), (84, .bool k2)] ?_ ?_
      ·clear bo
       refine An (um ?_)
       refine uv ((AQ underlying57 rfl).i (AM.Gh bn)) (um (uv (AQ underlying57 rfl) (uv (BO rfl rfl) (um ?_))))
       by_cases ai : (rest.length : Int) = (ah.length : Int)
       ·have gi := A5 ct ai
        refine fT ai (fT ai (fT ai (fT ai (fT ai (fT ai (fT ai (fT ai ?_)))))))
        refine uv (AF (AX rfl ai) rfl) (Aa ?_)
        obtain rfl := AP gi
        exact mi kr ⟨rfl, rfl, (sc rfl (sc rfl z8))⟩
       have gj := A4 ct ai
       refine nF ai (um (nF ai (um (nF ai ?_))))
       obtain ⟨x4, cu, cv, gk⟩ := Bi gj
       obtain ⟨kv, kz, l0, jd, cw, cx, gl, ⟨la, ld, rfl, gm⟩, je, cy⟩ := Ar.ta kJ ar cu.1 cv
       refine uv (Cx underlying23 sizeOf22 cw cu) (nF ai (uv (AG isAgg22 rfl (cx _) (cy 0 (by decide))) ?_))
       refine nF ai (um (nF ai ?_))
       obtain ⟨x5, cz, da, gn⟩ := Bi gk
       obtain ⟨lg, lh, lj, jf, db, dd, gp, rfl, jg, de⟩ := Ar.ta kI gm cz.1 da
       refine uv (Cx underlying22 sizeOf3 db cz) (nF ai (uv (AG isAgg3 rfl (dd _) (de 0 (by decide))) (nF ai (uv (AV rfl rfl) (uv (AD (AL rfl ai) rfl) (Aa ?_))))))
       obtain rfl := AP gn
       exact mi kr ⟨rfl, rfl, (sc rfl (sc rfl z8))⟩
      refine AR rfl (fun bp => ?_) (fun bp => ?_)
      ·have gq := bt bo bp
       refine AI (Am ?_)
       refine At ?_
       obtain rfl := AP gq
       exact mi (kc kn) ⟨rfl, rfl, z8⟩
      have gr := bf bo bp
      refine Ao (dW ?_)
      refine wm (wm (wm ?_))
      obtain ⟨x6, df, dg, gu⟩ := Bi gr
      obtain ⟨lk, ll, lq, jh, dh, di, gv, ⟨lr, lu, rfl, gw⟩, ji, dk⟩ := Ar.ta kJ ar df.1 dg
      refine wv (Cx underlying23 sizeOf22 dh df) (wv (AG isAgg22 rfl (di _) (dk 0 (by decide))) (wm ?_))
      obtain ⟨x7, dm, dp, gz⟩ := Bi gu
      obtain ⟨lv, lx, ly, jj, dq, dr, ia, rfl, jk, dt⟩ := Ar.ta kI gw dm.1 dp
      refine wv (Cx underlying22 sizeOf3 dq dm) (wv (AG isAgg3 rfl (dr _) (dt 0 (by decide))) ?_)
      obtain ⟨ib, ic⟩ := AB gz
      refine wv (A0 rfl rfl ib) (wv (Ah C9 rfl) (wv (BM isAgg48 0) (wm ?_)))
      obtain ⟨ma, mb, mc, jl, du, dv, ie, ⟨_, _, rfl, ⟨me, mg, rfl, mh⟩, ⟨_, _, rfl, rfl, rfl⟩⟩, jm, dw⟩ := Ar.ta kN aj ej.1 cf
      refine wv (Cx underlying48 sizeOf110 du ej) (wv (Ah MM rfl) (wv (AG isAgg3 rfl (dv _) (dw 1 (by decide))) ?_))
      obtain ⟨ig, dx⟩ := AB ic
      refine wv (A0 rfl rfl ig) ?_
      refine wa (B1 (Aq (AJ (um ?_))))
      refine uv (Ah C9 rfl) (uv (BM isAgg48 0) (um ?_))
      obtain ⟨mj, ml, mn, jn, dy, dz, ij, ⟨_, _, rfl, ⟨mo, mq, rfl, mr⟩, ⟨_, _, rfl, rfl, rfl⟩⟩, jo, eb⟩ := Ar.ta kN aj ej.1 cf
      refine uv (Cx underlying48 sizeOf110 dy ej) (uv (Ah JF rfl) (uv (AG isAgg3 rfl (dz _) (eb 2 (by decide))) (uv (CQ rfl rfl) (Aa ?_))))
      refine cQ (fun bq => ?_) fun bq => ?_
      ·have ik := A5 dx bq
       refine AI (Am ?_)
       refine At ?_
       obtain rfl := AP ik
       exact mi (kc kn) ⟨rfl, rfl, z8⟩
      have il := A4 dx bq
      refine Ao (AJ ?_)
      refine uv (CA isAgg50 sizeOf50 0) ?_
      refine um (um (um (um ?_)))
      obtain ⟨n2, im, iq⟩ := Av il
      refine Bn rfl call91 rfl rfl rfl (pT ((fC fP).trans (pA pR)) (lp (ln rfl))) (fun F2 h2 h3 => by rw [(AM.A6 bn).1]; exact et (bb.mono kJ h2) (av.mono kJ h2) (aj.mono kN h2) (ar.mono kJ h2) (bn.row kP h2 (aL h3)) im) ?_
      refine ua (Aa ?_)
      obtain ⟨k3, ec, br⟩ := Av iq
      refine jE ([(b1, ce #[sL Aj walks.length Ai, sL Ak Af.length Al, vI Ae, vI start, sL Ad Ab.length Ac] 50)]) [(1, sL aa Ax.length ab), (2, vI at_), (3, vI minute), (4, sL ad ah.length ae), (5, pO b1), (11, vI al), (12, vI s_), (13, vI n), (17, vI n2), (125, .bool k3)] ?_ ?_
      ·clear br
       refine An (um ?_)
       refine uv (HV rfl rfl) (um ?_)
       by_cases ao : 0 ≤ n2
       ·have ef := A5 ec ao
        refine nT ao (um (nT ao ?_))
        refine uv (AV rfl rfl) ?_
        refine nT ao (um ?_)
        by_cases au : al < 0
        ·have ir := A5 ef au
         refine fT au (fT au (fT au (nT ao ?_)))
         refine uv (AF (AX rfl au) rfl) (uv (AF (AX rfl ao) rfl) (Aa ?_))
         obtain rfl := AP ir
         exact mi (kc kn) ⟨rfl, rfl, (sc rfl (sc rfl z8))⟩
        have iu := A4 ef au
        refine nF au (um (nF au (um (nF au ?_))))
        refine uv (AV rfl rfl) (nT ao (uv (AD (AL rfl au) rfl) (uv (AF (AX rfl ao) rfl) (Aa ?_))))
        obtain rfl := AP iu
        exact mi (kc kn) ⟨rfl, rfl, (sc rfl (sc rfl z8))⟩
       have iv := A4 ec ao
       refine fF ao (fF ao (fF ao (fU (fU (fU (fF ao ?_))))))
       refine uv (AD (AL rfl ao) rfl) (Aa ?_)
       obtain rfl := AP iv
       exact mi (kc kn) ⟨rfl, rfl, (sc rfl (sc rfl z8))⟩
      refine AR rfl (fun bu => ?_) (fun bu => ?_)
      ·have iw := bt br bu
       refine An (um (ua (Aa (Ay (id := 3) ?_))))
       obtain rfl := AP iw
       exact mi kr ⟨rfl, rfl, z8⟩
      have iy := bf br bu
      refine Ao (Ay (id := 3) ?_)
      obtain rfl := AP iy
      exact mi kr ⟨rfl, rfl, z8⟩
     refine An (um ?_)
     refine uv (A0 rfl rfl (Bl.Cs bk ei (Ar.lt aj))) ?_
     refine ua (Aa ?_)
     subst fa; exact le kr ⟨_, _, rfl, fe, bg, j4, rfl, rfl, z8⟩
    obtain rfl := Bl.zero bk ei
    rw [E3] at eh
    refine AI (Am (Am ?_))
    refine At (Ay (id := 1) ?_)
    obtain rfl := AP eh
    exact mi kr ⟨rfl, rfl, z7⟩
   refine An (um ?_)
   refine uv (A0 rfl rfl (Bl.Cs eu eg (Ar.lt av))) ?_
   refine ua (Aa ?_)
   subst jq; exact le kr ⟨_, _, rfl, ez, az, j1, rfl, rfl, z7⟩
  obtain rfl := Bl.zero eu eg
  rw [Fj] at r9
  refine AI (Am (Am ?_))
  refine At ?_
  obtain rfl := AP r9
  exact mi kn ⟨rfl, rfl, z1⟩
 refine AJ (um (ua (Aa (AA ?_))))
 refine C3 results91 ?_
 obtain rfl := AP r6
 exact rfl
theorem M1 : ∀ (fu : Nat) {Aj : Option Addr} {Ai : Nat} {walks : List (List Int)} {Ak : Option Addr} {Al : Nat} {Af : List (List Int)} {Ae start : Int} {Ad : Option Addr} {Ac : Nat} {Ab : List ((List Int) × Int × Int)} {aa : Option Addr} {ab : Nat} {Ax : List (List Int)} {at_ minute : Int} {ad : Option Addr} {ae : Nat} {ah : List (Int × Int)} {F : FS} (_ : Ar 1 eJ F Aj Ai walks) (_ : Ar 1 eJ F Ak Al Af) (_ : Ar 3 eN F Ad Ac Ab) (_ : Ar 1 eJ F aa ab Ax) (_ : Ar 2 eP F ad ae ah) {r : Int} , G8 fu walks Af Ae start Ab Ax at_ minute ah = some r → Bv Tryz.prog 91 #[.agg #[sL Aj walks.length Ai, sL Ak Af.length Al, vI Ae, vI start, sL Ad Ab.length Ac], sL aa Ax.length ab, vI at_, vI minute, sL ad ah.length ae] F (vI r) := by
  intro fu
  induction fu with
  | zero => intros; rename_i hr; rw [G8] at hr; cases hr
  | succ fu ih => intros; rename_i hr; rw [G8] at hr; exact MG ih (by assumption) (by assumption) (by assumption) (by assumption) (by assumption) hr
set_option maxHeartbeats 1000000 in
theorem DI (ab : Ar 1 eJ F Aj Ai walks) (ad : Ar 1 eJ F Ak Al Af) (aa : Ar 3 eN F Ad Ac Ab) (ae : Ar 2 eP F A3 A2 AE) {r : Int} (hr : Db walks Af Ae start Ab AE = some r) :
    Bv Tryz.prog 48 #[.agg #[sL Aj walks.length Ai, sL Ak Af.length Al, vI Ae, vI start, sL Ad Ab.length Ac], sL A3 AE.length A2] F (vI r) := by
 refine sp func48 ntmps48 fun K _ _ => ?_
 rw [Db] at hr
 refine AJ ?_
 refine Bx rfl rfl ?_; intro b1 aq
 refine ua (Aa (Aq ?_))
 refine Bg [(.still, 0), (.still, 1), (.still, 3), (.still, 4), (.still, 5), (.seq, 2), (.seq, 6), (.seq, 7)] (by kernel_rfl) (by kernel_rfl) (trivial) (by rfl) (by kernel_rfl) (mL [2] ([(b1, ce #[sL Aj walks.length Ai, sL Ak Af.length Al, vI Ae, vI start, sL Ad Ab.length Ac] 50)]) rfl (s0 sr) (fun H F' L' ah ai => AZ isAgg50 sizeOf50 rfl ((Has.own 0 rfl).ext ah ai) (B2 rfl) rfl) (mL [2] ([(b1, ce #[sL Aj walks.length Ai, sL Ak Af.length Al, vI Ae, vI start, sL Ad Ab.length Ac] 50)]) rfl (s0 sr) (fun H F' L' ah ai => AZ isAgg50 sizeOf50 rfl ((Has.own 0 rfl).ext ah ai) (B2 rfl) rfl) (mS [2] rfl (Ah MH rfl) (mL [8] ([(b1, ce #[sL Aj walks.length Ai, sL Ak Af.length Al, vI Ae, vI start, sL Ad Ab.length Ac] 50)]) rfl (s0 sr) (fun H F' L' ah ai => AG isAgg3 rfl ((Has.own 0 rfl).ext ah ai) rfl) (mS [1] rfl (AO rfl) ?_)))))
 refine ⟨_, [(6, .agg #[sL Aj walks.length Ai, sL Ak Af.length Al, vI Ae, vI start, sL Ad Ab.length Ac])], rfl, rfl, z1, by kernel_rfl, ?_⟩; intro H
 obtain ⟨l, h2, r3⟩ := Av hr
 refine c0 call79 (G3 ab ad aa h2) ?_; rintro _ F4 _ aj ar ⟨a8, c9, rfl, rfl, ak⟩
 replace ab := ab.m2 aj
 replace ad := ad.m2 aj
 replace aa := aa.m3 aj
 replace ae := ae.m4 aj
 refine Aw (ln rfl) ?_
 refine Aa ⟨_, rfl, aj, [5, 4, 3, 0], by kernel_rfl, .inl (.inr (fun d h => by cases h; rfl)), (fc sm (fc (s0 sr) (fc sm (fc (s0 sr) nm)))), ?_⟩
 refine ⟨_, [(5, .agg #[sL Aj walks.length Ai, sL Ak Af.length Al, vI Ae, vI start, sL Ad Ab.length Ac]), (7, sL a8 l.length c9), (9, vI start), (10, sL A3 AE.length A2)], rfl, rfl, z4, by kernel_rfl, ?_⟩; intro H
 obtain ⟨n, al, ao⟩ := Av r3
 refine cV call91 ((M1 FU) ab ad aa ak ae al) ?_
 refine Aa ⟨_, rfl, AN.refl _, [], by kernel_rfl, .inl (.inl rfl), nm, ?_⟩
 refine ⟨_, [(11, vI n)], rfl, rfl, z1, by kernel_rfl, ?_⟩; intro H
 refine ua ?_
 refine Aa ⟨_, rfl, AN.refl _, [], by kernel_rfl, .inl (.inl rfl), nm, ?_⟩
 refine Bo (kW kn (AA (C3 results48 ?_)))
 obtain rfl := AP ao
 exact rfl
set_option maxHeartbeats 1000000 in
theorem M6 (ak : Ar 1 eJ F Aj Ai walks) (al : Ar 1 eJ F Ak Al Af) (ad : Ar 3 eN F Ad Ac Ab) (aa : Ar 2 eP F A3 A2 AE) {r : Bool} (hr : JI walks Af Ae start Ab AE = some (r, r2)) :
    Bv Tryz.prog 49 #[.agg #[sL Aj walks.length Ai, sL Ak Af.length Al, vI Ae, vI start, sL Ad Ab.length Ac], sL A3 AE.length A2] F (.tuple #[.bool r, vI r2]) := by
 refine sp func49 ntmps49 fun K _ _ => ?_
 rw [JI] at hr
 refine AJ ?_
 refine Bx rfl rfl ?_; intro b1 gk
 refine ua (ua (BL ?_))
 refine uv (CA isAgg26 sizeOf26 0) ?_
 obtain ⟨d, n, h2, r3⟩ := BT hr
 refine c0 call72 (Cd ak al ad h2) ?_; rintro _ F4 _ dt gl ⟨v8, rfl, rfl, du⟩
 replace aa := aa.m4 dt
 refine Aw (ln rfl) ?_
 refine um (ox rfl rfl rfl (ox rfl rfl rfl (ua (ua (Aa (Aq (AJ (um ?_))))))))
 refine uv (Bt rfl rfl) (Aa ?_)
 refine cQ (fun br => ?_) fun br => ?_
 ·have dv := A5 r3 br
  refine AJ (um (ua (ua (Aa ?_))))
  refine kW kn ?_
  refine AA (As ?_)
  refine BG results49 (AH rfl) (AH rfl) (sr) ?_
  obtain ⟨rfl, rfl⟩ := B9 dv
  exact rfl
 have dw := A4 r3 br
 refine Ao (AJ (ua (Aa ?_)))
 refine AU (fun e1 F1 L1 => ∃ (BX : Int) (bu : Value), Ih d BX = some (r, r2) ∧ F4 = F1 ∧ L1 = [] ∧ e1.sub [(6, bu), (8, vI BX)] ∧ KK 122 (DZ (GM 1 eJ) (DZ (GM 1 eJ) (DZ eI (DZ eI (DZ (GM 3 eN) (DZ (Nf 25 (cI .i64)) (DZ (GM 2 eP) (Nf 15 (cI .i64))))))))) F1 bu d) ?_ ?_
 ·refine AJ (um ?_)
  refine uv (AQ underlying41 rfl) ?_
  refine um (Aa ?_)
  refine Ap (kW kn ?_)
  refine Bb (fun cw e1 F1 L1 => LA AE cw fun tl k => ∃ (ab : Int) (bk : Value), Fz d tl ab = some (r, r2) ∧ F4 = F1 ∧ L1 = [] ∧ e1.sub [(6, bk), (8, vI ab), (23, sL A3 AE.length A2), (24, vI (AE.length : Int)), (25, vI k)] ∧ KK 122 (DZ (GM 1 eJ) (DZ (GM 1 eJ) (DZ eI (DZ eI (DZ (GM 3 eN) (DZ (Nf 25 (cI .i64)) (DZ (GM 2 eP) (Nf 15 (cI .i64))))))))) F1 bk d) _ (m0 kr ⟨_, _, rfl, Bl.start _, 0, v8, dw, rfl, rfl, z5, du⟩) ?_
  rintro cw e1 _ _ ⟨tl, k, bw, au, ab, bk, bl, rfl, rfl, bx, av⟩
  refine Az _ bx (AJ (uv (AV rfl rfl) ?_))
  refine Aa (Aq ?_)
  refine cQ (fun bm => ?_) fun bm => ?_
  ·obtain ⟨x, gm, rfl, bz, cx, cb⟩ := Bl.succ au bm
   rw [Fz] at bl
   refine Ao (Aq ?_)
   refine Ap (AJ ?_)
   obtain ⟨gn, gp, gq, dx, cc, cf, ar, ⟨_, _, rfl, rfl, rfl⟩, cg, cj⟩ := Ar.ta kP aa cx.1 bz
   refine uv (Cx underlying41 sizeOf32 cc cx) (uv (AZ isAgg32 sizeOf32 rfl (cf _) ar (Ba ar cg cj)) ?_)
   refine Bh rfl zeroValue32 ?_; intro gr dy
   refine A8 (i := 0) sizeOf32 rfl rfl rfl (by simp [Value.oneCell']) rfl (B2 rfl) (Aw rfl ?_)
   refine BL (um ?_)
   refine uv (CA isAgg32 sizeOf32 0) ?_
   obtain ⟨Ax, aw, ao, ax, ah, ay, az, BH, dz, eb⟩ := J3 bl
   have cy := av; rw [dz] at cy; obtain ⟨cz, gu, ec, ck, ba, ⟨_, _, rfl, ⟨ef, eg, rfl, eh⟩, ⟨_, _, rfl, ⟨ei, ej, rfl, en⟩, ⟨_, _, rfl, rfl, ⟨_, _, rfl, rfl, ⟨_, _, rfl, ⟨eo, ep, rfl, er⟩, ⟨_, _, rfl, ⟨rfl, et⟩, ⟨_, _, rfl, ⟨eu, ew, rfl, ey⟩, ⟨rfl, ez⟩⟩⟩⟩⟩⟩⟩⟩⟩ := cy; subst ck
   have ba : F4 cz = some (.cells ((([sL ef Ax.length eg] : List Value) ++ (([sL ei aw.length ej] : List Value) ++ (([vI ao] : List Value) ++ (([vI ax] : List Value) ++ (([sL eo ah.length ep] : List Value) ++ (ay.flatMap (cI .i64) ++ (([sL eu az.length ew] : List Value) ++ (BH.flatMap (cI .i64))))))))).toArray) 122 ec) := ba
   obtain ⟨n2, fa, da⟩ := Av eb
   refine cV call87 (Jl ba eh en er et ey ez fa) ?_
   refine ua (Aa (Aq ?_))
   refine Ap ?_
   refine AJ (um ?_)
   refine uv (AV rfl rfl) ?_
   refine ua (Aa ?_)
   refine cQ (fun cn => ?_) fun cn => ?_
   ·have fb := A5 da cn
    refine AJ (ua (ua (Aa ?_)))
    refine kW kn ?_
    refine AA (AK (As (AK (As (As (AK (As ?_)))))))
    refine BG results49 (AH rfl) (AH rfl) (sr) ?_
    obtain ⟨rfl, rfl⟩ := B9 fb
    exact rfl
   have fe := A4 da cn
   refine AJ (um (um ?_))
   obtain ⟨ff, Cs⟩ := AB fe
   refine uv (Nu rfl rfl ff) (uv (QY rfl rfl) (uv (BO rfl rfl) ?_))
   refine ua (Aa ?_)
   obtain ⟨fg, fh⟩ := AB Cs
   refine BP rfl (fun db => absurd db fg) (fun db => ?_)
   refine Ao (Ay (id := 2) (An (um (um ?_))))
   obtain ⟨fi, fj⟩ := AB fh
   refine uv (Ns rfl rfl fi) (uv (Rm rfl rfl) ?_)
   refine ua (Aa (Ay (id := 1) (An ?_)))
   refine uv (A0 rfl rfl (Bl.Cs au bm (Ar.lt aa))) ?_
   refine um (Aa ?_)
   subst bw; exact le kn ⟨_, _, rfl, cb, PS ab (shl 1 n2), pO cz, fj, rfl, rfl, z5, av⟩
  obtain rfl := Bl.zero au bm
  rw [Fz] at bl
  refine AI (Am (Am ?_))
  refine At ?_
  exact mi kr ⟨ab, bk, bl, rfl, rfl, z2, av⟩
 rintro e1 _ _ ⟨BX, bu, dd, rfl, rfl, cp, cq⟩
 refine Az _ cp ?_
 rw [Ih] at dd
 refine AJ (um (um (um ?_)))
 obtain ⟨bb, bc, aq, bd, ai, bg, bh, cr, fk, fl⟩ := J3 dd
 have de := cq; rw [fk] at de; obtain ⟨fm, gv, fo, ct, ae, ⟨_, _, rfl, ⟨fp, fq, rfl, bn⟩, ⟨_, _, rfl, ⟨fs, ft, rfl, bo⟩, ⟨_, _, rfl, rfl, ⟨_, _, rfl, rfl, ⟨_, _, rfl, ⟨fv, fw, rfl, bp⟩, ⟨_, _, rfl, ⟨rfl, df⟩, ⟨_, _, rfl, ⟨fx, fy, rfl, bq⟩, ⟨rfl, dg⟩⟩⟩⟩⟩⟩⟩⟩⟩ := de; subst ct
 have ae : F4 fm = some (.cells ((([sL fp bb.length fq] : List Value) ++ (([sL fs bc.length ft] : List Value) ++ (([vI aq] : List Value) ++ (([vI bd] : List Value) ++ (([sL fv ai.length fw] : List Value) ++ (bg.flatMap (cI .i64) ++ (([sL fx bh.length fy] : List Value) ++ (cr.flatMap (cI .i64))))))))).toArray) 122 fo) := ae
 obtain ⟨y, g0, ga⟩ := Av fl
 refine c0 call90 (EL ae bn bo bp df bq dg g0) ?_; rintro _ gw _ aj gb ⟨dh, di, dk, rfl, rfl, bj⟩
 replace bn := bn.m2 aj
 replace bo := bo.m2 aj
 replace bp := bp.m3 aj
 replace bq := bq.m4 aj
 replace ae := aj _ _ ae
 refine Aw (ln rfl) ?_
 obtain ⟨l, n3, ok, cu, cv⟩ := Ia ga
 refine c0 call88 (Cz ae bn bo bp df bq dg bj cu) ?_; rintro _ gg _ dm dp ⟨gh, gi, gj, dq, rfl, rfl, dr⟩
 refine Aw (lp (ln rfl)) ?_
 refine um (ox rfl rfl rfl (ox rfl rfl rfl (ox rfl rfl rfl (ua (ua (ua (BL (um (ua ?_)))))))))
 refine ua (Aa ?_)
 refine kW kn (AA (BG results49 (AH rfl) (AH rfl) (sr) ?_))
 obtain ⟨rfl, rfl⟩ := B9 cv
 exact rfl
end Go.Proofs.YtbeeigejcihadaaGreat
