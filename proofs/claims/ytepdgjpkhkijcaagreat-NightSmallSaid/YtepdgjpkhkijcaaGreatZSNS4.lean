/- The walks that this claim needs, printed by a program of mine; part 4. -/
import Derived.Test.YtepdgjpkhkijcaaGreatZSNS3
namespace Go.Proofs.YtepdgjpkhkijcaaGreat
open Go.SH Go.PL
open Tryz 
variable {F : FS} {hour r2 x : Int} {Af Ab : List (List Int)} {Ai Ad Jj Js : Nat} {Aj Ac Jk Jq : Option Addr}
set_option maxHeartbeats 1000000 in
theorem Mg (ab : Au 1 (Bm 1 (iE .i64)) F Ac Ad Ab) (ae : Au 1 (Bm 1 (iE .i64)) F Aj Ai Af) {r : List Int} (hr : Jf Ab Af hour = some r) :
    SH.Spec Tryz.prog 50 #[.agg #[.slice Ac Ab.length Ad, .slice Aj Af.length Ai], .int .i64 hour] F [] fun F' L' v => ∃ (ra : Option Addr) (rn : Nat) (rc : Nat) (rL : LH), v = .slice ra rn rc ∧ L' = rL ++ [] ∧ AW 0 3 1 (iE .i64) F' ra rn rc r rL := by
 refine sp func50 ntmps50 fun K _ _ => ?_
 rw [Jf] at hr
 refine AI ?_
 refine By rfl rfl ?_; intro b1 iz
 refine ua (BI (ua (BI (ua (Aa ?_)))))
 obtain ⟨br, h8, r9⟩ := AB hr
 refine AK (fun e1 F1 L1 => ∃ (a2 : Option Addr) (n6 : Nat) (c3 : Nat) (di : LH), F = F1 ∧ L1 = (di ++ []) ∧ e1.sub [(5, .slice a2 n6 c3)] ∧ AW K.w0.heap.size 3 1 (iE .i64) F1 a2 n6 c3 br di) ?_ ?_
 ·clear r9
  refine AI (ua (Aa ?_))
  refine Ap ?_
  refine A2 (fun cz e1 F1 L1 => ∃ (ao : List Int) (found : Bool) (BO : Int) (av : Option Addr) (aw : Nat) (ax : Nat) (a6 : LH), EG Ab Af hour cz ao found BO = some br ∧ F = F1 ∧ L1 = ((b1, ce #[.slice Ac Ab.length Ad, .slice Aj Af.length Ai] 51) :: (a6 ++ [])) ∧ e1.sub [(1, .int .i64 hour), (2, .pointer (some ⟨b1, 0, none⟩)), (5, .slice av aw ax), (6, .bool found), (7, .int .i64 BO)] ∧ AW K.w0.heap.size 3 1 (iE .i64) F1 av aw ax ao a6) FU (m0 (kc (ke kr)) ⟨[], false, 0, none, 0, 0, [], h8, rfl, rfl, z5, AW.nil _ _ _ _ _⟩) ?_
  rintro cz e1 _ _ ⟨ao, found, BO, av, aw, ax, a6, da, rfl, rfl, dk, ay⟩
  refine Az _ dk ?_
  rcases cz with _ | cz
  ·rw [EG] at da; cases da
  rw [EG] at da
  refine At (AI (um ?_))
  refine uv (AE isAgg51 sizeOf51 rfl (Has.own 0 rfl) (A5 rfl) rfl) ?_
  obtain ⟨n, gm, g0⟩ := AB da
  refine cV call23 (Ez ab ae gm) (uv (AV rfl rfl) (Aa ?_))
  refine cQ (fun dm => ?_) fun dm => ?_
  ·have gn := AQ g0 dm
   refine Aq ?_
   obtain ⟨bc, aq, gp, g8⟩ := A9 gn
   refine AK (fun e1 F1 L1 => ∃ (db : Option Addr) (dd : Nat) (de : Nat) (az : LH), F = F1 ∧ L1 = ((b1, ce #[.slice Ac Ab.length Ad, .slice Aj Af.length Ai] 51) :: (az ++ [])) ∧ e1.sub [(1, .int .i64 hour), (2, .pointer (some ⟨b1, 0, none⟩)), (5, .slice db dd de), (6, .bool aq), (7, .int .i64 BO)] ∧ AW K.w0.heap.size 3 1 (iE .i64) F1 db dd de bc az) ?_ ?_
   ·clear g8
    refine Ap ?_
    refine AI (ua (BI ?_))
    refine Gn (cs := #[]) rfl rfl (HX BN) ?_; intro df dp
    refine uv (Av DQ rfl) (uv (Ao isAgg23 rfl (Has.own 1 rfl) rfl) (um ?_))
    obtain ⟨x, ga, dq, gq⟩ := A7 gp
    obtain ⟨j0, j1, j2, gr, dr, dt, gb, ⟨j3, j4, rfl, gu⟩, gv, du⟩ := Au.at (Ak (Ae _)) ae ((df, ce #[] 3) :: ((b1, ce #[.slice Ac Ab.length Ad, .slice Aj Af.length Ai] 51) :: (a6 ++ []))) ga.1 dq
    refine uv (AF underlying23 sizeOf22 rfl dr rfl ga) (uv (Ao isAgg22 rfl dt (du 0 (by decide))) ?_)
    have bu : AW K.w0.heap.size 3 1 (iE .i64) F (some ⟨df, 0, none⟩) 0 0 ([] : List Int) [(df, ce #[] 3)] := AW.AG (vss := []) (Ae _) dp .nil rfl rfl (by simp [maxLen])
    generalize bg : ([(df, ce #[] 3)] : LH) = bw at bu
    refine BK (L' := bw ++ ((b1, ce #[.slice Ac Ab.length Ad, .slice Aj Af.length Ai] 51) :: (a6 ++ []))) (by rw [← bg]; exact fO) ?_
    refine BK (L' := (b1, ce #[.slice Ac Ab.length Ad, .slice Aj Af.length Ai] 51) :: (bw ++ (a6 ++ []))) (List.Perm.symm (fC fP)) ?_
    obtain ⟨l, gw, gx, gy⟩ := E0 gq
    refine Dm (xs := ([] : List Int)) (ys := x) (zs := l) rfl BN rfl rfl (Nat.le_refl _) (fun _ => .c .h) bu (Au.src gu) gw gx (by decide) ?_; intro bx bz ca dv dw
    refine ua (Aa ?_)
    obtain ⟨l2, marks, gz, gg⟩ := A9 gy
    refine AK (fun e1 F1 L1 => ∃ (bh : Option Addr) (bj : Nat) (bk : Nat) (ai : LH) (ar : LH), F = F1 ∧ L1 = ((b1, ce #[.slice Ac Ab.length Ad, .slice Aj Af.length Ai] 51) :: (a6 ++ (ai ++ (ar ++ [])))) ∧ e1.sub [(1, .int .i64 hour), (2, .pointer (some ⟨b1, 0, none⟩)), (5, .slice av aw ax), (6, .bool found), (7, .int .i64 BO), (8, .slice bh bj bk), (9, .slice bx bz ca)] ∧ AW K.w0.heap.size 3 1 (iE .i64) F1 bh bj bk l2 ai ∧ AW K.w0.heap.size 3 1 (iE .i64) F1 bx bz ca marks ar) ?_ ?_
    ·clear gg
     refine AI (ua (Aa ?_))
     refine Ap ?_
     refine A2 (fun dg e1 F1 L1 => ∃ (l3 : List Int) (aj : List Int) (i : Int) (cb : Option Addr) (cc : Nat) (cd : Nat) (au : LH) (ak : LH), DK BO dg l3 aj i = some (l2, marks) ∧ F = F1 ∧ L1 = ((b1, ce #[.slice Ac Ab.length Ad, .slice Aj Af.length Ai] 51) :: (a6 ++ (au ++ (ak ++ [])))) ∧ e1.sub [(1, .int .i64 hour), (2, .pointer (some ⟨b1, 0, none⟩)), (5, .slice av aw ax), (6, .bool found), (7, .int .i64 BO), (8, .slice cb cc cd), (9, .slice bx bz ca), (10, .int .i64 i)] ∧ AW K.w0.heap.size 3 1 (iE .i64) F1 cb cc cd l3 au ∧ AW K.w0.heap.size 3 1 (iE .i64) F1 bx bz ca aj ak) FU (m0 (kc (kg (fS fP) (ke kr))) ⟨[], l, 0, none, 0, 0, [], dv, gz, rfl, rfl, z8, AW.nil _ _ _ _ _, dw⟩) ?_
     rintro dg e1 _ _ ⟨l3, aj, i, cb, cc, cd, au, ak, cf, rfl, rfl, dx, bl, al⟩
     refine Az _ dx ?_
     rcases dg with _ | dg
     ·rw [DK] at cf; cases cf
     rw [DK] at cf
     refine At (AI (um (um ?_)))
     refine uv ((AJ underlying22 rfl).i (AW.GN al)) (uv (AV rfl rfl) (Aa ?_))
     refine cQ (fun dy => ?_) fun dy => ?_
     ·have ia := AQ cf dy
      refine Aq (At ?_)
      refine Ap ?_
      refine AI (um (um ?_))
      obtain ⟨ok, ib, gh⟩ := AB ia
      refine cV call101 (Hh ib) (Aa ?_)
      refine AT rfl (fun dz => ?_) (fun dz => ?_)
      ·have ic := bt gh dz
       refine AI (um (um ?_))
       refine bA (cs := #[.int .i64 i]) BN [.int .i64 i] ?_; intro j5 ie
       obtain ⟨l4, ig, ij, ik⟩ := E0 ic
       refine Dm (xs := l3) (ys := [i]) (zs := l4) rfl BN rfl rfl (Nat.le_refl _) (fun _ => .c (.c (.s .h))) bl (GO.box (vss := [[.int .i64 i]]) (ys := [i]) 0 rfl (Ae _) (.cons rfl .nil) rfl rfl) ig ij (by decide) ?_; intro il im iq cg eb
       refine kO (kd kr) ?_
       refine ua (Aa (An (um (um ?_))))
       obtain ⟨x2, ec, ef, eg⟩ := A7 ik
       obtain ⟨ir, iu, iv, gi, bd, gj, eh, rfl, gk, gl⟩ := AW.at (Ae _) al (L := (b1, ce #[.slice Ac Ab.length Ad, .slice Aj Af.length Ai] 51) :: (a6 ++ (cg ++ (ak ++ [])))) (fC (fS (fS fP))) ec.1 ef
       refine uv (AF underlying22 sizeOf3 rfl bd rfl (AW.idx al ec)) ?_
       obtain ⟨bm, ei, ej⟩ := BS eg
       refine CQ (u := 0) sizeOf3 (Ae _) rfl bd rfl rfl (fun _ => .c (.s (.s .h))) al ei ec ?_; intro cj ck
       refine Aa (Ax (id := 3) (An (um ?_)))
       obtain ⟨en, eo⟩ := AX ej
       refine uv (AY rfl rfl en) ?_
       refine ua (Aa ?_)
       exact le kr ⟨l4, bm, i + 1, il, im, iq, cg, cj, eo, rfl, rfl, z8, eb, ck⟩
      have ep := bf gh dz
      refine Aq (Ax (id := 3) (An (um ?_)))
      obtain ⟨er, et⟩ := AX ep
      refine uv (AY rfl rfl er) ?_
      refine ua (Aa ?_)
      exact le kr ⟨l3, aj, i + 1, cb, cc, cd, au, ak, et, rfl, rfl, z8, bl, al⟩
     have eu := AR cf dy
     refine AL (Am (Am ?_))
     refine AA ?_
     obtain ⟨rfl, rfl⟩ := BT eu
     exact mi kr ⟨cb, cc, cd, au, ak, rfl, rfl, z7, bl, al⟩
    rintro e1 _ _ ⟨bh, bj, bk, ai, ar, rfl, rfl, cn, bn, cp⟩
    refine Az _ cn ?_
    refine AI (ua (Aa ?_))
    obtain ⟨ew, ey, cq⟩ := AB gg
    refine jE (((b1, ce #[.slice Ac Ab.length Ad, .slice Aj Af.length Ai] 51) :: (a6 ++ (ai ++ [])))) [(1, .int .i64 hour), (2, .pointer (some ⟨b1, 0, none⟩)), (5, .slice av aw ax), (6, .bool found), (7, .int .i64 BO), (8, .slice bh bj bk), (11, .bool ew)] ?_ ?_
    ·clear cq
     refine AI (ua (Aa ?_))
     refine Ap ?_
     refine A2 (fun dh e1 F1 L1 => ∃ (ba : Bool) (AZ : Int), DM Ab Af marks dh ba AZ = some ew ∧ F = F1 ∧ L1 = ((b1, ce #[.slice Ac Ab.length Ad, .slice Aj Af.length Ai] 51) :: (a6 ++ (ai ++ (ar ++ [])))) ∧ e1.sub [(1, .int .i64 hour), (2, .pointer (some ⟨b1, 0, none⟩)), (5, .slice av aw ax), (6, .bool found), (7, .int .i64 BO), (8, .slice bh bj bk), (9, .slice bx bz ca), (11, .bool ba), (12, .int .i64 AZ)]) FU (m0 kr ⟨false, 0, ey, rfl, rfl, (sc rfl z8)⟩) ?_
     rintro dh e1 _ _ ⟨ba, AZ, bb, rfl, rfl, cr⟩
     refine Az _ cr ?_
     rcases dh with _ | dh
     ·rw [DM] at bb; cases bb
     rw [DM] at bb
     refine At (AI (um ?_))
     refine uv (AE isAgg51 sizeOf51 rfl (Has.own 0 rfl) (A5 rfl) rfl) ?_
     obtain ⟨n2, ez, ct⟩ := AB bb
     refine cV call23 (Ez ab ae ez) (uv (AV rfl rfl) (Aa ?_))
     refine cQ (fun bo => ?_) fun bo => ?_
     ·have cu := AQ ct bo
      refine Aq (At ?_)
      refine Ap ?_
      refine An (um (um ?_))
      rcases Bf ba with ad | ad
      ·have fa := bt cu ad
       refine fB ad (fB ad (fB ad (fB ad ?_)))
       refine uv (Aw (En rfl ad) rfl) ?_
       refine ua (Aa (Ax (id := 5) (An (um ?_))))
       obtain ⟨fb, fe⟩ := AX fa
       refine uv (AY rfl rfl fb) ?_
       refine ua (Aa ?_)
       exact le kr ⟨true, AZ + 1, fe, rfl, rfl, (sc rfl z8)⟩
      have ff := bf cu ad
      refine nB ad (uv (AE isAgg51 sizeOf51 rfl (Has.own 0 rfl) (A5 rfl) rfl) ?_)
      refine nB ad (um (nB ad (um (nB ad ?_))))
      obtain ⟨iw, fg, fh⟩ := AB ff
      refine Bi (Lt := ar ++ []) (Lr := (b1, ce #[.slice Ac Ab.length Ad, .slice Aj Af.length Ai] 51) :: (a6 ++ (ai ++ []))) rfl call81 rfl rfl rfl (pT ((fC (fS (fS fP))).trans (pA pR)) (lp (ln rfl))) (fun F2 h2 h3 => by rw [(AW.Be cp).1]; exact KC (ab.mono (Ak (Ae _)) h2) (ae.mono (Ak (Ae _)) h2) (cp.row (Ae _) h2 (fun p hp => h3 p (List.mem_append_left _ hp))) fg) ?_
      refine uv (Ar (En rfl ad) rfl) ?_
      refine ua (Aa (Ax (id := 5) (An (um ?_))))
      obtain ⟨fi, fj⟩ := AX fh
      refine uv (AY rfl rfl fi) ?_
      refine ua (Aa ?_)
      exact le kr ⟨iw, AZ + 1, fj, rfl, rfl, (sc rfl z8)⟩
     have fk := AR ct bo
     refine AL (Am (Am ?_))
     refine AA ?_
     obtain rfl := AH fk
     exact mi (kc (ka (ka kn))) ⟨rfl, rfl, z7⟩
    obtain ⟨k, cv, bp⟩ := AB cq
    refine jE (((b1, ce #[.slice Ac Ab.length Ad, .slice Aj Af.length Ai] 51) :: (a6 ++ (ai ++ [])))) [(1, .int .i64 hour), (2, .pointer (some ⟨b1, 0, none⟩)), (5, .slice av aw ax), (6, .bool found), (7, .int .i64 BO), (8, .slice bh bj bk), (64, .bool k)] ?_ ?_
    ·clear bp
     refine An (um (um ?_))
     rcases Bf ew with aa | aa
     ·have cw := bt cv aa
      refine nB aa (um (nB aa ?_))
      refine uv (BM rfl) ?_
      refine nB aa (um ?_)
      rcases Bf (!found) with ah | ah
      ·have fl := bt cw ah
       refine fB ah (fB ah (fB ah (nB aa ?_)))
       refine uv (Aw (En rfl ah) rfl) (uv (Aw (En rfl aa) rfl) (Aa ?_))
       obtain rfl := AH fl
       exact mi kr ⟨rfl, rfl, z7⟩
      have fm := bf cw ah
      refine nB ah (um (nB ah (um (nB ah ?_))))
      obtain ⟨j6, fo, fp⟩ := AB fm
      refine Bi (Lt := ai ++ (a6 ++ [])) (Lr := [(b1, ce #[.slice Ac Ab.length Ad, .slice Aj Af.length Ai] 51)]) rfl call96 rfl rfl rfl (pT ((fC (fS fP)).trans (pA ((fC fP).trans (pA pR)))) (lp (lp (ln rfl)))) (fun F2 h2 h3 => by rw [(AW.Be bn).1]; rw [(AW.Be ay).1]; exact JU (bn.row (Ae _) h2 (fun p hp => h3 p (List.mem_append_left _ hp))) (ay.row (Ae _) h2 (fun p hp => h3 p (List.mem_append_right _ (List.mem_append_left _ hp)))) fo) ?_
      refine nB aa (uv (Ar (En rfl ah) rfl) (uv (Aw (En rfl aa) rfl) (Aa ?_)))
      obtain rfl := AH fp
      exact mi kr ⟨rfl, rfl, z7⟩
     have fq := bf cv aa
     refine fB aa (fB aa (fB aa (fU (fU (fU (fB aa ?_))))))
     refine uv (Ar (En rfl aa) rfl) (Aa ?_)
     obtain rfl := AH fq
     exact mi kr ⟨rfl, rfl, z7⟩
    refine AT rfl (fun bq => ?_) (fun bq => ?_)
    ·have fs := bt bp bq
     refine An (um (ua (ua (Aa (Ax (id := 1) ?_)))))
     obtain ⟨rfl, rfl⟩ := BT fs
     exact mi (kc (kx kr)) ⟨bh, bj, bk, ai, rfl, rfl, z5, bn⟩
    have ft := bf bp bq
    refine Aq (Ax (id := 1) ?_)
    obtain ⟨rfl, rfl⟩ := BT ft
    exact mi (kc (ka kn)) ⟨av, aw, ax, a6, rfl, rfl, z5, ay⟩
   rintro e1 _ _ ⟨db, dd, de, az, rfl, rfl, cx, fv⟩
   refine Az _ cx ?_
   refine An (um ?_)
   obtain ⟨fw, fx⟩ := AX g8
   refine uv (AY rfl rfl fw) ?_
   refine ua (Aa ?_)
   exact le kr ⟨bc, aq, BO + 1, db, dd, de, az, fx, rfl, rfl, z5, fv⟩
  have fy := AR g0 dm
  refine AL (Am (Am ?_))
  refine AA ?_
  obtain rfl := AH fy
  exact mi (kd kr) ⟨av, aw, ax, a6, rfl, rfl, z1, ay⟩
 rintro e1 _ _ ⟨a2, n6, c3, di, rfl, rfl, cy, iy⟩
 refine Az _ cy ?_
 refine AI (um (ua (Aa (As ?_))))
 refine BD results50 ?_
 obtain rfl := AH r9
 exact ⟨_, _, _, _, rfl, rfl, iy.any⟩
set_option maxHeartbeats 1000000 in
theorem OY (ar : Au 1 (Bm 1 (iE .i64)) F Ac Ad Ab) (aj : Au 1 (Bm 1 (iE .i64)) F Aj Ai Af) {r : Int} {r3 r4 : Int} (hr : MH Ab Af = some (r, r2, r3, r4)) :
    Ba Tryz.prog 52 #[.agg #[.slice Ac Ab.length Ad, .slice Aj Af.length Ai]] F (.tuple #[.agg #[.int .i64 r, .int .i64 r2], .int .i64 r3, .int .i64 r4]) := by
 refine sp func52 ntmps52 fun K _ _ => ?_
 rw [MH] at hr
 refine AI ?_
 refine By rfl rfl ?_; intro b1 ez
 refine A1 rfl zeroValue29 ?_; intro b2 fa
 refine ua (ua (BI ?_))
 refine uv (AE (cs := #[.slice Ac Ab.length Ad, .slice Aj Af.length Ai]) isAgg26 sizeOf26 rfl (Has.own 1 rfl) (A5 rfl) rfl) ?_
 obtain ⟨d, n, h3, r5⟩ := A9 hr
 refine c0 call15 (Gb ar aj h3) ?_; rintro _ F6 _ dk fb ⟨v10, dm, rfl, rfl, bm⟩
 replace aj := aj.mono (Ak (Ae _)) dk
 refine AD (lp (ln rfl)) (kO (kf (fS fO) (kf (fS fO) kr)) ?_)
 refine um (ox rfl rfl rfl (ox rfl rfl rfl (ua (ua (Aa (At (AI (um ?_))))))))
 refine uv (BH rfl rfl) (Aa ?_)
 refine cQ (fun bn => ?_) fun bn => ?_
 ·have dp := AQ r5 bn
  refine AI ?_
  refine uv (BL (v := .agg #[.int .i64 0, .int .i64 0]) rfl (by intro w; kernel_rfl)) ?_
  refine um (A6 (i := 0) sizeOf29 rfl rfl rfl (by simp [Value.oneCell']) rfl (A5 rfl) (AD rfl ?_))
  refine ua (ua (Aa ?_))
  refine kW (kc kn) ?_
  refine As (Al ?_)
  refine Kk results52 (CK (cs := #[.int .i64 0, .int .i64 0]) isAgg29 sizeOf29 rfl (Has.own 0 rfl) (A5 rfl) rfl) (AP rfl) (AP rfl) (s1 sr) ?_
  obtain ⟨rfl, rfl, rfl, rfl⟩ := Lg dp
  exact rfl
 have dq := AR r5 bn
 refine Aq (AI ?_)
 refine uv (BL (v := .agg #[.int .i64 (-1), .int .i64 (-1)]) rfl (by intro w; kernel_rfl)) ?_
 refine A1 rfl zeroValue29 ?_; intro au dr
 refine A6 (i := 0) sizeOf29 rfl rfl rfl (by simp [Value.oneCell']) rfl (A5 rfl) (AD rfl (BI (uv (AE (cs := #[.int .i64 (-1), .int .i64 (-1)]) isAgg29 sizeOf29 rfl (Has.own 0 rfl) (A5 rfl) rfl) ?_)))
 refine A1 rfl zeroValue29 ?_; intro av dt
 refine A6 (i := 0) sizeOf29 rfl rfl rfl (by simp [Value.oneCell']) rfl (A5 rfl) (AD rfl ?_)
 refine ua (Aa ?_)
 obtain ⟨ad, ah, n2, du, bo⟩ := I6 dq
 refine jE ([(av, ce #[.int .i64 ad, .int .i64 ah] 29), (au, ce #[.int .i64 (-1), .int .i64 (-1)] 29), (b2, ce #[.int .i64 0, .int .i64 0] 29)]) [(2, .pointer (some ⟨b2, 0, none⟩)), (7, .pointer (some ⟨au, 0, none⟩)), (8, .pointer (some ⟨av, 0, none⟩)), (9, .int .i64 n2)] ?_ ?_
 ·clear bo
  refine AI (uv (Av Bz rfl) (uv (Ao isAgg24 rfl (Has.own 3 rfl) rfl) (uv (AJ underlying24 rfl) ?_)))
  refine um (Aa ?_)
  refine Ap ?_
  obtain ⟨al, aw, BW, rows, dv, dw⟩ := GV du
  have cv := bm; rw [dv] at cv; obtain ⟨bh, fe, ff, fg, fh, fi, az, ao, aq, fj, fk, bp, bq, dx, dy, dz, eb, br⟩ := CM cv; subst bp; subst br
  refine Fu (L' := [(av, ce #[.int .i64 (-1), .int .i64 (-1)] 29), (au, ce #[.int .i64 (-1), .int .i64 (-1)] 29), (b2, ce #[.int .i64 0, .int .i64 0] 29), (b1, ce #[.slice Ac Ab.length Ad, .slice Aj Af.length Ai] 26), (az, .map ao aq)]) rfl (kW (kc (kc (kc (kd kr)))) ?_)
  refine A2 (fun cw e1 F1 L1 => LA Af cw fun tl k => ∃ (ab : Int) (ae : Int) (n3 : Int), Iy al aw rows tl k ab ae n3 = some (ad, ah, n2) ∧ F6 = F1 ∧ L1 = [(av, ce #[.int .i64 ab, .int .i64 ae] 29), (au, ce #[.int .i64 (-1), .int .i64 (-1)] 29), (b2, ce #[.int .i64 0, .int .i64 0] 29), (az, .map ao aq)] ∧ e1.sub [(2, .pointer (some ⟨b2, 0, none⟩)), (5, .pointer (some ⟨bh, 0, none⟩)), (7, .pointer (some ⟨au, 0, none⟩)), (8, .pointer (some ⟨av, 0, none⟩)), (9, .int .i64 n3), (28, .slice Aj Af.length Ai), (29, .int .i64 (Af.length : Int)), (30, .int .i64 k)]) _ (m0 kr ⟨_, _, rfl, A8.start _, -1, -1, 0, dw, rfl, rfl, z8⟩) ?_
  rintro cw e1 _ _ ⟨tl, k, bu, ba, ab, ae, n3, bj, rfl, rfl, bw⟩
  refine Az _ bw (AI (uv (AV rfl rfl) ?_))
  refine Aa (At ?_)
  refine cQ (fun bk => ?_) fun bk => ?_
  ·obtain ⟨x, fl, rfl, bx, cx, bz⟩ := A8.succ ba bk
   rw [Iy] at bj
   refine Aq ?_
   obtain ⟨ai, ak, n4, ec, cy⟩ := I6 bj
   refine jE ([(av, ce #[.int .i64 ai, .int .i64 ak] 29), (au, ce #[.int .i64 (-1), .int .i64 (-1)] 29), (b2, ce #[.int .i64 0, .int .i64 0] 29), (az, .map ao aq)]) [(2, .pointer (some ⟨b2, 0, none⟩)), (5, .pointer (some ⟨bh, 0, none⟩)), (7, .pointer (some ⟨au, 0, none⟩)), (8, .pointer (some ⟨av, 0, none⟩)), (9, .int .i64 n4), (28, .slice Aj Af.length Ai), (29, .int .i64 (Af.length : Int)), (30, .int .i64 k)] ?_ ?_
   ·clear cy
    refine Ap ?_
    refine AI (um ?_)
    obtain ⟨fm, fo, fp, ef, ca, cb, cz, ⟨da, db, rfl, bl⟩, eg, cc⟩ := Au.at (Ak (Ae _)) aj ([(av, ce #[.int .i64 ab, .int .i64 ae] 29), (au, ce #[.int .i64 (-1), .int .i64 (-1)] 29), (b2, ce #[.int .i64 0, .int .i64 0] 29), (az, .map ao aq)]) cx.1 bx
    refine uv (AF underlying24 sizeOf36 rfl ca rfl cx) (uv (Ao isAgg36 rfl cb (cc 0 (by decide))) ?_)
    refine ua (ua (BI (um ?_)))
    refine uv (AJ underlying36 rfl) ?_
    refine um (Aa ?_)
    refine Ap ?_
    refine A2 (fun dd e1 F1 L1 => LA x dd fun de k2 => ∃ (a6 : Int) (aa : Int) (n5 : Int), FZ al aw rows k de k2 a6 aa n5 = some (ai, ak, n4) ∧ F6 = F1 ∧ L1 = [(av, ce #[.int .i64 a6, .int .i64 aa] 29), (au, ce #[.int .i64 (-1), .int .i64 (-1)] 29), (b2, ce #[.int .i64 0, .int .i64 0] 29), (az, .map ao aq)] ∧ e1.sub [(2, .pointer (some ⟨b2, 0, none⟩)), (5, .pointer (some ⟨bh, 0, none⟩)), (7, .pointer (some ⟨au, 0, none⟩)), (8, .pointer (some ⟨av, 0, none⟩)), (9, .int .i64 n5), (10, .int .i64 k), (28, .slice Aj Af.length Ai), (29, .int .i64 (Af.length : Int)), (30, .int .i64 k), (35, .slice da x.length db), (36, .int .i64 (x.length : Int)), (37, .int .i64 k2)]) _ (m0 kr ⟨_, _, rfl, A8.start _, ab, ae, n3, ec, rfl, rfl, (sc rfl (sc rfl (sc rfl (sc rfl z8))))⟩) ?_
    rintro dd e1 _ _ ⟨de, k2, bb, ax, a6, aa, n5, bg, rfl, rfl, cd⟩
    refine Az _ cd (AI (uv (AV rfl rfl) ?_))
    refine Aa (At ?_)
    refine cQ (fun bd => ?_) fun bd => ?_
    ·obtain ⟨x2, fq, rfl, cf, df, bc⟩ := A8.succ ax bd
     rw [FZ] at bg
     refine Aq (At ?_)
     refine Ap ?_
     refine AI (um ?_)
     obtain ⟨fs, ft, fv, eh, cg, cj, dg, rfl, ei, ck⟩ := Au.at (Ae _) bl ([(av, ce #[.int .i64 a6, .int .i64 aa] 29), (au, ce #[.int .i64 (-1), .int .i64 (-1)] 29), (b2, ce #[.int .i64 0, .int .i64 0] 29), (az, .map ao aq)]) df.1 cf
     refine uv (AF underlying36 sizeOf35 rfl cg rfl df) (uv (Ao isAgg35 rfl cj (ck 0 (by decide))) ?_)
     refine ua (ua (Aa (At (AI (um ?_)))))
     refine uv (BH rfl rfl) (Aa ?_)
     refine cQ (fun cn => ?_) fun cn => ?_
     ·have ej := AQ bg cn
      refine AL (Am ?_)
      refine AA (An (uv (AY rfl rfl (A8.CC ax bd (Au.lt bl))) ?_))
      refine um (Aa ?_)
      subst bb; exact le kr ⟨_, _, rfl, bc, a6, aa, n5, ej, rfl, rfl, (sc rfl (sc rfl (sc rfl (sc rfl z8))))⟩
     have en := AR bg cn
     refine Aq (AI (um (um ?_)))
     refine uv (BL (v := .agg #[.int .i64 k, .int .i64 k2]) rfl (by intro w; kernel_rfl)) ?_
     refine A1 rfl zeroValue29 ?_; intro dh eo
     refine A6 (i := 0) sizeOf29 rfl rfl rfl (by simp [Value.oneCell']) rfl (A5 rfl) (AD rfl ?_)
     refine BI (um ?_)
     refine uv (AE (cs := #[.int .i64 k, .int .i64 k2]) isAgg29 sizeOf29 rfl (Has.own 0 rfl) (A5 rfl) rfl) ?_
     obtain ⟨n6, n7, ep, er⟩ := A9 en
     refine cV call102 (JR bq dx dy eb ep) ?_
     refine ox rfl rfl rfl (ox rfl rfl rfl ?_)
     refine uv (Nk rfl rfl) ?_
     refine ua (Aa ?_)
     obtain ⟨k3, di, cp⟩ := AB er
     refine jE ([(dh, ce #[.int .i64 k, .int .i64 k2] 29), (av, ce #[.int .i64 a6, .int .i64 aa] 29), (au, ce #[.int .i64 (-1), .int .i64 (-1)] 29), (b2, ce #[.int .i64 0, .int .i64 0] 29), (az, .map ao aq)]) [(2, .pointer (some ⟨b2, 0, none⟩)), (5, .pointer (some ⟨bh, 0, none⟩)), (7, .pointer (some ⟨au, 0, none⟩)), (8, .pointer (some ⟨av, 0, none⟩)), (9, .int .i64 n5), (10, .int .i64 k), (14, .pointer (some ⟨dh, 0, none⟩)), (15, .int .i64 (if n7 > n6 then n7 else n6)), (28, .slice Aj Af.length Ai), (29, .int .i64 (Af.length : Int)), (30, .int .i64 k), (35, .slice da x.length db), (36, .int .i64 (x.length : Int)), (37, .int .i64 k2), (60, .bool k3)] ?_ ?_
     ·clear cp
      refine An (uv (AE (cs := #[.int .i64 a6, .int .i64 aa]) isAgg29 sizeOf29 rfl (Has.own 1 rfl) (A5 rfl) rfl) (uv (AE (cs := #[.int .i64 (-1), .int .i64 (-1)]) isAgg29 sizeOf29 rfl (Has.own 2 rfl) (A5 rfl) rfl) (uv (Nh (Po _ _ _ _) (eq_29 _ _ _ _) rfl rfl) (um ?_))))
      by_cases ay : a6 = (-1) ∧ aa = (-1)
      ·have et := AQ di ay
       refine fT ay (fT ay (fT ay ?_))
       refine uv (Aw (AS rfl ay) rfl) (Aa ?_)
       obtain rfl := AH et
       exact mi kr ⟨rfl, rfl, (sc rfl (sc rfl (sc rfl (sc rfl (sc rfl (sc rfl (sc rfl z8)))))))⟩
      have eu := AR di ay
      refine nF ay (um (nF ay (um (nF ay ?_))))
      refine uv (AV rfl rfl) (uv (Ar (AM rfl ay) rfl) (Aa ?_))
      obtain rfl := AH eu
      exact mi kr ⟨rfl, rfl, (sc rfl (sc rfl (sc rfl (sc rfl (sc rfl (sc rfl (sc rfl z8)))))))⟩
     refine AT rfl (fun cq => ?_) (fun cq => ?_)
     ·have ew := bt cp cq
      refine An (uv (AE (cs := #[.int .i64 k, .int .i64 k2]) isAgg29 sizeOf29 rfl (Has.own 0 rfl) (A5 rfl) rfl) (um (A6 (i := 1) sizeOf29 rfl rfl rfl (by simp [Value.oneCell']) rfl (A5 rfl) (AD rfl ?_))))
      refine ua (Aa (Ax (id := 3) (An ?_)))
      refine uv (AY rfl rfl (A8.CC ax bd (Au.lt bl))) ?_
      refine um (Aa ?_)
      subst bb; exact le (kd kr) ⟨_, _, rfl, bc, k, k2, if n7 > n6 then n7 else n6, ew, rfl, rfl, (sc rfl (sc rfl (sc rfl (sc rfl z8))))⟩
     have ey := bf cp cq
     refine Aq (Ax (id := 3) (An ?_))
     refine uv (AY rfl rfl (A8.CC ax bd (Au.lt bl))) ?_
     refine um (Aa ?_)
     subst bb; exact le (kd kr) ⟨_, _, rfl, bc, a6, aa, n5, ey, rfl, rfl, (sc rfl (sc rfl (sc rfl (sc rfl z8))))⟩
    obtain rfl := A8.zero ax bd
    rw [FZ] at bg
    refine AL (Am (Am ?_))
    refine AA (Ax (id := 1) ?_)
    obtain ⟨rfl, rfl, rfl⟩ := IK bg
    exact mi kr ⟨rfl, rfl, z8⟩
   refine An (uv (AY rfl rfl (A8.CC ba bk (Au.lt aj))) ?_)
   refine um (Aa ?_)
   subst bu; exact le kr ⟨_, _, rfl, bz, ai, ak, n4, cy, rfl, rfl, z8⟩
  obtain rfl := A8.zero ba bk
  rw [Iy] at bj
  refine AL (Am (Am ?_))
  refine AA ?_
  obtain ⟨rfl, rfl, rfl⟩ := IK bj
  exact mi (kc (kc (kc kn))) ⟨rfl, rfl, z4⟩
 refine At (AI ?_)
 refine uv (AE (cs := #[.int .i64 ad, .int .i64 ah]) isAgg29 sizeOf29 rfl (Has.own 0 rfl) (A5 rfl) rfl) (uv (AE (cs := #[.int .i64 (-1), .int .i64 (-1)]) isAgg29 sizeOf29 rfl (Has.own 1 rfl) (A5 rfl) rfl) (uv (Nh (Po _ _ _ _) (eq_29 _ _ _ _) rfl rfl) (Aa ?_)))
 refine cQ (fun cr => ?_) fun cr => ?_
 ·have ct := AQ bo cr
  refine AI ?_
  refine uv (BL (v := .agg #[.int .i64 0, .int .i64 0]) rfl (by intro w; kernel_rfl)) ?_
  refine A6 (i := 2) sizeOf29 rfl rfl rfl (by simp [Value.oneCell']) rfl (A5 rfl) (AD rfl ?_)
  refine ua (ua (Aa ?_))
  refine kW (kd (kd kr)) ?_
  refine As (Al ?_)
  refine Kk results52 (CK (cs := #[.int .i64 0, .int .i64 0]) isAgg29 sizeOf29 rfl (Has.own 0 rfl) (A5 rfl) rfl) (AP rfl) (AP rfl) (s1 sr) ?_
  obtain ⟨rfl, rfl, rfl, rfl⟩ := Lg ct
  exact rfl
 have cu := AR bo cr
 refine Aq (AI ?_)
 refine uv (AE (cs := #[.int .i64 ad, .int .i64 ah]) isAgg29 sizeOf29 rfl (Has.own 0 rfl) (A5 rfl) rfl) (um (A6 (i := 2) sizeOf29 rfl rfl rfl (by simp [Value.oneCell']) rfl (A5 rfl) (AD rfl ?_)))
 refine ua (ua (Aa ?_))
 refine kW (kd (kd kr)) (As (Kk results52 (CK (cs := #[.int .i64 ad, .int .i64 ah]) isAgg29 sizeOf29 rfl (Has.own 0 rfl) (A5 rfl) rfl) (AP rfl) (AP rfl) (s1 sr) ?_))
 obtain ⟨rfl, rfl, rfl, rfl⟩ := Lg cu
 exact rfl
theorem K1 {r : Bool} (hr : I1 x = some r) :
    Ba Tryz.prog 132 #[.int .i64 x] F (.bool r) := by
 refine sp func132 ntmps132 fun K _ _ => ?_
 rw [I1] at hr
 refine AI (ua (BI (um (um ?_))))
 refine uv (BH rfl rfl) ?_
 refine ua (Aa (As ?_))
 refine BD results132 ?_
 obtain rfl := AH hr
 exact rfl
theorem Mt {y r : Int} (hr : Je x y = some r) :
    Ba Tryz.prog 126 #[.int .i64 x, .int .i64 y] F (.int .i64 r) := by
 refine sp func126 ntmps126 fun K _ _ => ?_
 rw [Je] at hr
 refine AI (ua (BI (um ?_)))
 obtain ⟨ok, h1, r2⟩ := AB hr
 refine cV call132 (K1 h1) ?_
 refine ua (BI (um ?_))
 obtain ⟨ao, h3, r4⟩ := AB r2
 refine cV call132 (K1 h3) ?_
 refine ua (Aa (At (AI (um (Aa ?_)))))
 refine AT rfl (fun c5 => ?_) (fun c5 => ?_)
 ·have r6 := bt r4 c5
  refine At (AI (um (Aa ?_)))
  refine AT rfl (fun c7 => ?_) (fun c7 => ?_)
  ·have r8 := bt r6 c7
   refine AI (ua (Aa (As (Al (Al ?_)))))
   refine BD results126 ?_
   obtain rfl := AH r8
   exact rfl
  have r9 := bf r6 c7
  refine Aq (AI (ua (Aa (As (Al ?_)))))
  refine BD results126 ?_
  obtain rfl := AH r9
  exact rfl
 have ad := bf r4 c5
 refine Aq (At (AI (um (Aa ?_))))
 refine AT rfl (fun a6 => ?_) (fun a6 => ?_)
 ·have ai := bt ad a6
  refine AI (ua (Aa (As (Al ?_))))
  refine BD results126 ?_
  obtain rfl := AH ai
  exact rfl
 have ae := bf ad a6
 refine Aq (At (AI (um (um ?_))))
 refine uv (AV rfl rfl) (Aa ?_)
 refine cQ (fun aa => ?_) fun aa => ?_
 ·have aj := AQ ae aa
  refine AI (ua (Aa (As (Al ?_))))
  refine BD results126 ?_
  obtain rfl := AH aj
  exact rfl
 have ah := AR ae aa
 refine Aq (At (AI (um (um ?_))))
 refine uv (Em rfl rfl) (Aa ?_)
 refine cQ (fun ab => ?_) fun ab => ?_
 ·have ak := AQ ah ab
  refine AI (ua (Aa (As (Al ?_))))
  refine BD results126 ?_
  obtain rfl := AH ak
  exact rfl
 have al := AR ah ab
 refine Aq (AI (ua (Aa (As ?_))))
 refine BD results126 ?_
 obtain rfl := AH al
 exact rfl
set_option maxHeartbeats 1000000 in
theorem Kq {s1 s2 : List Int} (a6 : Au 1 (iE .i64) F Jk Jj s1) (aa : Au 1 (iE .i64) F Jq Js s2) {r : Int} (hr : Gc s1 s2 = some r) :
    Ba Tryz.prog 104 #[.slice Jk s1.length Jj, .slice Jq s2.length Js] F (.int .i64 r) := by
 refine sp func104 ntmps104 fun K _ _ => ?_
 rw [Gc] at hr
 refine AI (ua (Aa ?_))
 refine AK (fun e1 F1 L1 => EN s1 s2 = some r ∧ F = F1 ∧ L1 = [] ∧ e1.sub [(0, .slice Jk s1.length Jj), (1, .slice Jq s2.length Js)]) ?_ ?_
 ·refine AI (um ?_)
  refine uv (AJ underlying22 rfl) ?_
  refine um (Aa ?_)
  refine Ap ?_
  refine A2 (fun aw e1 F1 L1 => LA s1 aw fun tl k => CE s1 s2 tl k = some r ∧ F = F1 ∧ L1 = [] ∧ e1.sub [(0, .slice Jk s1.length Jj), (1, .slice Jq s2.length Js), (9, .slice Jk s1.length Jj), (10, .int .i64 (s1.length : Int)), (11, .int .i64 k)]) _ (m0 kr ⟨_, _, rfl, A8.start _, hr, rfl, rfl, z5⟩) ?_
  rintro aw e1 _ _ ⟨tl, k, bb, ab, r3, rfl, rfl, bc⟩
  refine Az _ bc (AI (uv (AV rfl rfl) ?_))
  refine Aa (At ?_)
  refine cQ (fun c6 => ?_) fun c6 => ?_
  ·obtain ⟨x, bx, rfl, bd, g9, bg⟩ := A8.succ ab c6
   rw [CE] at r3
   refine Aq (At ?_)
   refine Ap ?_
   refine AI (um ?_)
   obtain ⟨PK, bz, ca, bh, ad, ae, ax, rfl, bj, ah⟩ := Au.at (Ae _) a6 ([]) g9.1 bd
   refine uv (AF underlying22 sizeOf3 rfl ad rfl g9) (uv (Ao isAgg3 rfl ae (ah 0 (by decide))) ?_)
   refine ua (ua (Aa (At (AI (um (um ?_))))))
   refine uv (AJ underlying22 rfl) (uv (Hy rfl rfl) (Aa ?_))
   refine cQ (fun ai => ?_) fun ai => ?_
   ·have bk := AQ r3 ai
    refine AI (ua (Aa (As (Al (Ay (Al (Al (Ay (Al ?_)))))))))
    refine BD results104 ?_
    obtain rfl := AH bk
    exact rfl
   have bl := AR r3 ai
   refine Aq (AI (um (um ?_)))
   obtain ⟨x2, ay, aj, bm⟩ := A7 bl
   obtain ⟨cb, cc, cd, bn, ak, al, az, rfl, bo, ao⟩ := Au.at (Ae _) aa ([]) ay.1 aj
   refine uv (AF underlying22 sizeOf3 rfl ak rfl ay) (uv (Ao isAgg3 rfl al (ao 0 (by decide))) ?_)
   refine ua (BI (um (um ?_)))
   obtain ⟨n, bp, ba⟩ := AB bm
   refine cV call126 (Mt bp) ?_
   refine ua (BI (um ?_))
   refine uv (BH rfl rfl) (Aa ?_)
   refine cQ (fun aq => ?_) fun aq => ?_
   ·have bq := AQ ba aq
    refine AI (um (ua (Aa (As (Ay (Al (Al (Ay (Al ?_)))))))))
    refine BD results104 ?_
    obtain rfl := AH bq
    exact rfl
   have br := AR ba aq
   refine Aq (Ax (id := 1) (An ?_))
   refine uv (AY rfl rfl (A8.CC ab c6 (Au.lt a6))) ?_
   refine um (Aa ?_)
   subst bb; exact le kr ⟨_, _, rfl, bg, br, rfl, rfl, z5⟩
  obtain rfl := A8.zero ab c6
  rw [CE] at r3
  refine AL (Am (Am ?_))
  refine AA ?_
  exact mi kr ⟨r3, rfl, rfl, z2⟩
 rintro e1 _ _ ⟨ar, rfl, rfl, au⟩
 refine Az _ au ?_
 rw [EN] at ar
 refine At (AI (um ?_))
 refine uv (AJ underlying22 rfl) (um (uv (AJ underlying22 rfl) (uv (AV rfl rfl) (Aa ?_))))
 refine cQ (fun av => ?_) fun av => ?_
 ·have bu := AQ ar av
  refine AI (ua (Aa (As (Al ?_))))
  refine BD results104 ?_
  obtain rfl := AH bu
  exact rfl
 have bw := AR ar av
 refine Aq (AI (ua (Aa (As ?_))))
 refine BD results104 ?_
 obtain rfl := AH bw
 exact rfl
set_option maxHeartbeats 1000000 in
theorem NL (ba : Au 1 (Bm 1 (iE .i64)) F Ac Ad Ab) (ck : Au 1 (Bm 1 (iE .i64)) F Aj Ai Af) {r : List (Int × Int)} (hr : Lf Ab Af = some (r, r2)) :
    SH.Spec Tryz.prog 53 #[.agg #[.slice Ac Ab.length Ad, .slice Aj Af.length Ai]] F [] fun F' L' v => ∃ (ra : Option Addr) (rn : Nat) (rc : Nat) (rL : LH), v = .tuple #[.slice ra rn rc, .int .i64 r2] ∧ L' = rL ++ [] ∧ AW 0 29 2 (OC (iE .i64) (iE .i64)) F' ra rn rc r rL := by
 refine sp func53 ntmps53 fun K _ _ => ?_
 rw [Lf] at hr
 refine AI ?_
 refine By rfl rfl ?_; intro b1 my
 refine ua (ua (BI ?_))
 refine uv (AE (cs := #[.slice Ac Ab.length Ad, .slice Aj Af.length Ai]) isAgg26 sizeOf26 rfl (Has.own 0 rfl) (A5 rfl) rfl) ?_
 obtain ⟨d, n, h2, r3⟩ := A9 hr
 refine c0 call67 (Ct ba ck h2) ?_; rintro _ F4 _ mz na ⟨v8, ll, rfl, rfl, lq⟩
 refine AD (lp (ln rfl)) ?_
 refine kO (kf (fS fO) kr) ?_
 refine um (ox rfl rfl rfl (ox rfl rfl rfl (ua (ua (Aa (At (AI (um ?_))))))))
 refine uv (BH rfl rfl) ?_
 refine Aa ?_
 refine cQ (fun il => ?_) fun il => ?_
 ·have lr := AQ r3 il
  refine AI (um (ua (ua (Aa ?_))))
  refine kW kn ?_
  refine As (Al ?_)
  refine Bu results53 (AP rfl) (AP rfl) (sr) ?_
  obtain ⟨rfl, rfl⟩ := BT lr
  exact ⟨_, _, _, [], rfl, rfl, AW.nil _ _ _ _ _⟩
 have lu := AR r3 il
 refine Aq (AI (ua (Aa ?_)))
 obtain ⟨out, lv, km⟩ := AB lu
 refine AK (fun e1 F1 L1 => ∃ (im : Option Addr) (iq : Nat) (ir : Nat) (dy : LH), AN F4 F1 ∧ L1 = (dy ++ []) ∧ e1.sub [(6, .slice im iq ir)] ∧ AW K.w0.heap.size 29 2 (OC (iE .i64) (iE .i64)) F1 im iq ir out dy) ?_ ?_
 ·clear km
  refine AI ?_
  refine uv (Av Bz rfl) ?_
  refine uv (Ao isAgg24 rfl (Has.own 0 rfl) rfl) ?_
  refine uv (AJ underlying24 rfl) ?_
  refine um (Aa ?_)
  refine Ap ?_
  obtain ⟨ak, bk, BW, rows, lx, ly⟩ := GV lv
  have ko := lq; rw [lx] at ko; obtain ⟨cj, nc, nf, ng, nh, ni, bb, eu, ew, nj, nk, iu, bc, er, et, iv, np, iw⟩ := CM ko; subst iu; subst iw
  refine Fu (L' := [(b1, ce #[.slice Ac Ab.length Ad, .slice Aj Af.length Ai] 26), (bb, .map eu ew)]) rfl ?_
  refine kW (kd kr) ?_
  obtain ⟨lz, ma⟩ := AX ly
  refine A2 (fun gw e1 F1 L1 => ∃ (k : Int), CZ 0 (Af.length : Int) k gw ∧ ∃ (m : List (Int × Int)) (cn : List (Int × Int)) (cp : Array MapEntry) (dz : Nat) (bg : Option Addr) (bh : Nat) (bj : Nat) (ab : LH), Hj ak bk gw k m cn = some out ∧ AN F4 F1 ∧ L1 = ((bb, .map cp dz) :: (ab ++ [])) ∧ e1.sub [(4, .pointer (some ⟨cj, 0, none⟩)), (6, .slice bg bh bj), (26, .int .i64 (Af.length : Int)), (27, .int .i64 k)] ∧ HO (Value.int .i64) (Value.int .i64) cp m ∧ AW K.w0.heap.size 29 2 (OC (iE .i64) (iE .i64)) F1 bg bh bj cn ab) _ (m0 (kc (ke kr)) ⟨_, CZ.start _ _, BW, [], eu, ew, none, 0, 0, [], ma, AN.refl _, rfl, z4, iv, AW.nil _ _ _ _ _⟩) ?_
  rintro gw e1 iy _ ⟨k, eb, m, cn, cp, dz, bg, bh, bj, ab, gx, bl, rfl, iz, j0, cq⟩
  refine Az _ iz ?_
  replace er := er.mono (Ak (Ae _)) bl
  replace et := et.mono (Ak (Ae _)) bl
  replace bc := bl _ _ bc
  refine AI ?_
  refine uv (AV rfl rfl) ?_
  refine Aa (At ?_)
  refine cQ (fun gy => ?_) fun gy => ?_
  ·obtain ⟨gw, rfl, j1⟩ := CZ.succ eb gy
   rw [Hj] at gx
   refine Aq ?_
   obtain ⟨m2, ec, mb, kt⟩ := A9 gx
   refine AK (fun e1 F1 L1 => ∃ (cr : Array MapEntry) (ef : Nat) (gz : Option Addr) (ia : Nat) (ib : Nat) (ct : LH), AN iy F1 ∧ L1 = ((bb, .map cr ef) :: (ct ++ [])) ∧ e1.sub [(4, .pointer (some ⟨cj, 0, none⟩)), (6, .slice gz ia ib), (26, .int .i64 (Af.length : Int)), (27, .int .i64 k)] ∧ HO (Value.int .i64) (Value.int .i64) cr m2 ∧ AW K.w0.heap.size 29 2 (OC (iE .i64) (iE .i64)) F1 gz ia ib ec ct) ?_ ?_
   ·clear kt
    refine Ap ?_
    refine AI (um (ua (BI (ua (BI (ua (Aa ?_)))))))
    obtain ⟨m3, cu, mc, ku⟩ := A9 mb
    refine AK (fun e1 F1 L1 => ∃ (bd : Array MapEntry) (bm : Nat) (ic : Option Addr) (ie : Nat) (ig : Nat) (bn : LH), AN iy F1 ∧ L1 = ((bb, .map bd bm) :: (ab ++ (bn ++ []))) ∧ e1.sub [(4, .pointer (some ⟨cj, 0, none⟩)), (6, .slice bg bh bj), (7, .int .i64 k), (8, .slice ic ie ig), (26, .int .i64 (Af.length : Int)), (27, .int .i64 k)] ∧ HO (Value.int .i64) (Value.int .i64) bd m3 ∧ AW K.w0.heap.size 3 1 (iE .i64) F1 ic ie ig cu bn) ?_ ?_
    ·clear ku
     refine AI (um ?_)
     obtain ⟨n2, me, mg⟩ := AB mc
     refine cV call69 (BY bc er et me) ?_
     refine um (Aa ?_)
     refine Ap ?_
     obtain ⟨mh, mj⟩ := AX mg
     refine A2 (fun ij e1 F1 L1 => ∃ (k2 : Int), CZ 0 n2 k2 ij ∧ ∃ (m4 : List (Int × Int)) (al : List Int) (found : Bool) (cv : Array MapEntry) (eg : Nat) (cw : Option Addr) (cx : Nat) (cy : Nat) (ah : LH), Hl ak bk k ij k2 m4 al found = some (m3, cu) ∧ AN iy F1 ∧ L1 = ((bb, .map cv eg) :: (ab ++ (ah ++ []))) ∧ e1.sub [(4, .pointer (some ⟨cj, 0, none⟩)), (6, .slice bg bh bj), (7, .int .i64 k), (8, .slice cw cx cy), (9, .bool found), (26, .int .i64 (Af.length : Int)), (27, .int .i64 k), (31, .int .i64 n2), (32, .int .i64 k2)] ∧ HO (Value.int .i64) (Value.int .i64) cv m4 ∧ AW K.w0.heap.size 3 1 (iE .i64) F1 cw cx cy al ah) _ (m0 (kc (ka (ke kr))) ⟨_, CZ.start _ _, m, [], false, cp, dz, none, 0, 0, [], mj, AN.refl _, rfl, (sc rfl z8), j0, AW.nil _ _ _ _ _⟩) ?_
     rintro ij e1 ey _ ⟨k2, eh, m4, al, found, cv, eg, cw, cx, cy, ah, cz, ao, rfl, ez, fa, aq⟩
     refine Az _ ez ?_
     replace er := er.mono (Ak (Ae _)) ao
     replace et := et.mono (Ak (Ae _)) ao
     replace bc := ao _ _ bc
     refine AI ?_
     refine uv (AV rfl rfl) ?_
     refine Aa (At ?_)
     refine cQ (fun da => ?_) fun da => ?_
     ·obtain ⟨ij, rfl, fb⟩ := CZ.succ eh da
      rw [Hl] at cz
      refine Aq ?_
      obtain ⟨m5, du, bo, j2, fe⟩ := I6 cz
      refine AK (fun e1 F1 L1 => ∃ (ax : Array MapEntry) (bp : Nat) (db : Option Addr) (dd : Nat) (de : Nat) (ay : LH), AN ey F1 ∧ L1 = ((bb, .map ax bp) :: (ab ++ (ay ++ []))) ∧ e1.sub [(4, .pointer (some ⟨cj, 0, none⟩)), (6, .slice bg bh bj), (7, .int .i64 k), (8, .slice db dd de), (9, .bool bo), (26, .int .i64 (Af.length : Int)), (27, .int .i64 k), (31, .int .i64 n2), (32, .int .i64 k2)] ∧ HO (Value.int .i64) (Value.int .i64) ax m5 ∧ AW K.w0.heap.size 3 1 (iE .i64) F1 db dd de du ay) ?_ ?_
      ·clear fe
       refine Ap ?_
       refine AI (um (ua (BI (ua (Aa ?_)))))
       obtain ⟨m6, l, j3, ff⟩ := A9 j2
       refine AK (fun e1 F1 L1 => ∃ (ae : Array MapEntry) (ai : Nat) (bq : Option Addr) (br : Nat) (bu : Nat) (aj : LH), AN ey F1 ∧ L1 = ((bb, .map ae ai) :: (ab ++ (ah ++ (aj ++ [])))) ∧ e1.sub [(4, .pointer (some ⟨cj, 0, none⟩)), (6, .slice bg bh bj), (7, .int .i64 k), (8, .slice cw cx cy), (9, .bool found), (11, .slice bq br bu), (26, .int .i64 (Af.length : Int)), (27, .int .i64 k), (31, .int .i64 n2), (32, .int .i64 k2)] ∧ HO (Value.int .i64) (Value.int .i64) ae m6 ∧ AW K.w0.heap.size 3 1 (iE .i64) F1 bq br bu l aj) ?_ ?_
       ·clear ff
        refine AI (um (um (um ?_)))
        obtain ⟨n3, ei, j4, j5⟩ := A9 j3
        refine cG call103 (JH bc er et fa j4) ?_; rintro _ fg _ fh kv kz ⟨bw, bx, rfl, rfl, fi⟩
        refine AD (lb (ln rfl)) ?_
        refine ua (ua (Aa ?_))
        refine Ap ?_
        refine A2 (fun ik e1 F1 L1 => ∃ (l2 : List Int) (i : Int) (ar : Int) (bz : Option Addr) (ca : Nat) (cb : Nat) (au : LH), Hc ei ik l2 i ar = some (m6, l) ∧ fg = F1 ∧ L1 = ((bb, .map bw bx) :: (ab ++ (ah ++ (au ++ [])))) ∧ e1.sub [(4, .pointer (some ⟨cj, 0, none⟩)), (6, .slice bg bh bj), (7, .int .i64 k), (8, .slice cw cx cy), (9, .bool found), (11, .slice bz ca cb), (12, .int .i64 i), (13, .int .i64 ar), (26, .int .i64 (Af.length : Int)), (27, .int .i64 k), (31, .int .i64 n2), (32, .int .i64 k2)] ∧ AW K.w0.heap.size 3 1 (iE .i64) F1 bz ca cb l2 au) FU (m0 (kc (ka (ka (ke kr)))) ⟨[], 0, n3, none, 0, 0, [], j5, rfl, rfl, (sc rfl (sc rfl (sc rfl (sc rfl z8)))), AW.nil _ _ _ _ _⟩) ?_
        rintro ik e1 _ _ ⟨l2, i, ar, bz, ca, cb, au, cc, rfl, rfl, fj, cd⟩
        refine Az _ fj ?_
        rcases ik with _ | ik
        ·rw [Hc] at cc; cases cc
        rw [Hc] at cc
        refine At (AI (um ?_))
        refine uv (Em rfl rfl) ?_
        refine Aa ?_
        refine cQ (fun ej => ?_) fun ej => ?_
        ·have j6 := AQ cc ej
         refine Aq ?_
         obtain ⟨l3, fk, fl⟩ := AB j6
         refine AK (fun e1 F1 L1 => ∃ (df : Option Addr) (dg : Nat) (dh : Nat) (az : LH), fg = F1 ∧ L1 = ((bb, .map bw bx) :: (ab ++ (ah ++ (az ++ [])))) ∧ e1.sub [(4, .pointer (some ⟨cj, 0, none⟩)), (6, .slice bg bh bj), (7, .int .i64 k), (8, .slice cw cx cy), (9, .bool found), (11, .slice df dg dh), (12, .int .i64 i), (13, .int .i64 ar), (26, .int .i64 (Af.length : Int)), (27, .int .i64 k), (31, .int .i64 n2), (32, .int .i64 k2)] ∧ AW K.w0.heap.size 3 1 (iE .i64) F1 df dg dh l3 az) ?_ ?_
         ·clear fl
          refine Ap ?_
          refine AI (um ?_)
          refine uv (KA rfl rfl) ?_
          refine uv (Bb rfl rfl) ?_
          refine Aa ?_
          refine cQ (fun en => ?_) fun en => ?_
          ·have j7 := AQ fk en
           refine An (um (um ?_))
           refine bA (cs := #[.int .i64 i]) BN [.int .i64 i] ?_; intro ml la
           obtain ⟨l4, j8, j9, ja⟩ := E0 j7
           refine Dm (xs := l2) (ys := [i]) (zs := l4) rfl BN rfl rfl (Nat.le_refl _) (fun _ => .c (.c (.s (.s .h)))) cd (GO.box (vss := [[.int .i64 i]]) (ys := [i]) 0 rfl (Ae _) (.cons rfl .nil) rfl rfl) j8 j9 (by decide) ?_; intro jb jc jd fm fo
           refine kO (kd kr) ?_
           refine ua (Aa (Ax (id := 5) ?_))
           obtain rfl := AH ja
           exact mi kr ⟨jb, jc, jd, fm, rfl, rfl, (sc rfl (sc rfl (sc rfl (sc rfl z8)))), fo⟩
          have je := AR fk en
          refine Aq (Ax (id := 5) ?_)
          obtain rfl := AH je
          exact mi kr ⟨bz, ca, cb, au, rfl, rfl, (sc rfl (sc rfl (sc rfl (sc rfl z8)))), cd⟩
         rintro e1 _ _ ⟨df, dg, dh, az, rfl, rfl, fp, fq⟩
         refine Az _ fp ?_
         refine An (um ?_)
         obtain ⟨jf, jg⟩ := AX fl
         refine uv (AY rfl rfl jf) ?_
         refine um ?_
         refine uv (K0 rfl rfl (by decide)) ?_
         refine ua (ua (Aa ?_))
         exact le kr ⟨l3, i + 1, shr ar 1, df, dg, dh, az, jg, rfl, rfl, (sc rfl (sc rfl (sc rfl (sc rfl z8)))), fq⟩
        have jh := AR cc ej
        refine AL (Am (Am ?_))
        refine AA ?_
        obtain ⟨rfl, rfl⟩ := BT jh
        exact mi kr ⟨bw, bx, bz, ca, cb, au, fh, rfl, (sc rfl (sc rfl z8)), fi, cd⟩
       rintro e1 mn _ ⟨ae, ai, bq, br, bu, aj, cf, rfl, fs, dv, av⟩
       refine Az _ fs ?_
       replace aq := aq.mono (Ae _) cf
       obtain ⟨k3, ft, eo⟩ := AB ff
       refine jE (((bb, .map ae ai) :: (ab ++ (ah ++ (aj ++ []))))) [(4, .pointer (some ⟨cj, 0, none⟩)), (6, .slice bg bh bj), (7, .int .i64 k), (8, .slice cw cx cy), (9, .bool found), (11, .slice bq br bu), (26, .int .i64 (Af.length : Int)), (27, .int .i64 k), (31, .int .i64 n2), (32, .int .i64 k2), (73, .bool k3)] ?_ ?_
       ·clear eo
        refine An (um ?_)
        refine uv (BM rfl) ?_
        refine um ?_
        rcases Bf (!found) with aa | aa
        ·have ji := bt ft aa
         refine fB aa (fB aa (fB aa (fB aa (fB aa ?_))))
         refine uv (Aw (En rfl aa) rfl) ?_
         refine um (Ah (b' := true) 61 rfl rfl rfl rfl (Ah (b' := true) 61 rfl rfl rfl rfl (Ah (b' := true) 61 rfl rfl rfl rfl (Ah (b' := true) 61 rfl rfl rfl rfl (Ah (b' := true) 61 rfl rfl rfl rfl (Ah (b' := true) 61 rfl rfl rfl rfl (fU (fU (fU ?_)))))))))
         refine fU (Ah (b' := true) 61 rfl rfl rfl rfl ?_)
         refine uv (Aw rfl rfl) ?_
         refine Aa ?_
         obtain rfl := AH ji
         exact mi kr ⟨rfl, rfl, (sc rfl (sc rfl (sc rfl z8)))⟩
        have fv := bf ft aa
        refine nB aa (um (nB aa ?_))
        refine uv ((AJ underlying22 rfl).i (AW.GN av)) ?_
        refine nB aa (um (nB aa ?_))
        refine uv ((AJ underlying22 rfl).i (AW.GN aq)) ?_
        refine nB aa ?_
        refine uv (AV rfl rfl) ?_
        refine uv (Ar (En rfl aa) rfl) ?_
        refine um ?_
        by_cases a6 : (l.length : Int) < (al.length : Int)
        ·have jj := AQ fv a6
         refine fT a6 (fT a6 (fT a6 (fT a6 (fT a6 (fT a6 (fU (fU (fU (fU ?_)))))))))
         refine fT a6 ?_
         refine uv (Aw (AS rfl a6) rfl) ?_
         refine Aa ?_
         obtain rfl := AH jj
         exact mi kr ⟨rfl, rfl, (sc rfl (sc rfl (sc rfl z8)))⟩
        have fw := AR fv a6
        refine nF a6 (um (nF a6 ?_))
        refine uv ((AJ underlying22 rfl).i (AW.GN av)) ?_
        refine nF a6 (um (nF a6 ?_))
        refine uv ((AJ underlying22 rfl).i (AW.GN aq)) ?_
        refine nF a6 ?_
        refine uv (Bb rfl rfl) ?_
        refine nF a6 (um ?_)
        by_cases ad : (l.length : Int) = (al.length : Int)
        ·have jk := AQ fw ad
         refine nT ad (um (nT ad (um (nT ad ?_))))
         obtain ⟨n4, jl, jm⟩ := AB jk
         refine Bi (Lt := aj ++ (ah ++ [])) (Lr := (bb, .map ae ai) :: (ab ++ [])) rfl call104 rfl rfl rfl (pT ((fC (fS (fS fP))).trans (pA ((fC (fS fP)).trans (pA pR)))) (lp (lp (ln rfl)))) (fun F2 h2 h3 => by rw [(AW.Be av).1]; rw [(AW.Be aq).1]; exact Kq (av.row (Ae _) h2 (fun p hp => h3 p (List.mem_append_left _ hp))) (aq.row (Ae _) h2 (fun p hp => h3 p (List.mem_append_right _ (List.mem_append_left _ hp)))) jl) ?_
         refine nT ad ?_
         refine uv (AV rfl rfl) ?_
         refine nF a6 ?_
         refine uv (Aw (AS rfl ad) rfl) ?_
         refine uv (Ar (AM rfl a6) rfl) ?_
         refine Aa ?_
         obtain rfl := AH jm
         exact mi kr ⟨rfl, rfl, (sc rfl (sc rfl (sc rfl z8)))⟩
        have jn := AR fw ad
        refine fF ad (fF ad (fF ad (fF ad (nF a6 ?_))))
        refine uv (Ar (AM rfl ad) rfl) ?_
        refine uv (Ar (AM rfl a6) rfl) ?_
        refine Aa ?_
        obtain rfl := AH jn
        exact mi kr ⟨rfl, rfl, (sc rfl (sc rfl (sc rfl z8)))⟩
       refine AT rfl (fun ep => ?_) (fun ep => ?_)
       ·have jo := bt eo ep
        refine An (um (ua (ua (Aa (Ax (id := 3) ?_)))))
        obtain ⟨rfl, rfl, rfl⟩ := IK jo
        exact mi (kc (ka (kx kr))) ⟨ae, ai, bq, br, bu, aj, cf, rfl, (sc rfl z8), dv, av⟩
       have jq := bf eo ep
       refine Aq (Ax (id := 3) ?_)
       obtain ⟨rfl, rfl, rfl⟩ := IK jq
       exact mi (kc (ka (ka kn))) ⟨ae, ai, cw, cx, cy, ah, cf, rfl, (sc rfl z8), dv, aq⟩
      rintro e1 mo _ ⟨ax, bp, db, dd, de, ay, fx, rfl, fy, g0, g8⟩
      refine Az _ fy ?_
      refine An ?_
      refine uv (AY rfl rfl (CZ.CC eh da mh)) ?_
      refine um (Aa ?_)
      exact le kr ⟨_, fb, m5, du, bo, ax, bp, db, dd, de, ay, fe, (ao.trans fx), rfl, (sc rfl z8), g0, g8⟩
     obtain rfl := CZ.zero eh da
     rw [Hl] at cz
     refine AL (Am (Am ?_))
     refine AA ?_
     obtain ⟨rfl, rfl⟩ := BT cz
     exact mi kr ⟨cv, eg, cw, cx, cy, ah, ao, rfl, z6, fa, aq⟩
    rintro e1 jr _ ⟨bd, bm, ic, ie, ig, bn, dw, rfl, ga, js, di⟩
    refine Az _ ga ?_
    replace cq := cq.mono (KM (Ae _) (Ae _)) dw
    refine AI (um ?_)
    refine uv ((AJ underlying22 rfl).i (AW.GN di)) ?_
    refine um (Aa ?_)
    refine Ap ?_
    refine A2 (fun ld e1 F1 L1 => LA cu ld fun tl k4 => ∃ (dk : List (Int × Int)) (dm : Option Addr) (dp : Nat) (dq : Nat) (aw : LH), Hk k m3 tl dk = some (m2, ec) ∧ jr = F1 ∧ L1 = ((bb, .map bd bm) :: (aw ++ (bn ++ []))) ∧ e1.sub [(4, .pointer (some ⟨cj, 0, none⟩)), (6, .slice dm dp dq), (7, .int .i64 k), (26, .int .i64 (Af.length : Int)), (27, .int .i64 k), (76, .slice ic ie ig), (77, .int .i64 (cu.length : Int)), (78, .int .i64 k4)] ∧ AW K.w0.heap.size 29 2 (OC (iE .i64) (iE .i64)) F1 dm dp dq dk aw) _ (m0 kr ⟨_, _, rfl, A8.start _, cn, bg, bh, bj, ab, ku, rfl, rfl, z8, cq⟩) ?_
    rintro ld e1 _ _ ⟨tl, k4, gb, cg, dk, dm, dp, dq, aw, dr, rfl, rfl, gg, dx⟩
    refine Az _ gg ?_
    refine AI ?_
    refine uv (AV rfl rfl) ?_
    refine Aa (At ?_)
    refine cQ (fun dt => ?_) fun dt => ?_
    ·obtain ⟨x, nq, rfl, gh, gi, gj⟩ := A8.succ cg dt
     rw [Hk] at dr
     refine Aq (At ?_)
     refine Ap ?_
     refine AI ?_
     obtain ⟨mq, mr, mu, lg, gk, gl, jt, rfl, lh, gm⟩ := AW.at (Ae _) di (L := (bb, .map bd bm) :: (aw ++ (bn ++ []))) (fC (fS fP)) gi.1 gh
     refine uv (AF underlying22 sizeOf3 rfl gk rfl (AW.idx di gi)) ?_
     refine uv (Ao isAgg3 rfl gl (gm 0 (by decide))) ?_
     refine ua (Aa (An (um (um (um ?_)))))
     refine uv (BL (v := .agg #[.int .i64 k, .int .i64 x]) rfl (by intro w; kernel_rfl)) ?_
     refine bA (cs := #[.int .i64 k, .int .i64 x]) N4 [.agg #[.int .i64 k, .int .i64 x]] ?_; intro mv lj
     obtain ⟨gn, ju, jv, jw⟩ := E0 dr
     refine Dm (xs := dk) (ys := [(k, x)]) (zs := gn) rfl N4 rfl rfl (Nat.le_refl _) (fun _ => .c (.c .h)) dx (GO.box (vss := [[.int .i64 k, .int .i64 x]]) (ys := [(k, x)]) 0 rfl (KM (Ae _) (Ae _)) (.cons ⟨_, _, rfl, rfl, rfl⟩ .nil) rfl rfl) ju jv (by decide) ?_; intro jx jz kb gp gq
     refine kO (kd kr) ?_
     refine ua (Aa (Ax (id := 7) (An ?_)))
     refine uv (AY rfl rfl (A8.CC cg dt (AW.O6 di))) ?_
     refine um (Aa ?_)
     subst gb; exact le kr ⟨_, _, rfl, gj, gn, jx, jz, kb, gp, jw, rfl, rfl, z8, gq⟩
    obtain rfl := A8.zero cg dt
    rw [Hk] at dr
    refine AL (Am (Am ?_))
    refine AA ?_
    refine Ax (id := 1) ?_
    obtain ⟨rfl, rfl⟩ := BT dr
    exact mi (kc (ka kn)) ⟨bd, bm, dm, dp, dq, aw, dw, rfl, z4, js, dx⟩
   rintro e1 mw _ ⟨cr, ef, gz, ia, ib, ct, gr, rfl, gu, kh, kj⟩
   refine Az _ gu ?_
   refine An ?_
   refine uv (AY rfl rfl (CZ.CC eb gy lz)) ?_
   refine um (Aa ?_)
   exact le kr ⟨_, j1, m2, ec, cr, ef, gz, ia, ib, ct, kt, (bl.trans gr), rfl, z4, kh, kj⟩
  obtain rfl := CZ.zero eb gy
  rw [Hj] at gx
  refine AL (Am (Am ?_))
  refine AA ?_
  obtain rfl := AH gx
  exact mi (kd kr) ⟨bg, bh, bj, ab, bl, rfl, z1, cq⟩
 rintro e1 mx _ ⟨im, iq, ir, dy, lk, rfl, gv, kl⟩
 refine Az _ gv ?_
 refine AI (um (ua (ua (Aa (As ?_)))))
 refine Bu results53 (AP rfl) (AP rfl) (sr) ?_
 obtain ⟨rfl, rfl⟩ := BT km
 exact ⟨_, _, _, _, rfl, rfl, kl.any⟩
set_option maxHeartbeats 1000000 in
theorem Hg {s1 s2 : List (Int × Int)} (ab : Au 2 (OC (iE .i64) (iE .i64)) F Jk Jj s1) (ad : Au 2 (OC (iE .i64) (iE .i64)) F Jq Js s2) {r : Bool} (hr : CI s1 s2 = some r) :
    Ba Tryz.prog 105 #[.slice Jk s1.length Jj, .slice Jq s2.length Js] F (.bool r) := by
 refine sp func105 ntmps105 fun K _ _ => ?_
 rw [CI] at hr
 refine AI (ua (Aa (At (AI (um ?_)))))
 refine uv (AJ underlying85 rfl) (um (uv (AJ underlying85 rfl) (uv (BH rfl rfl) (Aa ?_))))
 refine cQ (fun c1 => ?_) fun c1 => ?_
 ·have r2 := AQ hr c1
  refine AI (ua (Aa (As (Al ?_))))
  refine BD results105 ?_
  obtain rfl := AH r2
  exact rfl
 have r3 := AR hr c1
 refine Aq ?_
 refine AK (fun e1 F1 L1 => Cn = some r ∧ F = F1 ∧ L1 = [] ∧ e1.sub []) ?_ ?_
 ·refine AI (um ?_)
  refine uv (AJ underlying85 rfl) ?_
  refine um (Aa ?_)
  refine Ap ?_
  refine A2 (fun az e1 F1 L1 => LA s1 az fun tl k => BE s2 tl k = some r ∧ F = F1 ∧ L1 = [] ∧ e1.sub [(0, .slice Jk s1.length Jj), (1, .slice Jq s2.length Js), (12, .int .i64 (s1.length : Int)), (13, .int .i64 k)]) _ (m0 kr ⟨_, _, rfl, A8.start _, r3, rfl, rfl, z4⟩) ?_
  rintro az e1 _ _ ⟨tl, k, bg, ae, r6, rfl, rfl, bh⟩
  refine Az _ bh (AI (uv (AV rfl rfl) ?_))
  refine Aa (At ?_)
  refine cQ (fun c9 => ?_) fun c9 => ?_
  ·obtain ⟨x, bn, rfl, ah, ba, ai⟩ := A8.succ ae c9
   rw [BE] at r6
   refine Aq (At ?_)
   refine Ap ?_
   refine AI (um (ua ?_))
   refine dN ?_
   refine wm (wm ?_)
   obtain ⟨bo, bp, bq, bj, aj, ak, a6, ⟨_, _, rfl, rfl, rfl⟩, al, ao⟩ := Au.at (KM (Ae _) (Ae _)) ab ([]) ba.1 ah
   refine wv (AF underlying85 sizeOf29 rfl aj rfl ba) (wv (AE isAgg29 sizeOf29 rfl ak a6 (HN a6 al ao)) ?_)
   refine wm (wm ?_)
   obtain ⟨x2, bb, aq, bc⟩ := A7 r6
   obtain ⟨br, bu, bw, bk, ar, au, aa, ⟨_, _, rfl, rfl, rfl⟩, av, aw⟩ := Au.at (KM (Ae _) (Ae _)) ad ([]) bb.1 aq
   refine wv (AF underlying85 sizeOf29 rfl ar rfl bb) (wv (AE isAgg29 sizeOf29 rfl au aa (HN aa av aw)) (wv (Rh (Qw _ _ _ _) (fun w => Qo (eq_29 _ _ _ _ w)) rfl rfl) (BV ?_)))
   refine cQ (fun ax => ?_) fun ax => ?_
   ·have bl := AQ bc ax
    refine AI (ua (Aa (As (Ay (Al (Al (Ay (Al ?_))))))))
    refine BD results105 ?_
    obtain rfl := AH bl
    exact rfl
   have bm := AR bc ax
   refine Aq (Ax (id := 1) (An ?_))
   refine uv (AY rfl rfl (A8.CC ae c9 (Au.lt ab))) ?_
   refine um (Aa ?_)
   subst bg; exact le kr ⟨_, _, rfl, ai, bm, rfl, rfl, z4⟩
  obtain rfl := A8.zero ae c9
  rw [BE] at r6
  refine AL (Am (Am ?_))
  refine AA ?_
  exact mi kr ⟨r6, rfl, rfl, (sn _)⟩
 rintro e1 _ _ ⟨bd, rfl, rfl, ay⟩
 refine Az _ ay ?_
 rw [Cn] at bd
 refine AI (ua (Aa (As ?_)))
 refine BD results105 ?_
 obtain rfl := AH bd
 exact rfl
theorem La {Pb : Option Addr} {O8 : Nat} {a : List (Int × Int)} {O5 : Option Addr} {Pa : Nat} {b : List (Int × Int)} (a6 : Au 2 (OC (iE .i64) (iE .i64)) F Pb O8 a) (aa : Au 2 (OC (iE .i64) (iE .i64)) F O5 Pa b) {r : Bool} (hr : HZ a b = some r) :
    Ba Tryz.prog 54 #[.slice Pb a.length O8, .slice O5 b.length Pa] F (.bool r) := by
 refine sp func54 ntmps54 fun K _ _ => ?_
 rw [HZ] at hr
 refine AI (ua (BI (um (um ?_))))
 obtain ⟨ok, h1, r2⟩ := AB hr
 refine cV call105 (Hg a6 aa h1) ?_
 refine ua (Aa (As ?_))
 refine BD results54 ?_
 obtain rfl := AH r2
 exact rfl
set_option maxHeartbeats 1000000 in
theorem E7 {Bx : Int} (aa : Au 1 (Bm 1 (iE .i64)) F Ac Ad Ab) (a6 : Au 1 (Bm 1 (iE .i64)) F Aj Ai Af) {r : Bool} (hr : DG Ab Af hour Bx = some r) :
    Ba Tryz.prog 10 #[.agg #[.slice Ac Ab.length Ad, .slice Aj Af.length Ai], .agg #[.int .i64 hour, .int .i64 Bx]] F (.bool r) := by
 refine sp func10 ntmps10 fun K _ _ => ?_
 rw [DG] at hr
 refine AI ?_
 refine By rfl rfl ?_; intro b1 qe
 refine By rfl rfl ?_; intro b2 qf
 refine ua (Aa (At ?_))
 obtain ⟨k, h3, r4⟩ := AB hr
 refine jE ([(b2, ce #[.int .i64 hour, .int .i64 Bx] 29), (b1, ce #[.slice Ac Ab.length Ad, .slice Aj Af.length Ai] 26)]) [(2, .pointer (some ⟨b1, 0, none⟩)), (3, .pointer (some ⟨b2, 0, none⟩)), (33, .bool k)] ?_ ?_
 ·clear r4
  refine An (uv (AE isAgg26 sizeOf26 rfl (Has.own 1 rfl) (A5 rfl) rfl) ?_)
  obtain ⟨ok, h5, r6⟩ := AB h3
  refine cV call17 (DZ aa a6 h5) (um ?_)
  rcases Bf ok with c7 | c7
  ·have r8 := bt r6 c7
   refine fB c7 (fB c7 (fB c7 (fB c7 ?_)))
   refine uv (Aw (En rfl c7) rfl) (Aa ?_)
   obtain rfl := AH r8
   exact mi kr ⟨rfl, rfl, z3⟩
  have r9 := bf r6 c7
  refine nB c7 (uv (Av Cy rfl) (nB c7 (uv (Ao isAgg23 rfl (Has.own 1 rfl) rfl) (nB c7 (uv (AJ underlying23 rfl) (nB c7 (uv (Bb rfl rfl) ?_)))))))
  refine uv (Ar (En rfl c7) rfl) (Aa ?_)
  obtain rfl := AH r9
  exact mi kr ⟨rfl, rfl, z3⟩
 refine AT rfl (fun iq => ?_) (fun iq => ?_)
 ·have o5 := bt r4 iq
  refine AI ?_
  obtain ⟨qg, o7, o8⟩ := AB o5
  refine cV call14 (BB o7) ?_
  refine ua (Aa ?_)
  refine kW kn ?_
  refine As (Al ?_)
  refine BD results10 ?_
  obtain rfl := AH o8
  exact rfl
 have o9 := bf r4 iq
 refine Aq (At ?_)
 refine Bd [(.pre, 4), (.pre, 5), (.still, 0), (.still, 2), (.seq, 1), (.seq, 3), (.alloc (.cells (.agg #[.slice none 0 0, .slice none 0 0] : Value).cells 26 (0, 0)) (fun b => .pointer (some ⟨b, 0, none⟩)) [], 4), (.alloc (.cells (.agg #[.slice none 0 0, .slice none 0 0] : Value).cells 51 (0, 0)) (fun b => .pointer (some ⟨b, 0, none⟩)) [], 5), (.seq, 6), (.seq, 7)] (by kernel_rfl) (by kernel_rfl) (⟨⟨_, _, rfl, rfl, rfl, rfl, rfl, EU zeroValue26⟩, ⟨⟨_, _, rfl, rfl, rfl, rfl, rfl, EU zeroValue51⟩, trivial⟩⟩) (by rfl) (by kernel_rfl) ?_
 refine ⟨⟨[], rfl, sn _, by kernel_rfl⟩, ?_⟩
 refine ⟨⟨[], rfl, sn _, by kernel_rfl⟩, ?_⟩
 refine mL [2] ([(b1, ce #[.slice Ac Ab.length Ad, .slice Aj Af.length Ai] 26)]) rfl (s0 (s1 (s2 sr))) (fun H F' L' cf cg => AE isAgg26 sizeOf26 rfl ((Has.own 0 rfl).ext cf cg) (A5 rfl) rfl) (mL [2] ([(b1, ce #[.slice Ac Ab.length Ad, .slice Aj Af.length Ai] 26)]) rfl (s0 (s1 (s2 sr))) (fun H F' L' cf cg => AE isAgg26 sizeOf26 rfl ((Has.own 0 rfl).ext cf cg) (A5 rfl) rfl) ?_)
 refine ⟨_, [(35, .agg #[.slice Ac Ab.length Ad, .slice Aj Af.length Ai])], rfl, rfl, z1, by kernel_rfl, ?_⟩; intro H
 obtain ⟨l, l2, oc, od⟩ := A9 o9
 refine c0 call18 (D1 aa a6 oc) ?_; rintro _ qh _ et fb ⟨bl, bm, bn, ah, bo, bp, bq, ai, rfl, rfl, al, ao⟩
 replace aa := aa.mono (Ak (Ae _)) et
 replace a6 := a6.mono (Ak (Ae _)) et
 replace al := al.new fun p hp => fb p (by simp [hp])
 replace ao := ao.new fun p hp => fb p (by simp [hp])
 refine AD (lp (lp (ln rfl))) (kO (kf (fS (fS fO)) (kf (fS (fS fO)) kr)) ?_)
 refine Aa ⟨_, rfl, et, [2], by kernel_rfl, .inl (.inr (fun d h => by cases h; rfl)), (fc (s0 (s1 (s2 (s3 (s3 sr))))) nm), ?_⟩
 refine ⟨_, [(37, .agg #[.slice Ac Ab.length Ad, .slice Aj Af.length Ai])], rfl, rfl, z1, by kernel_rfl, ?_⟩; intro H
 obtain ⟨l3, l4, oe, og⟩ := A9 od
 refine c0 call19 (C0 aa a6 oe) ?_; rintro _ nf _ cy ir ⟨ca, cb, cw, ei, cx, cv, rfl, rfl, cp, aw⟩
 replace aa := aa.mono (Ak (Ae _)) cy
 replace a6 := a6.mono (Ak (Ae _)) cy
 replace al := al.mono (Ae _) cy
 replace ao := ao.mono (Ae _) cy
 replace aw := aw.new fun p hp => ir p (by simp [hp])
 refine AD (lp (ln rfl)) (kO (kf (fS fO) (kf (fS fO) kr)) ?_)
 refine Aa ⟨_, rfl, cy, [], by kernel_rfl, .inl (.inl rfl), nm, ?_⟩
 refine GW rfl ?_; intro aq oh
 refine Jp (L' := (aq, ce #[.slice none 0 0, .slice none 0 0] 26) :: ((b2, ce #[.int .i64 hour, .int .i64 Bx] 29) :: ((b1, ce #[.slice Ac Ab.length Ad, .slice Aj Af.length Ai] 26) :: (cv ++ (ah ++ (ai ++ [])))))) rfl ?_
 refine GW rfl ?_; intro av oi
 refine Jp (L' := (av, ce #[.slice none 0 0, .slice none 0 0] 51) :: ((aq, ce #[.slice none 0 0, .slice none 0 0] 26) :: ((b2, ce #[.int .i64 hour, .int .i64 Bx] 29) :: ((b1, ce #[.slice Ac Ab.length Ad, .slice Aj Af.length Ai] 26) :: (cv ++ (ah ++ (ai ++ []))))))) rfl ?_
 refine ⟨_, [(5, .pointer (some ⟨aq, 0, none⟩)), (36, .agg #[.slice bl bm bn, .slice bo bp bq])], rfl, rfl, z2, by kernel_rfl, ?_⟩; intro H
 refine A6 (i := 1) sizeOf26 rfl rfl rfl (by simp [Value.oneCell']) rfl (A5 rfl) (AD rfl ?_)
 refine Aa ⟨undef, rfl, AN.refl _, [], by kernel_rfl, .inl (.inl rfl), nm, ?_⟩
 refine ⟨_, [(6, .pointer (some ⟨av, 0, none⟩)), (38, .agg #[.slice ca l3.length cb, .slice cw ei cx])], rfl, rfl, z2, by kernel_rfl, ?_⟩; intro H
 refine A6 (i := 0) sizeOf51 rfl rfl rfl (by simp [Value.oneCell']) rfl (A5 rfl) (AD rfl ?_)
 refine Aa ⟨undef, rfl, AN.refl _, [], by kernel_rfl, .inl (.inl rfl), nm, ?_⟩
 refine BC (AI (uv (AE isAgg51 sizeOf51 rfl (Has.own 0 rfl) (A5 rfl) rfl) ?_))
 obtain ⟨n, oj, oo⟩ := AB og
 refine Bi (Lt := cv ++ []) (Lr := (av, ce #[.slice ca l3.length cb, .slice cw ei cx] 51) :: ((aq, ce #[.slice bl bm bn, .slice bo bp bq] 26) :: ((b2, ce #[.int .i64 hour, .int .i64 Bx] 29) :: ((b1, ce #[.slice Ac Ab.length Ad, .slice Aj Af.length Ai] 26) :: (ah ++ (ai ++ [])))))) rfl call20 rfl rfl rfl (pT ((fC (fC (fC (fC fP)))).trans (pA pR)) (lp (ln rfl))) (fun F2 h2 h3 => by rw [(AW.Be aw).1]; exact Dl (cp.mono (Ak (Ae _)) h2) (aw.row (Ak (Ae _)) h2 (fun p hp => h3 p (List.mem_append_left _ hp))) oj) ?_
 refine ua (BI (um (um (ua (ua (ua (ua (ua (BI ?_)))))))))
 refine A1 rfl zeroValue29 ?_; intro ar oq
 refine BI (ua (Aa ?_))
 obtain ⟨v, u, a, b, n2, ad, aj, ej, ng, nh⟩ := Rm oo
 refine AK (fun e1 F1 L1 => ∃ (iu : Option Addr) (iv : Nat) (iw : Nat) (br : LH), AN nf F1 ∧ L1 = ((ar, ce #[.int .i64 ad, .int .i64 aj] 29) :: ((aq, ce #[.slice bl bm bn, .slice bo bp bq] 26) :: ((b2, ce #[.int .i64 hour, .int .i64 Bx] 29) :: ((b1, ce #[.slice Ac Ab.length Ad, .slice Aj Af.length Ai] 26) :: (ah ++ (ai ++ (br ++ []))))))) ∧ e1.sub [(2, .pointer (some ⟨b1, 0, none⟩)), (3, .pointer (some ⟨b2, 0, none⟩)), (5, .pointer (some ⟨aq, 0, none⟩)), (7, .int .i64 n), (8, .int .i64 v), (9, .int .i64 u), (10, .int .i64 a), (11, .int .i64 b), (12, .int .i64 n2), (13, .pointer (some ⟨ar, 0, none⟩)), (14, .slice iu iv iw)] ∧ AW K.w0.heap.size 29 2 (OC (iE .i64) (iE .i64)) F1 iu iv iw ej br) ?_ ?_
 ·clear nh
  refine AI (um ?_)
  refine uv (Bb rfl rfl) (Aa ?_)
  refine cQ (fun iy => ?_) fun iy => ?_
  ·have ot := AQ ng iy
   obtain ⟨ab, v2, a2, eu, ou, ni⟩ := GV ot
   refine MJ (fun e1 F1 L1 => ∃ (dq : Option Addr) (dr : Nat), AN nf F1 ∧ L1 = ((ar, ce #[.int .i64 0, .int .i64 0] 29) :: ((av, ce #[.slice ca l3.length cb, .slice dq ab.length dr] 51) :: ((aq, ce #[.slice bl bm bn, .slice bo bp bq] 26) :: ((b2, ce #[.int .i64 hour, .int .i64 Bx] 29) :: ((b1, ce #[.slice Ac Ab.length Ad, .slice Aj Af.length Ai] 26) :: (ah ++ (ai ++ []))))))) ∧ e1.sub [(2, .pointer (some ⟨b1, 0, none⟩)), (3, .pointer (some ⟨b2, 0, none⟩)), (5, .pointer (some ⟨aq, 0, none⟩)), (6, .pointer (some ⟨av, 0, none⟩)), (7, .int .i64 n), (8, .int .i64 v2), (9, .int .i64 n), (10, .int .i64 a2), (11, .int .i64 eu), (13, .pointer (some ⟨ar, 0, none⟩)), (14, .slice none 0 0)] ∧ Au 1 (Bm 1 (iE .i64)) F1 dq dr ab) ?_ ?_
   ·clear ni
    refine Ap ?_
    obtain ⟨k2, nj, iz⟩ := AB ou
    refine jE (((ar, ce #[.int .i64 0, .int .i64 0] 29) :: ((av, ce #[.slice ca l3.length cb, .slice cw ei cx] 51) :: ((aq, ce #[.slice bl bm bn, .slice bo bp bq] 26) :: ((b2, ce #[.int .i64 hour, .int .i64 Bx] 29) :: ((b1, ce #[.slice Ac Ab.length Ad, .slice Aj Af.length Ai] 26) :: (ah ++ (ai ++ (cv ++ []))))))))) [(2, .pointer (some ⟨b1, 0, none⟩)), (3, .pointer (some ⟨b2, 0, none⟩)), (5, .pointer (some ⟨aq, 0, none⟩)), (6, .pointer (some ⟨av, 0, none⟩)), (7, .int .i64 n), (8, .int .i64 n), (9, .int .i64 n), (10, .int .i64 0), (11, .int .i64 0), (13, .pointer (some ⟨ar, 0, none⟩)), (14, .slice none 0 0), (59, .bool k2)] ?_ ?_
    ·clear iz
     refine An (uv (Av GU rfl) (uv (Ao isAgg3 rfl (Has.own 3 rfl) rfl) (uv (AV rfl rfl) (um ?_))))
     by_cases cc : hour < 0
     ·have ow := AQ nj cc
      refine fT cc (fT cc (fT cc (fT cc (fT cc (fT cc ?_)))))
      refine uv (Aw (AS rfl cc) rfl) ?_
      refine um (Ah (b' := true) 71 rfl rfl rfl rfl (Ah (b' := true) 71 rfl rfl rfl rfl (Ah (b' := true) 71 rfl rfl rfl rfl ?_)))
      refine uv (Aw rfl rfl) ?_
      refine um (Ah (b' := true) 76 rfl rfl rfl rfl (Ah (b' := true) 76 rfl rfl rfl rfl (Ah (b' := true) 76 rfl rfl rfl rfl (Ah (b' := true) 76 rfl rfl rfl rfl (Ah (b' := true) 76 rfl rfl rfl rfl (Ah (b' := true) 76 rfl rfl rfl rfl ?_))))))
      refine uv (Aw rfl rfl) ?_
      refine ua (Aa ?_)
      obtain rfl := AH ow
      exact mi (kc (kc (kc (kc (kc (kg (fS fP) (kg (fS fP) kr))))))) ⟨rfl, rfl, (sc rfl (sc rfl (sc rfl (sc rfl z8))))⟩
     have nk := AR nj cc
     refine nF cc (uv (Av GU rfl) (nF cc (uv (Ao isAgg3 rfl (Has.own 3 rfl) rfl) (nF cc (uv (Av Bz rfl) (nF cc (uv (Ao isAgg24 rfl (Has.own 4 rfl) rfl) ?_)))))))
     refine nF cc (uv (AJ underlying24 rfl) (nF cc (uv (Hy rfl rfl) (uv (Ar (AM rfl cc) rfl) (um ?_)))))
     by_cases dp : (Af.length : Int) ≤ hour
     ·have oy := AQ nk dp
      refine fT dp (fT dp (fT dp ?_))
      refine uv (Aw (AS rfl dp) rfl) ?_
      refine um (Ah (b' := true) 76 rfl rfl rfl rfl (Ah (b' := true) 76 rfl rfl rfl rfl (Ah (b' := true) 76 rfl rfl rfl rfl (Ah (b' := true) 76 rfl rfl rfl rfl (Ah (b' := true) 76 rfl rfl rfl rfl (Ah (b' := true) 76 rfl rfl rfl rfl ?_))))))
      refine uv (Aw rfl rfl) ?_
      refine ua (Aa ?_)
      obtain rfl := AH oy
      exact mi (kc (kc (kc (kc (kc (kg (fS fP) (kg (fS fP) kr))))))) ⟨rfl, rfl, (sc rfl (sc rfl (sc rfl (sc rfl z8))))⟩
     have np := AR nk dp
     refine nF dp (uv (Av Hm rfl) (nF dp (uv (Ao isAgg3 rfl (Has.own 3 rfl) rfl) (nF dp (uv (AV rfl rfl) (uv (Ar (AM rfl dp) rfl) (um ?_)))))))
     by_cases cd : Bx < 0
     ·have oz := AQ np cd
      refine fT cd (fT cd (fT cd (fT cd (fT cd (fT cd ?_)))))
      refine uv (Aw (AS rfl cd) rfl) ?_
      refine ua (Aa ?_)
      obtain rfl := AH oz
      exact mi (kc (kc (kc (kc (kc (kg (fS fP) (kg (fS fP) kr))))))) ⟨rfl, rfl, (sc rfl (sc rfl (sc rfl (sc rfl z8))))⟩
     have p0 := AR np cd
     refine nF cd (uv (Av Hm rfl) (nF cd (uv (Ao isAgg3 rfl (Has.own 3 rfl) rfl) (nF cd (uv (Av Cy rfl) (nF cd (uv (Ao isAgg23 rfl (Has.own 4 rfl) rfl) ?_)))))))
     refine nF cd (uv (AJ underlying23 rfl) (nF cd (uv (Hy rfl rfl) (uv (Ar (AM rfl cd) rfl) ?_))))
     refine ua (Aa ?_)
     obtain rfl := AH p0
     exact mi (kc (kc (kc (kc (kc (kg (fS fP) (kg (fS fP) kr))))))) ⟨rfl, rfl, (sc rfl (sc rfl (sc rfl (sc rfl z8))))⟩
    refine AT rfl (fun j0 => ?_) (fun j0 => ?_)
    ·have p3 := bt iz j0
     refine An (ua (Aa (Ax (id := 0) ?_)))
     obtain rfl := (AW.Be aw).1
     refine Me (Nat.le_refl _) (Ak (Ae _)) (fC (fC (fC (fC (fC (fS (fS fP))))))) aw ?_; intro qi j1 p4
     obtain ⟨rfl, rfl, rfl, rfl⟩ := Lg p3
     exact mf kr ⟨cw, cx, j1, rfl, (sc rfl (sc rfl (sc rfl z8))), p4⟩
    have p5 := bf iz j0
    refine dW (wv (Av Bz rfl) (wv (Ao isAgg24 rfl (Has.own 4 rfl) rfl) (wv (Av GU rfl) (wv (Ao isAgg3 rfl (Has.own 3 rfl) rfl) ?_))))
    obtain ⟨x, nq, j2, p6⟩ := A7 p5
    obtain ⟨qj, qk, ql, p7, fe, ff, j3, ⟨p8, p9, rfl, j4⟩, nr, fg⟩ := Au.at (Ak (Ae _)) a6 ((ar, ce #[.int .i64 0, .int .i64 0] 29) :: ((av, ce #[.slice ca l3.length cb, .slice cw ei cx] 51) :: ((aq, ce #[.slice bl bm bn, .slice bo bp bq] 26) :: ((b2, ce #[.int .i64 hour, .int .i64 Bx] 29) :: ((b1, ce #[.slice Ac Ab.length Ad, .slice Aj Af.length Ai] 26) :: (ah ++ (ai ++ (cv ++ [])))))))) nq.1 j2
    refine wv (AF underlying24 sizeOf36 rfl fe rfl nq) (wv (Ao isAgg36 rfl ff (fg 0 (by decide))) (wv (Av Hm rfl) (wv (Ao isAgg3 rfl (Has.own 3 rfl) rfl) ?_)))
    obtain ⟨x2, fh, fi, fj⟩ := A7 p6
    obtain ⟨pa, pb, pd, ns, fk, fl, j5, rfl, nt, fm⟩ := Au.at (Ae _) j4 ((ar, ce #[.int .i64 0, .int .i64 0] 29) :: ((av, ce #[.slice ca l3.length cb, .slice cw ei cx] 51) :: ((aq, ce #[.slice bl bm bn, .slice bo bp bq] 26) :: ((b2, ce #[.int .i64 hour, .int .i64 Bx] 29) :: ((b1, ce #[.slice Ac Ab.length Ad, .slice Aj Af.length Ai] 26) :: (ah ++ (ai ++ (cv ++ [])))))))) fh.1 fi
    refine wv (AF underlying36 sizeOf35 rfl fk rfl fh) (wv (Ao isAgg35 rfl fl (fm 0 (by decide))) (wv (BH rfl rfl) ?_))
    refine wa (BV ?_)
    refine cQ (fun ew => ?_) fun ew => ?_
    ·have j6 := AQ fj ew
     refine An (ua (Aa (Ax (id := 0) ?_)))
     obtain rfl := (AW.Be aw).1
     refine Me (Nat.le_refl _) (Ak (Ae _)) (fC (fC (fC (fC (fC (fS (fS fP))))))) aw ?_; intro pe fo j7
     obtain ⟨rfl, rfl, rfl, rfl⟩ := Lg j6
     exact mf kr ⟨cw, cx, fo, rfl, (sc rfl (sc rfl (sc rfl z8))), j7⟩
    have j8 := AR fj ew
    refine Bd [(.still, 0), (.still, 1), (.still, 2), (.still, 3), (.still, 4), (.still, 7), (.still, 8), (.still, 9), (.still, 10), (.still, 11), (.seq, 5), (.seq, 6), (.seq, 12), (.seq, 13), (.seq, 14), (.seq, 15)] (by kernel_rfl) (by kernel_rfl) (trivial) (by rfl) (by kernel_rfl) (mL [6] ([(av, ce #[.slice ca l3.length cb, .slice cw ei cx] 51)]) rfl (s0 (s1 (s2 (s1 (s1 (s1 (s3 (s3 (s3 sr))))))))) (fun H F' L' cf cg => AE isAgg51 sizeOf51 rfl ((Has.own 0 rfl).ext cf cg) (A5 rfl) rfl) (mS [3] rfl (Av GU rfl) (mL [46] ([(b2, ce #[.int .i64 hour, .int .i64 Bx] 29)]) rfl (s0 (s1 (s1 (s1 (s2 (s1 (s3 (s3 (s3 sr))))))))) (fun H F' L' cf cg => Ao isAgg3 rfl ((Has.own 0 rfl).ext cf cg) rfl) (mS [3] rfl (Av Hm rfl) (mL [48] ([(b2, ce #[.int .i64 hour, .int .i64 Bx] 29)]) rfl (s0 (s1 (s1 (s1 (s2 (s1 (s3 (s3 (s3 sr))))))))) (fun H F' L' cf cg => Ao isAgg3 rfl ((Has.own 0 rfl).ext cf cg) rfl) (mL [6] ([(av, ce #[.slice ca l3.length cb, .slice cw ei cx] 51)]) rfl (s0 (s1 (s2 (s1 (s1 (s1 (s3 (s3 (s3 sr))))))))) (fun H F' L' cf cg => AE isAgg51 sizeOf51 rfl ((Has.own 0 rfl).ext cf cg) (A5 rfl) rfl) (mS [3] rfl (Av GU rfl) ?_)))))))
    refine mL [53] ([(b2, ce #[.int .i64 hour, .int .i64 Bx] 29)]) rfl (s0 (s1 (s1 (s1 (s2 (s1 (s3 (s3 (s3 sr))))))))) (fun H F' L' cf cg => Ao isAgg3 rfl ((Has.own 0 rfl).ext cf cg) rfl) (mS [3] rfl (Av Hm rfl) (mL [55] ([(b2, ce #[.int .i64 hour, .int .i64 Bx] 29)]) rfl (s0 (s1 (s1 (s1 (s2 (s1 (s3 (s3 (s3 sr))))))))) (fun H F' L' cf cg => Ao isAgg3 rfl ((Has.own 0 rfl).ext cf cg) rfl) ?_))
    refine ⟨_, [(45, .agg #[.slice ca l3.length cb, .slice cw ei cx]), (47, .int .i64 hour), (49, .int .i64 Bx)], rfl, rfl, z3, by kernel_rfl, ?_⟩; intro H
    obtain rfl := (AW.Be aw).1
    refine Fa (Nat.le_refl _) (Ak (Ae _)) (fC (fC (fC (fC (fC (fS (fS fP))))))) aw ?_; intro pf cz cj
    replace cp := cp.mono (Ak (Ae _)) cz
    obtain ⟨l5, l6, j9, ja⟩ := A9 j8
    refine c0 call48 (Hu cp cj j9) ?_; rintro _ pg _ cq nu ⟨jb, jc, jd, je, rfl, rfl, jf, jg⟩
    replace cp := cp.mono (Ak (Ae _)) cq
    replace cj := cj.mono (Ak (Ae _)) cq
    refine AD (ln rfl) ?_
    refine Aa ⟨_, rfl, (cz.trans cq), [11, 10, 9, 8, 7], by kernel_rfl, .inl (.inr (fun d h => by cases h; rfl)), (fc (s0 (s1 (s1 (s1 (s2 (s1 (s3 (s3 sr)))))))) (fc sm (fc (s0 (s1 (s1 (s1 (s2 (s1 (s3 (s3 sr)))))))) (fc sm (fc (s0 (s1 (s2 (s1 (s1 (s1 (s3 (s3 sr)))))))) nm))))), ?_⟩
    refine ⟨_, [(50, .agg #[.slice jb l5.length jc, .slice jd l6.length je])], rfl, rfl, z1, by kernel_rfl, ?_⟩; intro H
    obtain ⟨n3, jh, ji⟩ := AB ja
    refine cV call34 (Ck jf jg jh) ?_
    refine Aa ⟨_, rfl, AN.refl _, [11, 10, 9, 8, 7], by kernel_rfl, .inl (.inr (fun d h => by cases h; rfl)), (fc (s0 (s1 (s1 (s1 (s2 (s1 (s3 (s3 sr)))))))) (fc sm (fc (s0 (s1 (s1 (s1 (s2 (s1 (s3 (s3 sr)))))))) (fc sm (fc (s0 (s1 (s2 (s1 (s1 (s1 (s3 (s3 sr)))))))) nm))))), ?_⟩
    refine ⟨_, [(52, .agg #[.slice ca l3.length cb, .slice cw l4.length cx]), (54, .int .i64 hour), (56, .int .i64 Bx)], rfl, rfl, z3, by kernel_rfl, ?_⟩; intro H
    obtain ⟨l7, l8, jj, jk⟩ := A9 ji
    refine c0 call48 (Hu cp cj jj) ?_; rintro _ ph _ da nv ⟨jl, jm, jn, jo, rfl, rfl, jq, jr⟩
    replace cj := cj.mono (Ak (Ae _)) da
    refine AD (ln rfl) ?_
    refine Aa ⟨_, rfl, da, [], by kernel_rfl, .inl (.inl rfl), nm, ?_⟩
    refine ⟨_, [(57, .agg #[.slice jl l7.length jm, .slice jn l8.length jo])], rfl, rfl, z1, by kernel_rfl, ?_⟩; intro H
    obtain ⟨n4, js, jt⟩ := AB jk
    refine cV call34 (Ck jq jr js) ?_
    refine Aa ⟨_, rfl, AN.refl _, [], by kernel_rfl, .inl (.inl rfl), nm, ?_⟩
    refine ⟨_, [(51, .int .i64 n3)], rfl, rfl, z1, by kernel_rfl, ?_⟩; intro H
    refine ua ?_
    refine Aa ⟨_, rfl, AN.refl _, [], by kernel_rfl, .inl (.inl rfl), nm, ?_⟩
    refine ⟨_, [(58, .int .i64 n4)], rfl, rfl, z1, by kernel_rfl, ?_⟩; intro H
    refine ua ?_
    refine Aa ⟨_, rfl, AN.refl _, [], by kernel_rfl, .inl (.inl rfl), nm, ?_⟩
    refine BC (Ax (id := 0) ?_)
    obtain ⟨rfl, rfl, rfl, rfl⟩ := Lg jt
    exact mf kr ⟨cw, cx, ((cz.trans cq).trans da), rfl, (sc rfl (sc rfl (sc rfl z8))), cj⟩
   rintro e1 ju _ ⟨dq, dr, db, rfl, fp, fq⟩
   refine Az _ fp ?_
   replace a6 := a6.mono (Ak (Ae _)) db
   replace cp := cp.mono (Ak (Ae _)) db
   obtain ⟨u2, n5, dd, dt, jv, fs⟩ := GV ni
   refine jE (((ar, ce #[.int .i64 dd, .int .i64 dt] 29) :: ((av, ce #[.slice ca l3.length cb, .slice dq ab.length dr] 51) :: ((aq, ce #[.slice bl bm bn, .slice bo bp bq] 26) :: ((b2, ce #[.int .i64 hour, .int .i64 Bx] 29) :: ((b1, ce #[.slice Ac Ab.length Ad, .slice Aj Af.length Ai] 26) :: (ah ++ (ai ++ [])))))))) [(2, .pointer (some ⟨b1, 0, none⟩)), (3, .pointer (some ⟨b2, 0, none⟩)), (5, .pointer (some ⟨aq, 0, none⟩)), (6, .pointer (some ⟨av, 0, none⟩)), (7, .int .i64 n), (8, .int .i64 v2), (9, .int .i64 u2), (10, .int .i64 a2), (11, .int .i64 eu), (12, .int .i64 n5), (13, .pointer (some ⟨ar, 0, none⟩)), (14, .slice none 0 0)] ?_ ?_
   ·clear fs
    refine AI (uv (AE isAgg51 sizeOf51 rfl (Has.own 1 rfl) (A5 rfl) rfl) ?_)
    obtain ⟨n6, n7, n8, jw, ft⟩ := I6 jv
    refine cV call49 (M9 cp fq jw) ?_
    refine um (ox rfl rfl rfl (ox rfl rfl rfl (ox rfl rfl rfl ?_)))
    refine uv (Av GU rfl) (A0 (i := 0) sizeOf3 rfl rfl rfl rfl (A5 rfl) (AD rfl (uv (Av Hm rfl) (A0 (i := 0) sizeOf3 rfl rfl rfl rfl (A5 rfl) (AD rfl ?_)))))
    refine ua (BI ?_)
    refine uv (Av GU rfl) (uv (Ao isAgg3 rfl (Has.own 0 rfl) rfl) (uv (AV rfl rfl) (Aa ?_)))
    refine cQ (fun ey => ?_) fun ey => ?_
    ·have jx := AQ ft ey
     refine An ?_
     refine uv (BL (v := .agg #[.int .i64 0, .int .i64 0]) rfl (by intro w; kernel_rfl)) ?_
     refine A6 (i := 0) sizeOf29 rfl rfl rfl (by simp [Value.oneCell']) rfl (A5 rfl) (AD rfl ?_)
     refine ua (ua (Aa ?_))
     obtain ⟨rfl, rfl, rfl, rfl⟩ := Lg jx
     exact mi kr ⟨rfl, rfl, (sc rfl (sc rfl (sc rfl (sc rfl z8))))⟩
    have jz := AR ft ey
    refine Aq ?_
    obtain ⟨rfl, rfl, rfl, rfl⟩ := Lg jz
    exact mi kr ⟨rfl, rfl, (sc rfl (sc rfl (sc rfl (sc rfl z8))))⟩
   obtain ⟨u3, n9, ae, ak, kb, fv⟩ := GV fs
   refine jE (((ar, ce #[.int .i64 ae, .int .i64 ak] 29) :: ((av, ce #[.slice ca l3.length cb, .slice dq ab.length dr] 51) :: ((aq, ce #[.slice bl bm bn, .slice bo bp bq] 26) :: ((b2, ce #[.int .i64 hour, .int .i64 Bx] 29) :: ((b1, ce #[.slice Ac Ab.length Ad, .slice Aj Af.length Ai] 26) :: (ah ++ (ai ++ [])))))))) [(2, .pointer (some ⟨b1, 0, none⟩)), (3, .pointer (some ⟨b2, 0, none⟩)), (5, .pointer (some ⟨aq, 0, none⟩)), (6, .pointer (some ⟨av, 0, none⟩)), (7, .int .i64 n), (8, .int .i64 v2), (9, .int .i64 u3), (10, .int .i64 a2), (11, .int .i64 eu), (12, .int .i64 n9), (13, .pointer (some ⟨ar, 0, none⟩)), (14, .slice none 0 0)] ?_ ?_
   ·clear fv
    refine AI (uv (AE isAgg51 sizeOf51 rfl (Has.own 1 rfl) (A5 rfl) rfl) ?_)
    obtain ⟨qn, kh, fw⟩ := AB kb
    refine cV call34 (Ck cp fq kh) (uv (Bb rfl rfl) (Aa ?_))
    refine cQ (fun ez => ?_) fun ez => ?_
    ·have kj := AQ fw ez
     refine An ?_
     refine uv (BL (v := .agg #[.int .i64 0, .int .i64 0]) rfl (by intro w; kernel_rfl)) ?_
     refine A6 (i := 0) sizeOf29 rfl rfl rfl (by simp [Value.oneCell']) rfl (A5 rfl) (AD rfl ?_)
     refine ua (ua (Aa ?_))
     obtain ⟨rfl, rfl, rfl, rfl⟩ := Lg kj
     exact mi kr ⟨rfl, rfl, (sc rfl (sc rfl (sc rfl (sc rfl z8))))⟩
    have kl := AR fw ez
    refine Aq ?_
    obtain ⟨rfl, rfl, rfl, rfl⟩ := Lg kl
    exact mi kr ⟨rfl, rfl, (sc rfl (sc rfl (sc rfl (sc rfl z8))))⟩
   refine AI (uv (Av Bz rfl) (uv (Ao isAgg24 rfl (Has.own 4 rfl) rfl) (uv (AJ underlying24 rfl) ?_)))
   refine um (Aa ?_)
   refine Ap ?_
   refine A2 (fun nw e1 F1 L1 => LA Af nw fun tl k3 => ∃ (bj : List (Int × Int)) (de : Option Addr) (df : Nat) (dg : Nat) (bu : LH), DD l3 ab v2 a2 eu u3 n9 ae ak tl k3 bj = some (v, u, a, b, n2, ad, aj, ej) ∧ AN ju F1 ∧ L1 = ((ar, ce #[.int .i64 ae, .int .i64 ak] 29) :: ((av, ce #[.slice ca l3.length cb, .slice dq ab.length dr] 51) :: ((aq, ce #[.slice bl bm bn, .slice bo bp bq] 26) :: ((b2, ce #[.int .i64 hour, .int .i64 Bx] 29) :: ((b1, ce #[.slice Ac Ab.length Ad, .slice Aj Af.length Ai] 26) :: (ah ++ (ai ++ (bu ++ [])))))))) ∧ e1.sub [(2, .pointer (some ⟨b1, 0, none⟩)), (3, .pointer (some ⟨b2, 0, none⟩)), (5, .pointer (some ⟨aq, 0, none⟩)), (6, .pointer (some ⟨av, 0, none⟩)), (7, .int .i64 n), (8, .int .i64 v2), (9, .int .i64 u3), (10, .int .i64 a2), (11, .int .i64 eu), (12, .int .i64 n9), (13, .pointer (some ⟨ar, 0, none⟩)), (14, .slice de df dg), (114, .int .i64 (Af.length : Int)), (115, .int .i64 k3)] ∧ AW K.w0.heap.size 29 2 (OC (iE .i64) (iE .i64)) F1 de df dg bj bu) _ (m0 (kc (kc (kc (kc (kc (ka (ka (ke kr)))))))) ⟨_, _, rfl, A8.start _, [], none, 0, 0, [], fv, AN.refl _, rfl, (sc rfl (sc rfl (sc rfl (sc rfl (sc rfl (sc rfl z8)))))), AW.nil _ _ _ _ _⟩) ?_
   rintro nw e1 km _ ⟨tl, k3, fx, dh, bj, de, df, dg, bu, du, bw, rfl, fy, cr⟩
   refine Az _ fy ?_
   replace a6 := a6.mono (Ak (Ae _)) bw
   replace cp := cp.mono (Ak (Ae _)) bw
   replace fq := fq.mono (Ak (Ae _)) bw
   refine AI (uv (AV rfl rfl) ?_)
   refine Aa (At ?_)
   refine cQ (fun dv => ?_) fun dv => ?_
   ·obtain ⟨x3, qo, rfl, ny, pj, g0⟩ := A8.succ dh dv
    rw [DD] at du
    refine Aq ?_
    obtain ⟨ck, ko, g8⟩ := AB du
    refine AK (fun e1 F1 L1 => ∃ (dw : Option Addr) (dx : Nat) (dy : Nat) (ct : LH), AN km F1 ∧ L1 = ((ar, ce #[.int .i64 ae, .int .i64 ak] 29) :: ((av, ce #[.slice ca l3.length cb, .slice dq ab.length dr] 51) :: ((aq, ce #[.slice bl bm bn, .slice bo bp bq] 26) :: ((b2, ce #[.int .i64 hour, .int .i64 Bx] 29) :: ((b1, ce #[.slice Ac Ab.length Ad, .slice Aj Af.length Ai] 26) :: (ah ++ (ai ++ (ct ++ [])))))))) ∧ e1.sub [(2, .pointer (some ⟨b1, 0, none⟩)), (3, .pointer (some ⟨b2, 0, none⟩)), (5, .pointer (some ⟨aq, 0, none⟩)), (6, .pointer (some ⟨av, 0, none⟩)), (7, .int .i64 n), (8, .int .i64 v2), (9, .int .i64 u3), (10, .int .i64 a2), (11, .int .i64 eu), (12, .int .i64 n9), (13, .pointer (some ⟨ar, 0, none⟩)), (14, .slice dw dx dy), (114, .int .i64 (Af.length : Int)), (115, .int .i64 k3)] ∧ AW K.w0.heap.size 29 2 (OC (iE .i64) (iE .i64)) F1 dw dx dy ck ct) ?_ ?_
    ·clear g8
     refine Ap ?_
     refine AI (um (ua (BI ?_)))
     refine uv (AE isAgg51 sizeOf51 rfl (Has.own 1 rfl) (A5 rfl) rfl) (um ?_)
     obtain ⟨l9, kt, ku⟩ := AB ko
     refine c0 call50 (Mg cp fq kt) ?_; rintro _ kv _ en ga ⟨kz, la, ld, eo, rfl, rfl, bg⟩
     replace cr := cr.mono (KM (Ae _) (Ae _)) en
     replace bg := bg.new fun p hp => ga p (by simp [hp])
     refine AD (lp (ln rfl)) (kO (kf (fS fO) (kf (fS fO) (kf (fS fO) (kf (fS fO) (kf (fS fO) kr))))) (uv ((AJ underlying22 rfl).i (AW.GN bg)) ?_))
     refine um (Aa ?_)
     refine Ap ?_
     refine A2 (fun nz e1 F1 L1 => LA l9 nz fun o0 k4 => ∃ (bk : List (Int × Int)) (dz : Option Addr) (eb : Nat) (ec : Nat) (bx : LH), DC k3 o0 bk = some ck ∧ kv = F1 ∧ L1 = ((ar, ce #[.int .i64 ae, .int .i64 ak] 29) :: ((av, ce #[.slice ca l3.length cb, .slice dq ab.length dr] 51) :: ((aq, ce #[.slice bl bm bn, .slice bo bp bq] 26) :: ((b2, ce #[.int .i64 hour, .int .i64 Bx] 29) :: ((b1, ce #[.slice Ac Ab.length Ad, .slice Aj Af.length Ai] 26) :: (ah ++ (ai ++ (bx ++ (eo ++ []))))))))) ∧ e1.sub [(2, .pointer (some ⟨b1, 0, none⟩)), (3, .pointer (some ⟨b2, 0, none⟩)), (5, .pointer (some ⟨aq, 0, none⟩)), (6, .pointer (some ⟨av, 0, none⟩)), (7, .int .i64 n), (8, .int .i64 v2), (9, .int .i64 u3), (10, .int .i64 a2), (11, .int .i64 eu), (12, .int .i64 n9), (13, .pointer (some ⟨ar, 0, none⟩)), (14, .slice dz eb ec), (15, .int .i64 k3), (114, .int .i64 (Af.length : Int)), (115, .int .i64 k3), (120, .slice kz la ld), (121, .int .i64 (l9.length : Int)), (122, .int .i64 k4)] ∧ AW K.w0.heap.size 29 2 (OC (iE .i64) (iE .i64)) F1 dz eb ec bk bx) _ (m0 (kc (kc (kc (kc (kc (kg (fS fP) (kg (fS fP) (kg (fS fP) kr)))))))) ⟨_, _, rfl, A8.start _, bj, de, df, dg, bu, ku, rfl, rfl, (sc rfl (sc rfl (sc rfl (sc rfl (sc rfl (sc rfl (sc rfl (sc rfl (sc rfl (sc rfl z8)))))))))), cr⟩) ?_
     rintro nz e1 _ _ ⟨o0, k4, gb, di, bk, dz, eb, ec, bx, ef, rfl, rfl, gg, ep⟩
     refine Az _ gg (AI (uv (AV rfl rfl) ?_))
     refine Aa (At ?_)
     refine cQ (fun eg => ?_) fun eg => ?_
     ·obtain ⟨x4, qp, rfl, gh, gi, gj⟩ := A8.succ di eg
      rw [DC] at ef
      refine Aq (At ?_)
      refine Ap (AI ?_)
      obtain ⟨pk, pn, po, o1, gk, gl, lg, rfl, o2, gm⟩ := AW.at (Ae _) bg (L := (ar, ce #[.int .i64 ae, .int .i64 ak] 29) :: ((av, ce #[.slice ca l3.length cb, .slice dq ab.length dr] 51) :: ((aq, ce #[.slice bl bm bn, .slice bo bp bq] 26) :: ((b2, ce #[.int .i64 hour, .int .i64 Bx] 29) :: ((b1, ce #[.slice Ac Ab.length Ad, .slice Aj Af.length Ai] 26) :: (ah ++ (ai ++ (bx ++ (eo ++ []))))))))) (fC (fC (fC (fC (fC (fS (fS (fS fP)))))))) gi.1 gh
      refine uv (AF underlying22 sizeOf3 rfl gk rfl (AW.idx bg gi)) (uv (Ao isAgg3 rfl gl (gm 0 (by decide))) ?_)
      refine ua (Aa (An (um (um (um ?_)))))
      refine uv (BL (v := .agg #[.int .i64 k3, .int .i64 x4]) rfl (by intro w; kernel_rfl)) ?_
      refine bA (cs := #[.int .i64 k3, .int .i64 x4]) N4 [.agg #[.int .i64 k3, .int .i64 x4]] ?_; intro pq o3
      obtain ⟨dk, lh, lj, lk⟩ := E0 ef
      refine Dm (xs := bk) (ys := [(k3, x4)]) (zs := dk) rfl N4 rfl rfl (Nat.le_refl _) (fun _ => .c (.c (.c (.c (.c (.c (.s (.s .h)))))))) ep (GO.box (vss := [[.int .i64 k3, .int .i64 x4]]) (ys := [(k3, x4)]) 0 rfl (KM (Ae _) (Ae _)) (.cons ⟨_, _, rfl, rfl, rfl⟩ .nil) rfl rfl) lh lj (by decide) ?_; intro ll lq lr gn gp
      refine kO (kd kr) ?_
      refine ua (Aa (Ax (id := 4) (An ?_)))
      refine uv (AY rfl rfl (A8.CC di eg (AW.O6 bg))) ?_
      refine um (Aa ?_)
      subst gb; exact le kr ⟨_, _, rfl, gj, dk, ll, lq, lr, gn, lk, rfl, rfl, (sc rfl (sc rfl (sc rfl (sc rfl (sc rfl (sc rfl (sc rfl (sc rfl (sc rfl (sc rfl z8)))))))))), gp⟩
     obtain rfl := A8.zero di eg
     rw [DC] at ef
     refine AL (Am (Am ?_))
     refine AA (Ax (id := 2) ?_)
     obtain rfl := AH ef
     exact mi (kc (kc (kc (kc (kc (ka (ka (ka kn)))))))) ⟨dz, eb, ec, bx, en, rfl, (sc rfl (sc rfl (sc rfl (sc rfl (sc rfl (sc rfl z8)))))), ep⟩
    rintro e1 pr _ ⟨dw, dx, dy, ct, er, rfl, gq, gr⟩
    refine Az _ gq ?_
    replace a6 := a6.mono (Ak (Ae _)) er
    refine An (uv (AY rfl rfl (A8.CC dh dv (Au.lt a6))) ?_)
    refine um (Aa ?_)
    subst fx; exact le kr ⟨_, _, rfl, g0, ck, dw, dx, dy, ct, g8, (bw.trans er), rfl, (sc rfl (sc rfl (sc rfl (sc rfl (sc rfl (sc rfl z8)))))), gr⟩
   obtain rfl := A8.zero dh dv
   rw [DD] at du
   refine AL (Am (Am ?_))
   refine AA ?_
   obtain ⟨rfl, rfl, rfl, rfl, rfl, rfl, rfl, rfl⟩ := Rn du
   exact mi (kc (kd kr)) ⟨de, df, dg, bu, (db.trans bw), rfl, (sc rfl (sc rfl (sc rfl z8))), cr⟩
  have lu := AR ng iy
  refine Aq ?_
  obtain ⟨rfl, rfl, rfl, rfl, rfl, rfl, rfl, rfl⟩ := Rn lu
  exact mi (kc (kd (kc (kc (kc (kx (ka (ka (ke kr))))))))) ⟨none, 0, 0, [], AN.refl _, rfl, (sc rfl (sc rfl (sc rfl z8))), AW.nil _ _ _ _ _⟩
 rintro e1 pt _ ⟨iu, iv, iw, br, cu, rfl, gu, eh⟩
 refine Az _ gu ?_
 replace aa := aa.mono (Ak (Ae _)) cu
 replace a6 := a6.mono (Ak (Ae _)) cu
 replace al := al.mono (Ae _) cu
 replace ao := ao.mono (Ae _) cu
 refine AI (uv (AE isAgg26 sizeOf26 rfl (Has.own 1 rfl) (A5 rfl) rfl) (uv (AE isAgg29 sizeOf29 rfl (Has.own 2 rfl) (A5 rfl) rfl) ?_))
 obtain ⟨pv, pw, px, lv, lx⟩ := I6 nh
 refine Bi (Lt := ah ++ (ai ++ [])) (Lr := (ar, ce #[.int .i64 ad, .int .i64 aj] 29) :: ((aq, ce #[.slice bl bm bn, .slice bo bp bq] 26) :: ((b2, ce #[.int .i64 hour, .int .i64 Bx] 29) :: ((b1, ce #[.slice Ac Ab.length Ad, .slice Aj Af.length Ai] 26) :: (br ++ []))))) rfl call51 rfl rfl rfl (pT ((fC (fC (fC (fC fP)))).trans (pA ((fC (fC (fC (fC fP)))).trans (pA pR)))) (lp (lp (ln rfl)))) (fun F2 h2 h3 => by rw [(BG.Be al).1]; rw [(BG.Be ao).1]; exact LM (al.row (Ae _) h2 (fun p hp => h3 p (List.mem_append_left _ hp))) (ao.row (Ae _) h2 (fun p hp => h3 p (List.mem_append_right _ (List.mem_append_left _ hp)))) lv) ?_
 refine um (ox rfl rfl rfl (ox rfl rfl rfl (ox rfl rfl rfl (ua (ua (ua (BI ?_)))))))
 refine uv (AE isAgg26 sizeOf26 rfl (Has.own 1 rfl) (A5 rfl) rfl) ?_
 obtain ⟨il, im, py, pz, ly, lz⟩ := GV lx
 refine Bi (Lt := ah ++ (ai ++ [])) (Lr := (ar, ce #[.int .i64 ad, .int .i64 aj] 29) :: ((aq, ce #[.slice bl bm bn, .slice bo bp bq] 26) :: ((b2, ce #[.int .i64 hour, .int .i64 Bx] 29) :: ((b1, ce #[.slice Ac Ab.length Ad, .slice Aj Af.length Ai] 26) :: (br ++ []))))) rfl call52 rfl rfl rfl (pT ((fC (fC (fC (fC fP)))).trans (pA ((fC (fC (fC (fC fP)))).trans (pA pR)))) (lp (lp (ln rfl)))) (fun F2 h2 h3 => by rw [(BG.Be al).1]; rw [(BG.Be ao).1]; exact OY (al.row (Ae _) h2 (fun p hp => h3 p (List.mem_append_left _ hp))) (ao.row (Ae _) h2 (fun p hp => h3 p (List.mem_append_right _ (List.mem_append_left _ hp)))) ly) ?_
 refine um (ox rfl rfl rfl (ox rfl rfl rfl (ox rfl rfl rfl ?_)))
 refine A1 rfl zeroValue29 ?_; intro fa o4
 refine A6 (i := 0) sizeOf29 rfl rfl rfl (by simp [Value.oneCell']) rfl (A5 rfl) (AD rfl ?_)
 refine ua (ua (BI ?_))
 refine uv (AE isAgg26 sizeOf26 rfl (Has.own 2 rfl) (A5 rfl) rfl) ?_
 obtain ⟨qq, q0, ma, gv⟩ := A9 lz
 refine Is (Lb := []) (Lt := ah ++ (ai ++ [])) (Lr := (fa, ce #[.int .i64 il, .int .i64 im] 29) :: ((ar, ce #[.int .i64 ad, .int .i64 aj] 29) :: ((aq, ce #[.slice bl bm bn, .slice bo bp bq] 26) :: ((b2, ce #[.int .i64 hour, .int .i64 Bx] 29) :: ((b1, ce #[.slice Ac Ab.length Ad, .slice Aj Af.length Ai] 26) :: (br ++ [])))))) rfl call53 rfl rfl rfl (pT ((fC (fC (fC (fC (fC fP))))).trans (pA ((fC (fC (fC (fC (fC fP))))).trans (pA pR)))) (ln (lp (lp (ln rfl))))) (fun F2 h2 h3 => by rw [(BG.Be al).1]; rw [(BG.Be ao).1]; exact NL (al.row (Ae _) h2 (fun p hp => h3 p (List.mem_append_left _ hp))) (ao.row (Ae _) h2 (fun p hp => h3 p (List.mem_append_right _ (List.mem_append_left _ hp)))) ma) (fun _ _ _ _ hq => by obtain ⟨mb, mc, me, dm, rfl, rfl, bh⟩ := hq; exact ⟨_, _, _, _, rfl, rfl, bh.flat (fun _ _ h => h)⟩) ?_; rintro _ qb _ bz gw gx ⟨mb, mc, me, dm, rfl, rfl, bh⟩
 replace aa := aa.mono (Ak (Ae _)) bz
 replace a6 := a6.mono (Ak (Ae _)) bz
 replace al := al.mono (Ae _) bz
 replace ao := ao.mono (Ae _) bz
 replace eh := eh.mono (KM (Ae _) (Ae _)) bz
 have gy := OR (Lb' := []) (by rfl) gw gx
 replace bh := bh.new fun p hp => gy p (by simp [hp])
 refine AD (lp (ln (lp (lp (ln rfl))))) (kO (kf (fS (fS (fS fO))) (kf (fS (fS (fS fO))) (kf (fS (fS (fS fO))) (kf (fS (fS (fS fO))) (kf (fS (fS (fS fO))) kr))))) ?_)
 refine um (ox rfl rfl rfl (ox rfl rfl rfl (ua (ua (BI (um (um ?_)))))))
 refine uv (Bb rfl rfl) (um ?_)
 by_cases ax : px = v
 ·have gz := AQ gv ax
  refine nT ax (um (nT ax (um (nT ax ?_))))
  refine uv (Bb rfl rfl) (uv (Aw (AS rfl ax) rfl) (um ?_))
  by_cases ay : pz = u
  ·have ia := AQ gz ay
   refine nT ay (um (nT ay (um (nT ay ?_))))
   refine uv (Bb rfl rfl) (uv (Aw (AS rfl ay) rfl) (um ?_))
   by_cases az : q0 = n
   ·have ib := AQ ia az
    refine nT az (um (nT az (um (nT az ?_))))
    refine uv (Bb rfl rfl) (uv (Aw (AS rfl az) rfl) (um ?_))
    by_cases ba : pv = a
    ·have ic := AQ ib ba
     refine nT ba (um (nT ba (um (nT ba ?_))))
     refine uv (Bb rfl rfl) (uv (Aw (AS rfl ba) rfl) (um ?_))
     by_cases bb : pw = b
     ·have ie := AQ ic bb
      refine nT bb (uv (AE isAgg29 sizeOf29 rfl (Has.own 0 rfl) (A5 rfl) rfl) (nT bb (uv (AE isAgg29 sizeOf29 rfl (Has.own 1 rfl) (A5 rfl) rfl) (nT bb (uv (Nh (Po _ _ _ _) (eq_29 _ _ _ _) rfl rfl) (uv (Aw (AS rfl bb) rfl) (um ?_)))))))
      by_cases bc : il = ad ∧ im = aj
      ·have ig := AQ ie bc
       refine nT bc (um (nT bc (um (nT bc ?_))))
       refine uv (Bb rfl rfl) (uv (Aw (AS rfl bc) rfl) (um ?_))
       by_cases bd : py = n2
       ·have mg := AQ ig bd
        refine nT bd (um (nT bd (um (nT bd ?_))))
        obtain ⟨qc, mh, ij⟩ := AB mg
        refine Bi (Lt := dm ++ (br ++ [])) (Lr := (fa, ce #[.int .i64 il, .int .i64 im] 29) :: ((ar, ce #[.int .i64 ad, .int .i64 aj] 29) :: ((aq, ce #[.slice bl bm bn, .slice bo bp bq] 26) :: ((b2, ce #[.int .i64 hour, .int .i64 Bx] 29) :: ((b1, ce #[.slice Ac Ab.length Ad, .slice Aj Af.length Ai] 26) :: (ah ++ (ai ++ []))))))) rfl call54 rfl rfl rfl (pT ((fC (fC (fC (fC (fC fP))))).trans (pA ((fC (fC (fC (fC (fC (fS (fS fP))))))).trans (pA pR)))) (lp (lp (ln rfl)))) (fun F2 h2 h3 => by rw [(AW.Be bh).1]; rw [(AW.Be eh).1]; exact La (bh.row (KM (Ae _) (Ae _)) h2 (fun p hp => h3 p (List.mem_append_left _ hp))) (eh.row (KM (Ae _) (Ae _)) h2 (fun p hp => h3 p (List.mem_append_right _ (List.mem_append_left _ hp)))) mh) ?_
        refine uv (Aw (AS rfl bd) rfl) (um ?_)
        rcases Bf qc with au | au
        ·have mj := bt ij au
         refine nB au (uv (AE isAgg26 sizeOf26 rfl (Has.own 2 rfl) (A5 rfl) rfl) (nB au (uv (AE isAgg26 sizeOf26 rfl (Has.own 4 rfl) (A5 rfl) rfl) (nB au ?_))))
         obtain ⟨qd, ml, ik⟩ := AB mj
         refine Bi (Lt := ah ++ (ai ++ [])) (Lr := (fa, ce #[.int .i64 il, .int .i64 im] 29) :: ((ar, ce #[.int .i64 ad, .int .i64 aj] 29) :: ((aq, ce #[.slice bl bm bn, .slice bo bp bq] 26) :: ((b2, ce #[.int .i64 hour, .int .i64 Bx] 29) :: ((b1, ce #[.slice Ac Ab.length Ad, .slice Aj Af.length Ai] 26) :: (dm ++ (br ++ []))))))) rfl call22 rfl rfl rfl (pT ((fC (fC (fC (fC (fC (fS fP)))))).trans (pA ((fC (fC (fC (fC (fC (fS fP)))))).trans (pA pR)))) (lp (lp (ln rfl)))) (fun F2 h2 h3 => by rw [(BG.Be al).1]; rw [(BG.Be ao).1]; exact DF (al.row (Ae _) h2 (fun p hp => h3 p (List.mem_append_left _ hp))) (ao.row (Ae _) h2 (fun p hp => h3 p (List.mem_append_right _ (List.mem_append_left _ hp)))) (aa.mono (Ak (Ae _)) h2) (a6.mono (Ak (Ae _)) h2) ml) ?_
         refine uv (Aw (En rfl au) rfl) (um ?_)
         rcases Bf qd with cn | cn
         ·have mn := bt ik cn
          refine nB cn ?_
          obtain ⟨qs, mo, mq⟩ := AB mn
          refine cV call14 (BB mo) (uv (Aw (En rfl cn) rfl) ?_)
          refine ua (Aa ?_)
          refine kW kn (As (BD results10 ?_))
          obtain rfl := AH mq
          exact rfl
         have mr := bf ik cn
         refine fB cn (uv (Ar (En rfl cn) rfl) ?_)
         refine ua (Aa ?_)
         refine kW kn (As (BD results10 ?_))
         obtain rfl := AH mr
         exact rfl
        have mu := bf ij au
        refine fB au (fB au (fB au ?_))
        refine uv (Ar (En rfl au) rfl) ?_
        refine um (Ah (b' := false) 195 rfl rfl rfl rfl ?_)
        refine uv (Ar rfl rfl) ?_
        refine ua (Aa ?_)
        refine kW kn (As (BD results10 ?_))
        obtain rfl := AH mu
        exact rfl
       have mv := AR ig bd
       refine fF bd (fF bd (fF bd ?_))
       refine uv (Ar (AM rfl bd) rfl) ?_
       refine um (Ah (b' := false) 190 rfl rfl rfl rfl (Ah (b' := false) 190 rfl rfl rfl rfl (Ah (b' := false) 190 rfl rfl rfl rfl ?_)))
       refine uv (Ar rfl rfl) ?_
       refine um (Ah (b' := false) 195 rfl rfl rfl rfl ?_)
       refine uv (Ar rfl rfl) ?_
       refine ua (Aa ?_)
       refine kW kn (As (BD results10 ?_))
       obtain rfl := AH mv
       exact rfl
      have mw := AR ie bc
      refine fF bc (fF bc (fF bc ?_))
      refine uv (Ar (AM rfl bc) rfl) ?_
      refine um (Ah (b' := false) 185 rfl rfl rfl rfl (Ah (b' := false) 185 rfl rfl rfl rfl (Ah (b' := false) 185 rfl rfl rfl rfl ?_)))
      refine uv (Ar rfl rfl) ?_
      refine um (Ah (b' := false) 190 rfl rfl rfl rfl (Ah (b' := false) 190 rfl rfl rfl rfl (Ah (b' := false) 190 rfl rfl rfl rfl ?_)))
      refine uv (Ar rfl rfl) ?_
      refine um (Ah (b' := false) 195 rfl rfl rfl rfl ?_)
      refine uv (Ar rfl rfl) ?_
      refine ua (Aa ?_)
      refine kW kn (As (BD results10 ?_))
      obtain rfl := AH mw
      exact rfl
     have mx := AR ic bb
     refine fF bb (fF bb (fF bb ?_))
     refine uv (Ar (AM rfl bb) rfl) ?_
     refine um (Ah (b' := false) 180 rfl rfl rfl rfl (Ah (b' := false) 180 rfl rfl rfl rfl (Ah (b' := false) 180 rfl rfl rfl rfl ?_)))
     refine uv (Ar rfl rfl) ?_
     refine um (Ah (b' := false) 185 rfl rfl rfl rfl (Ah (b' := false) 185 rfl rfl rfl rfl (Ah (b' := false) 185 rfl rfl rfl rfl ?_)))
     refine uv (Ar rfl rfl) ?_
     refine um (Ah (b' := false) 190 rfl rfl rfl rfl (Ah (b' := false) 190 rfl rfl rfl rfl (Ah (b' := false) 190 rfl rfl rfl rfl ?_)))
     refine uv (Ar rfl rfl) ?_
     refine um (Ah (b' := false) 195 rfl rfl rfl rfl ?_)
     refine uv (Ar rfl rfl) ?_
     refine ua (Aa ?_)
     refine kW kn (As (BD results10 ?_))
     obtain rfl := AH mx
     exact rfl
    have my := AR ib ba
    refine fF ba (fF ba (fF ba ?_))
    refine uv (Ar (AM rfl ba) rfl) ?_
    refine um (Ah (b' := false) 175 rfl rfl rfl rfl (Ah (b' := false) 175 rfl rfl rfl rfl (Ah (b' := false) 175 rfl rfl rfl rfl ?_)))
    refine uv (Ar rfl rfl) ?_
    refine um (Ah (b' := false) 180 rfl rfl rfl rfl (Ah (b' := false) 180 rfl rfl rfl rfl (Ah (b' := false) 180 rfl rfl rfl rfl ?_)))
    refine uv (Ar rfl rfl) ?_
    refine um (Ah (b' := false) 185 rfl rfl rfl rfl (Ah (b' := false) 185 rfl rfl rfl rfl (Ah (b' := false) 185 rfl rfl rfl rfl ?_)))
    refine uv (Ar rfl rfl) ?_
    refine um (Ah (b' := false) 190 rfl rfl rfl rfl (Ah (b' := false) 190 rfl rfl rfl rfl (Ah (b' := false) 190 rfl rfl rfl rfl ?_)))
    refine uv (Ar rfl rfl) ?_
    refine um (Ah (b' := false) 195 rfl rfl rfl rfl ?_)
    refine uv (Ar rfl rfl) ?_
    refine ua (Aa ?_)
    refine kW kn (As (BD results10 ?_))
    obtain rfl := AH my
    exact rfl
   have mz := AR ia az
   refine fF az (fF az (fF az ?_))
   refine uv (Ar (AM rfl az) rfl) ?_
   refine um (Ah (b' := false) 170 rfl rfl rfl rfl (Ah (b' := false) 170 rfl rfl rfl rfl (Ah (b' := false) 170 rfl rfl rfl rfl ?_)))
   refine uv (Ar rfl rfl) ?_
   refine um (Ah (b' := false) 175 rfl rfl rfl rfl (Ah (b' := false) 175 rfl rfl rfl rfl (Ah (b' := false) 175 rfl rfl rfl rfl ?_)))
   refine uv (Ar rfl rfl) ?_
   refine um (Ah (b' := false) 180 rfl rfl rfl rfl (Ah (b' := false) 180 rfl rfl rfl rfl (Ah (b' := false) 180 rfl rfl rfl rfl ?_)))
   refine uv (Ar rfl rfl) ?_
   refine um (Ah (b' := false) 185 rfl rfl rfl rfl (Ah (b' := false) 185 rfl rfl rfl rfl (Ah (b' := false) 185 rfl rfl rfl rfl ?_)))
   refine uv (Ar rfl rfl) ?_
   refine um (Ah (b' := false) 190 rfl rfl rfl rfl (Ah (b' := false) 190 rfl rfl rfl rfl (Ah (b' := false) 190 rfl rfl rfl rfl ?_)))
   refine uv (Ar rfl rfl) ?_
   refine um (Ah (b' := false) 195 rfl rfl rfl rfl ?_)
   refine uv (Ar rfl rfl) ?_
   refine ua (Aa ?_)
   refine kW kn (As (BD results10 ?_))
   obtain rfl := AH mz
   exact rfl
  have na := AR gz ay
  refine fF ay (fF ay (fF ay ?_))
  refine uv (Ar (AM rfl ay) rfl) ?_
  refine um (Ah (b' := false) 165 rfl rfl rfl rfl (Ah (b' := false) 165 rfl rfl rfl rfl (Ah (b' := false) 165 rfl rfl rfl rfl ?_)))
  refine uv (Ar rfl rfl) ?_
  refine um (Ah (b' := false) 170 rfl rfl rfl rfl (Ah (b' := false) 170 rfl rfl rfl rfl (Ah (b' := false) 170 rfl rfl rfl rfl ?_)))
  refine uv (Ar rfl rfl) ?_
  refine um (Ah (b' := false) 175 rfl rfl rfl rfl (Ah (b' := false) 175 rfl rfl rfl rfl (Ah (b' := false) 175 rfl rfl rfl rfl ?_)))
  refine uv (Ar rfl rfl) ?_
  refine um (Ah (b' := false) 180 rfl rfl rfl rfl (Ah (b' := false) 180 rfl rfl rfl rfl (Ah (b' := false) 180 rfl rfl rfl rfl ?_)))
  refine uv (Ar rfl rfl) ?_
  refine um (Ah (b' := false) 185 rfl rfl rfl rfl (Ah (b' := false) 185 rfl rfl rfl rfl (Ah (b' := false) 185 rfl rfl rfl rfl ?_)))
  refine uv (Ar rfl rfl) ?_
  refine um (Ah (b' := false) 190 rfl rfl rfl rfl (Ah (b' := false) 190 rfl rfl rfl rfl (Ah (b' := false) 190 rfl rfl rfl rfl ?_)))
  refine uv (Ar rfl rfl) ?_
  refine um (Ah (b' := false) 195 rfl rfl rfl rfl ?_)
  refine uv (Ar rfl rfl) ?_
  refine ua (Aa ?_)
  refine kW kn (As (BD results10 ?_))
  obtain rfl := AH na
  exact rfl
 have nc := AR gv ax
 refine fF ax (fF ax (fF ax ?_))
 refine uv (Ar (AM rfl ax) rfl) ?_
 refine um (Ah (b' := false) 160 rfl rfl rfl rfl (Ah (b' := false) 160 rfl rfl rfl rfl (Ah (b' := false) 160 rfl rfl rfl rfl ?_)))
 refine uv (Ar rfl rfl) ?_
 refine um (Ah (b' := false) 165 rfl rfl rfl rfl (Ah (b' := false) 165 rfl rfl rfl rfl (Ah (b' := false) 165 rfl rfl rfl rfl ?_)))
 refine uv (Ar rfl rfl) ?_
 refine um (Ah (b' := false) 170 rfl rfl rfl rfl (Ah (b' := false) 170 rfl rfl rfl rfl (Ah (b' := false) 170 rfl rfl rfl rfl ?_)))
 refine uv (Ar rfl rfl) ?_
 refine um (Ah (b' := false) 175 rfl rfl rfl rfl (Ah (b' := false) 175 rfl rfl rfl rfl (Ah (b' := false) 175 rfl rfl rfl rfl ?_)))
 refine uv (Ar rfl rfl) ?_
 refine um (Ah (b' := false) 180 rfl rfl rfl rfl (Ah (b' := false) 180 rfl rfl rfl rfl (Ah (b' := false) 180 rfl rfl rfl rfl ?_)))
 refine uv (Ar rfl rfl) ?_
 refine um (Ah (b' := false) 185 rfl rfl rfl rfl (Ah (b' := false) 185 rfl rfl rfl rfl (Ah (b' := false) 185 rfl rfl rfl rfl ?_)))
 refine uv (Ar rfl rfl) ?_
 refine um (Ah (b' := false) 190 rfl rfl rfl rfl (Ah (b' := false) 190 rfl rfl rfl rfl (Ah (b' := false) 190 rfl rfl rfl rfl ?_)))
 refine uv (Ar rfl rfl) ?_
 refine um (Ah (b' := false) 195 rfl rfl rfl rfl ?_)
 refine uv (Ar rfl rfl) ?_
 refine ua (Aa ?_)
 refine kW kn (As (BD results10 ?_))
 obtain rfl := AH nc
 exact rfl
set_option maxHeartbeats 1000000 in
theorem Lp (aa : Au 1 (Bm 1 (iE .i64)) F Ac Ad Ab) (a6 : Au 1 (Bm 1 (iE .i64)) F Aj Ai Af) {r : List (List Int)} (hr : Io Ab Af = some r) :
    SH.Spec Tryz.prog 62 #[.agg #[.slice Ac Ab.length Ad, .slice Aj Af.length Ai]] F [] fun F' L' v => ∃ (ra : Option Addr) (rn : Nat) (rc : Nat) (rL : LH), v = .slice ra rn rc ∧ L' = rL ++ [] ∧ AW 0 22 1 (Bm 1 (iE .i64)) F' ra rn rc r rL := by
 refine sp func62 ntmps62 fun K _ _ => ?_
 rw [Io] at hr
 refine AI ?_
 refine By rfl rfl ?_; intro b1 j5
 refine ua (BI (ua (Aa ?_)))
 obtain ⟨out, h8, r9⟩ := AB hr
 refine AK (fun e1 F1 L1 => ∃ (a2 : Option Addr) (n6 : Nat) (c3 : Nat) (di : LH), AN F F1 ∧ L1 = (di ++ []) ∧ e1.sub [(3, .slice a2 n6 c3)] ∧ AW K.w0.heap.size 22 1 (Bm 1 (iE .i64)) F1 a2 n6 c3 out di) ?_ ?_
 ·clear r9
  refine AI (ua (Aa ?_))
  refine Ap ?_
  refine A2 (fun fo e1 F1 L1 => LA Af fo fun tl h => ∃ (ay : List (List Int)) (av : Option Addr) (aw : Nat) (ax : Nat) (ab : LH), DE Ab Af tl h ay = some out ∧ AN F F1 ∧ L1 = ((b1, ce #[.slice Ac Ab.length Ad, .slice Aj Af.length Ai] 51) :: (ab ++ [])) ∧ e1.sub [(1, .pointer (some ⟨b1, 0, none⟩)), (3, .slice av aw ax), (4, .int .i64 h)] ∧ AW K.w0.heap.size 22 1 (Bm 1 (iE .i64)) F1 av aw ax ay ab) _ (m0 (kc (ke kr)) ⟨_, _, rfl, A8.start _, [], none, 0, 0, [], h8, AN.refl _, rfl, z3, AW.nil _ _ _ _ _⟩) ?_
  rintro fo e1 gn _ ⟨tl, h, dk, bk, ay, av, aw, ax, ab, da, az, rfl, dm, ao⟩
  refine Az _ dm ?_
  replace aa := aa.mono (Ak (Ae _)) az
  replace a6 := a6.mono (Ak (Ae _)) az
  refine At (AI (um ?_))
  refine uv (Av DQ rfl) (uv (Ao isAgg23 rfl (Has.own 0 rfl) rfl) (uv (AJ underlying23 rfl) (uv (AV rfl rfl) (Aa ?_))))
  refine cQ (fun db => ?_) fun db => ?_
  ·obtain ⟨x, j6, rfl, gp, j7, dp⟩ := A8.succ bk db
   rw [DE] at da
   refine Aq ?_
   obtain ⟨br, gq, fp⟩ := AB da
   refine AK (fun e1 F1 L1 => ∃ (dd : Option Addr) (de : Nat) (df : Nat) (ba : LH), AN gn F1 ∧ L1 = ((b1, ce #[.slice Ac Ab.length Ad, .slice Aj Af.length Ai] 51) :: (ba ++ [])) ∧ e1.sub [(1, .pointer (some ⟨b1, 0, none⟩)), (3, .slice dd de df), (4, .int .i64 h)] ∧ AW K.w0.heap.size 22 1 (Bm 1 (iE .i64)) F1 dd de df br ba) ?_ ?_
   ·clear fp
    refine Ap (AI (uv (AE isAgg51 sizeOf51 rfl (Has.own 0 rfl) (A5 rfl) rfl) (um ?_)))
    obtain ⟨l, gr, gu⟩ := AB gq
    refine c0 call84 (G8 aa a6 gr) ?_; rintro _ bu _ bw dq ⟨bx, bz, ca, ai, rfl, rfl, aj⟩
    replace ao := ao.mono (Ak (Ae _)) bw
    replace aj := aj.new fun p hp => dq p (by simp [hp])
    refine AD (lp (ln rfl)) (kO (kf (fS fO) kr) ?_)
    refine ua (BI ?_)
    refine uv (Av Hs rfl) (uv (Ao isAgg23 rfl (Has.own 0 rfl) rfl) (uv (AJ underlying23 rfl) ?_))
    obtain ⟨gv, gw⟩ := AX gu
    obtain ⟨l2, gx, gy⟩ := BS gw
    refine Jr (R := (iE .i64)) (z0 := 0) (zs := l2) rfl BN (by decide) (Ae _) (fun _ => rfl) rfl gv gx (fun _ => .c .n) ?_; intro aq ad dr dt
    refine ua (Aa ?_)
    obtain ⟨l3, gz, fq⟩ := AB gy
    refine AK (fun e1 F1 L1 => ∃ (bl : LH), bu = F1 ∧ L1 = ((b1, ce #[.slice Ac Ab.length Ad, .slice Aj Af.length Ai] 51) :: (ab ++ (bl ++ []))) ∧ e1.sub [(1, .pointer (some ⟨b1, 0, none⟩)), (3, .slice av aw ax), (4, .int .i64 h), (6, .slice aq ad ad)] ∧ AW K.w0.heap.size 3 1 (iE .i64) F1 aq ad ad l3 bl) ?_ ?_
    ·clear fq
     refine AI (ua (Aa ?_))
     refine Ap ?_
     refine A2 (fun dg e1 F1 L1 => ∃ (l4 : List Int) (i : Int) (ah : LH), DA l dg l4 i = some l3 ∧ bu = F1 ∧ L1 = ((b1, ce #[.slice Ac Ab.length Ad, .slice Aj Af.length Ai] 51) :: (ab ++ (ai ++ (ah ++ [])))) ∧ e1.sub [(1, .pointer (some ⟨b1, 0, none⟩)), (3, .slice av aw ax), (4, .int .i64 h), (5, .slice bx bz ca), (6, .slice aq ad ad), (7, .int .i64 i)] ∧ AW K.w0.heap.size 3 1 (iE .i64) F1 aq ad ad l4 ah) FU (m0 (kc (kg (fS (fS fP)) (kg (fS fP) kr))) ⟨l2, 0, dr, gz, rfl, rfl, z6, dt⟩) ?_
     rintro dg e1 _ _ ⟨l4, i, ah, CC, rfl, rfl, du, ar⟩
     refine Az _ du ?_
     rcases dg with _ | dg
     ·rw [DA] at CC; cases CC
     rw [DA] at CC
     refine At (AI (um (um ?_)))
     refine uv ((AJ underlying22 rfl).i (AW.GN ar)) (uv (AV rfl rfl) (Aa ?_))
     refine cQ (fun dv => ?_) fun dv => ?_
     ·have ia := AQ CC dv
      refine Aq ?_
      obtain ⟨l5, ib, fs⟩ := AB ia
      refine AK (fun e1 F1 L1 => ∃ (bb : LH), bu = F1 ∧ L1 = ((b1, ce #[.slice Ac Ab.length Ad, .slice Aj Af.length Ai] 51) :: (ab ++ (ai ++ (bb ++ [])))) ∧ e1.sub [(1, .pointer (some ⟨b1, 0, none⟩)), (3, .slice av aw ax), (4, .int .i64 h), (5, .slice bx bz ca), (6, .slice aq ad ad), (7, .int .i64 i)] ∧ AW K.w0.heap.size 3 1 (iE .i64) F1 aq ad ad l5 bb) ?_ ?_
      ·clear fs
       refine Ap ?_
       refine AI (ua (Aa ?_))
       obtain ⟨au, ic, ft⟩ := AB ib
       refine jE (((b1, ce #[.slice Ac Ab.length Ad, .slice Aj Af.length Ai] 51) :: (ab ++ (ai ++ (ah ++ []))))) [(1, .pointer (some ⟨b1, 0, none⟩)), (3, .slice av aw ax), (4, .int .i64 h), (5, .slice bx bz ca), (6, .slice aq ad ad), (7, .int .i64 i), (8, .int .i64 au)] ?_ ?_
       ·clear ft
        refine AI (ua (Aa ?_))
        refine Ap ?_
        refine A2 (fun fv e1 F1 L1 => LA l fv fun fw k => ∃ (ae : Int), CL i fw ae = some au ∧ bu = F1 ∧ L1 = ((b1, ce #[.slice Ac Ab.length Ad, .slice Aj Af.length Ai] 51) :: (ab ++ (ai ++ (ah ++ [])))) ∧ e1.sub [(1, .pointer (some ⟨b1, 0, none⟩)), (3, .slice av aw ax), (4, .int .i64 h), (5, .slice bx bz ca), (6, .slice aq ad ad), (7, .int .i64 i), (8, .int .i64 ae), (9, .int .i64 k)]) _ (m0 kr ⟨_, _, rfl, A8.start _, 0, ic, rfl, rfl, z8⟩) ?_
        rintro fv e1 _ _ ⟨fw, k, cb, bc, ae, dh, rfl, rfl, dw⟩
        refine Az _ dw ?_
        refine At (AI (um (um ?_)))
        refine uv ((AJ underlying22 rfl).i (AW.GN aj)) (uv (AV rfl rfl) (Aa ?_))
        refine cQ (fun cc => ?_) fun cc => ?_
        ·obtain ⟨x2, j8, rfl, dx, fx, cd⟩ := A8.succ bc cc
         rw [CL] at dh
         refine Aq (At ?_)
         refine Ap ?_
         refine AI (um (um ?_))
         obtain ⟨j9, ja, jb, ie, dy, dz, fy, rfl, ig, eb⟩ := AW.at (Ae _) aj (L := (b1, ce #[.slice Ac Ab.length Ad, .slice Aj Af.length Ai] 51) :: (ab ++ (ai ++ (ah ++ [])))) (fC (fS fP)) fx.1 dx
         refine uv (AF underlying22 sizeOf3 rfl dy rfl (AW.idx aj fx)) (uv (Ao isAgg3 rfl dz (eb 0 (by decide))) (um ?_))
         obtain ⟨ok, ij, g0⟩ := AB dh
         refine cV call101 (Hh ij) (Aa ?_)
         refine AT rfl (fun ec => ?_) (fun ec => ?_)
         ·have ik := bt g0 ec
          refine An (um ?_)
          obtain ⟨il, im⟩ := AX ik
          refine uv (AY rfl rfl il) ?_
          refine ua (Aa (Ax (id := 5) (An (um ?_))))
          refine uv (AY rfl rfl (A8.CC bc cc (AW.O6 aj))) ?_
          refine ua (Aa ?_)
          subst cb; exact le kr ⟨_, _, rfl, cd, ae + 1, im, rfl, rfl, z8⟩
         have iq := bf g0 ec
         refine Aq (Ax (id := 5) (An (um ?_)))
         refine uv (AY rfl rfl (A8.CC bc cc (AW.O6 aj))) ?_
         refine ua (Aa ?_)
         subst cb; exact le kr ⟨_, _, rfl, cd, ae, iq, rfl, rfl, z8⟩
        obtain rfl := A8.zero bc cc
        rw [CL] at dh
        refine AL (Am (Am ?_))
        refine AA ?_
        obtain rfl := AH dh
        exact mi kr ⟨rfl, rfl, z7⟩
       obtain ⟨l6, cf, bm⟩ := AB ft
       refine AK (fun e1 F1 L1 => ∃ (ak : LH), bu = F1 ∧ L1 = ((b1, ce #[.slice Ac Ab.length Ad, .slice Aj Af.length Ai] 51) :: (ab ++ (ai ++ (ak ++ [])))) ∧ e1.sub [(1, .pointer (some ⟨b1, 0, none⟩)), (3, .slice av aw ax), (4, .int .i64 h), (5, .slice bx bz ca), (6, .slice aq ad ad), (7, .int .i64 i), (8, .int .i64 au)] ∧ AW K.w0.heap.size 3 1 (iE .i64) F1 aq ad ad l6 ak) ?_ ?_
       ·clear bm
        refine AI (um (um ?_))
        refine uv ((AJ underlying22 rfl).i (AW.GN aj)) (uv (Bb rfl rfl) (Aa ?_))
        refine cQ (fun bn => ?_) fun bn => ?_
        ·have ef := AQ cf bn
         refine An (um (um ?_))
         obtain ⟨x3, bo, cg, eg⟩ := A7 ef
         obtain ⟨ir, iu, iv, g8, bd, ga, eh, rfl, gb, gg⟩ := AW.at (Ae _) ar (L := (b1, ce #[.slice Ac Ab.length Ad, .slice Aj Af.length Ai] 51) :: (ab ++ (ai ++ (ah ++ [])))) (fC (fS (fS fP))) bo.1 cg
         refine uv (AF underlying22 sizeOf3 rfl bd rfl (AW.idx ar bo)) ?_
         obtain ⟨l7, ei, ej⟩ := BS eg
         refine CQ (u := 1) sizeOf3 (Ae _) rfl bd rfl rfl (fun _ => .c (.s (.s .h))) ar ei bo ?_; intro cj ck
         refine Aa ?_
         obtain rfl := AH ej
         exact mi kr ⟨cj, rfl, rfl, z7, ck⟩
        have en := AR cf bn
        refine Aq ?_
        obtain rfl := AH en
        exact mi kr ⟨ah, rfl, rfl, z7, ar⟩
       rintro e1 _ _ ⟨ak, rfl, rfl, cn, al⟩
       refine Az _ cn ?_
       refine AI (um ?_)
       refine uv (Bb rfl rfl) (Aa ?_)
       refine cQ (fun bp => ?_) fun bp => ?_
       ·have eo := AQ bm bp
        refine An (um (um ?_))
        obtain ⟨x4, bq, cp, ep⟩ := A7 eo
        obtain ⟨iw, iy, iz, gh, bg, gi, er, rfl, gj, gk⟩ := AW.at (Ae _) al (L := (b1, ce #[.slice Ac Ab.length Ad, .slice Aj Af.length Ai] 51) :: (ab ++ (ai ++ (ak ++ [])))) (fC (fS (fS fP))) bq.1 cp
        refine uv (AF underlying22 sizeOf3 rfl bg rfl (AW.idx al bq)) ?_
        obtain ⟨l8, et, eu⟩ := BS ep
        refine CQ (u := 2) sizeOf3 (Ae _) rfl bg rfl rfl (fun _ => .c (.s (.s .h))) al et bq ?_; intro cq cr
        refine Aa (Ax (id := 3) ?_)
        obtain rfl := AH eu
        exact mi kr ⟨cq, rfl, rfl, z6, cr⟩
       have ew := AR bm bp
       refine Aq (Ax (id := 3) ?_)
       obtain rfl := AH ew
       exact mi kr ⟨ak, rfl, rfl, z6, al⟩
      rintro e1 _ _ ⟨bb, rfl, rfl, ct, ey⟩
      refine Az _ ct ?_
      refine An (um ?_)
      obtain ⟨ez, fa⟩ := AX fs
      refine uv (AY rfl rfl ez) ?_
      refine ua (Aa ?_)
      exact le kr ⟨l5, i + 1, bb, fa, rfl, rfl, z6, ey⟩
     have fb := AR CC dv
     refine AL (Am (Am ?_))
     refine AA ?_
     obtain rfl := AH fb
     exact mi (kc (ka (kx kr))) ⟨ah, rfl, rfl, z4, ar⟩
    rintro e1 _ _ ⟨bl, rfl, rfl, cu, cv⟩
    refine Az _ cu ?_
    refine An (um (um ?_))
    refine bA (cs := #[.slice aq ad ad]) FP [.slice aq ad ad] ?_; intro j0 gl
    obtain rfl := (AW.Be cv).1
    refine Fa (Nat.le_refl _) (Ae _) (fC (fC (fS fP))) cv ?_; intro j1 bh fe
    replace ao := ao.mono (Ak (Ae _)) bh
    obtain ⟨ff, fg, fh, fi⟩ := E0 fq
    refine Dm (xs := ay) (ys := [l3]) (zs := ff) rfl FP rfl rfl (Nat.le_refl _) (fun _ => .c (.c .h)) ao (GO.box (vss := [[.slice aq l3.length l3.length]]) (ys := [l3]) 0 rfl (Ak (Ae _)) (.cons ⟨_, _, rfl, fe⟩ .nil) rfl rfl) fg fh (by decide) ?_; intro fj fk fl cw cx
    refine kO (kd kr) ?_
    refine ua (Aa (Ax (id := 1) ?_))
    obtain rfl := AH fi
    exact mi kr ⟨fj, fk, fl, cw, (bw.trans bh), rfl, z3, cx⟩
   rintro e1 j2 _ ⟨dd, de, df, ba, bj, rfl, cy, fm⟩
   refine Az _ cy ?_
   replace a6 := a6.mono (Ak (Ae _)) bj
   refine An (um ?_)
   refine uv (AY rfl rfl (A8.CC bk db (Au.lt a6))) ?_
   refine ua (Aa ?_)
   subst dk; exact le kr ⟨_, _, rfl, dp, br, dd, de, df, ba, fp, (az.trans bj), rfl, z3, fm⟩
  obtain rfl := A8.zero bk db
  rw [DE] at da
  refine AL (Am (Am ?_))
  refine AA ?_
  obtain rfl := AH da
  exact mi (kd kr) ⟨av, aw, ax, ab, az, rfl, z1, ao⟩
 rintro e1 j3 _ ⟨a2, n6, c3, di, gm, rfl, cz, j4⟩
 refine Az _ cz ?_
 refine AI (um (ua (Aa (As ?_))))
 refine BD results62 ?_
 obtain rfl := AH r9
 exact ⟨_, _, _, _, rfl, rfl, j4.any⟩
set_option maxHeartbeats 1000000 in
theorem I9 (a6 : Au 1 (Bm 1 (iE .i64)) F Ac Ad Ab) (aa : Au 1 (Bm 1 (iE .i64)) F Aj Ai Af) {r : Bool} (hr : Gf Ab Af = some r) :
    Ba Tryz.prog 13 #[.agg #[.slice Ac Ab.length Ad, .slice Aj Af.length Ai]] F (.bool r) := by
 refine sp func13 ntmps13 fun K _ _ => ?_
 rw [Gf] at hr
 refine AI ?_
 refine By rfl rfl ?_; intro b1 mn
 refine ua (Aa (At ?_))
 obtain ⟨k, h2, r3⟩ := AB hr
 refine jE ([(b1, ce #[.slice Ac Ab.length Ad, .slice Aj Af.length Ai] 26)]) [(1, .pointer (some ⟨b1, 0, none⟩)), (25, .bool k)] ?_ ?_
 ·clear r3
  refine An (uv (AE isAgg26 sizeOf26 rfl (Has.own 0 rfl) (A5 rfl) rfl) ?_)
  obtain ⟨ok, h4, r5⟩ := AB h2
  refine cV call17 (DZ a6 aa h4) (um ?_)
  rcases Bf ok with c6 | c6
  ·have r7 := bt r5 c6
   refine fB c6 (fB c6 ?_)
   refine uv (Aw (En rfl c6) rfl) (Aa ?_)
   obtain rfl := AH r7
   exact mi kr ⟨rfl, rfl, z2⟩
  have r8 := bf r5 c6
  refine nB c6 (uv (AE isAgg26 sizeOf26 rfl (Has.own 0 rfl) (A5 rfl) rfl) (nB c6 ?_))
  obtain ⟨mo, h9, jk⟩ := AB r8
  refine cV call28 (IW a6 aa h9) (uv (Ar (En rfl c6) rfl) (Aa ?_))
  obtain rfl := AH jk
  exact mi kr ⟨rfl, rfl, z2⟩
 refine AT rfl (fun fw => ?_) (fun fw => ?_)
 ·have jl := bt r3 fw
  refine AI ?_
  obtain ⟨mq, jm, jn⟩ := AB jl
  refine cV call14 (BB jm) ?_
  refine ua (Aa ?_)
  refine kW kn ?_
  refine As (Al ?_)
  refine BD results13 ?_
  obtain rfl := AH jn
  exact rfl
 have jo := bf r3 fw
 refine Aq (At ?_)
 refine Bd [(.pre, 4), (.pre, 5), (.still, 0), (.still, 2), (.seq, 1), (.seq, 3), (.alloc (.cells (.agg #[.slice none 0 0, .slice none 0 0] : Value).cells 26 (0, 0)) (fun b => .pointer (some ⟨b, 0, none⟩)) [], 4), (.alloc (.cells (.agg #[.slice none 0 0, .slice none 0 0] : Value).cells 51 (0, 0)) (fun b => .pointer (some ⟨b, 0, none⟩)) [], 5), (.seq, 6), (.seq, 7)] (by kernel_rfl) (by kernel_rfl) (⟨⟨_, _, rfl, rfl, rfl, rfl, rfl, EU zeroValue26⟩, ⟨⟨_, _, rfl, rfl, rfl, rfl, rfl, EU zeroValue51⟩, trivial⟩⟩) (by rfl) (by kernel_rfl) ?_
 refine ⟨⟨[], rfl, sn _, by kernel_rfl⟩, ?_⟩
 refine ⟨⟨[], rfl, sn _, by kernel_rfl⟩, ?_⟩
 refine mL [1] ([(b1, ce #[.slice Ac Ab.length Ad, .slice Aj Af.length Ai] 26)]) rfl (s0 sr) (fun H F' L' cc cd => AE isAgg26 sizeOf26 rfl ((Has.own 0 rfl).ext cc cd) (A5 rfl) rfl) (mL [1] ([(b1, ce #[.slice Ac Ab.length Ad, .slice Aj Af.length Ai] 26)]) rfl (s0 sr) (fun H F' L' cc cd => AE isAgg26 sizeOf26 rfl ((Has.own 0 rfl).ext cc cd) (A5 rfl) rfl) ?_)
 refine ⟨_, [(27, .agg #[.slice Ac Ab.length Ad, .slice Aj Af.length Ai])], rfl, rfl, z1, by kernel_rfl, ?_⟩; intro H
 obtain ⟨l, l2, jq, jr⟩ := A9 jo
 refine c0 call18 (D1 a6 aa jq) ?_; rintro _ mr _ cf dk ⟨da, db, dd, ax, de, df, dg, ay, rfl, rfl, ai, ab⟩
 replace a6 := a6.mono (Ak (Ae _)) cf
 replace aa := aa.mono (Ak (Ae _)) cf
 replace ai := ai.new fun p hp => dk p (by simp [hp])
 replace ab := ab.new fun p hp => dk p (by simp [hp])
 refine AD (lp (lp (ln rfl))) (kO (kf (fS (fS fO)) kr) ?_)
 refine Aa ⟨_, rfl, cf, [2], by kernel_rfl, .inl (.inr (fun d h => by cases h; rfl)), (fc (s0 (s2 (s3 (s3 sr)))) nm), ?_⟩
 refine ⟨_, [(29, .agg #[.slice Ac Ab.length Ad, .slice Aj Af.length Ai])], rfl, rfl, z1, by kernel_rfl, ?_⟩; intro H
 obtain ⟨l3, l4, js, jt⟩ := A9 jr
 refine c0 call19 (C0 a6 aa js) ?_; rintro _ ju _ bc fx ⟨cg, cj, ck, dh, cn, bh, rfl, rfl, ca, av⟩
 replace a6 := a6.mono (Ak (Ae _)) bc
 replace aa := aa.mono (Ak (Ae _)) bc
 replace ai := ai.mono (Ae _) bc
 replace ab := ab.mono (Ae _) bc
 replace av := av.new fun p hp => fx p (by simp [hp])
 refine AD (lp (ln rfl)) (kO (kf (fS fO) kr) ?_)
 refine Aa ⟨_, rfl, bc, [], by kernel_rfl, .inl (.inl rfl), nm, ?_⟩
 refine GW rfl ?_; intro bj jv
 refine Jp (L' := (bj, ce #[.slice none 0 0, .slice none 0 0] 26) :: ((b1, ce #[.slice Ac Ab.length Ad, .slice Aj Af.length Ai] 26) :: (bh ++ (ax ++ (ay ++ []))))) rfl ?_
 refine GW rfl ?_; intro di jw
 refine Jp (L' := (di, ce #[.slice none 0 0, .slice none 0 0] 51) :: ((bj, ce #[.slice none 0 0, .slice none 0 0] 26) :: ((b1, ce #[.slice Ac Ab.length Ad, .slice Aj Af.length Ai] 26) :: (bh ++ (ax ++ (ay ++ [])))))) rfl ?_
 refine ⟨_, [(3, .pointer (some ⟨bj, 0, none⟩)), (28, .agg #[.slice da db dd, .slice de df dg])], rfl, rfl, z2, by kernel_rfl, ?_⟩; intro H
 refine A6 (i := 1) sizeOf26 rfl rfl rfl (by simp [Value.oneCell']) rfl (A5 rfl) (AD rfl ?_)
 refine Aa ⟨undef, rfl, AN.refl _, [], by kernel_rfl, .inl (.inl rfl), nm, ?_⟩
 refine ⟨_, [(4, .pointer (some ⟨di, 0, none⟩)), (30, .agg #[.slice cg l3.length cj, .slice ck dh cn])], rfl, rfl, z2, by kernel_rfl, ?_⟩; intro H
 refine A6 (i := 0) sizeOf51 rfl rfl rfl (by simp [Value.oneCell']) rfl (A5 rfl) (AD rfl ?_)
 refine Aa ⟨undef, rfl, AN.refl _, [], by kernel_rfl, .inl (.inl rfl), nm, ?_⟩
 refine BC (AI (uv (AE isAgg51 sizeOf51 rfl (Has.own 0 rfl) (A5 rfl) rfl) ?_))
 obtain ⟨n, jx, jz⟩ := AB jt
 refine Bi (Lt := bh ++ []) (Lr := (di, ce #[.slice cg l3.length cj, .slice ck dh cn] 51) :: ((bj, ce #[.slice da db dd, .slice de df dg] 26) :: ((b1, ce #[.slice Ac Ab.length Ad, .slice Aj Af.length Ai] 26) :: (ax ++ (ay ++ []))))) rfl call20 rfl rfl rfl (pT ((fC (fC (fC fP))).trans (pA pR)) (lp (ln rfl))) (fun F2 h2 h3 => by rw [(AW.Be av).1]; exact Dl (ca.mono (Ak (Ae _)) h2) (av.row (Ak (Ae _)) h2 (fun p hp => h3 p (List.mem_append_left _ hp))) jx) ?_
 refine ua (BI (um (ua (ua (ua (BI (ua (Aa ?_))))))))
 obtain ⟨v, dm, iz, want, j0, j1⟩ := GV jz
 refine AK (fun e1 F1 L1 => ∃ (cp : Option Addr) (cq : Nat) (cr : Nat) (ad : LH), AN ju F1 ∧ L1 = ((bj, ce #[.slice da db dd, .slice de df dg] 26) :: ((b1, ce #[.slice Ac Ab.length Ad, .slice Aj Af.length Ai] 26) :: (ax ++ (ay ++ (ad ++ []))))) ∧ e1.sub [(1, .pointer (some ⟨b1, 0, none⟩)), (3, .pointer (some ⟨bj, 0, none⟩)), (5, .int .i64 n), (6, .int .i64 v), (7, .int .i64 dm), (8, .int .i64 iz), (9, .slice cp cq cr)] ∧ AW K.w0.heap.size 22 1 (Bm 1 (iE .i64)) F1 cp cq cr want ad) ?_ ?_
 ·clear j1
  refine AI (um ?_)
  refine uv (Bb rfl rfl) (Aa ?_)
  refine cQ (fun fy => ?_) fun fy => ?_
  ·have kb := AQ j0 fy
   refine AI (uv (AE isAgg51 sizeOf51 rfl (Has.own 0 rfl) (A5 rfl) rfl) ?_)
   obtain ⟨n2, kh, j2⟩ := AB kb
   refine Bi (Lt := bh ++ []) (Lr := (di, ce #[.slice cg l3.length cj, .slice ck dh cn] 51) :: ((bj, ce #[.slice da db dd, .slice de df dg] 26) :: ((b1, ce #[.slice Ac Ab.length Ad, .slice Aj Af.length Ai] 26) :: (ax ++ (ay ++ []))))) rfl call34 rfl rfl rfl (pT ((fC (fC (fC fP))).trans (pA pR)) (lp (ln rfl))) (fun F2 h2 h3 => by rw [(AW.Be av).1]; exact Ck (ca.mono (Ak (Ae _)) h2) (av.row (Ak (Ae _)) h2 (fun p hp => h3 p (List.mem_append_left _ hp))) kh) ?_
   refine ua (BI (um ?_))
   refine uv (Em rfl rfl) (Aa ?_)
   refine cQ (fun g0 => ?_) fun g0 => ?_
   ·have kj := AQ j2 g0
    refine Bd [(.still, 0), (.still, 3), (.seq, 1), (.still, 2), (.seq, 4), (.seq, 5), (.seq, 6)] (by kernel_rfl) (by kernel_rfl) (trivial) (by rfl) (by kernel_rfl) (mL [4] ([(di, ce #[.slice cg l3.length cj, .slice ck dh cn] 51)]) rfl (s0 (s2 (s1 (s1 (s3 (s3 (s3 sr))))))) (fun H F' L' cc cd => AE isAgg51 sizeOf51 rfl ((Has.own 0 rfl).ext cc cd) (A5 rfl) rfl) (mL [4] ([(di, ce #[.slice cg l3.length cj, .slice ck dh cn] 51)]) rfl (s0 (s2 (s1 (s1 (s3 (s3 (s3 sr))))))) (fun H F' L' cc cd => AE isAgg51 sizeOf51 rfl ((Has.own 0 rfl).ext cc cd) (A5 rfl) rfl) ?_))
    refine ⟨_, [(40, .agg #[.slice cg l3.length cj, .slice ck dh cn])], rfl, rfl, z1, by kernel_rfl, ?_⟩; intro H
    obtain rfl := (AW.Be av).1
    refine Fa (Nat.le_refl _) (Ak (Ae _)) (fC (fC (fC fP))) av ?_; intro mu ct fv
    replace ca := ca.mono (Ak (Ae _)) ct
    obtain ⟨l5, kl, km⟩ := AB kj
    refine c0 call39 (Ii ca fv kl) ?_; rintro _ mv _ bk g8 ⟨mw, mx, my, ko, rfl, rfl, cu⟩
    replace ca := ca.mono (Ak (Ae _)) bk
    replace fv := fv.mono (Ak (Ae _)) bk
    replace cu := cu.new fun p hp => g8 p (by simp [hp])
    refine AD (lp (ln rfl)) (kO (kf (fS fO) (kf (fS fO) (kf (fS fO) kr))) ?_)
    refine Aa ⟨_, rfl, (ct.trans bk), [3], by kernel_rfl, .inl (.inr (fun d h => by cases h; rfl)), (fc (s0 (s2 (s1 (s1 (s3 (s3 (s3 sr))))))) nm), ?_⟩
    refine mS [41] rfl ((AJ underlying23 rfl).i (AW.GN cu)) ?_
    refine ⟨_, [(43, .agg #[.slice cg l3.length cj, .slice ck l4.length cn])], rfl, rfl, z1, by kernel_rfl, ?_⟩; intro H
    obtain ⟨l6, kt, ku⟩ := AB km
    refine c0 call62 (Lp ca fv kt) ?_; rintro _ mz _ dp ga ⟨j3, j4, j5, gb, rfl, rfl, cv⟩
    replace cv := cv.new fun p hp => ga p (by simp [hp])
    refine AD (lp (ln rfl)) (kO (kf (fS fO) (kf (fS fO) (kf (fS fO) kr))) ?_)
    refine Aa ⟨_, rfl, dp, [2], by kernel_rfl, .inl (.inr (fun d h => by cases h; rfl)), (fc sm nm), ?_⟩
    refine ⟨_, [(42, .int .i64 (l5.length : Int))], rfl, rfl, z1, by kernel_rfl, ?_⟩; intro H
    refine ua ?_
    refine Aa ⟨_, rfl, AN.refl _, [], by kernel_rfl, .inl (.inl rfl), nm, ?_⟩
    refine ⟨_, [(44, .slice j3 j4 j5)], rfl, rfl, z1, by kernel_rfl, ?_⟩; intro H
    refine ua ?_
    refine Aa ⟨_, rfl, AN.refl _, [], by kernel_rfl, .inl (.inl rfl), nm, ?_⟩
    refine BC ?_
    obtain ⟨rfl, rfl, rfl, rfl⟩ := Lg ku
    exact mi (kd (kc (kc (kg (fS (fS fP)) (kg (fS (fS fP)) (ka kn)))))) ⟨j3, j4, j5, gb, ((ct.trans bk).trans dp), rfl, z7, cv⟩
   have kv := AR j2 g0
   refine An (ua (Aa ?_))
   obtain ⟨rfl, rfl, rfl, rfl⟩ := Lg kv
   exact mi (kd (kc (kc (kx (ka (ka (ke kr))))))) ⟨none, 0, 0, [], AN.refl _, rfl, z7, AW.nil _ _ _ _ _⟩
  have kz := AR j0 fy
  refine Aq ?_
  obtain ⟨rfl, rfl, rfl, rfl⟩ := Lg kz
  exact mi (kd (kc (kc (kx (ka (ka (ke kr))))))) ⟨none, 0, 0, [], AN.refl _, rfl, z7, AW.nil _ _ _ _ _⟩
 rintro e1 na _ ⟨cp, cq, cr, ad, bl, rfl, gg, ak⟩
 refine Az _ gg ?_
 replace a6 := a6.mono (Ak (Ae _)) bl
 replace aa := aa.mono (Ak (Ae _)) bl
 replace ai := ai.mono (Ae _) bl
 replace ab := ab.mono (Ae _) bl
 refine AI (uv (AE isAgg26 sizeOf26 rfl (Has.own 0 rfl) (A5 rfl) rfl) ?_)
 obtain ⟨n3, n4, gh, gi⟩ := A9 j1
 refine Bi (Lt := ax ++ (ay ++ [])) (Lr := (bj, ce #[.slice da db dd, .slice de df dg] 26) :: ((b1, ce #[.slice Ac Ab.length Ad, .slice Aj Af.length Ai] 26) :: (ad ++ []))) rfl call63 rfl rfl rfl (pT ((fC (fC fP)).trans (pA ((fC (fC fP)).trans (pA pR)))) (lp (lp (ln rfl)))) (fun F2 h2 h3 => by rw [(BG.Be ai).1]; rw [(BG.Be ab).1]; exact LK (ai.row (Ae _) h2 (fun p hp => h3 p (List.mem_append_left _ hp))) (ab.row (Ae _) h2 (fun p hp => h3 p (List.mem_append_right _ (List.mem_append_left _ hp)))) gh) ?_
 refine um (ox rfl rfl rfl (ox rfl rfl rfl (ua (ua (BI ?_)))))
 refine uv (AE isAgg26 sizeOf26 rfl (Has.own 0 rfl) (A5 rfl) rfl) ?_
 obtain ⟨n5, n6, gj, gk⟩ := A9 gi
 refine Bi (Lt := ax ++ (ay ++ [])) (Lr := (bj, ce #[.slice da db dd, .slice de df dg] 26) :: ((b1, ce #[.slice Ac Ab.length Ad, .slice Aj Af.length Ai] 26) :: (ad ++ []))) rfl call64 rfl rfl rfl (pT ((fC (fC fP)).trans (pA ((fC (fC fP)).trans (pA pR)))) (lp (lp (ln rfl)))) (fun F2 h2 h3 => by rw [(BG.Be ai).1]; rw [(BG.Be ab).1]; exact Ml (ai.row (Ae _) h2 (fun p hp => h3 p (List.mem_append_left _ hp))) (ab.row (Ae _) h2 (fun p hp => h3 p (List.mem_append_right _ (List.mem_append_left _ hp)))) gj) ?_
 refine um (ox rfl rfl rfl (ox rfl rfl rfl (ua (ua (BI ?_)))))
 refine uv (AE isAgg26 sizeOf26 rfl (Has.own 0 rfl) (A5 rfl) rfl) ?_
 obtain rfl := (BG.Be ai).1
 refine Ew (Nat.le_refl _) (Ae _) (fC (fC fP)) ai ?_; intro la az bb
 replace a6 := a6.mono (Ak (Ae _)) az
 replace aa := aa.mono (Ak (Ae _)) az
 replace ab := ab.mono (Ae _) az
 replace ak := ak.mono (Ak (Ae _)) az
 obtain rfl := (BG.Be ab).1
 refine Ew (Nat.le_refl _) (Ae _) (fC (fC fP)) ab ?_; intro ld ba bm
 replace a6 := a6.mono (Ak (Ae _)) ba
 replace aa := aa.mono (Ak (Ae _)) ba
 replace bb := bb.mono (Ak (Ae _)) ba
 replace ak := ak.mono (Ak (Ae _)) ba
 obtain ⟨l7, n7, gl, gm⟩ := A9 gk
 refine c0 call65 (Kz bb bm gl) ?_; rintro _ bn _ aw dq ⟨bo, bp, bq, ae, rfl, rfl, al⟩
 replace a6 := a6.mono (Ak (Ae _)) aw
 replace aa := aa.mono (Ak (Ae _)) aw
 replace bb := bb.mono (Ak (Ae _)) aw
 replace bm := bm.mono (Ak (Ae _)) aw
 replace ak := ak.mono (Ak (Ae _)) aw
 replace al := al.new fun p hp => dq p (by simp [hp])
 refine AD (lp (ln rfl)) (kO (kf (fS fO) (kf (fS fO) kr)) ?_)
 refine um (ox rfl rfl rfl (ox rfl rfl rfl (ua (ua (Aa (At ?_))))))
 obtain ⟨k2, dr, cw⟩ := AB gm
 refine jE ((ad ++ (ae ++ []))) [(9, .slice cp cq cr), (14, .slice bo bp bq), (95, .bool k2)] ?_ ?_
 ·clear cw
  refine An (um (um ?_))
  refine uv (BH rfl rfl) (um ?_)
  by_cases ao : n4 ≠ n
  ·have gn := AQ dr ao
   refine fT ao (fT ao (fT ao ?_))
   refine uv (Aw (AS rfl ao) rfl) ?_
   refine um (Ah (b' := true) 68 rfl rfl rfl rfl (Ah (b' := true) 68 rfl rfl rfl rfl (Ah (b' := true) 68 rfl rfl rfl rfl ?_)))
   refine uv (Aw rfl rfl) ?_
   refine um (Ah (b' := true) 73 rfl rfl rfl rfl (Ah (b' := true) 73 rfl rfl rfl rfl (Ah (b' := true) 73 rfl rfl rfl rfl ?_)))
   refine uv (Aw rfl rfl) ?_
   refine um (Ah (b' := true) 78 rfl rfl rfl rfl (Ah (b' := true) 78 rfl rfl rfl rfl (Ah (b' := true) 78 rfl rfl rfl rfl ?_)))
   refine uv (Aw rfl rfl) ?_
   refine um (Ah (b' := true) 83 rfl rfl rfl rfl (Ah (b' := true) 83 rfl rfl rfl rfl (Ah (b' := true) 83 rfl rfl rfl rfl (Ah (b' := true) 83 rfl rfl rfl rfl (Ah (b' := true) 83 rfl rfl rfl rfl ?_)))))
   refine uv (Aw rfl rfl) ?_
   refine um (Ah (b' := true) 90 rfl rfl rfl rfl (Ah (b' := true) 90 rfl rfl rfl rfl (Ah (b' := true) 90 rfl rfl rfl rfl (Ah (b' := true) 90 rfl rfl rfl rfl ?_))))
   refine uv (Aw rfl rfl) (Aa ?_)
   obtain rfl := AH gn
   exact mi (kd (kd (kg (fS fP) kr))) ⟨rfl, rfl, z3⟩
  have dt := AR dr ao
  refine nF ao (um (nF ao (um (nF ao ?_))))
  refine uv (BH rfl rfl) (uv (Ar (AM rfl ao) rfl) (um ?_))
  by_cases aq : n6 ≠ n
  ·have gp := AQ dt aq
   refine fT aq (fT aq (fT aq ?_))
   refine uv (Aw (AS rfl aq) rfl) ?_
   refine um (Ah (b' := true) 73 rfl rfl rfl rfl (Ah (b' := true) 73 rfl rfl rfl rfl (Ah (b' := true) 73 rfl rfl rfl rfl ?_)))
   refine uv (Aw rfl rfl) ?_
   refine um (Ah (b' := true) 78 rfl rfl rfl rfl (Ah (b' := true) 78 rfl rfl rfl rfl (Ah (b' := true) 78 rfl rfl rfl rfl ?_)))
   refine uv (Aw rfl rfl) ?_
   refine um (Ah (b' := true) 83 rfl rfl rfl rfl (Ah (b' := true) 83 rfl rfl rfl rfl (Ah (b' := true) 83 rfl rfl rfl rfl (Ah (b' := true) 83 rfl rfl rfl rfl (Ah (b' := true) 83 rfl rfl rfl rfl ?_)))))
   refine uv (Aw rfl rfl) ?_
   refine um (Ah (b' := true) 90 rfl rfl rfl rfl (Ah (b' := true) 90 rfl rfl rfl rfl (Ah (b' := true) 90 rfl rfl rfl rfl (Ah (b' := true) 90 rfl rfl rfl rfl ?_))))
   refine uv (Aw rfl rfl) (Aa ?_)
   obtain rfl := AH gp
   exact mi (kd (kd (kg (fS fP) kr))) ⟨rfl, rfl, z3⟩
  have du := AR dt aq
  refine nF aq (um (nF aq (um (nF aq ?_))))
  refine uv (BH rfl rfl) (uv (Ar (AM rfl aq) rfl) (um ?_))
  by_cases ar : n7 ≠ v
  ·have gq := AQ du ar
   refine fT ar (fT ar (fT ar ?_))
   refine uv (Aw (AS rfl ar) rfl) ?_
   refine um (Ah (b' := true) 78 rfl rfl rfl rfl (Ah (b' := true) 78 rfl rfl rfl rfl (Ah (b' := true) 78 rfl rfl rfl rfl ?_)))
   refine uv (Aw rfl rfl) ?_
   refine um (Ah (b' := true) 83 rfl rfl rfl rfl (Ah (b' := true) 83 rfl rfl rfl rfl (Ah (b' := true) 83 rfl rfl rfl rfl (Ah (b' := true) 83 rfl rfl rfl rfl (Ah (b' := true) 83 rfl rfl rfl rfl ?_)))))
   refine uv (Aw rfl rfl) ?_
   refine um (Ah (b' := true) 90 rfl rfl rfl rfl (Ah (b' := true) 90 rfl rfl rfl rfl (Ah (b' := true) 90 rfl rfl rfl rfl (Ah (b' := true) 90 rfl rfl rfl rfl ?_))))
   refine uv (Aw rfl rfl) (Aa ?_)
   obtain rfl := AH gq
   exact mi (kd (kd (kg (fS fP) kr))) ⟨rfl, rfl, z3⟩
  have dv := AR du ar
  refine nF ar (um (nF ar (um (nF ar ?_))))
  refine uv (BH rfl rfl) (uv (Ar (AM rfl ar) rfl) (um ?_))
  by_cases au : n3 ≠ dm
  ·have gr := AQ dv au
   refine fT au (fT au (fT au ?_))
   refine uv (Aw (AS rfl au) rfl) ?_
   refine um (Ah (b' := true) 83 rfl rfl rfl rfl (Ah (b' := true) 83 rfl rfl rfl rfl (Ah (b' := true) 83 rfl rfl rfl rfl (Ah (b' := true) 83 rfl rfl rfl rfl (Ah (b' := true) 83 rfl rfl rfl rfl ?_)))))
   refine uv (Aw rfl rfl) ?_
   refine um (Ah (b' := true) 90 rfl rfl rfl rfl (Ah (b' := true) 90 rfl rfl rfl rfl (Ah (b' := true) 90 rfl rfl rfl rfl (Ah (b' := true) 90 rfl rfl rfl rfl ?_))))
   refine uv (Aw rfl rfl) (Aa ?_)
   obtain rfl := AH gr
   exact mi (kd (kd (kg (fS fP) kr))) ⟨rfl, rfl, z3⟩
  have dw := AR dv au
  refine nF au (um (nF au (um (nF au ?_))))
  refine uv (BH rfl rfl) (uv (Ar (AM rfl au) rfl) (um ?_))
  by_cases ah : n5 ≠ iz
  ·have gu := AQ dw ah
   refine fT ah (fT ah (fT ah (fT ah (fT ah ?_))))
   refine uv (Aw (AS rfl ah) rfl) ?_
   refine um (Ah (b' := true) 90 rfl rfl rfl rfl (Ah (b' := true) 90 rfl rfl rfl rfl (Ah (b' := true) 90 rfl rfl rfl rfl (Ah (b' := true) 90 rfl rfl rfl rfl ?_))))
   refine uv (Aw rfl rfl) (Aa ?_)
   obtain rfl := AH gu
   exact mi (kd (kd (kg (fS fP) kr))) ⟨rfl, rfl, z3⟩
  have dx := AR dw ah
  refine nF ah (um (nF ah ?_))
  refine uv ((AJ underlying104 rfl).i (AW.GN al)) ?_
  refine nF ah (um (nF ah ?_))
  refine uv ((AJ underlying23 rfl).i (AW.GN ak)) (nF ah (uv (BH rfl rfl) (uv (Ar (AM rfl ah) rfl) (um ?_))))
  by_cases aj : (l7.length : Int) ≠ (want.length : Int)
  ·have gv := AQ dx aj
   refine fT aj (fT aj (fT aj (fT aj ?_)))
   refine uv (Aw (AS rfl aj) rfl) (Aa ?_)
   obtain rfl := AH gv
   exact mi (kd (kd (kg (fS fP) kr))) ⟨rfl, rfl, z3⟩
  have gw := AR dx aj
  refine nF aj (uv (AE isAgg26 sizeOf26 rfl (Has.own 0 rfl) (A5 rfl) rfl) (nF aj (uv (AE isAgg26 sizeOf26 rfl (Has.own 1 rfl) (A5 rfl) rfl) (nF aj ?_))))
  obtain ⟨nc, gx, gy⟩ := AB gw
  refine cV call22 (DF bb bm a6 aa gx) (nF aj (uv (BM rfl) (uv (Ar (AM rfl aj) rfl) (Aa ?_))))
  obtain rfl := AH gy
  exact mi (kd (kd (kg (fS fP) kr))) ⟨rfl, rfl, z3⟩
 refine AT rfl (fun cx => ?_) (fun cx => ?_)
 ·have gz := bt cw cx
  refine AI (ua (Aa ?_))
  refine kW kn ?_
  refine As (Al ?_)
  refine BD results13 ?_
  obtain rfl := AH gz
  exact rfl
 have ia := bf cw cx
 refine Aq ?_
 refine AK (fun e1 F1 L1 => GJ = some r ∧ bn = F1 ∧ L1 = [] ∧ e1.sub []) ?_ ?_
 ·refine AI (um ?_)
  refine uv ((AJ underlying104 rfl).i (AW.GN al)) ?_
  refine um (Aa ?_)
  refine Ap ?_
  refine A2 (fun j6 e1 F1 L1 => LA l7 j6 fun tl k3 => Cf want tl k3 = some r ∧ bn = F1 ∧ L1 = (ad ++ (ae ++ [])) ∧ e1.sub [(9, .slice cp cq cr), (96, .slice bo bp bq), (97, .int .i64 (l7.length : Int)), (98, .int .i64 k3)]) _ (m0 kr ⟨_, _, rfl, A8.start _, ia, rfl, rfl, z4⟩) ?_
  rintro j6 e1 _ _ ⟨tl, k3, dy, bd, br, rfl, rfl, dz⟩
  refine Az _ dz (AI (uv (AV rfl rfl) ?_))
  refine Aa (At ?_)
  refine cQ (fun bu => ?_) fun bu => ?_
  ·obtain ⟨x, j7, rfl, eb, ec, ef⟩ := A8.succ bd bu
   rw [Cf] at br
   refine Aq ?_
   refine AK (fun e1 F1 L1 => GM k3 (Cf want j7) = some r ∧ bn = F1 ∧ L1 = (ad ++ (ae ++ [])) ∧ e1.sub [(9, .slice cp cq cr), (96, .slice bo bp bq), (97, .int .i64 (l7.length : Int)), (98, .int .i64 k3)]) ?_ ?_
   ·refine Ap ?_
    refine AI (um ?_)
    obtain ⟨lg, lh, lj, j8, eg, eh, ib, ⟨ic, ie, rfl, ei⟩, j9, ej⟩ := AW.at (Ak (Ae _)) al (L := ad ++ (ae ++ [])) (fS fP) ec.1 eb
    refine uv (AF underlying104 sizeOf107 rfl eg rfl (AW.idx al ec)) (uv (Ao isAgg107 rfl eh (ej 0 (by decide))) ?_)
    refine ua (ua (Aa (At (AI (um ?_)))))
    refine uv (AJ underlying107 rfl) ?_
    refine um (um ?_)
    obtain ⟨x2, bw, cb, en⟩ := A7 br
    obtain ⟨lk, ll, lq, ja, eo, ep, ig, ⟨lr, lu, rfl, lv⟩, jb, er⟩ := AW.at (Ak (Ae _)) ak (L := ad ++ (ae ++ [])) fP bw.1 cb
    refine uv (AF underlying23 sizeOf22 rfl eo rfl (AW.idx ak bw)) (uv (Ao isAgg22 rfl ep (er 0 (by decide))) (uv (AJ underlying22 rfl) (uv (BH rfl rfl) (Aa ?_))))
    refine cQ (fun cy => ?_) fun cy => ?_
    ·have ij := AQ en cy
     refine AI (ua (Aa ?_))
     refine kW kn ?_
     refine As (Al (Ay (Al (Al (Ay (Al ?_))))))
     refine BD results13 ?_
     obtain rfl := AH ij
     exact rfl
    have ik := AR en cy
    refine Aq (AI (um ?_))
    refine uv (AJ underlying107 rfl) ?_
    refine um (Aa ?_)
    refine Ap ?_
    refine A2 (fun jc e1 F1 L1 => LA x jc fun jd k4 => DB k3 x2 (Cf want j7) jd k4 = some r ∧ bn = F1 ∧ L1 = (ad ++ (ae ++ [])) ∧ e1.sub [(9, .slice cp cq cr), (16, .int .i64 k3), (96, .slice bo bp bq), (97, .int .i64 (l7.length : Int)), (98, .int .i64 k3), (111, .slice ic x.length ie), (112, .int .i64 (x.length : Int)), (113, .int .i64 k4)]) _ (m0 kr ⟨_, _, rfl, A8.start _, ik, rfl, rfl, z8⟩) ?_
    rintro jc e1 _ _ ⟨jd, k4, et, bg, bx, rfl, rfl, eu⟩
    refine Az _ eu (AI (uv (AV rfl rfl) ?_))
    refine Aa (At ?_)
    refine cQ (fun bz => ?_) fun bz => ?_
    ·obtain ⟨x3, nf, rfl, ew, ey, ez⟩ := A8.succ bg bz
     rw [DB] at bx
     refine Aq (At ?_)
     refine Ap ?_
     refine AI (um ?_)
     obtain ⟨lx, ly, lz, je, fa, fb, il, rfl, jf, fe⟩ := Au.at (Ae _) ei (ad ++ (ae ++ [])) ey.1 ew
     refine uv (AF underlying107 sizeOf108 rfl fa rfl ey) (uv (Ao isAgg108 rfl fb (fe 0 (by decide))) ?_)
     refine ua (ua (BI (um (um (um ?_)))))
     obtain ⟨ma, mb, mc, jg, ff, fg, im, ⟨me, mg, rfl, iq⟩, jh, fh⟩ := AW.at (Ak (Ae _)) ak (L := ad ++ (ae ++ [])) fP bw.1 cb
     refine uv (AF underlying23 sizeOf22 rfl ff rfl (AW.idx ak bw)) (uv (Ao isAgg22 rfl fg (fh 0 (by decide))) (um ?_))
     obtain ⟨x4, fi, fj, fk⟩ := A7 bx
     obtain ⟨mh, mj, ml, ji, fl, fm, ir, rfl, jj, fo⟩ := Au.at (Ae _) iq (ad ++ (ae ++ [])) fi.1 fj
     refine uv (AF underlying22 sizeOf3 rfl fl rfl fi) (uv (Ao isAgg3 rfl fm (fo 0 (by decide))) (uv (BH rfl rfl) (Aa ?_)))
     refine cQ (fun cz => ?_) fun cz => ?_
     ·have iu := AQ fk cz
      refine AI (ua (Aa ?_))
      refine kW kn ?_
      refine As (Ay (Al (Al (Ay (Ay (Al (Al (Ay (Al ?_)))))))))
      refine BD results13 ?_
      obtain rfl := AH iu
      exact rfl
     have iv := AR fk cz
     refine Aq (Ax (id := 3) (An ?_))
     refine uv (AY rfl rfl (A8.CC bg bz (Au.lt ei))) ?_
     refine um (Aa ?_)
     subst et; exact le kr ⟨_, _, rfl, ez, iv, rfl, rfl, z8⟩
    obtain rfl := A8.zero bg bz
    rw [DB] at bx
    refine AL (Am (Am ?_))
    refine AA (Ax (id := 1) ?_)
    exact mi kr ⟨bx, rfl, rfl, z4⟩
   rintro e1 _ _ ⟨fp, rfl, rfl, fq⟩
   refine Az _ fq ?_
   rw [GM] at fp
   refine An (uv (AY rfl rfl (A8.CC bd bu (AW.O6 al))) ?_)
   refine um (Aa ?_)
   subst dy; exact le kr ⟨_, _, rfl, ef, fp, rfl, rfl, z4⟩
  obtain rfl := A8.zero bd bu
  rw [Cf] at br
  refine AL (Am (Am ?_))
  refine AA ?_
  exact mi kn ⟨br, rfl, rfl, (sn _)⟩
 rintro e1 _ _ ⟨fs, rfl, rfl, ft⟩
 refine Az _ ft ?_
 rw [GJ] at fs
 refine AI ?_
 obtain ⟨ng, iw, iy⟩ := AB fs
 refine cV call14 (BB iw) ?_
 refine ua (Aa (As ?_))
 refine BD results13 ?_
 obtain rfl := AH iy
 exact rfl
set_option maxHeartbeats 1000000 in
theorem MC {n : Int} (a6 : Au 1 (Bm 1 (iE .i64)) F Ac Ad Ab) (aa : Au 1 (Bm 1 (iE .i64)) F Aj Ai Af) {r : Bool} (hr : J2 Ab Af n = some r) :
    Ba Tryz.prog 11 #[.agg #[.slice Ac Ab.length Ad, .slice Aj Af.length Ai], .int .i64 n] F (.bool r) := by
 refine sp func11 ntmps11 fun K _ _ => ?_
 rw [J2] at hr
 refine AI ?_
 refine By rfl rfl ?_; intro b1 iv
 refine ua (BI ?_)
 refine uv (AE isAgg26 sizeOf26 rfl (Has.own 0 rfl) (A5 rfl) rfl) ?_
 obtain ⟨l, n2, n3, h2, r3⟩ := I6 hr
 refine c0 call35 (JK a6 aa h2) ?_; rintro _ F4 _ ew fs ⟨a8, bd, c9, ay, rfl, rfl, ak⟩
 replace a6 := a6.mono (Ak (Ae _)) ew
 replace aa := aa.mono (Ak (Ae _)) ew
 replace ak := ak.new fun p hp => fs p (by simp [hp])
 refine AD (lp (ln rfl)) (kO (kf (fS fO) kr) ?_)
 refine um (ox rfl rfl rfl (ox rfl rfl rfl (ox rfl rfl rfl (ua (ua (ua (Aa ?_)))))))
 obtain ⟨l2, ft, ey⟩ := AB r3
 refine AK (fun e1 F1 L1 => ∃ (ai : LH), F4 = F1 ∧ L1 = ((b1, ce #[.slice Ac Ab.length Ad, .slice Aj Af.length Ai] 26) :: (ai ++ [])) ∧ e1.sub [(1, .int .i64 n), (2, .pointer (some ⟨b1, 0, none⟩)), (5, .slice a8 bd c9)] ∧ AW K.w0.heap.size 3 1 (iE .i64) F1 a8 bd c9 l2 ai) ?_ ?_
 ·clear ey
  obtain ⟨k, ez, cj⟩ := AB ft
  refine jE (((b1, ce #[.slice Ac Ab.length Ad, .slice Aj Af.length Ai] 26) :: (ay ++ []))) [(1, .int .i64 n), (2, .pointer (some ⟨b1, 0, none⟩)), (5, .slice a8 bd c9), (25, .bool k)] ?_ ?_
  ·clear cj
   refine An (um ?_)
   refine uv ((AJ underlying22 rfl).i (AW.GN ak)) (uv (Em rfl rfl) (um ?_))
   by_cases aq : 0 < (l.length : Int)
   ·have fv := AQ ez aq
    refine nT aq (um (nT aq ?_))
    refine uv (Fp rfl rfl (by decide)) (nT aq (uv (Bb rfl rfl) (uv (Aw (AS rfl aq) rfl) (Aa ?_))))
    obtain rfl := AH fv
    exact mi kr ⟨rfl, rfl, z4⟩
   have fw := AR ez aq
   refine fF aq (fF aq (fF aq ?_))
   refine uv (Ar (AM rfl aq) rfl) (Aa ?_)
   obtain rfl := AH fw
   exact mi kr ⟨rfl, rfl, z4⟩
  refine AT rfl (fun ck => ?_) (fun ck => ?_)
  ·have fx := bt cj ck
   refine An (um (um (um ?_)))
   refine uv ((AJ underlying22 rfl).i (AW.GN ak)) ?_
   obtain ⟨fy, g0⟩ := AX fx
   refine uv (Fp rfl rfl fy) (um (uv (Fp rfl rfl (by decide)) ?_))
   obtain ⟨x, cn, cp, g8⟩ := A7 g0
   obtain ⟨iw, iy, iz, ga, bg, gb, fa, rfl, gg, gh⟩ := AW.at (Ae _) ak (L := (b1, ce #[.slice Ac Ab.length Ad, .slice Aj Af.length Ai] 26) :: (ay ++ [])) (fC fP) cn.1 cp
   refine uv (AF underlying22 sizeOf3 rfl bg rfl (AW.idx ak cn)) ?_
   obtain ⟨l3, gi, gj⟩ := BS g8
   refine CQ (u := Int.tmod n 8) sizeOf3 (Ae _) rfl bg rfl rfl (fun _ => .c .h) ak gi cn ?_; intro cq cr
   refine Aa ?_
   obtain rfl := AH gj
   exact mi kr ⟨cq, rfl, rfl, z3, cr⟩
  have gk := bf cj ck
  refine Aq ?_
  obtain rfl := AH gk
  exact mi kr ⟨ay, rfl, rfl, z3, ak⟩
 rintro e1 _ _ ⟨ai, rfl, rfl, ct, au⟩
 refine Az _ ct (AI (uv (AE isAgg26 sizeOf26 rfl (Has.own 0 rfl) (A5 rfl) rfl) ?_))
 obtain ⟨l4, n4, gl, gm⟩ := A9 ey
 refine c0 call5 (Kr a6 aa gl) ?_; rintro _ fb _ az cu ⟨cd, cf, cg, bh, rfl, rfl, al⟩
 replace a6 := a6.mono (Ak (Ae _)) az
 replace aa := aa.mono (Ak (Ae _)) az
 replace au := au.mono (Ae _) az
 replace al := al.new fun p hp => cu p (by simp [hp])
 refine AD (lp (ln rfl)) (kO (kf (fS fO) kr) ?_)
 refine um (ox rfl rfl rfl (ox rfl rfl rfl (ua (ua (Aa ?_)))))
 obtain ⟨t, gn, fe⟩ := AB gm
 refine AK (fun e1 F1 L1 => ∃ (av : LH), fb = F1 ∧ L1 = ((b1, ce #[.slice Ac Ab.length Ad, .slice Aj Af.length Ai] 26) :: (ai ++ (av ++ []))) ∧ e1.sub [(1, .int .i64 n), (2, .pointer (some ⟨b1, 0, none⟩)), (5, .slice a8 bd c9), (8, .slice cd cf cg)] ∧ BG K.w0.heap.size 22 3 1 (iE .i64) F1 cd cf cg t av) ?_ ?_
 ·clear fe
  obtain ⟨k2, ff, cv⟩ := AB gn
  refine jE (((b1, ce #[.slice Ac Ab.length Ad, .slice Aj Af.length Ai] 26) :: (ai ++ (bh ++ [])))) [(1, .int .i64 n), (2, .pointer (some ⟨b1, 0, none⟩)), (5, .slice a8 bd c9), (8, .slice cd cf cg), (46, .bool k2)] ?_ ?_
  ·clear cv
   refine An (um ?_)
   refine uv ((AJ underlying23 rfl).i (BG.GN al)) (uv (Em rfl rfl) (um ?_))
   by_cases ar : 0 < (l4.length : Int)
   ·have gp := AQ ff ar
    refine nT ar (um (nT ar ?_))
    refine uv (Fp rfl rfl (by decide)) (nT ar (uv (Bb rfl rfl) (uv (Aw (AS rfl ar) rfl) (Aa ?_))))
    obtain rfl := AH gp
    exact mi (kc (kg (fS fP) kr)) ⟨rfl, rfl, z5⟩
   have gq := AR ff ar
   refine fF ar (fF ar (fF ar ?_))
   refine uv (Ar (AM rfl ar) rfl) (Aa ?_)
   obtain rfl := AH gq
   exact mi (kc (kg (fS fP) kr)) ⟨rfl, rfl, z5⟩
  refine AT rfl (fun cw => ?_) (fun cw => ?_)
  ·have gr := bt cv cw
   refine AI (um (um (um ?_)))
   refine uv ((AJ underlying23 rfl).i (BG.GN al)) ?_
   obtain ⟨gu, gv⟩ := AX gr
   refine uv (Fp rfl rfl gu) ?_
   obtain ⟨x2, fg, cx, gw⟩ := A7 gv
   have cy := (BG.Be al).1
   refine Iu (fC (fS fP)) al cx ?_; intro gx ba bb j0 j1 j2 bc bj bk ao cz
   refine kO (kf (fS (fS (fS fO))) kr) ?_
   obtain ⟨j3, j4, j5, gy, da, db, fh, rfl, gz, dd⟩ := AW.at Cm bk (L := (b1, ce #[.slice Ac Ab.length Ad, .slice Aj Af.length Ai] 26) :: (ba ++ (bc ++ (bb ++ (ai ++ []))))) (fC fP) fg.1 bj
   refine uv (AF underlying23 sizeOf22 rfl da rfl (K2 cy fg)) (uv (Ao isAgg22 rfl db (dd 0 (by decide))) ?_)
   refine ua (Aa (An (um (um (um ?_)))))
   refine uv ((AJ underlying22 rfl).i (AW.GN ao)) ?_
   obtain ⟨ia, ib⟩ := AX gw
   refine uv (Fp rfl rfl ia) ?_
   obtain ⟨x3, bl, aw, de⟩ := A7 ib
   obtain ⟨ic, ie, ig, fi, bm, bn, df, rfl, fj, bo⟩ := AW.at (Ae _) ao (L := (b1, ce #[.slice Ac Ab.length Ad, .slice Aj Af.length Ai] 26) :: (ba ++ (bc ++ (bb ++ (ai ++ []))))) (fC (fS fP)) bl.1 aw
   refine uv (AF underlying22 sizeOf3 rfl bm rfl (AW.idx ao bl)) (uv (Ao isAgg3 rfl bn (bo 0 (by decide))) (um (uv (Fp rfl rfl (by decide)) ?_)))
   obtain ⟨dg, dh⟩ := AX de
   refine uv (C7 rfl rfl dg) ?_
   obtain ⟨di, dk⟩ := AX dh
   refine uv (AY rfl rfl di) ?_
   obtain ⟨ij, ik, il, fk, ax, fl, dm, rfl, fm, fo⟩ := AW.at (Ae _) ao (L := (b1, ce #[.slice Ac Ab.length Ad, .slice Aj Af.length Ai] 26) :: (ba ++ (bc ++ (bb ++ (ai ++ []))))) (fC (fS fP)) bl.1 aw
   refine uv (AF underlying22 sizeOf3 rfl ax rfl (AW.idx ao bl)) ?_
   obtain ⟨r2, dp, dq⟩ := BS dk
   refine CQ (u := x3 + ((Int.tmod n 5) - 2)) sizeOf3 (Ae _) rfl ax rfl rfl (fun _ => .c (.s .h)) ao dp bl ?_; intro fp bp
   obtain ⟨t2, dr, dt⟩ := BS dq
   refine Bp (p := fun X => BG K.w0.heap.size 22 3 1 (iE .i64) fb cd cf cg t2 X) (K5.Lv cz bk bj bp dr) (pT ((fC fP).trans (pA ((fC fP).trans (pA ((fC fP).trans (pA pR)))))) (lp (lp (lp (ln rfl))))) ?_; intro bq br
   refine kO (kf (fS fO) kr) (Aa ?_)
   obtain rfl := AH dt
   exact mi (kc (kg (fS fP) kr)) ⟨bq, rfl, rfl, z4, br⟩
  have du := bf cv cw
  refine Aq ?_
  obtain rfl := AH du
  exact mi kr ⟨bh, rfl, rfl, z4, al⟩
 rintro e1 _ _ ⟨av, rfl, rfl, bu, bw⟩
 refine Az _ bu ?_
 refine AI (um ?_)
 refine uv (Fp rfl rfl (by decide)) (um (uv (Fp rfl rfl (by decide)) ?_))
 refine uv (BL (v := .agg #[.int .i64 (Int.tmod n 2), .int .i64 (Int.tmod n 3)]) rfl (by intro w; kernel_rfl)) ?_
 refine A1 rfl zeroValue29 ?_; intro dv fq
 refine A6 (i := 0) sizeOf29 rfl rfl rfl (by simp [Value.oneCell']) rfl (A5 rfl) (AD rfl (BI (uv (AE isAgg26 sizeOf26 rfl (Has.own 1 rfl) (A5 rfl) rfl) (uv (AE isAgg29 sizeOf29 rfl (Has.own 0 rfl) (A5 rfl) rfl) (um (uv (Fp rfl rfl (by decide)) ?_))))))
 obtain ⟨ok, dw, bx⟩ := AB fe
 refine cV call6 (CR a6 aa dw) (um ?_)
 rcases Bf ok with ab | ab
 ·have dx := bt bx ab
  refine nB ab (uv (AE isAgg26 sizeOf26 rfl (Has.own 1 rfl) (A5 rfl) rfl) ?_)
  refine nB ab (um (nB ab ?_))
  refine uv (Fp rfl rfl (by decide)) ?_
  refine nB ab (um (nB ab ?_))
  refine uv (Fp rfl rfl (by decide)) (nB ab ?_)
  obtain ⟨im, dy, bz⟩ := AB dx
  refine cV call7 (El a6 aa dy) (uv (Aw (En rfl ab) rfl) (um ?_))
  rcases Bf im with ad | ad
  ·have dz := bt bz ad
   refine nB ad (uv (AE isAgg26 sizeOf26 rfl (Has.own 1 rfl) (A5 rfl) rfl) ?_)
   refine nB ad (um (nB ad (um (nB ad ?_))))
   obtain ⟨iq, eb, ca⟩ := AB dz
   refine Bi (Lt := ai ++ (av ++ [])) (Lr := [(dv, ce #[.int .i64 (Int.tmod n 2), .int .i64 (Int.tmod n 3)] 29), (b1, ce #[.slice Ac Ab.length Ad, .slice Aj Af.length Ai] 26)]) rfl call8 rfl rfl rfl (pT ((fC (fC fP)).trans (pA ((fC (fC fP)).trans (pA pR)))) (lp (lp (ln rfl)))) (fun F2 h2 h3 => by rw [(AW.Be au).1]; rw [(BG.Be bw).1]; exact IM (a6.mono (Ak (Ae _)) h2) (aa.mono (Ak (Ae _)) h2) (au.row (Ae _) h2 (fun p hp => h3 p (List.mem_append_left _ hp))) (bw.row (Ae _) h2 (fun p hp => h3 p (List.mem_append_right _ (List.mem_append_left _ hp)))) eb) ?_
   refine uv (Aw (En rfl ad) rfl) (um ?_)
   rcases Bf iq with aj | aj
   ·have ec := bt ca aj
    refine nB aj (uv (AE isAgg26 sizeOf26 rfl (Has.own 1 rfl) (A5 rfl) rfl) (nB aj ?_))
    obtain ⟨ir, ef, cb⟩ := AB ec
    refine cV call13 (I9 a6 aa ef) (uv (Aw (En rfl aj) rfl) (um ?_))
    rcases Bf ir with ae | ae
    ·have eg := bt cb ae
     refine nB ae (uv (AE isAgg26 sizeOf26 rfl (Has.own 1 rfl) (A5 rfl) rfl) ?_)
     refine nB ae (um (nB ae ?_))
     refine uv (Fp rfl rfl (by decide)) (nB ae ?_)
     obtain ⟨iu, eh, cc⟩ := AB eg
     refine cV call9 (Jb a6 aa eh) (uv (Aw (En rfl ae) rfl) (um ?_))
     rcases Bf iu with ah | ah
     ·have ei := bt cc ah
      refine nB ah (uv (AE isAgg26 sizeOf26 rfl (Has.own 1 rfl) (A5 rfl) rfl) (nB ah (uv (AE isAgg29 sizeOf29 rfl (Has.own 0 rfl) (A5 rfl) rfl) (nB ah ?_))))
      obtain ⟨j6, ej, en⟩ := AB ei
      refine cV call10 (E7 a6 aa ej) (uv (Aw (En rfl ah) rfl) ?_)
      refine ua (Aa ?_)
      refine kW kn (As (BD results11 ?_))
      obtain rfl := AH en
      exact rfl
     have eo := bf cc ah
     refine fB ah (fB ah (fB ah ?_))
     refine uv (Ar (En rfl ah) rfl) ?_
     refine ua (Aa ?_)
     refine kW kn (As (BD results11 ?_))
     obtain rfl := AH eo
     exact rfl
    have ep := bf cb ae
    refine fB ae (fB ae (fB ae (fB ae ?_)))
    refine uv (Ar (En rfl ae) rfl) ?_
    refine um (Ah (b' := false) 100 rfl rfl rfl rfl (Ah (b' := false) 100 rfl rfl rfl rfl (Ah (b' := false) 100 rfl rfl rfl rfl ?_)))
    refine uv (Ar rfl rfl) ?_
    refine ua (Aa ?_)
    refine kW kn (As (BD results11 ?_))
    obtain rfl := AH ep
    exact rfl
   have er := bf ca aj
   refine fB aj (fB aj ?_)
   refine uv (Ar (En rfl aj) rfl) ?_
   refine um (Ah (b' := false) 94 rfl rfl rfl rfl (Ah (b' := false) 94 rfl rfl rfl rfl (Ah (b' := false) 94 rfl rfl rfl rfl (Ah (b' := false) 94 rfl rfl rfl rfl ?_))))
   refine uv (Ar rfl rfl) ?_
   refine um (Ah (b' := false) 100 rfl rfl rfl rfl (Ah (b' := false) 100 rfl rfl rfl rfl (Ah (b' := false) 100 rfl rfl rfl rfl ?_)))
   refine uv (Ar rfl rfl) ?_
   refine ua (Aa ?_)
   refine kW kn (As (BD results11 ?_))
   obtain rfl := AH er
   exact rfl
  have et := bf bz ad
  refine fB ad (fB ad (fB ad (fB ad ?_)))
  refine uv (Ar (En rfl ad) rfl) ?_
  refine um (Ah (b' := false) 90 rfl rfl rfl rfl (Ah (b' := false) 90 rfl rfl rfl rfl ?_))
  refine uv (Ar rfl rfl) ?_
  refine um (Ah (b' := false) 94 rfl rfl rfl rfl (Ah (b' := false) 94 rfl rfl rfl rfl (Ah (b' := false) 94 rfl rfl rfl rfl (Ah (b' := false) 94 rfl rfl rfl rfl ?_))))
  refine uv (Ar rfl rfl) ?_
  refine um (Ah (b' := false) 100 rfl rfl rfl rfl (Ah (b' := false) 100 rfl rfl rfl rfl (Ah (b' := false) 100 rfl rfl rfl rfl ?_)))
  refine uv (Ar rfl rfl) ?_
  refine ua (Aa ?_)
  refine kW kn (As (BD results11 ?_))
  obtain rfl := AH et
  exact rfl
 have eu := bf bx ab
 refine fB ab (fB ab (fB ab (fB ab (fB ab (fB ab ?_)))))
 refine uv (Ar (En rfl ab) rfl) ?_
 refine um (Ah (b' := false) 84 rfl rfl rfl rfl (Ah (b' := false) 84 rfl rfl rfl rfl (Ah (b' := false) 84 rfl rfl rfl rfl (Ah (b' := false) 84 rfl rfl rfl rfl ?_))))
 refine uv (Ar rfl rfl) ?_
 refine um (Ah (b' := false) 90 rfl rfl rfl rfl (Ah (b' := false) 90 rfl rfl rfl rfl ?_))
 refine uv (Ar rfl rfl) ?_
 refine um (Ah (b' := false) 94 rfl rfl rfl rfl (Ah (b' := false) 94 rfl rfl rfl rfl (Ah (b' := false) 94 rfl rfl rfl rfl (Ah (b' := false) 94 rfl rfl rfl rfl ?_))))
 refine uv (Ar rfl rfl) ?_
 refine um (Ah (b' := false) 100 rfl rfl rfl rfl (Ah (b' := false) 100 rfl rfl rfl rfl (Ah (b' := false) 100 rfl rfl rfl rfl ?_)))
 refine uv (Ar rfl rfl) ?_
 refine ua (Aa ?_)
 refine kW kn (As (BD results11 ?_))
 obtain rfl := AH eu
 exact rfl
end Go.Proofs.YtepdgjpkhkijcaaGreat
