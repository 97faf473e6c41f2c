/- The walks that this claim needs, printed by a program of mine; part 1. -/
import Derived.Test.YtfmapnhfamoecabGreatZQShX
import Derived.Test.YtfmapnhfamoecabGreatZQTf
import Derived.Test.YtfmapnhfamoecabGreatZQTd
namespace Go.Proofs.YtfmapnhfamoecabGreat
open Go.SH Go.PL
open Tryz 
variable {f so : (List Int) → Option Bool} {P9 PZ Pm OJ Rb QY : Array Value} {F : FS} {PW J3 QE : FuncId} {a at_ b hi Af last lo n r4 Bs start Fv v y : Int} {Gq : LH} {Ac : List ((List Int) × Int × Int)} {AN : List (Int × Int)} {Ao walks : List (List Int)} {hit metal seq AG : List Int} {KG G4 K6 Av SF Cu Ah Bt Cq EV GJ Ar : Nat} {KC M1 : Nat × Nat} {Au Ta Cr Ai Bu CG As : Option Addr}
theorem Lq (aa : AF 1 (iE .u8) F Cr Cu metal) {r : List Int} {r2 r3 : Int} (hr : HW metal = some (r, r2, r3)) :
    SH.Spec Tryz.prog 4 #[.slice Cr metal.length Cu] F [] fun F' L' v => ∃ (rb : Nat) (ra : Option Addr) (rc : Nat), v = .pointer (some ⟨rb, 0, none⟩) ∧ L' = [(rb, ce #[.slice ra r.length rc, .int .i64 r2, .int .u32 r3] 68)] ∧ AF 1 (iE .u8) F' ra rc r := by
 refine sp func4 ntmps4 fun K _ _ => ?_
 rw [HW] at hr
 refine AP (ua (Cj (um ?_)))
 refine uv (BC (v := .agg #[.slice Cr metal.length Cu, .int .i64 0, .int .u32 0]) rfl (by intro w; kernel_rfl)) ?_
 refine BK rfl rfl ?_; intro b1 ab
 refine ua (Aa (Ap ?_))
 refine C9 results4 ?_
 obtain ⟨rfl, rfl, rfl⟩ := Iz hr
 exact ⟨_, _, _, rfl, rfl, aa⟩
set_option maxHeartbeats 1000000 in
theorem LO (ab : AF 1 (iE .u8) F Cr Cu metal) {r r2 r3 : Int} (hr : D5 metal at_ Fv = some (r, r2, r3)) :
    SH.Spec Tryz.prog 51 #[.pointer (some ⟨KG, 0, none⟩)] F [(KG, ce #[.slice Cr metal.length Cu, .int .i64 at_, .int .u32 Fv] 68)] fun _ L' v => v = .int .i64 r ∧ L' = [(KG, ce #[.slice Cr metal.length Cu, .int .i64 r2, .int .u32 r3] 68)] := by
 refine sp func51 ntmps51 fun K _ _ => ?_
 rw [D5] at hr
 refine AP (ua (Aa ?_))
 obtain ⟨ad, aa, h1, r4⟩ := CQ hr
 refine jE ([(KG, ce #[.slice Cr metal.length Cu, .int .i64 ad, .int .u32 aa] 68)]) [(0, .pointer (some ⟨KG, 0, none⟩))] ?_ ?_
 ·clear r4
  refine dW (wm (wv (AU rfl) (wv (Ad MH rfl) (wv (Al isAgg3 rfl (Has.own 0 rfl) rfl) (wm (wv (AU rfl) (wv (Ad Qo rfl) ?_)))))))
  refine wv (Al isAgg22 rfl (Has.own 0 rfl) rfl) (wv (A3 underlying22 rfl) (wv (DY rfl rfl) (Df ?_)))
  refine cQ (fun c5 => ?_) fun c5 => ?_
  ·have r6 := A2 h1 c5
   refine Ak (um (um (um ?_)))
   refine uv (AU rfl) (uv (Ad QM rfl) (uv (Al isAgg66 rfl (Has.own 0 rfl) rfl) (uv (P8 rfl rfl rfl) (uv (AU rfl) (uv (Ad MH rfl) (CS (i := 0) sizeOf3 rfl rfl rfl rfl (CE rfl) (AK rfl ?_)))))))
   refine uv (AU rfl) (uv (Ad QM rfl) (CS (i := 0) sizeOf66 rfl rfl rfl rfl (CE rfl) (AK rfl (Aa ?_))))
   obtain ⟨rfl, rfl⟩ := CP r6
   exact mi kr ⟨rfl, rfl, z1⟩
  have r7 := A1 h1 c5
  refine An ?_
  obtain ⟨rfl, rfl⟩ := CP r7
  exact mi kr ⟨rfl, rfl, z1⟩
 refine AP (um ?_)
 refine uv (AU rfl) (uv (Ad QM rfl) (uv (Al isAgg66 rfl (Has.own 0 rfl) rfl) (uv (OC rfl rfl rfl) ?_)))
 obtain ⟨n, h9, au⟩ := CT r4
 refine uv ((DQ rfl).i h9) (Aa ?_)
 obtain ⟨n2, ae, al, ao⟩ := CQ au
 refine jE ([(KG, ce #[.slice Cr metal.length Cu, .int .i64 ae, .int .u32 aa] 68)]) [(3, .int .u32 n2)] ?_ ?_
 ·clear ao
  refine AP (um ?_)
  refine uv (AU rfl) (uv (Ad Qo rfl) (uv (Al isAgg22 rfl (Has.own 0 rfl) rfl) (uv (A3 underlying22 rfl) (uv (IF rfl rfl) (Aa ?_)))))
  refine cQ (fun af => ?_) fun af => ?_
  ·have av := A2 al af
   refine dW ?_
   refine wm (wm ?_)
   refine wv (AU rfl) (wv (Ad Qo rfl) (wv (Al isAgg22 rfl (Has.own 0 rfl) rfl) (wm (wv (AU rfl) (wv (Ad MH rfl) (wv (Al isAgg3 rfl (Has.own 0 rfl) rfl) ?_))))))
   obtain ⟨x, aq, ah, aw⟩ := BH av
   obtain ⟨bk, bl, bm, ax, ai, aj, ar, rfl, ay, ak⟩ := AF.at (Ab _) ab ([(KG, ce #[.slice Cr metal.length Cu, .int .i64 ad, .int .u32 aa] 68)]) aq.1 ah
   refine wv (AI underlying22 sizeOf5 rfl ai rfl aq) (wv (Al isAgg5 rfl aj (ak 0 (by decide))) (wv (Pv rfl underlying5 underlying66 rfl) (wv (OC rfl rfl rfl) (wv (P8 rfl rfl rfl) ?_))))
   obtain ⟨n3, az, ba⟩ := CT aw
   refine wv ((DQ rfl).i az) ?_
   refine Df (Ak (um ?_))
   refine uv (AU rfl) (uv (Ad MH rfl) (uv (Al isAgg3 rfl (Has.own 0 rfl) rfl) ?_))
   obtain ⟨bb, bc⟩ := AV ba
   refine uv (A5 rfl rfl bb) (uv (AU rfl) (uv (Ad MH rfl) (CS (i := 0) sizeOf3 rfl rfl rfl rfl (CE rfl) (AK rfl (Aa ?_)))))
   obtain ⟨rfl, rfl⟩ := CP bc
   exact mi kr ⟨rfl, rfl, z1⟩
  have bg := A1 al af
  refine An ?_
  obtain ⟨rfl, rfl⟩ := CP bg
  exact mi kr ⟨rfl, rfl, z1⟩
 refine AP (um (um ?_))
 refine uv (K2 rfl rfl (by decide)) (uv (X8 rfl rfl rfl) (uv (TL rfl rfl rfl) ?_))
 obtain ⟨bh, bj⟩ := AV ao
 refine uv (SG underlying66 underlying3 rfl bh) ?_
 refine ua (Aa (Ap ?_))
 refine C9 results51 ?_
 obtain ⟨rfl, rfl, rfl⟩ := Iz bj
 exact ⟨rfl, rfl⟩
theorem Ej (aa : AF 1 (iE .u8) F Cr Cu metal) {r r2 r3 : Int} (hr : B7 metal at_ Fv n = some (r, r2, r3)) :
    SH.Spec Tryz.prog 21 #[.pointer (some ⟨KG, 0, none⟩), .int .i64 n] F [(KG, ce #[.slice Cr metal.length Cu, .int .i64 at_, .int .u32 Fv] 68)] fun _ L' v => v = .int .i64 r ∧ L' = [(KG, ce #[.slice Cr metal.length Cu, .int .i64 r2, .int .u32 r3] 68)] := by
 refine sp func21 ntmps21 fun K _ _ => ?_
 rw [B7] at hr
 refine AP (ua (Cj (um ?_)))
 obtain ⟨n2, ad, ab, h1, r4⟩ := EZ hr
 refine cG call51 (LO aa h1) ?_; rintro _ F5 _ ai aj ak ⟨rfl, rfl⟩
 refine AK (lb (ln rfl)) (um ?_)
 obtain ⟨g9, ae⟩ := AV r4
 refine uv (A5 rfl rfl g9) (uv (Nt rfl rfl) ?_)
 obtain ⟨af, ah⟩ := AV ae
 refine uv (SV rfl rfl af) ?_
 refine ua (Aa (Ap ?_))
 refine C9 results21 ?_
 obtain ⟨rfl, rfl, rfl⟩ := Iz ah
 exact ⟨rfl, rfl⟩
theorem Dz (aa : AF 1 (iE .u8) F Cr Cu metal) {r r2 r3 : Int} (hr : BR metal at_ Fv lo hi = some (r, r2, r3)) :
    SH.Spec Tryz.prog 11 #[.pointer (some ⟨KG, 0, none⟩), .int .i64 lo, .int .i64 hi] F [(KG, ce #[.slice Cr metal.length Cu, .int .i64 at_, .int .u32 Fv] 68)] fun _ L' v => v = .int .i64 r ∧ L' = [(KG, ce #[.slice Cr metal.length Cu, .int .i64 r2, .int .u32 r3] 68)] := by
 refine sp func11 ntmps11 fun K _ _ => ?_
 rw [BR] at hr
 refine AP (ua (Cj (um (um (um (um ?_))))))
 obtain ⟨g1, r4⟩ := AV hr
 refine uv (FR rfl rfl g1) ?_
 obtain ⟨n, ad, ab, h5, r6⟩ := EZ r4
 refine cG call21 (Ej aa h5) ?_; rintro _ F7 _ ai ae aj ⟨rfl, rfl⟩
 refine AK (lb (ln rfl)) ?_
 obtain ⟨af, ah⟩ := AV r6
 refine uv (A5 rfl rfl af) ?_
 refine ua (Aa (Ap ?_))
 refine C9 results11 ?_
 obtain ⟨rfl, rfl, rfl⟩ := Iz ah
 exact ⟨rfl, rfl⟩
set_option maxHeartbeats 1000000 in
theorem Nr {plots : Int} (aa : AF 1 (iE .u8) F Cr Cu metal) {r : Int} {r2 : List Int} {r3 : Int} (hr : GI metal at_ Fv plots = some (r, r2, r3, r4)) :
    SH.Spec Tryz.prog 5 #[.pointer (some ⟨KG, 0, none⟩), .int .i64 plots] F [(KG, ce #[.slice Cr metal.length Cu, .int .i64 at_, .int .u32 Fv] 68)] fun F' L' v => ∃ (dg : Option Addr) (dh : Nat) (di : Nat) (dk : LH), v = .agg #[.int .i64 r, .slice dg dh di] ∧ L' = (KG, ce #[.slice Cr metal.length Cu, .int .i64 r3, .int .u32 r4] 68) :: (dk ++ []) ∧ AT 0 34 1 (iE .i64) F' dg dh di r2 dk := by
 refine sp func5 ntmps5 fun K _ _ => ?_
 rw [GI] at hr
 refine AP ?_
 refine Br rfl zeroValue27 ?_; intro b1 ia
 refine Cj (um ?_)
 obtain ⟨n, bx, bj, h2, r5⟩ := EZ hr
 refine Fy (Lb := [(KG, ce #[.slice Cr metal.length Cu, .int .i64 at_, .int .u32 Fv] 68)]) (Lr := [(b1, ce #[.int .i64 0, .slice none 0 0] 27)]) rfl call11 rfl rfl rfl (((fC fO).trans (pC pR))) (Dz aa h2) ?_; rintro _ F6 _ ej ib ic ⟨rfl, rfl⟩
 replace aa := aa.mono (Ab _) ej
 refine AK (lb (ln rfl)) ?_
 refine uv (BC (v := .agg #[.int .i64 n, .slice none 0 0]) rfl (by intro w; kernel_rfl)) ?_
 refine Br rfl zeroValue27 ?_; intro HI eo
 refine By (i := 0) sizeOf27 rfl rfl rfl (by simp [Value.oneCell']) rfl (CE rfl) (AK rfl ?_)
 refine Cj (um (um ?_))
 refine uv (Ad KF rfl) (uv (Al isAgg3 rfl (Has.own 0 rfl) rfl) ?_)
 obtain ⟨er, et⟩ := AV r5
 refine uv (O0 rfl rfl er) (uv (Nt rfl rfl) ?_)
 obtain ⟨n2, bz, bk, eu, ew⟩ := EZ et
 refine Fy (Lb := [(KG, ce #[.slice Cr metal.length Cu, .int .i64 bx, .int .u32 bj] 68)]) (Lr := [(HI, ce #[.int .i64 n, .slice none 0 0] 27), (b1, ce #[.int .i64 0, .slice none 0 0] 27)]) rfl call11 rfl rfl rfl (((fC fO).trans (pC pR))) (Dz aa eu) ?_; rintro _ dm _ ca ey fa ⟨rfl, rfl⟩
 replace aa := aa.mono (Ab _) ca
 refine AK (lb (ln rfl)) ?_
 refine ua (Cj (ua (Aa ?_)))
 obtain ⟨bl, ak, ad, fb, dn⟩ := EZ ew
 refine AX (fun e1 F1 L1 => ∃ (bc : Option Addr) (bg : Nat) (bh : Nat) (ar : LH), AW dm F1 ∧ L1 = ((KG, ce #[.slice Cr metal.length Cu, .int .i64 bl, .int .u32 ak] 68) :: ((HI, ce #[.int .i64 n, .slice bc bg bh] 27) :: ((b1, ce #[.int .i64 0, .slice none 0 0] 27) :: (ar ++ [])))) ∧ e1.sub [(0, .pointer (some ⟨KG, 0, none⟩)), (4, .pointer (some ⟨b1, 0, none⟩)), (5, .pointer (some ⟨HI, 0, none⟩))] ∧ AT K.w0.heap.size 34 1 (iE .i64) F1 bc bg bh ad ar) ?_ ?_
 ·clear dn
  refine AP (um ?_)
  refine uv (Ad KF rfl) (uv (Al isAgg3 rfl (Has.own 1 rfl) rfl) ?_)
  obtain ⟨fe, ff⟩ := AV fb
  refine uv (VU rfl rfl fe) ?_
  refine um (Aa ?_)
  refine Am ?_
  obtain ⟨fg, fh⟩ := AV ff
  refine Bg (fun br e1 F1 L1 => ∃ (k : Int), Es 0 (n2 * n) k br ∧ ∃ (ah : Int) (ae : Int) (ab : List Int) (al : Int) (av : Option Addr) (aw : Nat) (ax : Nat) (af : LH), D2 metal br ah ae ab al = some (bl, ak, ad) ∧ AW dm F1 ∧ L1 = ((KG, ce #[.slice Cr metal.length Cu, .int .i64 ah, .int .u32 ae] 68) :: ((HI, ce #[.int .i64 n, .slice av aw ax] 27) :: ((b1, ce #[.int .i64 0, .slice none 0 0] 27) :: (af ++ [])))) ∧ e1.sub [(0, .pointer (some ⟨KG, 0, none⟩)), (4, .pointer (some ⟨b1, 0, none⟩)), (5, .pointer (some ⟨HI, 0, none⟩)), (7, .int .i64 al), (22, .int .i64 (n2 * n)), (23, .int .i64 k)] ∧ AT K.w0.heap.size 34 1 (iE .i64) F1 av aw ax ab af) _ (m0 (kc (kc (kc (ke kr)))) ⟨_, Es.start _ _, bz, bk, [], 10, none, 0, 0, [], fh, AW.refl _, rfl, z6, AT.nil _ _ _ _ _⟩) ?_
  rintro br e1 ie _ ⟨k, ay, ah, ae, ab, al, av, aw, ax, af, bu, az, rfl, cb, ai⟩
  refine AD _ cb ?_
  replace aa := aa.mono (Ab _) az
  refine AP (uv (A8 rfl rfl) ?_)
  refine Aa (Aq ?_)
  refine cQ (fun bw => ?_) fun bw => ?_
  ·obtain ⟨br, rfl, cc⟩ := Es.succ ay bw
   rw [D2] at bu
   refine An (Aq ?_)
   refine Am (AP ?_)
   refine bA (cs := #[.int .i64 0, .int .i64 0, .int .i64 0, .int .i64 1, .int .i64 1, .int .i64 2]) BX [.int .i64 0, .int .i64 0, .int .i64 0, .int .i64 1, .int .i64 1, .int .i64 2] ?_; intro dp cd
   refine um ?_
   obtain ⟨n3, ba, ao, fi, fj⟩ := EZ bu
   refine Fy (Lb := [(KG, ce #[.slice Cr metal.length Cu, .int .i64 ah, .int .u32 ae] 68)]) (Lr := (dp, ce #[.int .i64 0, .int .i64 0, .int .i64 0, .int .i64 1, .int .i64 1, .int .i64 2] 3) :: ((HI, ce #[.int .i64 n, .slice av aw ax] 27) :: ((b1, ce #[.int .i64 0, .slice none 0 0] 27) :: (af ++ [])))) rfl call21 rfl rfl rfl (((fC fO).trans (pC pR))) (Ej aa fi) ?_; rintro _ ig _ bm fk fl ⟨rfl, rfl⟩
   replace ai := ai.mono (Ab _) bm
   refine AK (lb (ln rfl)) ?_
   refine BP 1 rfl cd ?_; intro fm bn cf
   refine AK rfl ?_
   replace ai := ai.mono (Ab _) bn
   have fo : AF 1 (iE .i64) fm (some ⟨dp, 0, none⟩) 6 [0, 0, 0, 1, 1, 2] := AF.CV (Ab _) (vss := [[.int .i64 0], [.int .i64 0], [.int .i64 0], [.int .i64 1], [.int .i64 1], [.int .i64 2]]) (xs := [0, 0, 0, 1, 1, 2]) cf (.cons rfl (.cons rfl (.cons rfl (.cons rfl (.cons rfl (.cons rfl .nil)))))) rfl (by simp [maxLen])
   obtain ⟨x, dq, cg, fp⟩ := BH fj
   obtain ⟨ij, ik, il, fq, cj, cn, dr, rfl, fs, cp⟩ := AF.at (Ab _) fo ((KG, ce #[.slice Cr metal.length Cu, .int .i64 ba, .int .u32 ao] 68) :: ((HI, ce #[.int .i64 n, .slice av aw ax] 27) :: ((b1, ce #[.int .i64 0, .slice none 0 0] 27) :: (af ++ [])))) dq.1 cg
   refine uv (AI underlying33 sizeOf3 rfl cj rfl dq) (uv (Al isAgg3 rfl cn (cp 0 (by decide))) ?_)
   refine ua (Aa ?_)
   obtain ⟨aq, p, dt, du⟩ := CQ fp
   refine jE (((KG, ce #[.slice Cr metal.length Cu, .int .i64 ba, .int .u32 ao] 68) :: ((HI, ce #[.int .i64 n, .slice av aw ax] 27) :: ((b1, ce #[.int .i64 0, .slice none 0 0] 27) :: (af ++ []))))) [(0, .pointer (some ⟨KG, 0, none⟩)), (4, .pointer (some ⟨b1, 0, none⟩)), (5, .pointer (some ⟨HI, 0, none⟩)), (7, .int .i64 aq), (8, .int .i64 p), (22, .int .i64 (n2 * n)), (23, .int .i64 k)] ?_ ?_
   ·clear du
    refine AP (um ?_)
    refine uv (DY rfl rfl) (Aa ?_)
    refine cQ (fun cq => ?_) fun cq => ?_
    ·have ft := A2 dt cq
     refine AP (um ?_)
     obtain ⟨fv, dv⟩ := AV ft
     refine uv (FR rfl rfl fv) ?_
     refine ua (Cj (um ?_))
     refine uv (A8 rfl rfl) (Aa ?_)
     refine cQ (fun cr => ?_) fun cr => ?_
     ·have fw := A2 dv cr
      refine Ak (ua (Aa ?_))
      obtain ⟨rfl, rfl⟩ := CP fw
      exact mi kr ⟨rfl, rfl, z7⟩
     have fx := A1 dv cr
     refine An ?_
     obtain ⟨rfl, rfl⟩ := CP fx
     exact mi kr ⟨rfl, rfl, z7⟩
    have fy := A1 dt cq
    refine An ?_
    obtain ⟨rfl, rfl⟩ := CP fy
    exact mi kr ⟨rfl, rfl, z7⟩
   refine Ak (uv (Ad Em rfl) (uv (Al isAgg25 rfl (Has.own 1 rfl) rfl) (um ?_)))
   refine bA (cs := #[.int .i64 p]) Vh [.int .i64 p] ?_; intro im ga
   obtain ⟨t, gb, gg, gh⟩ := FQ du
   refine EA (xs := ab) (ys := [p]) (zs := t) rfl Vh rfl rfl (Nat.le_refl _) (fun _ => .c (.c (.c (.c .h)))) ai (Gk.box (vss := [[.int .i64 p]]) (ys := [p]) 0 rfl (Ab _) (.cons rfl .nil) rfl rfl) gb gg (by decide) ?_; intro gk gl gm ct cu
   refine kO (kd kr) (uv (Ad Em rfl) (CS (i := 1) sizeOf25 rfl rfl rfl rfl (CE rfl) (AK rfl ?_)))
   refine Aa (Az (id := 1) (Ak ?_))
   refine uv (A5 rfl rfl (Es.El ay bw fg)) ?_
   refine um (Aa ?_)
   exact le kr ⟨_, cc, ba, ao, t, aq, gk, gl, gm, ct, gh, ((az.trans bm).trans bn), rfl, z6, cu⟩
  obtain rfl := Es.zero ay bw
  rw [D2] at bu
  refine AS (Ae (Ae ?_))
  refine AA ?_
  obtain ⟨rfl, rfl, rfl⟩ := Iz bu
  exact mi kr ⟨av, aw, ax, af, az, rfl, z3, ai⟩
 rintro e1 iq _ ⟨bc, bg, bh, ar, cv, rfl, cw, aj⟩
 refine AD _ cw ?_
 replace aa := aa.mono (Ab _) cv
 refine Aq (C5 [(.still, 0), (.still, 1), (.still, 2), (.still, 3), (.still, 4), (.still, 5), (.still, 6), (.seq, 7), (.still, 8), (.seq, 9)] (by kernel_rfl) (by kernel_rfl) (trivial) (by rfl) (by kernel_rfl) (mS [5] rfl (Ad Em rfl) (mL [43] ([(HI, ce #[.int .i64 n, .slice bc bg bh] 27)]) rfl (s0 (s1 (s2 (s1 (s3 sr))))) (fun H F' L' cx cy => Al isAgg25 rfl ((Has.own 0 rfl).ext cx cy) rfl) (mS [0] rfl (Be rfl) (mS [5] rfl (Ad Em rfl) (mL [46] ([(HI, ce #[.int .i64 n, .slice bc bg bh] 27)]) rfl (s0 (s1 (s2 (s1 (s3 sr))))) (fun H F' L' cx cy => Al isAgg25 rfl ((Has.own 0 rfl).ext cx cy) rfl) (mS [47] rfl ((A3 underlying25 rfl).i (AT.Hc aj)) ?_)))))))
 obtain ⟨gp, gq⟩ := AV dn
 refine mS (v := .int .i64 ((ad.length : Int) - 1)) [48] rfl (FR rfl rfl gp) ?_
 refine ⟨_, [(45, .pointer (some ⟨KG, 0, none⟩)), (49, .int .i64 ((ad.length : Int) - 1))], rfl, rfl, z2, by kernel_rfl, ?_⟩; intro H
 obtain ⟨n4, gr, dw, gu, gv⟩ := EZ gq
 refine cG call21 (Ej aa gu) ?_; rintro _ ir _ bo dx gw ⟨rfl, rfl⟩
 replace aj := aj.mono (Ab _) bo
 refine AK (lb (ln rfl)) ?_
 refine Aa ⟨_, rfl, bo, [1, 0], by kernel_rfl, .inl (.inr (fun d h => by cases h; rfl)), (fc (s0 (s1 (s2 (s1 (s3 sr))))) (fc sm nm)), ?_⟩
 obtain ⟨x2, bb, bp, cz⟩ := BH gv
 obtain ⟨da, db, gz, dy, au, dz, dd, rfl, e9, eg⟩ := AT.at (Ab _) aj (L := ar ++ []) fP bb.1 bp
 refine mS [44, 50] rfl (AI underlying25 sizeOf34 rfl au rfl (AT.idx aj bb)) ?_
 refine ⟨_, [(51, .pointer (some ⟨da, db + (n4 : Int).toNat * 1, none⟩))], rfl, rfl, z1, by kernel_rfl, ?_⟩; intro H
 obtain ⟨l, de, df⟩ := CT cz
 refine E5 (u := 0) sizeOf34 (Ab _) rfl au rfl rfl (fun _ => .c (.c (.c .h))) aj de bb ?_; intro eh bq
 refine Aa ⟨undef, rfl, AW.refl _, [], by kernel_rfl, .inl (.inl rfl), nm, ?_⟩
 refine Ef (AP (uv (AM isAgg27 sizeOf27 rfl (Has.own 1 rfl) (CE rfl) rfl) (By (i := 2) sizeOf27 rfl rfl rfl (by simp [Value.oneCell']) rfl (CE rfl) (AK rfl (Aa (kW (kf (fC (fC fO)) (kc (kd kr))) (Ap ?_)))))))
 refine K9 results5 (Gn (cs := #[.int .i64 n, .slice bc bg bh]) isAgg27 sizeOf27 rfl (Has.own 0 rfl) (CE rfl) rfl) (s1 (s2 (s4 sr))) ?_
 obtain ⟨rfl, rfl, rfl, rfl⟩ := Yt df
 exact ⟨_, _, _, _, rfl, rfl, bq.any⟩
theorem Nb (aa : AF 1 (iE .u8) F Cr Cu metal) {r r2 r3 : Int} (hr : Gh metal at_ Fv = some (r, r2, r3, r4)) :
    SH.Spec Tryz.prog 6 #[.pointer (some ⟨KG, 0, none⟩)] F [(KG, ce #[.slice Cr metal.length Cu, .int .i64 at_, .int .u32 Fv] 68)] fun _ L' v => v = .agg #[.int .i64 r, .int .i64 r2] ∧ L' = [(KG, ce #[.slice Cr metal.length Cu, .int .i64 r3, .int .u32 r4] 68)] := by
 refine sp func6 ntmps6 fun K _ _ => ?_
 rw [Gh] at hr
 refine AP ?_
 refine Br rfl zeroValue31 ?_; intro b1 aq
 refine Cj (um ?_)
 obtain ⟨n, ae, ab, h2, r5⟩ := EZ hr
 refine Fy (Lb := [(KG, ce #[.slice Cr metal.length Cu, .int .i64 at_, .int .u32 Fv] 68)]) (Lr := [(b1, ce #[.int .i64 0, .int .i64 0] 31)]) rfl call21 rfl rfl rfl (((fC fO).trans (pC pR))) (Ej aa h2) ?_; rintro _ F6 _ af ar au ⟨rfl, rfl⟩
 replace aa := aa.mono (Ab _) af
 refine AK (lb (ln rfl)) (um ?_)
 obtain ⟨n2, ah, ad, ai, aj⟩ := EZ r5
 refine cG call11 (Dz aa ai) ?_; rintro _ av _ ak al ao ⟨rfl, rfl⟩
 refine AK (lb (ln rfl)) ?_
 refine uv (BC (v := .agg #[.int .i64 n, .int .i64 n2]) rfl (by intro w; kernel_rfl)) ?_
 refine By (i := 1) sizeOf31 rfl rfl rfl (by simp [Value.oneCell']) rfl (CE rfl) (AK rfl (Aa (kW (kf (fC fO) kr) (Ap (K9 results6 (Gn (cs := #[.int .i64 n, .int .i64 n2]) isAgg31 sizeOf31 rfl (Has.own 0 rfl) (CE rfl) rfl) (s1 (s2 sr)) ?_)))))
 obtain ⟨rfl, rfl, rfl, rfl⟩ := Yt aj
 exact ⟨rfl, rfl⟩
theorem HQ {s_ : List Int} (aa : AF 1 (iE .i64) F CG Cq s_) {r : Int} (hr : Dp s_ v = some r) :
    BG Tryz.prog 9 #[.slice CG s_.length Cq, .int .i64 v] F (.int .i64 r) := by
 refine sp func9 ntmps9 fun K _ _ => ?_
 rw [Dp] at hr
 refine AP (ua (Aa ?_))
 refine AX (fun e1 F1 L1 => FJ = some r ∧ F = F1 ∧ L1 = [] ∧ e1.sub []) ?_ ?_
 ·refine AP (um ?_)
  refine uv (A3 underlying33 rfl) ?_
  refine um (Aa ?_)
  refine Am ?_
  refine Bg (fun aj e1 F1 L1 => LA s_ aj fun tl k => Bq v tl k = some r ∧ F = F1 ∧ L1 = [] ∧ e1.sub [(0, .slice CG s_.length Cq), (1, .int .i64 v), (7, .int .i64 (s_.length : Int)), (8, .int .i64 k)]) _ (m0 kr ⟨_, _, rfl, BT.start _, hr, rfl, rfl, z4⟩) ?_
  rintro aj e1 _ _ ⟨tl, k, ao, ab, r3, rfl, rfl, aq⟩
  refine AD _ aq (AP (uv (A8 rfl rfl) ?_))
  refine Aa (Aq ?_)
  refine cQ (fun c6 => ?_) fun c6 => ?_
  ·obtain ⟨x, az, rfl, ar, g9, au⟩ := BT.succ ab c6
   rw [Bq] at r3
   refine An (Aq ?_)
   refine Am ?_
   refine AP (um (ua (Cj (um (um (um ?_))))))
   obtain ⟨HI, ba, bb, av, ad, ae, ak, rfl, aw, af⟩ := AF.at (Ab _) aa ([]) g9.1 ar
   refine uv (AI underlying33 sizeOf3 rfl ad rfl g9) (uv (Al isAgg3 rfl ae (af 0 (by decide))) (uv (DY rfl rfl) (Aa ?_)))
   refine cQ (fun ah => ?_) fun ah => ?_
   ·have ax := A2 r3 ah
    refine AP (um (ua (Aa (Ap (AE (Aj (Aj (AE (Aj ?_)))))))))
    refine C9 results9 ?_
    obtain rfl := AR ax
    exact rfl
   have ay := A1 r3 ah
   refine An (Az (id := 1) (Ak ?_))
   refine uv (A5 rfl rfl (BT.El ab c6 (AF.lt aa))) ?_
   refine um (Aa ?_)
   subst ao; exact le kr ⟨_, _, rfl, au, ay, rfl, rfl, z4⟩
  obtain rfl := BT.zero ab c6
  rw [Bq] at r3
  refine AS (Ae (Ae ?_))
  refine AA ?_
  exact mi kr ⟨r3, rfl, rfl, (sn _)⟩
 rintro e1 _ _ ⟨al, rfl, rfl, ai⟩
 refine AD _ ai ?_
 rw [FJ] at al
 refine AP (ua (Aa (Ap ?_)))
 refine C9 results9 ?_
 obtain rfl := AR al
 exact rfl
theorem Cn {s_ : List Int} (aa : AF 1 (iE .i64) F CG Cq s_) {r : Bool} (hr : Bl s_ v = some r) :
    BG Tryz.prog 10 #[.slice CG s_.length Cq, .int .i64 v] F (.bool r) := by
 refine sp func10 ntmps10 fun K _ _ => ?_
 rw [Bl] at hr
 refine AP (ua (Cj (um (um ?_))))
 obtain ⟨n, h1, r2⟩ := AO hr
 refine cV call9 (HQ aa h1) (uv (Il rfl rfl) ?_)
 refine ua (Aa (Ap ?_))
 refine C9 results10 ?_
 obtain rfl := AR r2
 exact rfl
theorem EG {r : Bool} (hr : EM n lo hi = some r) :
    BG Tryz.prog 45 #[.int .i64 n, .int .i64 lo, .int .i64 hi] F (.bool r) := by
 refine sp func45 ntmps45 fun K _ _ => ?_
 rw [EM] at hr
 refine AP (ua (Cj (um (um ?_))))
 refine uv (Il rfl rfl) (um ?_)
 by_cases c1 : lo ≤ n
 ·have r2 := A2 hr c1
  refine nT c1 (um (nT c1 (um (nT c1 ?_))))
  refine uv (Lm rfl rfl) (uv (AQ (Bd rfl c1) rfl) ?_)
  refine ua (Aa (Ap ?_))
  refine C9 results45 ?_
  obtain rfl := AR r2
  exact rfl
 have r3 := A1 hr c1
 refine fF c1 (fF c1 (fF c1 ?_))
 refine uv (AL (A4 rfl c1) rfl) ?_
 refine ua (Aa (Ap ?_))
 refine C9 results45 ?_
 obtain rfl := AR r3
 exact rfl
theorem FX {s_ : Int} (_h_walks : AF 1 (CD 1 (iE .i64)) F As Ar walks) (_h_hears : AF 1 (CD 1 (iE .i64)) F Au Av Ao) (_h_notices : AF 3 (B4 (CD 1 (iE .i64)) (B4 (iE .i64) (iE .i64))) F Ai Ah Ac) {r : Bool} (hr : DS walks Ao Af start Ac s_ = some r) :
    BG Tryz.prog 53 #[.agg #[.slice As walks.length Ar, .slice Au Ao.length Av, .int .i64 Af, .int .i64 start, .slice Ai Ac.length Ah], .int .i64 s_] F (.bool r) := by
 refine sp func53 ntmps53 fun K _ _ => ?_
 rw [DS] at hr
 refine AP ?_
 refine BK rfl rfl ?_; intro b1 aa
 refine ua (Cj (um ?_))
 refine uv (Ad H8 rfl) (uv (Al isAgg36 rfl (Has.own 0 rfl) rfl) (uv (A3 underlying36 rfl) ?_))
 obtain ⟨g2, r3⟩ := AV hr
 refine uv (FR rfl rfl g2) ?_
 obtain ⟨ok, h4, r5⟩ := AO r3
 refine cV call45 (EG h4) ?_
 refine ua (Aa ?_)
 refine kW kn (Ap (C9 results53 ?_))
 obtain rfl := AR r5
 exact rfl
set_option maxHeartbeats 1000000 in
theorem Jg {s_ : List (List Int)} (aa : AF 1 (CD 1 (iE .i64)) F CG Cq s_) (aj : KM Tryz.prog F PW P9 PZ (CD 1 (iE .i64)) Value.bool f) {r : Int} (hr : En s_ f = some r) :
    BG Tryz.prog 131 #[.slice CG s_.length Cq, .func (.func PW) P9 PZ] F (.int .i64 r) := by
 refine sp func131 ntmps131 fun K _ _ => ?_
 rw [En] at hr
 refine AP (ua (Aa ?_))
 refine AX (fun e1 F1 L1 => EP = some r ∧ F = F1 ∧ L1 = [] ∧ e1.sub []) ?_ ?_
 ·refine AP (um ?_)
  refine uv (A3 underlying36 rfl) ?_
  refine um (Aa ?_)
  refine Am ?_
  refine Bg (fun ak e1 F1 L1 => LA s_ ak fun tl k => B8 f tl k = some r ∧ F = F1 ∧ L1 = [] ∧ e1.sub [(0, .slice CG s_.length Cq), (1, .func (.func PW) P9 PZ), (7, .int .i64 (s_.length : Int)), (8, .int .i64 k)]) _ (m0 kr ⟨_, _, rfl, BT.start _, hr, rfl, rfl, z4⟩) ?_
  rintro ak e1 _ _ ⟨tl, k, ar, ab, r3, rfl, rfl, au⟩
  refine AD _ au (AP (uv (A8 rfl rfl) ?_))
  refine Aa (Aq ?_)
  refine cQ (fun c6 => ?_) fun c6 => ?_
  ·obtain ⟨x, bg, rfl, av, g9, aw⟩ := BT.succ ab c6
   rw [B8] at r3
   refine An (Aq ?_)
   refine Am ?_
   refine AP (um (ua (Cj (um (um (um ?_))))))
   obtain ⟨HI, bh, bj, ax, ad, ae, al, ⟨bk, bl, rfl, ay⟩, az, af⟩ := AF.at (Ax (Ab _)) aa ([]) g9.1 av
   refine uv (AI underlying36 sizeOf33 rfl ad rfl g9) (uv (Al isAgg33 rfl ae (af 0 (by decide))) ?_)
   obtain ⟨ok, ba, ao⟩ := AO r3
   refine I1 rfl aj.1 rfl rfl rfl (aj.2 _ (AW.refl _) _ _ _ ⟨_, _, rfl, ay⟩ ba) (Aa ?_)
   refine AY rfl (fun ah => ?_) (fun ah => ?_)
   ·have bb := bt ao ah
    refine AP (um (ua (Aa (Ap (AE (Aj (Aj (AE (Aj ?_)))))))))
    refine C9 results131 ?_
    obtain rfl := AR bb
    exact rfl
   have bc := bf ao ah
   refine An (Az (id := 1) (Ak ?_))
   refine uv (A5 rfl rfl (BT.El ab c6 (AF.lt aa))) ?_
   refine um (Aa ?_)
   subst ar; exact le kr ⟨_, _, rfl, aw, bc, rfl, rfl, z4⟩
  obtain rfl := BT.zero ab c6
  rw [B8] at r3
  refine AS (Ae (Ae ?_))
  refine AA ?_
  exact mi kr ⟨r3, rfl, rfl, (sn _)⟩
 rintro e1 _ _ ⟨aq, rfl, rfl, ai⟩
 refine AD _ ai ?_
 rw [EP] at aq
 refine AP (ua (Aa (Ap ?_)))
 refine C9 results131 ?_
 obtain rfl := AR aq
 exact rfl
theorem It {s_ : List (List Int)} (aa : AF 1 (CD 1 (iE .i64)) F CG Cq s_) (ab : KM Tryz.prog F PW P9 PZ (CD 1 (iE .i64)) Value.bool f) {r : Bool} (hr : DW s_ f = some r) :
    BG Tryz.prog 118 #[.slice CG s_.length Cq, .func (.func PW) P9 PZ] F (.bool r) := by
 refine sp func118 ntmps118 fun K _ _ => ?_
 rw [DW] at hr
 refine AP (ua (Cj (um (um ?_))))
 obtain ⟨n, h1, r2⟩ := AO hr
 refine cV call131 (Jg aa ab h1) (uv (Il rfl rfl) ?_)
 refine ua (Aa (Ap ?_))
 refine C9 results118 ?_
 obtain rfl := AR r2
 exact rfl
theorem LV {af : Option Addr} {ah : Nat} {x : List Int} {aa : Nat} {ab : Nat × Nat} (ai : AF 1 (iE .i64) F af ah x) (ad : F aa = some (.cells #[.func (.func QE) Rb QY] 184 ab)) (ae : KM Tryz.prog F QE Rb QY (CD 1 (iE .i64)) Value.bool so) {r : Bool} (hr : EE x so = some r) :
    BG Tryz.prog 119 #[.slice af x.length ah, .pointer (some ⟨aa, 0, none⟩)] F (.bool r) := by
 refine sp func119 ntmps119 fun K _ _ => ?_
 rw [EE] at hr
 refine AP (ua (Cj ?_))
 refine uv (Al isAgg184 rfl (Has.frozen ad) rfl) (um ?_)
 obtain ⟨ok, h1, r2⟩ := AO hr
 refine I1 rfl ae.1 rfl rfl rfl (ae.2 _ (AW.refl _) _ _ _ ⟨_, _, rfl, ai⟩ h1) (uv (CI rfl) ?_)
 refine ua (Aa (Ap ?_))
 refine C9 results119 ?_
 obtain rfl := AR r2
 exact rfl
theorem Mz {l : List (List Int)} (ab : AF 1 (CD 1 (iE .i64)) F Ta SF l) (aa : KM Tryz.prog F QE Rb QY (CD 1 (iE .i64)) Value.bool so) {r : Bool} (hr : Gf l so = some r) :
    BG Tryz.prog 110 #[.slice Ta l.length SF, .func (.func QE) Rb QY] F (.bool r) := by
 refine sp func110 ntmps110 fun K _ _ => ?_
 rw [Gf] at hr
 refine AP ?_
 refine BK rfl rfl ?_; intro b1 af
 refine ua (Cj (um ?_))
 refine uv (DO rfl rfl) ?_
 refine BP 0 rfl af ?_; intro F2 ad ah
 refine AK rfl ?_
 replace ab := ab.mono (Ax (Ab _)) ad
 replace aa := aa.mono ad
 have ai : KM Tryz.prog F2 119 #[] #[.pointer (some ⟨b1, 0, none⟩)] (CD 1 (iE .i64)) Value.bool (fun ae : (List Int) => EE ae so) := ⟨call119, fun F2 h2 vs ae r ha hr => by obtain ⟨a5, c6, rfl, h7⟩ := ha; exact LV h7 (h2 _ _ ah) (aa.mono h2) hr⟩
 obtain ⟨ok, h9, aj⟩ := AO hr
 refine cV call118 (It ab ai h9) (uv (CI rfl) ?_)
 refine ua (Aa (Ap ?_))
 refine C9 results110 ?_
 obtain rfl := AR aj
 exact rfl
theorem KB {l : List Int} {ad : Nat} {aa : Nat × Nat} (_h_l : AF 1 (iE .i64) F Ta SF l) (ab : F ad = some (.cells #[.int .i64 n] 3 aa)) {r : Bool} (hr : Ez l n = some r) :
    BG Tryz.prog 111 #[.slice Ta l.length SF, .pointer (some ⟨ad, 0, none⟩)] F (.bool r) := by
 refine sp func111 ntmps111 fun K _ _ => ?_
 rw [Ez] at hr
 refine AP (ua (Cj (um ?_)))
 refine uv (A3 underlying33 rfl) (uv (Al isAgg3 rfl (Has.frozen ab) rfl) (uv (DY rfl rfl) ?_))
 refine ua (Aa (Ap ?_))
 refine C9 results111 ?_
 obtain rfl := AR hr
 exact rfl
set_option maxHeartbeats 1000000 in
theorem KZ (aa : AF 1 (CD 1 (iE .i64)) F As Ar walks) (_af : AF 1 (CD 1 (iE .i64)) F Au Av Ao) (_ae : AF 3 (B4 (CD 1 (iE .i64)) (B4 (iE .i64) (iE .i64))) F Ai Ah Ac) {r : Bool} (hr : EX walks Ao Af start Ac = some r) :
    BG Tryz.prog 97 #[.agg #[.slice As walks.length Ar, .slice Au Ao.length Av, .int .i64 Af, .int .i64 start, .slice Ai Ac.length Ah]] F (.bool r) := by
 refine sp func97 ntmps97 fun K _ _ => ?_
 rw [EX] at hr
 refine AP ?_
 refine BK rfl rfl ?_; intro b1 bg
 refine ua (Cj ?_)
 refine uv (Ad H8 rfl) (uv (Al isAgg36 rfl (Has.own 0 rfl) rfl) (uv (A3 underlying36 rfl) ?_))
 refine Br rfl zeroValue3 ?_; intro b2 aq
 refine CS (i := 0) sizeOf3 rfl rfl rfl rfl (CE rfl) (AK rfl (Cj (uv (Al isAgg3 rfl (Has.own 0 rfl) rfl) ?_)))
 obtain ⟨ok, h3, r4⟩ := AO hr
 refine cV call45 (EG h3) (um ?_)
 rcases EL ok with c5 | c5
 ·have r6 := bt r4 c5
  refine nB c5 (uv (Ad Q5 rfl) (nB c5 (uv (Al isAgg3 rfl (Has.own 1 rfl) rfl) (nB c5 ?_))))
  obtain ⟨ar, h7, r8⟩ := AO r6
  refine cV call45 (EG h7) (uv (AQ (KX rfl c5) rfl) (um ?_))
  rcases EL ar with c9 | c9
  ·have ak := bt r8 c9
   refine nB c9 (uv (Ad Fj rfl) (nB c9 (uv (Al isAgg37 rfl (Has.own 1 rfl) rfl) (nB c9 (uv (A3 underlying37 rfl) (nB c9 (uv (Lm rfl rfl) ?_)))))))
   refine uv (AQ (KX rfl c9) rfl) (um ?_)
   by_cases ab : (Ac.length : Int) ≤ 3
   ·have al := A2 ak ab
    refine nT ab (uv (Ad Jz rfl) (nT ab (uv (Al isAgg36 rfl (Has.own 1 rfl) rfl) (nT ab (uv (A3 underlying36 rfl) (nT ab (uv (Al isAgg3 rfl (Has.own 0 rfl) rfl) ?_)))))))
    refine nT ab (uv (DY rfl rfl) (uv (AQ (Bd rfl ab) rfl) (um ?_)))
    by_cases ad : (walks.length : Int) = (Ao.length : Int)
    ·have au := A2 al ad
     refine nT ad (uv (Ad Jz rfl) (nT ad (uv (Al isAgg36 rfl (Has.own 1 rfl) rfl) (nT ad (uv (DO rfl rfl) (nT ad ?_))))))
     refine BP 0 rfl aq ?_; intro av ah ai
     refine AK rfl ?_
     replace aa := aa.mono (Ax (Ab _)) ah
     have aj : KM Tryz.prog av 111 #[] #[.pointer (some ⟨b2, 0, none⟩)] (CD 1 (iE .i64)) Value.bool (fun ao : (List Int) => Ez ao (Ao.length : Int)) := ⟨call111, fun F2 h2 vs ao r ha hr => by obtain ⟨bh, bj, rfl, aw⟩ := ha; exact KB aw (h2 _ _ ai) hr⟩
     obtain ⟨bk, ax, ay⟩ := AO au
     refine cV call110 (Mz aa aj ax) (uv (AQ (Bd rfl ad) rfl) ?_)
     refine ua (Aa ?_)
     refine kW kn (Ap (C9 results97 ?_))
     obtain rfl := AR ay
     exact rfl
    have az := A1 al ad
    refine fF ad (fF ad (fF ad (fF ad ?_)))
    refine uv (AL (A4 rfl ad) rfl) ?_
    refine ua (Aa ?_)
    refine kW kn (Ap (C9 results97 ?_))
    obtain rfl := AR az
    exact rfl
   have ba := A1 ak ab
   refine fF ab (fF ab (fF ab (fF ab (fF ab ?_))))
   refine uv (AL (A4 rfl ab) rfl) ?_
   refine um (AB (b' := false) 27 rfl rfl rfl rfl (AB (b' := false) 27 rfl rfl rfl rfl (AB (b' := false) 27 rfl rfl rfl rfl (AB (b' := false) 27 rfl rfl rfl rfl ?_))))
   refine uv (AL rfl rfl) ?_
   refine ua (Aa ?_)
   refine kW kn (Ap (C9 results97 ?_))
   obtain rfl := AR ba
   exact rfl
  have bb := bf r8 c9
  refine fB c9 (fB c9 (fB c9 (fB c9 ?_)))
  refine uv (AL (KX rfl c9) rfl) ?_
  refine um (AB (b' := false) 20 rfl rfl rfl rfl (AB (b' := false) 20 rfl rfl rfl rfl (AB (b' := false) 20 rfl rfl rfl rfl (AB (b' := false) 20 rfl rfl rfl rfl (AB (b' := false) 20 rfl rfl rfl rfl ?_)))))
  refine uv (AL rfl rfl) ?_
  refine um (AB (b' := false) 27 rfl rfl rfl rfl (AB (b' := false) 27 rfl rfl rfl rfl (AB (b' := false) 27 rfl rfl rfl rfl (AB (b' := false) 27 rfl rfl rfl rfl ?_))))
  refine uv (AL rfl rfl) ?_
  refine ua (Aa ?_)
  refine kW kn (Ap (C9 results97 ?_))
  obtain rfl := AR bb
  exact rfl
 have bc := bf r4 c5
 refine fB c5 (fB c5 (fB c5 ?_))
 refine uv (AL (KX rfl c5) rfl) ?_
 refine um (AB (b' := false) 14 rfl rfl rfl rfl (AB (b' := false) 14 rfl rfl rfl rfl (AB (b' := false) 14 rfl rfl rfl rfl (AB (b' := false) 14 rfl rfl rfl rfl ?_))))
 refine uv (AL rfl rfl) ?_
 refine um (AB (b' := false) 20 rfl rfl rfl rfl (AB (b' := false) 20 rfl rfl rfl rfl (AB (b' := false) 20 rfl rfl rfl rfl (AB (b' := false) 20 rfl rfl rfl rfl (AB (b' := false) 20 rfl rfl rfl rfl ?_)))))
 refine uv (AL rfl rfl) ?_
 refine um (AB (b' := false) 27 rfl rfl rfl rfl (AB (b' := false) 27 rfl rfl rfl rfl (AB (b' := false) 27 rfl rfl rfl rfl (AB (b' := false) 27 rfl rfl rfl rfl ?_))))
 refine uv (AL rfl rfl) ?_
 refine ua (Aa ?_)
 refine kW kn (Ap (C9 results97 ?_))
 obtain rfl := AR bc
 exact rfl
set_option maxHeartbeats 1000000 in
theorem KQ (ab : AF 1 (CD 1 (iE .i64)) F As Ar walks) (_h_hears : AF 1 (CD 1 (iE .i64)) F Au Av Ao) (_h_notices : AF 3 (B4 (CD 1 (iE .i64)) (B4 (iE .i64) (iE .i64))) F Ai Ah Ac) {r : Bool} (hr : FC walks Ao Af start Ac = some r) :
    BG Tryz.prog 98 #[.agg #[.slice As walks.length Ar, .slice Au Ao.length Av, .int .i64 Af, .int .i64 start, .slice Ai Ac.length Ah]] F (.bool r) := by
 refine sp func98 ntmps98 fun K _ _ => ?_
 rw [FC] at hr
 refine AP ?_
 refine BK rfl rfl ?_; intro b1 dm
 refine ua (Aa ?_)
 refine AX (fun e1 F1 L1 => F9 = some r ∧ F = F1 ∧ L1 = [] ∧ e1.sub []) ?_ ?_
 ·refine AP (uv (Ad Jz rfl) (uv (Al isAgg36 rfl (Has.own 0 rfl) rfl) (uv (A3 underlying36 rfl) ?_)))
  refine um (Aa ?_)
  refine Am (kW kn ?_)
  refine Bg (fun bk e1 F1 L1 => LA walks bk fun tl k => BS tl k = some r ∧ F = F1 ∧ L1 = [] ∧ e1.sub [(8, .slice As walks.length Ar), (9, .int .i64 (walks.length : Int)), (10, .int .i64 k)]) _ (m0 kr ⟨_, _, rfl, BT.start _, hr, rfl, rfl, z3⟩) ?_
  rintro bk e1 _ _ ⟨tl, k, cn, ao, r4, rfl, rfl, cp⟩
  refine AD _ cp (AP (uv (A8 rfl rfl) ?_))
  refine Aa (Aq ?_)
  refine cQ (fun c7 => ?_) fun c7 => ?_
  ·obtain ⟨x, bl, rfl, cq, bm, cr⟩ := BT.succ ao c7
   rw [BS] at r4
   refine An ?_
   refine AX (fun e1 F1 L1 => FV k (BS bl) = some r ∧ F = F1 ∧ L1 = [] ∧ e1.sub [(8, .slice As walks.length Ar), (9, .int .i64 (walks.length : Int)), (10, .int .i64 k)]) ?_ ?_
   ·refine Am ?_
    refine AP (um ?_)
    obtain ⟨N9, dn, dp, ct, aq, ar, bn, ⟨bo, bp, rfl, bq⟩, cu, au⟩ := AF.at (Ax (Ab _)) ab ([]) bm.1 cq
    refine uv (AI underlying36 sizeOf33 rfl aq rfl bm) (uv (Al isAgg33 rfl ar (au 0 (by decide))) ?_)
    refine ua (ua (Cj (um ?_)))
    refine uv (A3 underlying33 rfl) ?_
    refine um (Aa ?_)
    refine Am ?_
    refine Bg (fun br e1 F1 L1 => LA x br fun bu k2 => CY k (BS bl) bu k2 = some r ∧ F = F1 ∧ L1 = [] ∧ e1.sub [(3, .int .i64 k), (8, .slice As walks.length Ar), (9, .int .i64 (walks.length : Int)), (10, .int .i64 k), (15, .slice bo x.length bp), (16, .int .i64 (x.length : Int)), (17, .int .i64 k2)]) _ (m0 kr ⟨_, _, rfl, BT.start _, r4, rfl, rfl, z7⟩) ?_
    rintro br e1 _ _ ⟨bu, k2, av, aj, ak, rfl, rfl, aw⟩
    refine AD _ aw (AP (uv (A8 rfl rfl) ?_))
    refine Aa (Aq ?_)
    refine cQ (fun al => ?_) fun al => ?_
    ·obtain ⟨x2, dq, rfl, ax, bw, ay⟩ := BT.succ aj al
     rw [CY] at ak
     refine An (Aq ?_)
     refine Am ?_
     refine AP (um ?_)
     obtain ⟨dr, dt, du, cv, az, ba, bx, rfl, cw, bb⟩ := AF.at (Ab _) bq ([]) bw.1 ax
     refine uv (AI underlying33 sizeOf3 rfl az rfl bw) (uv (Al isAgg3 rfl ba (bb 0 (by decide))) ?_)
     refine ua (ua (Aa ?_))
     obtain ⟨k3, bz, bc⟩ := AO ak
     refine jE ([]) [(3, .int .i64 k), (8, .slice As walks.length Ar), (9, .int .i64 (walks.length : Int)), (10, .int .i64 k), (15, .slice bo x.length bp), (16, .int .i64 (x.length : Int)), (17, .int .i64 k2), (42, .bool k3)] ?_ ?_
     ·clear bc
      refine Ak (um (um ?_))
      refine uv (DY rfl rfl) (um ?_)
      by_cases af : k = k2
      ·have ca := A2 bz af
       refine nT af (um (nT af ?_))
       refine uv (B6 rfl rfl) (uv (AQ (Bd rfl af) rfl) (um ?_))
       by_cases aa : x2 ≠ 0
       ·have cx := A2 ca aa
        refine fT aa (fT aa (fT aa (fT aa (fU (fU (fT aa (fT aa (fU (fU ?_)))))))))
        refine fU (fT aa ?_)
        refine uv (AQ (Bd rfl aa) rfl) (Aa ?_)
        obtain rfl := AR cx
        exact mi kr ⟨rfl, rfl, z8⟩
       have cb := A1 ca aa
       refine nF aa (um (nF aa (um (nF aa ?_))))
       refine uv (B6 rfl rfl) ?_
       refine nF aa (um ?_)
       by_cases ah : k ≠ k2
       ·have cc := A2 cb ah
        refine nT ah (um (nT ah ?_))
        refine uv (B6 rfl rfl) (nF aa (uv (AQ (Bd rfl ah) rfl) ?_))
        refine nF aa (um ?_)
        by_cases ad : x2 ≠ (-1)
        ·have cy := A2 cc ad
         refine nT ad (um (nT ad ?_))
         obtain ⟨ok, cz, da⟩ := AO cy
         refine cV call45 (EG cz) (nT ad (uv (CI rfl) (nF aa (uv (AQ (Bd rfl ad) rfl) (uv (AL (A4 rfl aa) rfl) (Aa ?_))))))
         obtain rfl := AR da
         exact mi kr ⟨rfl, rfl, z8⟩
        have db := A1 cc ad
        refine fF ad (fF ad (fF ad (nF aa ?_)))
        refine uv (AL (A4 rfl ad) rfl) (uv (AL (A4 rfl aa) rfl) (Aa ?_))
        obtain rfl := AR db
        exact mi kr ⟨rfl, rfl, z8⟩
       have dd := A1 cb ah
       refine fF ah (fF ah (nF aa ?_))
       refine uv (AL (A4 rfl ah) rfl) ?_
       refine nF aa (um (AB (b' := false) 37 rfl rfl rfl rfl (AB (b' := false) 37 rfl rfl rfl rfl (AB (b' := false) 37 rfl rfl rfl rfl (nF aa ?_)))))
       refine uv (AL rfl rfl) (uv (AL (A4 rfl aa) rfl) (Aa ?_))
       obtain rfl := AR dd
       exact mi kr ⟨rfl, rfl, z8⟩
      have cd := A1 bz af
      refine fF af (fF af ?_)
      refine uv (AL (A4 rfl af) rfl) ?_
      refine um (Ev (b := false) 29 rfl rfl (um (Ev (b := false) 29 rfl rfl (um (Ev (b := false) 29 rfl rfl ?_)))))
      refine uv (B6 rfl rfl) ?_
      refine Ev (b := false) 29 rfl rfl (um ?_)
      by_cases ai : k ≠ k2
      ·have cf := A2 cd ai
       refine nT ai (um (nT ai ?_))
       refine uv (B6 rfl rfl) (Ev (b := false) 29 rfl rfl (uv (AQ (Bd rfl ai) rfl) ?_))
       refine Ev (b := false) 29 rfl rfl (um ?_)
       by_cases ae : x2 ≠ (-1)
       ·have de := A2 cf ae
        refine nT ae (um (nT ae ?_))
        obtain ⟨dv, df, dg⟩ := AO de
        refine cV call45 (EG df) (nT ae (uv (CI rfl) (Ev (b := false) 29 rfl rfl (uv (AQ (Bd rfl ae) rfl) (uv (AL rfl rfl) (Aa ?_))))))
        obtain rfl := AR dg
        exact mi kr ⟨rfl, rfl, z8⟩
       have dh := A1 cf ae
       refine fF ae (fF ae (fF ae (Ev (b := false) 29 rfl rfl ?_)))
       refine uv (AL (A4 rfl ae) rfl) (uv (AL rfl rfl) (Aa ?_))
       obtain rfl := AR dh
       exact mi kr ⟨rfl, rfl, z8⟩
      have El := A1 cd ai
      refine fF ai (fF ai (Ev (b := false) 29 rfl rfl ?_))
      refine uv (AL (A4 rfl ai) rfl) ?_
      refine Ev (b := false) 29 rfl rfl (um (AB (b' := false) 37 rfl rfl rfl rfl (AB (b' := false) 37 rfl rfl rfl rfl (AB (b' := false) 37 rfl rfl rfl rfl (Ev (b := false) 29 rfl rfl ?_)))))
      refine uv (AL rfl rfl) (uv (AL rfl rfl) (Aa ?_))
      obtain rfl := AR El
      exact mi kr ⟨rfl, rfl, z8⟩
     refine AY rfl (fun bg => ?_) (fun bg => ?_)
     ·have di := bt bc bg
      refine AP (ua (Aa (Ap (AE (Aj (Aj (AE (AE (Aj ?_)))))))))
      refine Aj (AE (Aj ?_))
      refine C9 results98 ?_
      obtain rfl := AR di
      exact rfl
     have dk := bf bc bg
     refine An (Az (id := 3) (Ak ?_))
     refine uv (A5 rfl rfl (BT.El aj al (AF.lt bq))) ?_
     refine um (Aa ?_)
     subst av; exact le kr ⟨_, _, rfl, ay, dk, rfl, rfl, z7⟩
    obtain rfl := BT.zero aj al
    rw [CY] at ak
    refine AS (Ae (Ae ?_))
    refine AA (Az (id := 1) ?_)
    exact mi kr ⟨ak, rfl, rfl, z3⟩
   rintro e1 _ _ ⟨cg, rfl, rfl, bh⟩
   refine AD _ bh ?_
   rw [FV] at cg
   refine Ak (uv (A5 rfl rfl (BT.El ao c7 (AF.lt ab))) ?_)
   refine um (Aa ?_)
   subst cn; exact le kr ⟨_, _, rfl, cr, cg, rfl, rfl, z3⟩
  obtain rfl := BT.zero ao c7
  rw [BS] at r4
  refine AS (Ae (Ae ?_))
  refine AA ?_
  exact mi kr ⟨r4, rfl, rfl, (sn _)⟩
 rintro e1 _ _ ⟨cj, rfl, rfl, bj⟩
 refine AD _ bj ?_
 rw [F9] at cj
 refine AP (ua (Aa (Ap ?_)))
 refine C9 results98 ?_
 obtain rfl := AR cj
 exact rfl
set_option maxHeartbeats 1000000 in
theorem IT {l : List Int} (_h_walks : AF 1 (CD 1 (iE .i64)) F As Ar walks) (_h_hears : AF 1 (CD 1 (iE .i64)) F Au Av Ao) (_h_notices : AF 3 (B4 (CD 1 (iE .i64)) (B4 (iE .i64) (iE .i64))) F Ai Ah Ac) (ab : AF 1 (iE .i64) F Ta SF l) {r : Int} (hr : Fq walks Ao Af start Ac l = some r) :
    BG Tryz.prog 99 #[.agg #[.slice As walks.length Ar, .slice Au Ao.length Av, .int .i64 Af, .int .i64 start, .slice Ai Ac.length Ah], .slice Ta l.length SF] F (.int .i64 r) := by
 refine sp func99 ntmps99 fun K _ _ => ?_
 rw [Fq] at hr
 refine AP ?_
 refine BK rfl rfl ?_; intro b1 bw
 refine ua (Aa ?_)
 refine AX (fun e1 F1 L1 => GH = some r ∧ F = F1 ∧ L1 = [] ∧ e1.sub []) ?_ ?_
 ·refine AP (um ?_)
  refine uv (A3 underlying33 rfl) ?_
  refine um (Aa ?_)
  refine Am ?_
  refine Bg (fun al e1 F1 L1 => LA l al fun tl k => Dm Af l tl k = some r ∧ F = F1 ∧ L1 = [(b1, ce #[.slice As walks.length Ar, .slice Au Ao.length Av, .int .i64 Af, .int .i64 start, .slice Ai Ac.length Ah] 39)] ∧ e1.sub [(1, .slice Ta l.length SF), (2, .pointer (some ⟨b1, 0, none⟩)), (7, .slice Ta l.length SF), (8, .int .i64 (l.length : Int)), (9, .int .i64 k)]) _ (m0 kr ⟨_, _, rfl, BT.start _, hr, rfl, rfl, z5⟩) ?_
  rintro al e1 _ _ ⟨tl, k, aw, ad, r4, rfl, rfl, ax⟩
  refine AD _ ax (AP (uv (A8 rfl rfl) ?_))
  refine Aa (Aq ?_)
  refine cQ (fun c7 => ?_) fun c7 => ?_
  ·obtain ⟨x, bx, rfl, ay, ao, az⟩ := BT.succ ad c7
   rw [Dm] at r4
   refine An (Aq ?_)
   refine Am ?_
   refine AP (um ?_)
   obtain ⟨N9, bz, ca, ba, ae, af, aq, rfl, bb, ah⟩ := AF.at (Ab _) ab ([(b1, ce #[.slice As walks.length Ar, .slice Au Ao.length Av, .int .i64 Af, .int .i64 start, .slice Ai Ac.length Ah] 39)]) ao.1 ay
   refine uv (AI underlying33 sizeOf3 rfl ae rfl ao) (uv (Al isAgg3 rfl af (ah 0 (by decide))) ?_)
   refine ua (ua (Aa (Aq (AP (um ?_)))))
   refine uv (Ad Q5 rfl) (uv (Al isAgg3 rfl (Has.own 0 rfl) rfl) ?_)
   obtain ⟨bc, bg⟩ := AV r4
   refine uv (FR rfl rfl bc) ?_
   obtain ⟨ok, bh, ar⟩ := AO bg
   refine cV call45 (EG bh) (uv (CI rfl) (Aa ?_))
   refine AY rfl (fun ai => ?_) (fun ai => ?_)
   ·have bj := bt ar ai
    refine AP (ua (Aa ?_))
    refine kW kn ?_
    refine Ap (Aj (AE (Aj (Aj (AE (Aj ?_))))))
    refine C9 results99 ?_
    obtain rfl := AR bj
    exact rfl
   have bk := bf ar ai
   refine An (AP (um (um ?_)))
   obtain ⟨bl, bm⟩ := AV bk
   obtain ⟨l2, bn, bo⟩ := CT bm
   obtain ⟨cb, cc, bp, aa⟩ := AF.slice (Ab _) ab bl bn
   refine uv ((Ku (l := 0) (h := k) underlying33 sizeOf3 rfl (.inl ⟨rfl, rfl⟩) (.inr ⟨_, rfl, rfl⟩) aa.1).eq aa.2) (um ?_)
   obtain ⟨cd, bq, au⟩ := AO bo
   refine cV call10 (Cn bp bq) (Aa ?_)
   refine AY rfl (fun aj => ?_) (fun aj => ?_)
   ·have br := bt au aj
    refine AP (ua (Aa ?_))
    refine kW kn ?_
    refine Ap (AE (Aj (Aj (AE (Aj ?_)))))
    refine C9 results99 ?_
    obtain rfl := AR br
    exact rfl
   have bu := bf au aj
   refine An (Az (id := 1) (Ak ?_))
   refine uv (A5 rfl rfl (BT.El ad c7 (AF.lt ab))) ?_
   refine um (Aa ?_)
   subst aw; exact le kr ⟨_, _, rfl, az, bu, rfl, rfl, z5⟩
  obtain rfl := BT.zero ad c7
  rw [Dm] at r4
  refine AS (Ae (Ae ?_))
  refine AA ?_
  exact mi kn ⟨r4, rfl, rfl, (sn _)⟩
 rintro e1 _ _ ⟨av, rfl, rfl, ak⟩
 refine AD _ ak ?_
 rw [GH] at av
 refine AP (ua (Aa (Ap ?_)))
 refine C9 results99 ?_
 obtain rfl := AR av
 exact rfl
set_option maxHeartbeats 1000000 in
theorem Mt {aa : Option Addr} {ab : Nat} {quarter : List Int} {words hour : Int} (ah : AF 1 (CD 1 (iE .i64)) F As Ar walks) (ai : AF 1 (CD 1 (iE .i64)) F Au Av Ao) (ad : AF 3 (B4 (CD 1 (iE .i64)) (B4 (iE .i64) (iE .i64))) F Ai Ah Ac) (ae : AF 1 (iE .i64) F aa ab quarter) {r : Int} (hr : FM walks Ao Af start Ac quarter words hour = some r) :
    BG Tryz.prog 100 #[.agg #[.slice As walks.length Ar, .slice Au Ao.length Av, .int .i64 Af, .int .i64 start, .slice Ai Ac.length Ah], .agg #[.slice aa quarter.length ab, .int .i64 words, .int .i64 hour]] F (.int .i64 r) := by
 refine sp func100 ntmps100 fun K _ _ => ?_
 rw [FM] at hr
 refine AP ?_
 refine BK rfl rfl ?_; intro b1 ba
 refine BK rfl rfl ?_; intro b2 bb
 refine ua (Aa (Aq (AP ?_)))
 refine uv (Ad Ol rfl) (uv (Al isAgg33 rfl (Has.own 0 rfl) rfl) (uv (A3 underlying33 rfl) (uv (DY rfl rfl) (Aa ?_))))
 refine cQ (fun c3 => ?_) fun c3 => ?_
 ·have r4 := A2 hr c3
  refine AP (ua (Aa ?_))
  refine kW kn ?_
  refine Ap (Aj ?_)
  refine C9 results100 ?_
  obtain rfl := AR r4
  exact rfl
 have r5 := A1 hr c3
 refine An (Aq (AP ?_))
 refine uv (AM isAgg39 sizeOf39 rfl (Has.own 1 rfl) (CE rfl) rfl) (uv (Ad Ol rfl) (uv (Al isAgg33 rfl (Has.own 0 rfl) rfl) ?_))
 obtain ⟨n, h6, r7⟩ := AO r5
 refine cV call99 (IT ah ai ad ae h6) ?_
 refine ua (Cj (um ?_))
 refine uv (B6 rfl rfl) (Aa ?_)
 refine cQ (fun c8 => ?_) fun c8 => ?_
 ·have r9 := A2 r7 c8
  refine AP (um (ua (Aa ?_)))
  refine kW kn ?_
  refine Ap (Aj ?_)
  refine C9 results100 ?_
  obtain rfl := AR r9
  exact rfl
 have ao := A1 r7 c8
 refine An (Aq ?_)
 obtain ⟨k, aq, aj⟩ := AO ao
 refine jE ([]) [(26, .bool k)] ?_ ?_
 ·clear aj
  refine Ak (uv (Ad Oi rfl) (uv (Al isAgg3 rfl (Has.own 0 rfl) rfl) ?_))
  obtain ⟨ok, ar, al⟩ := AO aq
  refine cV call45 (EG ar) (uv (CI rfl) (um ?_))
  rcases EL (!ok) with af | af
  ·have au := bt al af
   refine fB af (fB af (fB af (fB af ?_)))
   refine uv (AQ (KX rfl af) rfl) (Aa ?_)
   obtain rfl := AR au
   exact mi kn ⟨rfl, rfl, z1⟩
  have av := bf al af
  refine nB af (uv (Ad LB rfl) (nB af (uv (Al isAgg3 rfl (Has.own 0 rfl) rfl) (nB af ?_))))
  obtain ⟨bc, aw, ax⟩ := AO av
  refine cV call45 (EG aw) (nB af (uv (CI rfl) (uv (AL (KX rfl af) rfl) (Aa ?_))))
  obtain rfl := AR ax
  exact mi kn ⟨rfl, rfl, z1⟩
 refine AY rfl (fun ak => ?_) (fun ak => ?_)
 ·have ay := bt aj ak
  refine AP (ua (Aa (Ap (Aj ?_))))
  refine C9 results100 ?_
  obtain rfl := AR ay
  exact rfl
 have az := bf aj ak
 refine An (AP (ua (Aa (Ap ?_))))
 refine C9 results100 ?_
 obtain rfl := AR az
 exact rfl
set_option maxHeartbeats 1000000 in
theorem PM (ad : AF 1 (CD 1 (iE .i64)) F As Ar walks) (ab : AF 1 (CD 1 (iE .i64)) F Au Av Ao) (aa : AF 3 (B4 (CD 1 (iE .i64)) (B4 (iE .i64) (iE .i64))) F Ai Ah Ac) {r : Int} (hr : Is walks Ao Af start Ac = some r) :
    BG Tryz.prog 78 #[.agg #[.slice As walks.length Ar, .slice Au Ao.length Av, .int .i64 Af, .int .i64 start, .slice Ai Ac.length Ah]] F (.int .i64 r) := by
 refine sp func78 ntmps78 fun K _ _ => ?_
 rw [Is] at hr
 refine AP ?_
 refine BK rfl rfl ?_; intro b1 dm
 refine ua (Aa (Aq ?_))
 refine Am (AP (uv (AM isAgg39 sizeOf39 rfl (Has.own 0 rfl) (CE rfl) rfl) ?_))
 obtain ⟨ok, h2, r3⟩ := AO hr
 refine cV call97 (KZ ad ab aa h2) (uv (CI rfl) ?_)
 refine ua (Aa ?_)
 refine AY rfl (fun c4 => ?_) (fun c4 => ?_)
 ·have r5 := bt r3 c4
  refine AP (ua (Aa ?_))
  refine kW kn ?_
  refine Ap (AE (Aj ?_))
  refine C9 results78 ?_
  obtain rfl := AR r5
  exact rfl
 have r6 := bf r3 c4
 refine AP (uv (AM isAgg39 sizeOf39 rfl (Has.own 0 rfl) (CE rfl) rfl) (uv (Ad Ov rfl) (uv (Al isAgg3 rfl (Has.own 0 rfl) rfl) ?_)))
 obtain ⟨dn, h7, r8⟩ := AO r6
 refine cV call53 (FX ad ab aa h7) (uv (CI rfl) ?_)
 refine ua (Aa ?_)
 refine AY rfl (fun c9 => ?_) (fun c9 => ?_)
 ·have cj := bt r8 c9
  refine AP (ua (Aa ?_))
  refine kW kn ?_
  refine Ap (AE (Aj ?_))
  refine C9 results78 ?_
  obtain rfl := AR cj
  exact rfl
 have cn := bf r8 c9
 refine AP (uv (AM isAgg39 sizeOf39 rfl (Has.own 0 rfl) (CE rfl) rfl) ?_)
 obtain ⟨dp, cp, bu⟩ := AO cn
 refine cV call98 (KQ ad ab aa cp) (uv (CI rfl) ?_)
 refine ua (Aa ?_)
 refine AY rfl (fun aq => ?_) (fun aq => ?_)
 ·have cq := bt bu aq
  refine AP (ua (Aa ?_))
  refine kW kn ?_
  refine Ap (AE (Aj ?_))
  refine C9 results78 ?_
  obtain rfl := AR cq
  exact rfl
 have cr := bf bu aq
 refine An (Az (id := 0) ?_)
 refine AX (fun e1 F1 L1 => HZ walks Ao Af start Ac = some r ∧ F = F1 ∧ L1 = [(b1, ce #[.slice As walks.length Ar, .slice Au Ao.length Av, .int .i64 Af, .int .i64 start, .slice Ai Ac.length Ah] 39)] ∧ e1.sub [(1, .pointer (some ⟨b1, 0, none⟩))]) ?_ ?_
 ·refine AP (uv (Ad H8 rfl) (uv (Al isAgg36 rfl (Has.own 0 rfl) rfl) (uv (A3 underlying36 rfl) ?_)))
  refine um (Aa ?_)
  refine Am ?_
  refine Bg (fun bw e1 F1 L1 => LA Ao bw fun tl k => Ex walks Ao Af start Ac tl = some r ∧ F = F1 ∧ L1 = [(b1, ce #[.slice As walks.length Ar, .slice Au Ao.length Av, .int .i64 Af, .int .i64 start, .slice Ai Ac.length Ah] 39)] ∧ e1.sub [(1, .pointer (some ⟨b1, 0, none⟩)), (25, .slice Au Ao.length Av), (26, .int .i64 (Ao.length : Int)), (27, .int .i64 k)]) _ (m0 kr ⟨_, _, rfl, BT.start _, cr, rfl, rfl, z4⟩) ?_
  rintro bw e1 _ _ ⟨tl, k, ar, ah, aj, rfl, rfl, au⟩
  refine AD _ au (AP (uv (A8 rfl rfl) ?_))
  refine Aa (Aq ?_)
  refine cQ (fun ak => ?_) fun ak => ?_
  ·obtain ⟨x, dq, rfl, av, bx, aw⟩ := BT.succ ah ak
   rw [Ex] at aj
   refine An (Aq ?_)
   refine Am (AP ?_)
   obtain ⟨dr, dt, du, ct, ax, ay, bz, ⟨dv, dw, rfl, cu⟩, cv, az⟩ := AF.at (Ax (Ab _)) ab ([(b1, ce #[.slice As walks.length Ar, .slice Au Ao.length Av, .int .i64 Af, .int .i64 start, .slice Ai Ac.length Ah] 39)]) bx.1 av
   refine uv (AI underlying36 sizeOf33 rfl ax rfl bx) (uv (Al isAgg33 rfl ay (az 0 (by decide))) ?_)
   refine ua (Cj ?_)
   refine uv (AM isAgg39 sizeOf39 rfl (Has.own 0 rfl) (CE rfl) rfl) (um ?_)
   obtain ⟨n, cw, ca⟩ := AO aj
   refine cV call99 (IT ad ab aa cu cw) ?_
   refine ua (Cj (um ?_))
   refine uv (B6 rfl rfl) (Aa ?_)
   refine cQ (fun ba => ?_) fun ba => ?_
   ·have cx := A2 ca ba
    refine AP (um (ua (Aa ?_)))
    refine kW kn ?_
    refine Ap (AE (Aj (Aj (AE (Aj ?_)))))
    refine C9 results78 ?_
    obtain rfl := AR cx
    exact rfl
   have cy := A1 ca ba
   refine An (Az (id := 2) (Ak ?_))
   refine uv (A5 rfl rfl (BT.El ah ak (AF.lt ab))) ?_
   refine um (Aa ?_)
   subst ar; exact le kr ⟨_, _, rfl, aw, cy, rfl, rfl, z4⟩
  obtain rfl := BT.zero ah ak
  rw [Ex] at aj
  refine AS (Ae (Ae ?_))
  refine AA ?_
  exact mi kr ⟨aj, rfl, rfl, z1⟩
 rintro e1 _ _ ⟨cb, rfl, rfl, bb⟩
 refine AD _ bb ?_
 rw [HZ] at cb
 refine AP (ua (Aa ?_))
 refine AX (fun e1 F1 L1 => ∃ (AN : Int), HJ AN = some r ∧ F = F1 ∧ L1 = [] ∧ e1.sub [(6, .int .i64 AN)]) ?_ ?_
 ·refine AP (uv (Ad Fj rfl) (uv (Al isAgg37 rfl (Has.own 0 rfl) rfl) (uv (A3 underlying37 rfl) ?_)))
  refine um (Aa ?_)
  refine Am ?_
  refine Bg (fun cc e1 F1 L1 => LA Ac cc fun cd k2 => ∃ (ae : Int), Eu walks Ao Af start Ac cd ae = some r ∧ F = F1 ∧ L1 = [(b1, ce #[.slice As walks.length Ar, .slice Au Ao.length Av, .int .i64 Af, .int .i64 start, .slice Ai Ac.length Ah] 39)] ∧ e1.sub [(1, .pointer (some ⟨b1, 0, none⟩)), (6, .int .i64 ae), (39, .slice Ai Ac.length Ah), (40, .int .i64 (Ac.length : Int)), (41, .int .i64 k2)]) _ (m0 kr ⟨_, _, rfl, BT.start _, 0, cb, rfl, rfl, z5⟩) ?_
  rintro cc e1 _ _ ⟨cd, k2, bc, ai, ae, al, rfl, rfl, bg⟩
  refine AD _ bg (AP (uv (A8 rfl rfl) ?_))
  refine Aa (Aq ?_)
  refine cQ (fun ao => ?_) fun ao => ?_
  ·obtain ⟨x2, dx, rfl, bh, cf, bj⟩ := BT.succ ai ao
   rw [Eu] at al
   refine An (Aq ?_)
   refine Am (AP ?_)
   obtain ⟨dy, dz, e9, cz, bk, bl, af, ⟨_, _, rfl, ⟨eg, eh, rfl, da⟩, ⟨_, _, rfl, rfl, rfl⟩⟩, bm, bn⟩ := AF.at (At (Ax (Ab _)) (At (Ab _) (Ab _))) aa ([(b1, ce #[.slice As walks.length Ar, .slice Au Ao.length Av, .int .i64 Af, .int .i64 start, .slice Ai Ac.length Ah] 39)]) cf.1 bh
   refine uv (AI underlying37 sizeOf48 rfl bk rfl cf) (uv (AM isAgg48 sizeOf48 rfl bl af (Bh af bm bn)) ?_)
   refine Br rfl zeroValue48 ?_; intro ej db
   refine By (i := 0) sizeOf48 rfl rfl rfl (by simp [Value.oneCell']) rfl (CE rfl) (AK rfl ?_)
   refine Aa (Aq (AP ?_))
   refine uv (AM isAgg39 sizeOf39 rfl (Has.own 1 rfl) (CE rfl) rfl) (uv (AM isAgg48 sizeOf48 rfl (Has.own 0 rfl) (CE rfl) rfl) ?_)
   obtain ⟨n2, dd, cg⟩ := AO al
   refine cV call100 (Mt ad ab aa da dd) ?_
   refine ua (Cj (um ?_))
   refine uv (B6 rfl rfl) (Aa ?_)
   refine cQ (fun bo => ?_) fun bo => ?_
   ·have de := A2 cg bo
    refine AP (um (ua (Aa ?_)))
    refine kW kn ?_
    refine Ap (Aj (AE (Aj (Aj (AE (Aj ?_))))))
    refine C9 results78 ?_
    obtain rfl := AR de
    exact rfl
   have df := A1 cg bo
   refine An (Ak (um ?_))
   refine uv (Ad Ol rfl) (uv (Al isAgg33 rfl (Has.own 0 rfl) rfl) (uv (A3 underlying33 rfl) ?_))
   obtain ⟨dg, dh⟩ := AV df
   refine uv (A5 rfl rfl dg) ?_
   refine ua (Aa (Az (id := 4) (Ak ?_)))
   refine uv (A5 rfl rfl (BT.El ai ao (AF.lt aa))) ?_
   refine um (Aa ?_)
   subst bc; exact le (kd kr) ⟨_, _, rfl, bj, ae + (x2.1.length : Int), dh, rfl, rfl, z5⟩
  obtain rfl := BT.zero ai ao
  rw [Eu] at al
  refine AS (Ae (Ae ?_))
  refine AA ?_
  exact mi kn ⟨ae, al, rfl, rfl, z1⟩
 rintro e1 _ _ ⟨AN, bp, rfl, rfl, bq⟩
 refine AD _ bq ?_
 rw [HJ] at bp
 refine Aq (AP (um ?_))
 refine uv (IF rfl rfl) (Aa ?_)
 refine cQ (fun br => ?_) fun br => ?_
 ·have di := A2 bp br
  refine AP (ua (Aa (Ap (Aj ?_))))
  refine C9 results78 ?_
  obtain rfl := AR di
  exact rfl
 have dk := A1 bp br
 refine An (AP (ua (Aa (Ap ?_))))
 refine C9 results78 ?_
 obtain rfl := AR dk
 exact rfl
set_option maxHeartbeats 1000000 in
theorem IE {l : List Int} (af : AF 1 (iE .i64) F Ta SF l) {r : Int} (hr : Er l = some r) :
    BG Tryz.prog 84 #[.slice Ta l.length SF] F (.int .i64 r) := by
 refine sp func84 ntmps84 fun K _ _ => ?_
 rw [Er] at hr
 refine AP (ua (Cj (ua (Aa ?_))))
 obtain ⟨out, h1, r2⟩ := AO hr
 refine jE ([]) [(3, .int .i64 out)] ?_ ?_
 ·clear r2
  refine AP (um ?_)
  refine uv (A3 underlying33 rfl) ?_
  refine um (Aa ?_)
  refine Am ?_
  refine Bg (fun aq e1 F1 L1 => LA l aq fun tl k => ∃ (ab : Int), Cp tl ab = some out ∧ F = F1 ∧ L1 = [] ∧ e1.sub [(3, .int .i64 ab), (6, .slice Ta l.length SF), (7, .int .i64 (l.length : Int)), (8, .int .i64 k)]) _ (m0 kr ⟨_, _, rfl, BT.start _, -1, h1, rfl, rfl, z4⟩) ?_
  rintro aq e1 _ _ ⟨tl, k, ar, ae, ab, r5, rfl, rfl, az⟩
  refine AD _ az (AP (uv (A8 rfl rfl) ?_))
  refine Aa (Aq ?_)
  refine cQ (fun c8 => ?_) fun c8 => ?_
  ·obtain ⟨x, bl, rfl, ah, au, av⟩ := BT.succ ae c8
   rw [Cp] at r5
   refine An (Aq ?_)
   refine Am (AP ?_)
   obtain ⟨Tx, bm, bn, ba, ai, aj, aw, rfl, bb, ak⟩ := AF.at (Ab _) af ([]) au.1 ah
   refine uv (AI underlying33 sizeOf3 rfl ai rfl au) (uv (Al isAgg3 rfl aj (ak 0 (by decide))) ?_)
   refine ua (Aa ?_)
   obtain ⟨k2, ax, al⟩ := AO r5
   refine jE ([]) [(3, .int .i64 ab), (5, .int .i64 x), (6, .slice Ta l.length SF), (7, .int .i64 (l.length : Int)), (8, .int .i64 k), (22, .bool k2)] ?_ ?_
   ·clear al
    refine Ak (um ?_)
    refine uv (B6 rfl rfl) (um ?_)
    by_cases aa : x ≠ (-1)
    ·have ay := A2 ax aa
     refine nT aa (um (nT aa ?_))
     refine uv (DY rfl rfl) ?_
     refine nT aa (um ?_)
     by_cases ad : ab = (-1)
     ·have bc := A2 ay ad
      refine fT ad (fT ad (fT ad (nT aa ?_)))
      refine uv (AQ (Bd rfl ad) rfl) (uv (AQ (Bd rfl aa) rfl) (Aa ?_))
      obtain rfl := AR bc
      exact mi kr ⟨rfl, rfl, z6⟩
     have bg := A1 ay ad
     refine nF ad (um (nF ad (um (nF ad ?_))))
     refine uv (A8 rfl rfl) (nT aa (uv (AL (A4 rfl ad) rfl) (uv (AQ (Bd rfl aa) rfl) (Aa ?_))))
     obtain rfl := AR bg
     exact mi kr ⟨rfl, rfl, z6⟩
    have bh := A1 ax aa
    refine fF aa (fF aa (fF aa (fU (fU (fU (fF aa ?_))))))
    refine uv (AL (A4 rfl aa) rfl) (Aa ?_)
    obtain rfl := AR bh
    exact mi kr ⟨rfl, rfl, z6⟩
   refine AY rfl (fun ao => ?_) (fun ao => ?_)
   ·have bj := bt al ao
    refine Ak (um (ua (Aa (Az (id := 1) (Ak ?_)))))
    refine uv (A5 rfl rfl (BT.El ae c8 (AF.lt af))) ?_
    refine um (Aa ?_)
    subst ar; exact le kr ⟨_, _, rfl, av, x, bj, rfl, rfl, z4⟩
   have bk := bf al ao
   refine An (Az (id := 1) (Ak ?_))
   refine uv (A5 rfl rfl (BT.El ae c8 (AF.lt af))) ?_
   refine um (Aa ?_)
   subst ar; exact le kr ⟨_, _, rfl, av, ab, bk, rfl, rfl, z4⟩
  obtain rfl := BT.zero ae c8
  rw [Cp] at r5
  refine AS (Ae (Ae ?_))
  refine AA ?_
  obtain rfl := AR r5
  exact mi kr ⟨rfl, rfl, z1⟩
 refine AP (um (ua (Aa (Ap ?_))))
 refine C9 results84 ?_
 obtain rfl := AR r2
 exact rfl
set_option maxHeartbeats 1000000 in
theorem Ib {w : List Int} (ad : w.length = 25) {r : List Int} (hr : C7 w = some r) :
    SH.Spec Tryz.prog 79 #[.agg (arr (cI .i64) w)] F [] fun _ L' v => v = .agg (arr (cI .i64) r) ∧ L' = [] ∧ r.length = 25 := by
 refine sp func79 ntmps79 fun K _ _ => ?_
 rw [C7] at hr
 refine AP ?_
 refine BK rfl rfl ?_; intro b1 gz
 refine Br rfl zeroValue109 ?_; intro b2 ia
 refine AK (L' := [(b2, ce (arr (cI .i64) (List.replicate 25 0)) 109), (b1, ce (arr (cI .i64) w) 109)]) rfl (Cj (uv (I3 isAgg109 sizeOf109 rfl (Has.own 1 rfl) (ES (Bj .i64) ad)) ?_))
 refine Br rfl zeroValue109 ?_; intro b3 ib
 refine AK (L' := [(b3, ce (arr (cI .i64) (List.replicate 25 0)) 109), (b2, ce (arr (cI .i64) (List.replicate 25 0)) 109), (b1, ce (arr (cI .i64) w) 109)]) rfl (JP (i := 0) sizeOf109 rfl rfl rfl (ES (Bj .i64) List.length_replicate) (ES (Bj .i64) ad) (LF (Bj .i64)) (AK (L' := [(b3, ce (arr (cI .i64) w) 109), (b2, ce (arr (cI .i64) (List.replicate 25 0)) 109), (b1, ce (arr (cI .i64) w) 109)]) rfl (Aa ?_)))
 obtain ⟨out, h5, r6⟩ := AO hr
 refine AX (fun e1 F1 L1 => AW F F1 ∧ L1 = [(b3, ce (arr (cI .i64) out) 109), (b2, ce (arr (cI .i64) (List.replicate 25 0)) 109)] ∧ e1.sub [(2, .pointer (some ⟨b2, 0, none⟩)), (3, .pointer (some ⟨b3, 0, none⟩))] ∧ out.length = 25) ?_ ?_
 ·clear r6
  refine AP (um (Aa ?_))
  refine Am ?_
  obtain ⟨g8, r9⟩ := AV h5
  refine Bg (fun bu e1 F1 L1 => ∃ (k : Int), Es 0 5 k bu ∧ ∃ (ae : List Int), Cv w bu k ae = some out ∧ AW F F1 ∧ L1 = [(b3, ce (arr (cI .i64) ae) 109), (b2, ce (arr (cI .i64) (List.replicate 25 0)) 109), (b1, ce (arr (cI .i64) w) 109)] ∧ e1.sub [(1, .pointer (some ⟨b1, 0, none⟩)), (2, .pointer (some ⟨b2, 0, none⟩)), (3, .pointer (some ⟨b3, 0, none⟩)), (8, .int .i64 k)] ∧ ae.length = 25) _ (m0 kr ⟨_, Es.start _ _, w, r9, AW.refl _, rfl, z4, ad⟩) ?_
  rintro bu e1 dw _ ⟨k, ao, ae, bw, au, rfl, cf, h7⟩
  refine AD _ cf (AP (uv (A8 rfl rfl) ?_))
  refine Aa (Aq ?_)
  refine cQ (fun bx => ?_) fun bx => ?_
  ·obtain ⟨bu, rfl, cg⟩ := Es.succ ao bx
   rw [Cv] at bw
   refine An ?_
   obtain ⟨ah, fg, dx⟩ := AO bw
   refine AX (fun e1 F1 L1 => AW dw F1 ∧ L1 = [(b3, ce (arr (cI .i64) ah) 109), (b2, ce (arr (cI .i64) (List.replicate 25 0)) 109), (b1, ce (arr (cI .i64) w) 109)] ∧ e1.sub [(1, .pointer (some ⟨b1, 0, none⟩)), (2, .pointer (some ⟨b2, 0, none⟩)), (3, .pointer (some ⟨b3, 0, none⟩)), (8, .int .i64 k)] ∧ ah.length = 25) ?_ ?_
   ·clear dx
    refine Am ?_
    refine AP (um (ua (Cj (um (Aa ?_)))))
    refine Am ?_
    obtain ⟨fh, fi⟩ := AV fg
    refine Bg (fun bz e1 F1 L1 => ∃ (k2 : Int), Es 0 5 k2 bz ∧ ∃ (af : List Int), Cw w k bz k2 af = some ah ∧ AW dw F1 ∧ L1 = [(b3, ce (arr (cI .i64) af) 109), (b2, ce (arr (cI .i64) (List.replicate 25 0)) 109), (b1, ce (arr (cI .i64) w) 109)] ∧ e1.sub [(1, .pointer (some ⟨b1, 0, none⟩)), (2, .pointer (some ⟨b2, 0, none⟩)), (3, .pointer (some ⟨b3, 0, none⟩)), (4, .int .i64 k), (8, .int .i64 k), (11, .int .i64 k2)] ∧ af.length = 25) _ (m0 kr ⟨_, Es.start _ _, ae, fi, AW.refl _, rfl, z6, h7⟩) ?_
    rintro bz e1 dy _ ⟨k2, aq, af, ca, av, rfl, cj, dz⟩
    refine AD _ cj (AP (uv (A8 rfl rfl) ?_))
    refine Aa (Aq ?_)
    refine cQ (fun cb => ?_) fun cb => ?_
    ·obtain ⟨bz, rfl, cn⟩ := Es.succ aq cb
     rw [Cw] at ca
     refine An ?_
     obtain ⟨ai, fj, e9⟩ := AO ca
     refine AX (fun e1 F1 L1 => AW dy F1 ∧ L1 = [(b3, ce (arr (cI .i64) ai) 109), (b2, ce (arr (cI .i64) (List.replicate 25 0)) 109), (b1, ce (arr (cI .i64) w) 109)] ∧ e1.sub [(1, .pointer (some ⟨b1, 0, none⟩)), (2, .pointer (some ⟨b2, 0, none⟩)), (3, .pointer (some ⟨b3, 0, none⟩)), (4, .int .i64 k), (8, .int .i64 k), (11, .int .i64 k2)] ∧ ai.length = 25) ?_ ?_
     ·clear e9
      refine Am ?_
      refine AP (um (ua (Cj (um (Aa ?_)))))
      refine Am ?_
      obtain ⟨eg, fk⟩ := AV fj
      refine Bg (fun cc e1 F1 L1 => ∃ (k3 : Int), Es 0 5 k3 cc ∧ ∃ (aa : List Int), Ca w k k2 cc k3 aa = some ai ∧ AW dy F1 ∧ L1 = [(b3, ce (arr (cI .i64) aa) 109), (b2, ce (arr (cI .i64) (List.replicate 25 0)) 109), (b1, ce (arr (cI .i64) w) 109)] ∧ e1.sub [(1, .pointer (some ⟨b1, 0, none⟩)), (2, .pointer (some ⟨b2, 0, none⟩)), (3, .pointer (some ⟨b3, 0, none⟩)), (4, .int .i64 k), (5, .int .i64 k2), (8, .int .i64 k), (11, .int .i64 k2), (14, .int .i64 k3)] ∧ aa.length = 25) _ (m0 kr ⟨_, Es.start _ _, af, fk, AW.refl _, rfl, z8, dz⟩) ?_
      rintro cc e1 ic _ ⟨k3, aj, aa, cd, ar, rfl, cp, ak⟩
      refine AD _ cp (AP (uv (A8 rfl rfl) ?_))
      refine Aa (Aq ?_)
      refine cQ (fun aw => ?_) fun aw => ?_
      ·obtain ⟨cc, rfl, ax⟩ := Es.succ aj aw
       rw [Ca] at cd
       refine An (Aq ?_)
       refine Am ?_
       refine AP (um (ua (Aa ?_)))
       obtain ⟨k4, fl, cq⟩ := AO cd
       refine jE ([(b3, ce (arr (cI .i64) aa) 109), (b2, ce (arr (cI .i64) (List.replicate 25 0)) 109), (b1, ce (arr (cI .i64) w) 109)]) [(1, .pointer (some ⟨b1, 0, none⟩)), (2, .pointer (some ⟨b2, 0, none⟩)), (3, .pointer (some ⟨b3, 0, none⟩)), (4, .int .i64 k), (5, .int .i64 k2), (6, .int .i64 k3), (8, .int .i64 k), (11, .int .i64 k2), (14, .int .i64 k3), (30, .bool k4)] ?_ ?_
       ·clear cq
        refine Ak (um (um ?_))
        obtain ⟨eh, fm⟩ := AV fl
        refine uv (BB underlying109 sizeOf107 rfl rfl eh) ?_
        obtain ⟨ej, fo⟩ := AV fm
        obtain ⟨x, ie, cr, eo⟩ := BH fo
        have ct : (k * 5 + k3 : Int).toNat = (k : Int).toNat * 5 + (k3 : Int).toNat := by have := eh; have := ej; omega
        have cu := IJ (Bj .i64) ad ct cr (Ii (G2 (IG (Bj .i64) ad))) (IS (G2 (IG (Bj .i64) ad)))
        refine uv (BB underlying107 sizeOf3 rfl rfl ej) (uv (Al isAgg3 rfl (Has.own 2 rfl) ((cu).2.2 0 (by decide))) (uv (B6 rfl rfl) (um ?_)))
        by_cases ab : x ≠ (-1)
        ·have fp := A2 eo ab
         refine nT ab (um (nT ab (um (nT ab ?_))))
         obtain ⟨er, fq⟩ := AV fp
         refine uv (BB underlying109 sizeOf107 rfl rfl er) (nT ab ?_)
         obtain ⟨et, fs⟩ := AV fq
         obtain ⟨x2, ig, cv, ft⟩ := BH fs
         have cw : (k3 * 5 + k2 : Int).toNat = (k3 : Int).toNat * 5 + (k2 : Int).toNat := by have := er; have := et; omega
         have cx := IJ (Bj .i64) ad cw cv (Ii (G2 (IG (Bj .i64) ad))) (IS (G2 (IG (Bj .i64) ad)))
         refine uv (BB underlying107 sizeOf3 rfl rfl et) (nT ab (uv (Al isAgg3 rfl (Has.own 2 rfl) ((cx).2.2 0 (by decide))) (nT ab (uv (B6 rfl rfl) (uv (AQ (Bd rfl ab) rfl) (Aa ?_))))))
         obtain rfl := AR ft
         exact mi kr ⟨rfl, rfl, (sc rfl (sc rfl z8))⟩
        have fv := A1 eo ab
        refine fF ab (fF ab (fF ab (fF ab (fF ab (fF ab ?_)))))
        refine uv (AL (A4 rfl ab) rfl) (Aa ?_)
        obtain rfl := AR fv
        exact mi kr ⟨rfl, rfl, (sc rfl (sc rfl z8))⟩
       refine AY rfl (fun cy => ?_) (fun cy => ?_)
       ·have fw := bt cq cy
        refine C5 [(.still, 0), (.still, 1), (.still, 2), (.still, 3), (.still, 4), (.still, 5), (.still, 6), (.still, 7), (.still, 8), (.still, 9), (.still, 10), (.still, 11), (.still, 12), (.still, 13), (.still, 14), (.still, 15), (.still, 16), (.still, 17), (.still, 20), (.seq, 18), (.seq, 19), (.still, 21), (.seq, 22)] (by kernel_rfl) (by kernel_rfl) (trivial) (by rfl) (by kernel_rfl) (mS [4] rfl (Be rfl) (mS [5] rfl (Be rfl) (mS [4] rfl (Be rfl) (mS [5] rfl (Be rfl) ?_))))
        obtain ⟨eu, fx⟩ := AV fw
        refine mS [3, 33] rfl (BB underlying109 sizeOf107 rfl rfl eu) ?_
        obtain ⟨ew, fy⟩ := AV fx
        obtain ⟨x3, ga, cz, gb⟩ := BH fy
        have da : (k * 5 + k2 : Int).toNat = (k : Int).toNat * 5 + (k2 : Int).toNat := by have := eu; have := ew; omega
        have db := IJ (Bj .i64) ak da cz (Ii (G2 (IG (Bj .i64) ak))) (IS (G2 (IG (Bj .i64) ak)))
        refine mS [34, 35] rfl (BB underlying107 sizeOf3 rfl rfl ew) (mL [36] ([(b3, ce (arr (cI .i64) aa) 109)]) rfl (s0 (s2 (s1 (s1 sr)))) (fun H F' L' ay az => Al isAgg3 rfl ((Has.own 0 rfl).ext ay az) ((db).2.2 0 (by decide))) (mS [4] rfl (Be rfl) (mS [6] rfl (Be rfl) ?_)))
        obtain ⟨ey, gg⟩ := AV gb
        refine mS [1, 38] rfl (BB underlying109 sizeOf107 rfl rfl ey) ?_
        obtain ⟨fa, gh⟩ := AV gg
        obtain ⟨x4, ij, dd, gk⟩ := BH gh
        have de : (k * 5 + k3 : Int).toNat = (k : Int).toNat * 5 + (k3 : Int).toNat := by have := ey; have := fa; omega
        have df := IJ (Bj .i64) ad de dd (Ii (G2 (IG (Bj .i64) ad))) (IS (G2 (IG (Bj .i64) ad)))
        refine mS [39, 40] rfl (BB underlying107 sizeOf3 rfl rfl fa) (mL [41] ([(b1, ce (arr (cI .i64) w) 109)]) rfl (s0 (s1 (s1 (s2 sr)))) (fun H F' L' ay az => Al isAgg3 rfl ((Has.own 0 rfl).ext ay az) ((df).2.2 0 (by decide))) (mS [6] rfl (Be rfl) (mS [5] rfl (Be rfl) ?_)))
        obtain ⟨fb, gl⟩ := AV gk
        refine mS [1, 43] rfl (BB underlying109 sizeOf107 rfl rfl fb) ?_
        obtain ⟨fe, gm⟩ := AV gl
        obtain ⟨x5, ik, dg, gp⟩ := BH gm
        have ba : (k3 * 5 + k2 : Int).toNat = (k3 : Int).toNat * 5 + (k2 : Int).toNat := by have := fb; have := fe; omega
        have bb := IJ (Bj .i64) ad ba dg (Ii (G2 (IG (Bj .i64) ad))) (IS (G2 (IG (Bj .i64) ad)))
        refine mS [44, 45] rfl (BB underlying107 sizeOf3 rfl rfl fe) (mL [46] ([(b1, ce (arr (cI .i64) w) 109)]) rfl (s0 (s1 (s1 (s2 sr)))) (fun H F' L' ay az => Al isAgg3 rfl ((Has.own 0 rfl).ext ay az) ((bb).2.2 0 (by decide))) ?_)
        obtain ⟨dh, di⟩ := AV gp
        refine mS (v := .int .i64 (x4 + x5)) [42, 47] rfl (A5 rfl rfl dh) ?_
        obtain ⟨bc, dk⟩ := AV di
        refine mS [3, 31] rfl (BB underlying109 sizeOf107 rfl rfl bc) ?_
        refine ⟨_, [(37, .int .i64 x3), (48, .int .i64 (x4 + x5))], rfl, rfl, z2, by kernel_rfl, ?_⟩; intro H
        refine bA (cs := #[.int .i64 x3, .int .i64 (x4 + x5)]) BX [.int .i64 x3, .int .i64 (x4 + x5)] ?_; intro bg bh
        refine Aa ⟨_, rfl, AW.refl _, [20, 1, 0], by kernel_rfl, .inl (.inr (fun d h => by cases h; rfl)), (fc sm (fc sm (fc sm nm))), ?_⟩
        refine ⟨_, [(49, .slice (some ⟨bg, 0, none⟩) 2 2)], rfl, rfl, z1, by kernel_rfl, ?_⟩; intro H
        refine BP 0 rfl bh ?_; intro dm al bj
        refine AK (L' := [(b3, ce (arr (cI .i64) aa) 109), (b2, ce (arr (cI .i64) (List.replicate 25 0)) 109), (b1, ce (arr (cI .i64) w) 109)]) rfl ?_
        have dn : AF 1 (iE .i64) dm (some ⟨bg, 0, none⟩) 2 [x3, x4 + x5] := AF.CV (Ab _) (vss := [[.int .i64 x3], [.int .i64 (x4 + x5)]]) (xs := [x3, x4 + x5]) bj (.cons rfl (.cons rfl .nil)) rfl (by simp [maxLen])
        obtain ⟨n, dp, dq⟩ := AO dk
        refine cV call84 (IE dn dp) ?_
        refine Aa ⟨_, rfl, al, [20, 1, 0], by kernel_rfl, .inl (.inr (fun d h => by cases h; rfl)), (fc sm (fc sm (fc sm nm))), ?_⟩
        obtain ⟨bk, dr⟩ := AV dq
        have bl : (k * 5 + k2 : Int).toNat = (k : Int).toNat * 5 + (k2 : Int).toNat := by have := bc; have := bk; omega
        refine mS [32, 51] rfl (BB underlying107 sizeOf3 rfl rfl bk) ?_
        refine ⟨_, [(50, .int .i64 n), (52, .pointer (some ⟨b3, 0 + (k : Int).toNat * 5 + (k2 : Int).toNat * 1, none⟩))], rfl, rfl, z2, by kernel_rfl, ?_⟩; intro H
        obtain ⟨l, bm, dt⟩ := CT dr
        have du : l.length = 25 := by rw [bm, List.length_set]; exact ak
        refine RG (i := 0) sizeOf3 (Bj .i64) rfl rfl rfl rfl bl (by have := ga; have := ak; omega) ak ?_
        refine AK (L' := [(b3, ce (arr (cI .i64) l) 109), (b2, ce (arr (cI .i64) (List.replicate 25 0)) 109), (b1, ce (arr (cI .i64) w) 109)]) (by rw [bm]; rfl) ?_
        refine Aa ⟨undef, rfl, AW.refl _, [], by kernel_rfl, .inl (.inl rfl), nm, ?_⟩
        refine Ef ?_
        refine Az (id := 5) (Ak ?_)
        refine uv (A5 rfl rfl (Es.El aj aw eg)) ?_
        refine um (Aa ?_)
        exact le kr ⟨_, ax, l, dt, (ar.trans al), rfl, z8, du⟩
       have dv := bf cq cy
       refine An (Az (id := 5) (Ak ?_))
       refine uv (A5 rfl rfl (Es.El aj aw eg)) ?_
       refine um (Aa ?_)
       exact le kr ⟨_, ax, aa, dv, ar, rfl, z8, ak⟩
      obtain rfl := Es.zero aj aw
      rw [Ca] at cd
      refine AS (Ae (Ae ?_))
      refine AA (Az (id := 3) ?_)
      obtain rfl := AR cd
      exact mi kr ⟨ar, rfl, z6, ak⟩
     rintro e1 gq _ ⟨bn, rfl, bo, gr⟩
     refine AD _ bo (Ak (uv (A5 rfl rfl (Es.El aq cb fh)) ?_))
     refine um (Aa ?_)
     exact le kr ⟨_, cn, ai, e9, (av.trans bn), rfl, z6, gr⟩
    obtain rfl := Es.zero aq cb
    rw [Cw] at ca
    refine AS (Ae (Ae ?_))
    refine AA (Az (id := 1) ?_)
    obtain rfl := AR ca
    exact mi kr ⟨av, rfl, z4, dz⟩
   rintro e1 gu _ ⟨bp, rfl, bq, gv⟩
   refine AD _ bq (Ak (uv (A5 rfl rfl (Es.El ao bx g8)) ?_))
   refine um (Aa ?_)
   exact le kr ⟨_, cg, ah, dx, (au.trans bp), rfl, z4, gv⟩
  obtain rfl := Es.zero ao bx
  rw [Cv] at bw
  refine AS (Ae (Ae ?_))
  refine AA ?_
  obtain rfl := AR bw
  exact mi (kc (kc kn)) ⟨au, rfl, z2, h7⟩
 rintro e1 gw _ ⟨ff, rfl, br, h4⟩
 refine AD _ br (AP (uv (I3 isAgg109 sizeOf109 rfl (Has.own 0 rfl) (ES (Bj .i64) h4)) (JP (i := 1) sizeOf109 rfl rfl rfl (ES (Bj .i64) List.length_replicate) (ES (Bj .i64) h4) (LF (Bj .i64)) (AK (L' := [(b3, ce (arr (cI .i64) out) 109), (b2, ce (arr (cI .i64) out) 109)]) rfl (Aa (kW (kd kr) (Ap ?_)))))))
 refine K9 results79 (Gn (cs := arr (cI .i64) out) isAgg109 sizeOf109 rfl (Has.own 0 rfl) (IS (G2 (IG (Bj .i64) h4))) (SB (IG (Bj .i64) h4) (G2 (IG (Bj .i64) h4)))) (s1 sr) ?_
 obtain rfl := AR r6
 exact ⟨rfl, rfl, h4⟩
set_option maxHeartbeats 1000000 in
theorem Jk {s_ : List Int} (aq : AT 0 3 1 (iE .i64) F CG EV Cq s_ Gq) (af : ∀ args w, (callFunc J3 args).run Tryz.prog w = .ok (.enter J3 args) w) (al : G7 Tryz.prog J3 Pm OJ F (fun x : Int => #[.int .i64 x]) seq) {r : List Int} (hr : DB s_ seq = some r) :
    SH.Spec Tryz.prog 112 #[.slice CG EV Cq, .func (.func J3) Pm OJ] F (Gq ++ []) fun F' L' v => ∃ (ra : Option Addr) (rn : Nat) (rc : Nat) (rL : LH), v = .slice ra rn rc ∧ L' = rL ++ [] ∧ AT 0 3 1 (iE .i64) F' ra rn rc r rL := by
 refine sp func112 ntmps112 fun K _ _ => ?_
 rw [DB] at hr
 refine Gv (L' := Gq ++ []) (by simp) (AP ?_)
 refine BK rfl rfl ?_; intro b1 cb
 refine ua (Aa ?_)
 obtain ⟨ax, h8, r9⟩ := AO hr
 refine AX (fun e1 F1 L1 => ∃ (a2 : Option Addr) (n6 : Nat) (c3 : Nat) (ar : LH), AW F F1 ∧ L1 = ((b1, ce #[.slice a2 n6 c3] 33) :: (ar ++ [])) ∧ e1.sub [(2, .pointer (some ⟨b1, 0, none⟩))] ∧ AT 0 3 1 (iE .i64) F1 a2 n6 c3 ax ar) ?_ ?_
 ·clear r9
  refine AP (um (Aa ?_))
  refine Am ?_
  refine JK (encs := (fun x : Int => #[.int .i64 x])) (xs := seq) rfl af rfl (fun _ => rfl) al (fun pre F1 L1 => ∃ (tl : List Int) (ah : List Int) (ai : Option Addr) (aj : Nat) (ak : Nat) (aa : LH), seq = pre ++ tl ∧ Bi tl ah = some ax ∧ L1 = ((b1, ce #[.slice ai aj ak] 33) :: (aa ++ [])) ∧ AT 0 3 1 (iE .i64) F1 ai aj ak ah aa) (fun _ _ _ => False) ?_ ?_ ?_ ?_ ?_ ?_
  ·rintro pre F1 F2 L1 ⟨tl, ah, ai, aj, ak, aa, ab, bj, rfl, ad⟩ hx; exact ⟨tl, ah, ai, aj, ak, aa, ab, bj, rfl, ad.mono (Ab _) hx⟩
  ·intro c F1 F2 L1 h hx; exact h
  ·exact ⟨_, s_, CG, EV, Cq, Gq, rfl, h8, rfl, aq⟩
  ·rintro cc bk bl bm bn bo ay bp pre x cd ae cf _ bq ⟨tl, ah, ai, aj, ak, aa, ab, az, rfl, ad⟩
   obtain rfl := Np ab ae
   rw [Bi] at az
   refine AD [(2, .pointer (some ⟨b1, 0, none⟩)), (6, .func (.func J3) Pm OJ), (7, .int .i64 x)] (by exact z3) ?_
   refine Ak (ua (Aa ?_))
   refine ⟨rfl, ?_⟩
   refine Am (Ak (uv (Al isAgg33 rfl (Has.own 0 rfl) rfl) (um ?_)))
   refine bA (cs := #[.int .i64 x]) BX [.int .i64 x] ?_; intro cg br
   obtain ⟨ba, bu, bw, bx⟩ := FQ az
   refine EA (xs := ah) (ys := [x]) (zs := ba) rfl BX rfl rfl (Nat.zero_le _) (fun _ => .c (.c .h)) ad (Gk.box (vss := [[.int .i64 x]]) (ys := [x]) 0 rfl (Ab _) (.cons rfl .nil) rfl rfl) bu bw (by decide) ?_; intro bb bc bg ao au
   refine kO (kd kr) (CS (i := 0) sizeOf33 rfl rfl rfl rfl (CE rfl) (AK rfl ?_))
   refine Aa (Az (id := 1) ?_)
   refine ⟨(b1, ce #[.slice bb bc bg] 33) :: (ao ++ []), ⟨_, .refl _, sr⟩, ?_⟩; exact ⟨_, ba, bb, bc, bg, ao, (by rw [ae]; simp), bx, rfl, au⟩
  ·rintro cj _ av ⟨tl, ah, ai, aj, ak, aa, ab, bh, rfl, ad⟩
   obtain rfl := Pn ab; rw [Bi] at bh
   refine Az (id := 0) ?_
   obtain rfl := AR bh
   exact mi kr ⟨ai, aj, ak, aa, av, rfl, z1, ad⟩
  intro c F1 L1 hx h; exact h.elim
 rintro e1 cn _ ⟨a2, n6, c3, ar, bz, rfl, aw, ca⟩
 refine AD _ aw (AP (uv (Al isAgg33 rfl (Has.own 0 rfl) rfl) ?_))
 refine ua (Aa ?_)
 refine kW (kd kr) (Ap (C9 results112 ?_))
 obtain rfl := AR r9
 exact ⟨_, _, _, _, rfl, rfl, ca⟩
theorem Lp (aa : ∀ args w, (callFunc J3 args).run Tryz.prog w = .ok (.enter J3 args) w) (ab : G7 Tryz.prog J3 Pm OJ F (fun x : Int => #[.int .i64 x]) seq) {r : List Int} (hr : EY seq = some r) :
    SH.Spec Tryz.prog 101 #[.func (.func J3) Pm OJ] F [] fun F' L' v => ∃ (ra : Option Addr) (rn : Nat) (rc : Nat) (rL : LH), v = .slice ra rn rc ∧ L' = rL ++ [] ∧ AT 0 3 1 (iE .i64) F' ra rn rc r rL := by
 refine sp func101 ntmps101 fun K _ _ => ?_
 rw [EY] at hr
 refine AP (ua (Cj (um ?_)))
 obtain ⟨l, h1, r2⟩ := AO hr
 refine c0 call112 (Jk (AT.nil 0 _ _ _ _) aa ab h1) ?_; rintro _ F3 _ ae af ⟨a7, ah, c8, ai, rfl, rfl, ad⟩
 refine AK (lp (ln rfl)) ?_
 refine ua (Aa (Ap ?_))
 refine C9 results101 ?_
 obtain rfl := AR r2
 exact ⟨_, _, _, _, rfl, rfl, ad.any⟩
theorem KJ {x : Int} {r : Bool} (hr : Gl x = some r) :
    BG Tryz.prog 137 #[.int .i64 x] F (.bool r) := by
 refine sp func137 ntmps137 fun K _ _ => ?_
 rw [Gl] at hr
 refine AP (ua (Cj (um (um ?_))))
 refine uv (B6 rfl rfl) ?_
 refine ua (Aa (Ap ?_))
 refine C9 results137 ?_
 obtain rfl := AR hr
 exact rfl
theorem Ox {x : Int} {r : Bool} (hr : FY x y = some r) :
    BG Tryz.prog 126 #[.int .i64 x, .int .i64 y] F (.bool r) := by
 refine sp func126 ntmps126 fun K _ _ => ?_
 rw [FY] at hr
 refine AP (ua (Cj (um ?_)))
 obtain ⟨ok, h1, r2⟩ := AO hr
 refine cV call137 (KJ h1) (um ?_)
 rcases EL ok with c3 | c3
 ·have r4 := bt r2 c3
  refine nB c3 (um (nB c3 ?_))
  obtain ⟨aa, h5, r6⟩ := AO r4
  refine cV call137 (KJ h5) (nB c3 (uv (CI rfl) (uv (AQ (KX rfl c3) rfl) (um ?_))))
  rcases EL (!aa) with c7 | c7
  ·have r8 := bt r6 c7
   refine fB c7 (fB c7 (fB c7 ?_))
   refine uv (AQ (KX rfl c7) rfl) ?_
   refine ua (Aa (Ap ?_))
   refine C9 results126 ?_
   obtain rfl := AR r8
   exact rfl
  have r9 := bf r6 c7
  refine nB c7 (um (nB c7 (um (nB c7 ?_))))
  refine uv (A8 rfl rfl) (uv (AL (KX rfl c7) rfl) ?_)
  refine ua (Aa (Ap ?_))
  refine C9 results126 ?_
  obtain rfl := AR r9
  exact rfl
 have ab := bf r2 c3
 refine fB c3 (fB c3 (fB c3 ?_))
 refine uv (AL (KX rfl c3) rfl) ?_
 refine um (Ev (b := false) 12 rfl rfl (um (Ev (b := false) 12 rfl rfl (um (Ev (b := false) 12 rfl rfl ?_)))))
 refine uv (A8 rfl rfl) (uv (AL rfl rfl) ?_)
 refine ua (Aa (Ap ?_))
 refine C9 results126 ?_
 obtain rfl := AR ab
 exact rfl
set_option maxHeartbeats 1000000 in
theorem HG {s_ : List Int} (bc : AT GJ 3 1 (iE .i64) F CG EV Cq s_ Gq) {r : List Int} (hr : BJ s_ a b = some r) :
    SH.Spec Tryz.prog 120 #[.slice CG EV Cq, .int .i64 a, .int .i64 b] F (Gq ++ []) fun F' L' v => ∃ (rL : LH), v = .tuple #[] ∧ L' = rL ++ [] ∧ AT GJ 3 1 (iE .i64) F' CG EV Cq r rL := by
 refine sp func120 ntmps120 fun K _ _ => ?_
 rw [BJ] at hr
 refine Gv (L' := Gq ++ []) (by simp) ?_
 refine AP (um ?_)
 obtain ⟨g1, r2⟩ := AV hr
 refine uv (A5 rfl rfl g1) ?_
 refine ua (Aa ?_)
 refine Am ?_
 obtain ⟨g5, r6⟩ := AV r2
 refine Bg (fun ax e1 F1 L1 => ∃ (i : Int), Es (a + 1) b i ax ∧ ∃ (data : List Int) (ay : LH), Bf a ax i data = some r ∧ F = F1 ∧ L1 = (ay ++ []) ∧ e1.sub [(0, .slice CG EV Cq), (1, .int .i64 a), (2, .int .i64 b), (6, .int .i64 i)] ∧ AT GJ 3 1 (iE .i64) F1 CG EV Cq data ay) _ (m0 kr ⟨_, Es.start _ _, s_, Gq, r6, rfl, rfl, z4, bc⟩) ?_
 rintro ax e1 _ _ ⟨i, bg, data, ay, r9, rfl, rfl, bh, db⟩
 refine AD _ bh ?_
 refine Aq (AP (um (um ?_)))
 refine uv (A8 rfl rfl) (Aa ?_)
 refine cQ (fun az => ?_) fun az => ?_
 ·obtain ⟨ax, rfl, bj⟩ := Es.succ bg az
  rw [Bf] at r9
  refine An ?_
  obtain ⟨ae, dv, dd⟩ := AO r9
  refine AX (fun e1 F1 L1 => ∃ (ai : LH), F = F1 ∧ L1 = (ai ++ []) ∧ e1.sub [(0, .slice CG EV Cq), (1, .int .i64 a), (2, .int .i64 b), (6, .int .i64 i)] ∧ AT GJ 3 1 (iE .i64) F1 CG EV Cq ae ai) ?_ ?_
  ·clear dd
   refine Am ?_
   refine AP (um (ua (Aa ?_)))
   refine Am ?_
   refine Bg (fun ba e1 F1 L1 => ∃ (af : List Int) (j : Int) (aa : LH), A7 a ba af j = some ae ∧ F = F1 ∧ L1 = (aa ++ []) ∧ e1.sub [(0, .slice CG EV Cq), (1, .int .i64 a), (2, .int .i64 b), (6, .int .i64 i), (7, .int .i64 j)] ∧ AT GJ 3 1 (iE .i64) F1 CG EV Cq af aa) FU (m0 kr ⟨data, i, ay, dv, rfl, rfl, z5, db⟩) ?_
   rintro ba e1 _ _ ⟨af, j, aa, bb, rfl, rfl, bk, ab⟩
   refine AD _ bk ?_
   rcases ba with _ | ba
   ·rw [A7] at bb; cases bb
   rw [A7] at bb
   refine Aq ?_
   obtain ⟨k, de, bl⟩ := AO bb
   refine jE ((aa ++ [])) [(0, .slice CG EV Cq), (1, .int .i64 a), (2, .int .i64 b), (6, .int .i64 i), (7, .int .i64 j), (30, .bool k)] ?_ ?_
   ·clear bl
    refine Pw (by kernel_rfl) (by kernel_rfl) (by kernel_rfl) ?_
    refine wm (wm ?_)
    refine wv (IF rfl rfl) (wm ?_)
    by_cases ad : a < j
    ·have dw := A2 de ad
     refine Ce (b := true) 19 rfl (Env.JL rfl ad) (wm (Ce (b := true) 19 rfl (Env.JL rfl ad) (wm (Ce (b := true) 19 rfl (Env.JL rfl ad) ?_))))
     obtain ⟨x, df, bm, dx⟩ := BH dw
     obtain ⟨fx, fy, ga, dy, bn, bo, dg, rfl, dz, bp⟩ := AT.at (Ab _) ab (L := aa ++ []) fP df.1 bm
     refine wv (AI underlying33 sizeOf3 rfl bn rfl (AT.idx ab df)) (Ce (b := true) 19 rfl (Env.JL rfl ad) (wv (Al isAgg3 rfl bo (bp 0 (by decide))) ?_))
     refine Ce (b := true) 19 rfl (Env.JL rfl ad) (wm (Ce (b := true) 19 rfl (Env.JL rfl ad) (wm (Ce (b := true) 19 rfl (Env.JL rfl ad) ?_))))
     obtain ⟨e9, eg⟩ := AV dx
     refine wv (FR rfl rfl e9) (Ce (b := true) 19 rfl (Env.JL rfl ad) ?_)
     obtain ⟨x2, dh, bq, eh⟩ := BH eg
     obtain ⟨gb, gg, gh, ej, br, bu, di, rfl, eo, bw⟩ := AT.at (Ab _) ab (L := aa ++ []) fP dh.1 bq
     refine wv (AI underlying33 sizeOf3 rfl br rfl (AT.idx ab dh)) (Ce (b := true) 19 rfl (Env.JL rfl ad) (wv (Al isAgg3 rfl bu (bw 0 (by decide))) (Ce (b := true) 19 rfl (Env.JL rfl ad) ?_)))
     obtain ⟨ok, er, et⟩ := AO eh
     refine GS rfl call126 rfl rfl rfl (Ox er) (wv (AQ (Bd rfl ad) rfl) (Df ?_))
     obtain rfl := AR et
     exact mi kr ⟨rfl, rfl, z6⟩
    have eu := A1 de ad
    refine BE (b' := false) 19 rfl (Env.J5 rfl ad) rfl rfl (BE (b' := false) 19 rfl (Env.J5 rfl ad) rfl rfl (BE (b' := false) 19 rfl (Env.J5 rfl ad) rfl rfl (BE (b' := false) 19 rfl (Env.J5 rfl ad) rfl rfl (BE (b' := false) 19 rfl (Env.J5 rfl ad) rfl rfl (BE (b' := false) 19 rfl (Env.J5 rfl ad) rfl rfl (BE (b' := false) 19 rfl (Env.J5 rfl ad) rfl rfl (BE (b' := false) 19 rfl (Env.J5 rfl ad) rfl rfl (BE (b' := false) 19 rfl (Env.J5 rfl ad) rfl rfl (BE (b' := false) 19 rfl (Env.J5 rfl ad) rfl rfl ?_)))))))))
    refine wv (AL (A4 rfl ad) rfl) (Df ?_)
    obtain rfl := AR eu
    exact mi kr ⟨rfl, rfl, z6⟩
   refine AY rfl (fun bx => ?_) (fun bx => ?_)
   ·have ew := bt bl bx
    refine An (Aq ?_)
    refine Am (C5 [(.still, 0), (.still, 1), (.still, 2), (.still, 3), (.still, 4), (.still, 5), (.still, 6), (.still, 7), (.still, 8), (.still, 9), (.still, 10), (.still, 11), (.still, 12), (.still, 13), (.still, 14), (.seq, 15), (.still, 16), (.seq, 17)] (by kernel_rfl) (by kernel_rfl) (trivial) (by rfl) (by kernel_rfl) (mS [0] rfl (Be rfl) (mS [7] rfl (Be rfl) (mS [0] rfl (Be rfl) (mS [7] rfl (Be rfl) ?_)))))
    obtain ⟨ey, fa⟩ := AV ew
    refine mS (v := .int .i64 (j - 1)) [36] rfl (FR rfl rfl ey) (mS [0] rfl (Be rfl) (mS [7] rfl (Be rfl) ?_))
    obtain ⟨fb, fe⟩ := AV fa
    refine mS (v := .int .i64 (j - 1)) [39] rfl (FR rfl rfl fb) ?_
    obtain ⟨x3, dk, bz, ff⟩ := BH fe
    obtain ⟨gk, gl, gm, fg, ca, cb, dm, rfl, fh, cc⟩ := AT.at (Ab _) ab (L := aa ++ []) fP dk.1 bz
    refine mS [38, 40] rfl (AI underlying33 sizeOf3 rfl ca rfl (AT.idx ab dk)) (mL [41] (aa ++ []) rfl (s0 sr) (fun H F' L' cd cf => Al isAgg3 rfl (cb.ext cd cf) (cc 0 (by decide))) (mS [0] rfl (Be rfl) (mS [7] rfl (Be rfl) ?_)))
    obtain ⟨x4, al, ao, fi⟩ := BH ff
    obtain ⟨gp, gq, gr, fj, cg, cj, dn, rfl, fk, cn⟩ := AT.at (Ab _) ab (L := aa ++ []) fP al.1 ao
    refine mS [43, 44] rfl (AI underlying33 sizeOf3 rfl cg rfl (AT.idx ab al)) (mL [45] (aa ++ []) rfl (s0 sr) (fun H F' L' cd cf => Al isAgg3 rfl (cj.ext cd cf) (cn 0 (by decide))) ?_)
    obtain ⟨fl, fm, gu, fo, aq, fp, dp, rfl, fq, fs⟩ := AT.at (Ab _) ab (L := aa ++ []) fP al.1 ao
    refine mS [33, 34] rfl (AI underlying33 sizeOf3 rfl aq rfl (AT.idx ab al)) ?_
    refine ⟨_, [(42, .int .i64 x3), (47, .pointer (some ⟨fl, fm + (j : Int).toNat * 1, none⟩))], rfl, rfl, z2, by kernel_rfl, ?_⟩; intro H
    obtain ⟨l, ft, fv⟩ := CT fi
    refine E5 (u := x3) sizeOf3 (Ab _) rfl aq rfl rfl (fun _ => .h) ab ft al ?_; intro cp ah
    refine Aa ⟨undef, rfl, AW.refl _, [4, 3, 2], by kernel_rfl, .inl (.inr (fun d h => by cases h)), (fc sm (fc sm (fc sm nm))), ?_⟩
    obtain ⟨x5, ak, ar, cq⟩ := BH fv
    obtain ⟨cr, ct, fw, dq, aj, dr, cu, rfl, dt, du⟩ := AT.at (Ab _) ah (L := cp ++ []) fP ak.1 ar
    refine mS [35, 37] rfl (AI underlying33 sizeOf3 rfl aj rfl (AT.idx ah ak)) ?_
    refine ⟨_, [(46, .int .i64 x4), (48, .pointer (some ⟨cr, ct + (j - 1 : Int).toNat * 1, none⟩))], rfl, rfl, z2, by kernel_rfl, ?_⟩; intro H
    obtain ⟨l2, cv, cw⟩ := CT cq
    refine E5 (u := x4) sizeOf3 (Ab _) rfl aj rfl rfl (fun _ => .h) ah cv ak ?_; intro au av
    refine Aa ⟨undef, rfl, AW.refl _, [], by kernel_rfl, .inl (.inl rfl), nm, ?_⟩
    refine Ef ?_
    refine Az (id := 3) (Ak (um ?_))
    obtain ⟨cx, cy⟩ := AV cw
    refine uv (FR rfl rfl cx) ?_
    refine ua (Aa ?_)
    exact le kr ⟨l2, j - 1, au, cy, rfl, rfl, z5, av⟩
   have cz := bf bl bx
   refine AS (Ae (Ae ?_))
   refine AA (Az (id := 1) ?_)
   obtain rfl := AR cz
   exact mi kr ⟨aa, rfl, rfl, z4, ab⟩
  rintro e1 _ _ ⟨ai, rfl, rfl, aw, da⟩
  refine AD _ aw ?_
  refine Ak (um ?_)
  refine uv (A5 rfl rfl (Es.El bg az g5)) ?_
  refine ua (Aa ?_)
  exact le kr ⟨_, bj, ae, ai, dd, rfl, rfl, z4, da⟩
 obtain rfl := Es.zero bg az
 rw [Bf] at r9
 refine AS (Ae (Ae ?_))
 refine AA (QH (.inr rfl) results120 ?_)
 obtain rfl := AR r9
 exact ⟨_, rfl, rfl, db⟩
set_option maxHeartbeats 1000000 in
theorem MV {x r : Int} (hr : II x = some r) :
    BG Tryz.prog 130 #[.int .u64 x] F (.int .i64 r) := by
 refine sp func130 ntmps130 fun K _ _ => ?_
 rw [II] at hr
 refine AP (ua (Aa ?_))
 obtain ⟨x2, n, h1, r2⟩ := CQ hr
 refine jE ([]) [(0, .int .u64 x2), (2, .int .i64 n)] ?_ ?_
 ·clear r2
  refine AP (um ?_)
  refine uv (Il rfl rfl) (Aa ?_)
  refine cQ (fun c3 => ?_) fun c3 => ?_
  ·have r4 := A2 h1 c3
   refine AP (um ?_)
   refine uv (K2 rfl rfl (by decide)) ?_
   refine ua (Aa (Ak (ua (Aa ?_))))
   obtain ⟨rfl, rfl⟩ := CP r4
   exact mi kr ⟨rfl, rfl, z2⟩
  have r5 := A1 h1 c3
  refine An ?_
  obtain ⟨rfl, rfl⟩ := CP r5
  exact mi kr ⟨rfl, rfl, z2⟩
 obtain ⟨x3, n2, h7, r8⟩ := CQ r2
 refine jE ([]) [(0, .int .u64 x3), (2, .int .i64 n2)] ?_ ?_
 ·clear r8
  refine AP (um ?_)
  refine uv (Il rfl rfl) (Aa ?_)
  refine cQ (fun c9 => ?_) fun c9 => ?_
  ·have af := A2 h7 c9
   refine AP (um ?_)
   refine uv (K2 rfl rfl (by decide)) ?_
   refine ua (Aa (Ak (um ?_)))
   obtain ⟨ah, ai⟩ := AV af
   refine uv (A5 rfl rfl ah) ?_
   refine ua (Aa ?_)
   obtain ⟨rfl, rfl⟩ := CP ai
   exact mi kr ⟨rfl, rfl, z2⟩
  have aj := A1 h7 c9
  refine An ?_
  obtain ⟨rfl, rfl⟩ := CP aj
  exact mi kr ⟨rfl, rfl, z2⟩
 obtain ⟨x4, n3, ad, ae⟩ := CQ r8
 refine jE ([]) [(0, .int .u64 x4), (2, .int .i64 n3)] ?_ ?_
 ·clear ae
  refine AP (um ?_)
  refine uv (Il rfl rfl) (Aa ?_)
  refine cQ (fun ab => ?_) fun ab => ?_
  ·have ak := A2 ad ab
   refine AP (um ?_)
   refine uv (K2 rfl rfl (by decide)) ?_
   refine ua (Aa (Ak (um ?_)))
   obtain ⟨al, ao⟩ := AV ak
   refine uv (A5 rfl rfl al) ?_
   refine ua (Aa ?_)
   obtain ⟨rfl, rfl⟩ := CP ao
   exact mi kr ⟨rfl, rfl, z2⟩
  have aq := A1 ad ab
  refine An ?_
  obtain ⟨rfl, rfl⟩ := CP aq
  exact mi kr ⟨rfl, rfl, z2⟩
 refine AP (um (um ?_))
 refine uv (Pv rfl underlying190 underlying5 rfl) ?_
 obtain ⟨x5, ar, aa, au⟩ := BH ae
 refine uv (SX underlying9 (congrArg (fun s => some (Value.string s)) Sk) rfl ar.1 aa (RQ _ (List.mem_of_getElem? aa))) ?_
 obtain ⟨av, aw⟩ := AV au
 refine uv (SG underlying5 underlying3 rfl av) ?_
 obtain ⟨ax, ay⟩ := AV aw
 refine uv (A5 rfl rfl ax) ?_
 refine ua (Aa (Ap ?_))
 refine C9 results130 ?_
 obtain rfl := AR ay
 exact rfl
theorem N5 {x r : Int} (hr : Ft x = some r) :
    BG Tryz.prog 114 #[.int .u64 x] F (.int .i64 r) := by
 refine sp func114 ntmps114 fun K _ _ => ?_
 rw [Ft] at hr
 refine AP (ua (Aa (Aq ?_)))
 refine AY rfl (fun c1 => nomatch c1) (fun c1 => ?_)
 refine An (AP (um ?_))
 obtain ⟨n, h2, r3⟩ := AO hr
 refine cV call130 (MV h2) ?_
 refine ua (Aa (Ap ?_))
 refine C9 results114 ?_
 obtain rfl := AR r3
 exact rfl
theorem IB {ab : (List Int) → Int → Int → Int → Option ((List Int))} (_ah : ∀ {CG : Option Addr} {EV Cq : Nat} {Gq : LH} {s_ : List Int} {GJ : Nat} {a b aa : Int} {F : FS} (_ : AT GJ 3 1 (iE .i64) F CG EV Cq s_ Gq) {r : List Int} , ab s_ a b aa = some r → SH.Spec Tryz.prog 113 #[.slice CG EV Cq, .int .i64 a, .int .i64 b, .int .i64 aa] F (Gq ++ []) fun F' L' v => ∃ (rL : LH), v = .tuple #[] ∧ L' = rL ++ [] ∧ AT GJ 3 1 (iE .i64) F' CG EV Cq r rL) {s_ : List Int} {aa : Int} (ae : AT GJ 3 1 (iE .i64) F CG EV Cq s_ Gq) {r : List Int} (hr : Dh ab s_ a b aa = some r) :
    SH.Spec Tryz.prog 113 #[.slice CG EV Cq, .int .i64 a, .int .i64 b, .int .i64 aa] F (Gq ++ []) fun F' L' v => ∃ (rL : LH), v = .tuple #[] ∧ L' = rL ++ [] ∧ AT GJ 3 1 (iE .i64) F' CG EV Cq r rL := by
 refine sp func113 ntmps113 fun K _ _ => ?_
 rw [Dh] at hr
 refine Gv (L' := Gq ++ []) (by simp) ?_
 refine AP (ua (Cj (ua (Aa ?_))))
 refine Am ?_
 refine Bg (fun ad e1 F1 L1 => BD s_ a b ad = some r ∧ F = F1 ∧ L1 = (Gq ++ []) ∧ e1.sub [(0, .slice CG EV Cq), (1, .int .i64 a), (2, .int .i64 b), (3, .int .i64 aa), (8, .bool true), (9, .bool true)]) FU (m0 kr ⟨hr, rfl, rfl, z6⟩) ?_
 rintro ad e1 _ _ ⟨r3, rfl, rfl, ai⟩
 refine AD _ ai ?_
 rcases ad with _ | ad
 ·rw [BD] at r3; cases r3
 rw [BD] at r3
 refine Am ?_
 refine AP (um (um ?_))
 obtain ⟨g5, r6⟩ := AV r3
 refine uv (FR rfl rfl g5) ?_
 refine ua (Aa (Aq (AP (um ?_))))
 refine uv (Lm rfl rfl) (Aa ?_)
 obtain ⟨g8, r9⟩ := AV r6
 refine Nx rfl (fun c7 => ?_) (fun c7 => absurd g8 c7)
 refine AP (um (um (um ?_)))
 obtain ⟨au, aj, ak⟩ := AO r9
 refine Fy (Lb := Gq ++ []) (Lr := []) rfl call120 rfl rfl rfl (pT pR (lp (ln rfl))) (HG ae aj) ?_; rintro _ av _ al ao aq ⟨ar, rfl, rfl, af⟩
 refine AK (lp (ln rfl)) ?_
 refine Aa (Ap (Aj (AE (Aj (AE ?_)))))
 refine QH (.inl rfl) results113 ?_
 obtain rfl := AR ak
 exact ⟨_, rfl, rfl, af⟩
theorem I4 : ∀ (fu : Nat) {CG : Option Addr} {EV Cq : Nat} {Gq : LH} {s_ : List Int} {GJ : Nat} {a b aa : Int} {F : FS} (_ : AT GJ 3 1 (iE .i64) F CG EV Cq s_ Gq) {r : List Int} , Bo fu s_ a b aa = some r → SH.Spec Tryz.prog 113 #[.slice CG EV Cq, .int .i64 a, .int .i64 b, .int .i64 aa] F (Gq ++ []) fun F' L' v => ∃ (rL : LH), v = .tuple #[] ∧ L' = rL ++ [] ∧ AT GJ 3 1 (iE .i64) F' CG EV Cq r rL := by
  intro fu
  induction fu with
  | zero => intros; rename_i hr; rw [Bo] at hr; cases hr
  | succ fu ih => intros; rename_i hr; rw [Bo] at hr; exact IB ih (by assumption) hr
theorem KV {s_ : List Int} (aa : AT GJ 3 1 (iE .i64) F CG EV Cq s_ Gq) {r : List Int} (hr : Dw s_ = some r) :
    SH.Spec Tryz.prog 102 #[.slice CG EV Cq] F (Gq ++ []) fun F' L' v => ∃ (rL : LH), v = .tuple #[] ∧ L' = rL ++ [] ∧ AT GJ 3 1 (iE .i64) F' CG EV Cq r rL := by
 refine sp func102 ntmps102 fun K _ _ => ?_
 rw [Dw] at hr
 refine Gv (L' := Gq ++ []) (by simp) ?_
 refine AP (um ?_)
 refine uv ((A3 underlying33 rfl).i (AT.Hc aa)) ?_
 refine ua (Aa (Ak (um (um (um ?_)))))
 refine uv (Pv rfl underlying3 underlying158 rfl) ?_
 obtain ⟨n, h1, r2⟩ := AO hr
 refine cV call114 (N5 h1) ?_
 obtain ⟨ad, h3, r4⟩ := AO r2
 refine Fy (Lb := Gq ++ []) (Lr := []) rfl call113 rfl rfl rfl (pT pR (lp (ln rfl))) ((I4 FU) aa h3) ?_; rintro _ F5 _ ae af ah ⟨ai, rfl, rfl, ab⟩
 refine AK (lp (ln rfl)) (Aa (QH (.inr rfl) results102 ?_))
 obtain rfl := AR r4
 exact ⟨_, rfl, rfl, ab⟩
theorem LM (aa : ∀ args w, (callFunc J3 args).run Tryz.prog w = .ok (.enter J3 args) w) (ad : G7 Tryz.prog J3 Pm OJ F (fun x : Int => #[.int .i64 x]) seq) {r : List Int} (hr : D7 seq = some r) :
    SH.Spec Tryz.prog 80 #[.func (.func J3) Pm OJ] F [] fun F' L' v => ∃ (ra : Option Addr) (rn : Nat) (rc : Nat) (rL : LH), v = .slice ra rn rc ∧ L' = rL ++ [] ∧ AT 0 3 1 (iE .i64) F' ra rn rc r rL := by
 refine sp func80 ntmps80 fun K _ _ => ?_
 rw [D7] at hr
 refine AP (ua (Cj (um ?_)))
 obtain ⟨l, h1, r2⟩ := AO hr
 refine c0 call101 (Lp aa ad h1) ?_; rintro _ F3 _ ar af ⟨a7, au, c8, ah, rfl, rfl, ab⟩
 replace ab := ab.new fun p hp => af p (by simp [hp])
 refine AK (lp (ln rfl)) ?_
 refine ua (Cj (um ?_))
 obtain ⟨s_, ai, aj⟩ := AO r2
 refine Fy (Lb := ah ++ []) (Lr := []) rfl call102 rfl rfl rfl (pT pR (lp (ln rfl))) (KV ab ai) ?_; rintro _ av _ ak al ao ⟨aq, rfl, rfl, ae⟩
 refine AK (lp (ln rfl)) ?_
 refine Cj (um (ua (Aa (Ap ?_))))
 refine C9 results80 ?_
 obtain rfl := AR aj
 exact ⟨_, _, _, _, rfl, rfl, ae.any⟩
set_option maxHeartbeats 1000000 in
theorem Ju {ah : Nat} {s_ : List Int} {ao : Nat × Nat} (ae : F ah = some (.cells #[.slice CG s_.length Cq] 33 ao)) (aa : AF 1 (iE .i64) F CG Cq s_) {xs : List Int} (hr : DP s_ = some xs) :
    G7 Tryz.prog 103 #[] #[.pointer (some ⟨ah, 0, none⟩)] F (fun x : Int => #[.int .i64 x]) xs := by
 intro G0 bn yv J Jx cf bu hy Fc L0 hG bw
 replace ae := (bn.trans hG) _ _ ae
 replace aa := aa.mono (Ab _) (bn.trans hG)
 have ai : xs = [] ++ xs := rfl
 show SH.Spec Tryz.prog 103 #[yv, .pointer (some ⟨ah, 0, none⟩)] Fc L0 _
 refine sp func103 ntmps103 fun K _ _ => ?_
 rw [DP] at hr; refine Gv (L' := L0 ++ []) (by simp) ?_
 refine AP (uv (Al isAgg33 rfl (Has.frozen ae) rfl) (uv (A3 underlying33 rfl) ?_))
 refine um (Aa ?_)
 refine Am ?_
 refine Bg (fun bo e1 F1 L1 => LA s_ bo fun tl k => ∃ (ad : List Int) (aj : List Int) (aq : LH), BF tl = some aj ∧ AW Fc F1 ∧ L1 = (aq ++ []) ∧ e1.sub [(0, yv), (5, .slice CG s_.length Cq), (6, .int .i64 (s_.length : Int)), (7, .int .i64 k)] ∧ xs = ad ++ aj ∧ J ad F1 aq ∧ AW G0 F1) _ (m0 kr ⟨_, _, rfl, BT.start _, [], xs, L0, hr, AW.refl _, rfl, z4, ai, bw, hG⟩) ?_
 rintro bo e1 cg _ ⟨tl, k, bx, ay, ad, aj, aq, r8, ar, rfl, bz, ab, bp, hG⟩
 refine AD _ bz ?_
 replace aa := aa.mono (Ab _) ar
 refine AP (uv (A8 rfl rfl) ?_)
 refine Aa (Aq ?_)
 refine cQ (fun ax => ?_) fun ax => ?_
 ·obtain ⟨x, cj, rfl, az, bq, ba⟩ := BT.succ ay ax
  rw [BF] at r8
  refine An (Aq ?_)
  refine Am (AP ?_)
  obtain ⟨cn, cp, cq, ca, bb, bc, br, rfl, cb, bg⟩ := AF.at (Ab _) aa (aq ++ []) bq.1 az
  refine uv (AI underlying33 sizeOf3 rfl bb rfl bq) (uv (Al isAgg3 rfl bc (bg 0 (by decide))) ?_)
  refine ua (Cj (um (um ?_)))
  obtain ⟨ak, cc, au⟩ := Tq r8
  refine On (Lb := aq) (Lr := []) (vs := [.int .i64 x]) rfl rfl rfl fP (hy ad x ak (by rw [ab, au]) _ _ hG bp) ?_
  rintro cr ct bh al bj; obtain ⟨cd, rfl, av, aw⟩ := KA bj
  replace aa := aa.mono (Ab _) al
  replace hG := hG.trans al
  refine uv (CI rfl) (Aa ?_)
  refine AY rfl (fun bk => ?_) (fun bk => ?_)
  ·have bl := aw (by simpa using bk)
   refine Ap (AE (Aj (Aj (AE ?_))))
   refine Kv (.inl rfl) results103 (sr) ?_
   exact .inr (by rw [List.append_nil]; exact bl)
  have bm := av (by simpa using bk)
  have af : xs = (ad ++ [x]) ++ ak := by rw [ab, au]; simp
  refine An (Az (id := 1) (Ak ?_))
  refine uv (A5 rfl rfl (BT.El ay ax (AF.lt aa))) ?_
  refine um (Aa ?_)
  subst bx; exact le kr ⟨_, _, rfl, ba, ad ++ [x], ak, bh, cc, (ar.trans al), rfl, z4, af, bm, hG⟩
 obtain rfl := BT.zero ay ax
 rw [BF] at r8
 refine AS (Ae (Ae ?_))
 refine AA (Kv (.inr rfl) results103 (sr) ?_)
 obtain rfl := AR r8
 exact .inl (by have e1 := ab; rw [List.append_nil] at e1; rw [List.append_nil, e1]; exact bp)
theorem J4 {s_ : List Int} (aa : AF 1 (iE .i64) F CG Cq s_) {r : List Int} (hr : Ci s_ = some r) :
    SH.Spec Tryz.prog 81 #[.slice CG s_.length Cq] F [] fun F' L' v => ∃ (ad : Array Value), v = .func (.func 103) #[] ad ∧ L' = [] ∧ G7 Tryz.prog 103 #[] ad F' (fun x : Int => #[.int .i64 x]) r := by
 refine sp func81 ntmps81 fun K _ _ => ?_
 rw [Ci] at hr
 refine AP ?_
 refine BK rfl rfl ?_; intro b1 ae
 refine ua (Cj ?_)
 refine uv (DO rfl rfl) ?_
 refine ua (Aa ?_)
 refine DL 0 rfl ae ?_; intro F2 af ah
 refine Gv (L' := []) rfl ?_
 replace aa := aa.mono (Ab _) af
 obtain ⟨l, h5, r7⟩ := AO hr
 have ab : G7 Tryz.prog 103 #[] #[.pointer (some ⟨b1, 0, none⟩)] F2 (fun x : Int => #[.int .i64 x]) l := Ju ah aa h5
 refine Ap (C9 results81 ?_)
 obtain rfl := AR r7
 exact ⟨_, rfl, rfl, ab⟩
set_option maxHeartbeats 1000000 in
theorem D0 (ae : AF 1 (CD 1 (iE .i64)) F As Ar walks) (ad : AF 1 (CD 1 (iE .i64)) F Au Av Ao) (ab : AF 3 (B4 (CD 1 (iE .i64)) (B4 (iE .i64) (iE .i64))) F Ai Ah Ac) {r : Option ((List (List Int)) × (List (List Int)) × Int × Int × (List ((List Int) × Int × Int)) × (List Int) × (List (Int × Int)) × (List Int))} {r2 : Int} (hr : CA walks Ao Af start Ac = some (r, r2)) :
    SH.Spec Tryz.prog 41 #[.agg #[.slice As walks.length Ar, .slice Au Ao.length Av, .int .i64 Af, .int .i64 start, .slice Ai Ac.length Ah]] F [] fun F' L' v => ∃ (rv : Value), v = .tuple #[rv, .int .i64 r2] ∧ L' = [] ∧ MU 113 (B4 (CD 1 (CD 1 (iE .i64))) (B4 (CD 1 (CD 1 (iE .i64))) (B4 (iE .i64) (B4 (iE .i64) (B4 (CD 3 (B4 (CD 1 (iE .i64)) (B4 (iE .i64) (iE .i64)))) (B4 (Kf 25 (cI .i64)) (B4 (CD 2 (B4 (iE .i64) (iE .i64))) (Kf 15 (cI .i64))))))))) F' rv r := by
 refine sp func41 ntmps41 fun K _ _ => ?_
 rw [CA] at hr
 refine AP ?_
 refine BK rfl rfl ?_; intro b1 sa
 refine ua (ua (Aa (Aq (AP ?_))))
 refine uv (AM (cs := #[.slice As walks.length Ar, .slice Au Ao.length Av, .int .i64 Af, .int .i64 start, .slice Ai Ac.length Ah]) isAgg39 sizeOf39 rfl (Has.own 0 rfl) (CE rfl) rfl) ?_
 obtain ⟨n, h2, r3⟩ := AO hr
 refine cV call78 (PM ae ad ab h2) ?_
 refine ua (Cj (um ?_))
 refine uv (B6 rfl rfl) (Aa ?_)
 refine cQ (fun c4 => ?_) fun c4 => ?_
 ·have r5 := A2 r3 c4
  refine AP (um (ua (ua (Aa ?_))))
  refine kW kn ?_
  refine Ap (Aj ?_)
  refine BU results41 (AH rfl) (AH rfl) (sr) ?_
  obtain ⟨rfl, rfl⟩ := CP r5
  exact ⟨_, rfl, rfl, rfl⟩
 have r6 := A1 r3 c4
 refine An (AP ?_)
 refine uv (AM (cs := #[.slice As walks.length Ar, .slice Au Ao.length Av, .int .i64 Af, .int .i64 start, .slice Ai Ac.length Ah]) isAgg39 sizeOf39 rfl (Has.own 0 rfl) (CE rfl) rfl) ?_
 refine uv (BC (v := .agg ((([.slice As walks.length Ar] : List Value) ++ (([.slice Au Ao.length Av] : List Value) ++ (([.int .i64 Af] : List Value) ++ (([.int .i64 start] : List Value) ++ (([.slice Ai Ac.length Ah] : List Value) ++ ((List.replicate 25 0).flatMap (cI .i64) ++ (([.slice none 0 0] : List Value) ++ ((List.replicate 15 0).flatMap (cI .i64))))))))).toArray)) rfl (by intro w; kernel_rfl)) ?_
 refine BK rfl rfl ?_; intro b7 pn
 refine ua (Aa ?_)
 obtain ⟨aj, h9, nz⟩ := AO r6
 refine AX (fun e1 F1 L1 => F = F1 ∧ L1 = [(b7, ce ((([.slice As walks.length Ar] : List Value) ++ (([.slice Au Ao.length Av] : List Value) ++ (([.int .i64 Af] : List Value) ++ (([.int .i64 start] : List Value) ++ (([.slice Ai Ac.length Ah] : List Value) ++ (aj.flatMap (cI .i64) ++ (([.slice none 0 0] : List Value) ++ ((List.replicate 15 0).flatMap (cI .i64))))))))).toArray) 113), (b1, ce #[.slice As walks.length Ar, .slice Au Ao.length Av, .int .i64 Af, .int .i64 start, .slice Ai Ac.length Ah] 39)] ∧ e1.sub [(1, .pointer (some ⟨b1, 0, none⟩)), (5, .pointer (some ⟨b7, 0, none⟩))] ∧ aj.length = 25) ?_ ?_
 ·clear nz
  refine AP (um (Aa ?_))
  refine Am ?_
  obtain ⟨po, pq⟩ := AV h9
  refine Bg (fun jl e1 F1 L1 => ∃ (k : Int), Es 0 5 k jl ∧ ∃ (ak : List Int), Dr walks jl k ak = some aj ∧ F = F1 ∧ L1 = [(b7, ce ((([.slice As walks.length Ar] : List Value) ++ (([.slice Au Ao.length Av] : List Value) ++ (([.int .i64 Af] : List Value) ++ (([.int .i64 start] : List Value) ++ (([.slice Ai Ac.length Ah] : List Value) ++ (ak.flatMap (cI .i64) ++ (([.slice none 0 0] : List Value) ++ ((List.replicate 15 0).flatMap (cI .i64))))))))).toArray) 113), (b1, ce #[.slice As walks.length Ar, .slice Au Ao.length Av, .int .i64 Af, .int .i64 start, .slice Ai Ac.length Ah] 39)] ∧ e1.sub [(1, .pointer (some ⟨b1, 0, none⟩)), (5, .pointer (some ⟨b7, 0, none⟩)), (23, .int .i64 k)] ∧ ak.length = 25) _ (m0 kr ⟨_, Es.start _ _, List.replicate 25 0, pq, rfl, rfl, z3, List.length_replicate⟩) ?_
  rintro jl e1 _ _ ⟨k, eo, ak, jm, rfl, rfl, ju, o3⟩
  refine AD _ ju (AP (uv (A8 rfl rfl) ?_))
  refine Aa (Aq ?_)
  refine cQ (fun jn => ?_) fun jn => ?_
  ·obtain ⟨jl, rfl, jv⟩ := Es.succ eo jn
   rw [Dr] at jm
   refine An ?_
   obtain ⟨aq, pr, o7⟩ := AO jm
   refine AX (fun e1 F1 L1 => F = F1 ∧ L1 = [(b7, ce ((([.slice As walks.length Ar] : List Value) ++ (([.slice Au Ao.length Av] : List Value) ++ (([.int .i64 Af] : List Value) ++ (([.int .i64 start] : List Value) ++ (([.slice Ai Ac.length Ah] : List Value) ++ (aq.flatMap (cI .i64) ++ (([.slice none 0 0] : List Value) ++ ((List.replicate 15 0).flatMap (cI .i64))))))))).toArray) 113), (b1, ce #[.slice As walks.length Ar, .slice Au Ao.length Av, .int .i64 Af, .int .i64 start, .slice Ai Ac.length Ah] 39)] ∧ e1.sub [(1, .pointer (some ⟨b1, 0, none⟩)), (5, .pointer (some ⟨b7, 0, none⟩)), (23, .int .i64 k)] ∧ aq.length = 25) ?_ ?_
   ·clear o7
    refine Am ?_
    refine AP (um (ua (Cj (um (Aa ?_)))))
    refine Am ?_
    obtain ⟨o8, pt⟩ := AV pr
    refine Bg (fun jo e1 F1 L1 => ∃ (k2 : Int), Es 0 5 k2 jo ∧ ∃ (ar : List Int), Dq walks k jo k2 ar = some aq ∧ F = F1 ∧ L1 = [(b7, ce ((([.slice As walks.length Ar] : List Value) ++ (([.slice Au Ao.length Av] : List Value) ++ (([.int .i64 Af] : List Value) ++ (([.int .i64 start] : List Value) ++ (([.slice Ai Ac.length Ah] : List Value) ++ (ar.flatMap (cI .i64) ++ (([.slice none 0 0] : List Value) ++ ((List.replicate 15 0).flatMap (cI .i64))))))))).toArray) 113), (b1, ce #[.slice As walks.length Ar, .slice Au Ao.length Av, .int .i64 Af, .int .i64 start, .slice Ai Ac.length Ah] 39)] ∧ e1.sub [(1, .pointer (some ⟨b1, 0, none⟩)), (5, .pointer (some ⟨b7, 0, none⟩)), (6, .int .i64 k), (23, .int .i64 k), (26, .int .i64 k2)] ∧ ar.length = 25) _ (m0 kr ⟨_, Es.start _ _, ak, pt, rfl, rfl, z5, o3⟩) ?_
    rintro jo e1 _ _ ⟨k2, da, ar, jq, rfl, rfl, jw, jr⟩
    refine AD _ jw (AP (uv (A8 rfl rfl) ?_))
    refine Aa (Aq ?_)
    refine cQ (fun fg => ?_) fun fg => ?_
    ·obtain ⟨jo, rfl, fh⟩ := Es.succ da fg
     rw [Dq] at jq
     refine An (Aq ?_)
     refine Am ?_
     refine AP (um (ua (Cj (um (um (um ?_))))))
     refine uv (AU rfl) (uv (Ad G9 rfl) ?_)
     obtain ⟨o9, pv⟩ := AV jq
     refine uv (BB underlying109 sizeOf107 rfl rfl o9) ?_
     obtain ⟨oc, pw⟩ := AV pv
     obtain ⟨x, px, py, pz⟩ := BH pw
     have jx : (k * 5 + k2 : Int).toNat = (k : Int).toNat * 5 + (k2 : Int).toNat := by have := o9; have := oc; omega
     refine uv (BB underlying107 sizeOf3 rfl rfl oc) ?_
     obtain ⟨ws, od, q0⟩ := CT pz
     have js : ws.length = 25 := by rw [od, List.length_set]; exact jr
     refine Ko (i := 0) sizeOf3 rfl (by have := jx; omega) rfl rfl rfl (D9 (A := ([.slice As walks.length Ar] : List Value)) (k := 1) rfl (D9 (A := ([.slice Au Ao.length Av] : List Value)) (k := 1) rfl (D9 (A := ([.int .i64 Af] : List Value)) (k := 1) rfl (D9 (A := ([.int .i64 start] : List Value)) (k := 1) rfl (D9 (A := ([.slice Ai Ac.length Ah] : List Value)) (k := 1) rfl (Ra (B := ([.slice none 0 0] : List Value) ++ ((List.replicate 15 0).flatMap (cI .i64))) (SW (p := (k * 5 + k2 : Int).toNat) (Bj .i64) (u := -1) rfl jr (by have := px; have := jr; omega) F))))))) ?_
     refine AK (L' := [(b7, ce ((([.slice As walks.length Ar] : List Value) ++ (([.slice Au Ao.length Av] : List Value) ++ (([.int .i64 Af] : List Value) ++ (([.int .i64 start] : List Value) ++ (([.slice Ai Ac.length Ah] : List Value) ++ (ws.flatMap (cI .i64) ++ (([.slice none 0 0] : List Value) ++ ((List.replicate 15 0).flatMap (cI .i64))))))))).toArray) 113), (b1, ce #[.slice As walks.length Ar, .slice Au Ao.length Av, .int .i64 Af, .int .i64 start, .slice Ai Ac.length Ah] 39)]) (by rw [od]; rfl) ?_
     refine Aa ?_
     obtain ⟨k3, oe, jz⟩ := AO q0
     refine jE ([(b7, ce ((([.slice As walks.length Ar] : List Value) ++ (([.slice Au Ao.length Av] : List Value) ++ (([.int .i64 Af] : List Value) ++ (([.int .i64 start] : List Value) ++ (([.slice Ai Ac.length Ah] : List Value) ++ (ws.flatMap (cI .i64) ++ (([.slice none 0 0] : List Value) ++ ((List.replicate 15 0).flatMap (cI .i64))))))))).toArray) 113), (b1, ce #[.slice As walks.length Ar, .slice Au Ao.length Av, .int .i64 Af, .int .i64 start, .slice Ai Ac.length Ah] 39)]) [(1, .pointer (some ⟨b1, 0, none⟩)), (5, .pointer (some ⟨b7, 0, none⟩)), (6, .int .i64 k), (7, .int .i64 k2), (23, .int .i64 k), (26, .int .i64 k2), (47, .bool k3)] ?_ ?_
     ·clear jz
      refine Ak (um ?_)
      refine uv (Ad Jz rfl) (uv (Al isAgg36 rfl (Has.own 1 rfl) rfl) (uv (A3 underlying36 rfl) (uv (A8 rfl rfl) (um ?_))))
      by_cases bw : k < (walks.length : Int)
      ·have qb := A2 oe bw
       refine nT bw (um (nT bw ?_))
       refine uv (Ad Jz rfl) (nT bw (uv (Al isAgg36 rfl (Has.own 1 rfl) rfl) (nT bw (uv (A3 underlying36 rfl) (nT bw (uv (A8 rfl rfl) (uv (AQ (Bd rfl bw) rfl) ?_)))))))
       refine Aa ?_
       obtain rfl := AR qb
       exact mi kr ⟨rfl, rfl, z7⟩
      have qc := A1 oe bw
      refine fF bw (fF bw (fF bw (fF bw (fF bw ?_))))
      refine uv (AL (A4 rfl bw) rfl) (Aa ?_)
      obtain rfl := AR qc
      exact mi kr ⟨rfl, rfl, z7⟩
     refine AY rfl (fun kb => ?_) (fun kb => ?_)
     ·have qd := bt jz kb
      refine C5 [(.still, 0), (.still, 1), (.still, 2), (.still, 3), (.still, 4), (.still, 5), (.still, 6), (.still, 7), (.still, 8), (.still, 9), (.still, 10), (.still, 11), (.still, 12), (.still, 13), (.still, 14), (.seq, 15)] (by kernel_rfl) (by kernel_rfl) (trivial) (by rfl) (by kernel_rfl) (mS [5] rfl (Be rfl) (mS [6] rfl (Be rfl) (mS [7] rfl (Be rfl) (mS [1] rfl (Ad Jz rfl) (mL [51] ([(b1, ce #[.slice As walks.length Ar, .slice Au Ao.length Av, .int .i64 Af, .int .i64 start, .slice Ai Ac.length Ah] 39)]) rfl (s0 (s1 (s2 sr))) (fun H F' L' db dd => Al isAgg36 rfl ((Has.own 0 rfl).ext db dd) rfl) (mS [6] rfl (Be rfl) ?_))))))
      obtain ⟨x2, og, kh, qe⟩ := BH qd
      obtain ⟨sb, se, sf, qf, kj, kl, oh, ⟨sg, sh, rfl, qg⟩, qh, km⟩ := AF.at (Ax (Ab _)) ae ([]) og.1 kh
      refine mS [52, 53] rfl (AI underlying36 sizeOf33 rfl kj rfl og) (mL [54] ([]) rfl sm (fun H F' L' db dd => Al isAgg33 rfl (kl.ext db dd) (km 0 (by decide))) (mS [7] rfl (Be rfl) ?_))
      obtain ⟨x3, oi, ko, qi⟩ := BH qe
      obtain ⟨si, sj, sk, qj, kt, ku, oj, rfl, qk, kv⟩ := AF.at (Ab _) qg ([]) oi.1 ko
      refine mS [55, 56] rfl (AI underlying33 sizeOf3 rfl kt rfl oi) (mL [57] ([]) rfl sm (fun H F' L' db dd => Al isAgg3 rfl (ku.ext db dd) (kv 0 (by decide))) (mS [48] rfl (AU rfl) (mS [59] rfl (Ad G9 rfl) ?_)))
      obtain ⟨oo, ql⟩ := AV qi
      refine mS [49, 60] rfl (BB underlying109 sizeOf107 rfl rfl oo) ?_
      obtain ⟨oq, qn⟩ := AV ql
      obtain ⟨x4, qo, qp, qq⟩ := BH qn
      have kz : (k * 5 + k2 : Int).toNat = (k : Int).toNat * 5 + (k2 : Int).toNat := by have := oo; have := oq; omega
      refine mS [50, 61] rfl (BB underlying107 sizeOf3 rfl rfl oq) ?_
      refine ⟨_, [(58, .int .i64 x3), (62, .pointer (some ⟨b7, 5 + (k : Int).toNat * 5 + (k2 : Int).toNat * 1, none⟩))], rfl, rfl, z2, by kernel_rfl, ?_⟩; intro H
      obtain ⟨l0, ot, qs⟩ := CT qq
      have qt : l0.length = 25 := by rw [ot, List.length_set]; exact js
      refine Ko (i := 0) sizeOf3 rfl (by have := kz; omega) rfl rfl rfl (D9 (A := ([.slice As walks.length Ar] : List Value)) (k := 1) rfl (D9 (A := ([.slice Au Ao.length Av] : List Value)) (k := 1) rfl (D9 (A := ([.int .i64 Af] : List Value)) (k := 1) rfl (D9 (A := ([.int .i64 start] : List Value)) (k := 1) rfl (D9 (A := ([.slice Ai Ac.length Ah] : List Value)) (k := 1) rfl (Ra (B := ([.slice none 0 0] : List Value) ++ ((List.replicate 15 0).flatMap (cI .i64))) (SW (p := (k * 5 + k2 : Int).toNat) (Bj .i64) (u := x3) rfl js (by have := qo; have := js; omega) F))))))) ?_
      refine AK (L' := [(b7, ce ((([.slice As walks.length Ar] : List Value) ++ (([.slice Au Ao.length Av] : List Value) ++ (([.int .i64 Af] : List Value) ++ (([.int .i64 start] : List Value) ++ (([.slice Ai Ac.length Ah] : List Value) ++ (l0.flatMap (cI .i64) ++ (([.slice none 0 0] : List Value) ++ ((List.replicate 15 0).flatMap (cI .i64))))))))).toArray) 113), (b1, ce #[.slice As walks.length Ar, .slice Au Ao.length Av, .int .i64 Af, .int .i64 start, .slice Ai Ac.length Ah] 39)]) (by rw [ot]; rfl) ?_
      refine Aa ⟨undef, rfl, AW.refl _, [], by kernel_rfl, .inl (.inl rfl), nm, ?_⟩
      refine Ef ?_
      refine Az (id := 3) (Ak ?_)
      refine uv (A5 rfl rfl (Es.El da fg o8)) ?_
      refine um (Aa ?_)
      exact le kr ⟨_, fh, l0, qs, rfl, rfl, z5, qt⟩
     have qu := bf jz kb
     refine An (Az (id := 3) (Ak ?_))
     refine uv (A5 rfl rfl (Es.El da fg o8)) ?_
     refine um (Aa ?_)
     exact le kr ⟨_, fh, ws, qu, rfl, rfl, z5, js⟩
    obtain rfl := Es.zero da fg
    rw [Dq] at jq
    refine AS (Ae (Ae ?_))
    refine AA (Az (id := 1) ?_)
    obtain rfl := AR jq
    exact mi kr ⟨rfl, rfl, z3, jr⟩
   rintro e1 _ _ ⟨rfl, rfl, la, qw⟩
   refine AD _ la (Ak (uv (A5 rfl rfl (Es.El eo jn po)) ?_))
   refine um (Aa ?_)
   exact le kr ⟨_, jv, aq, o7, rfl, rfl, z3, qw⟩
  obtain rfl := Es.zero eo jn
  rw [Dr] at jm
  refine AS (Ae (Ae ?_))
  refine AA ?_
  obtain rfl := AR jm
  exact mi kr ⟨rfl, rfl, z2, o3⟩
 rintro e1 _ _ ⟨rfl, rfl, ld, h8⟩
 refine AD _ ld ?_
 obtain ⟨aa, qx, ou⟩ := AO nz
 refine AX (fun e1 F1 L1 => AW F F1 ∧ L1 = [(b7, ce ((([.slice As walks.length Ar] : List Value) ++ (([.slice Au Ao.length Av] : List Value) ++ (([.int .i64 Af] : List Value) ++ (([.int .i64 start] : List Value) ++ (([.slice Ai Ac.length Ah] : List Value) ++ (aa.flatMap (cI .i64) ++ (([.slice none 0 0] : List Value) ++ ((List.replicate 15 0).flatMap (cI .i64))))))))).toArray) 113), (b1, ce #[.slice As walks.length Ar, .slice Au Ao.length Av, .int .i64 Af, .int .i64 start, .slice Ai Ac.length Ah] 39)] ∧ e1.sub [(1, .pointer (some ⟨b1, 0, none⟩)), (5, .pointer (some ⟨b7, 0, none⟩))] ∧ aa.length = 25) ?_ ?_
 ·clear ou
  refine AP (um ?_)
  refine uv (AU rfl) (uv (Ad G9 rfl) (uv (AM (cs := arr (cI .i64) aj) isAgg109 sizeOf109 rfl (Has.own 0 rfl) (IS (Ay (A := ([.slice As walks.length Ar] : List Value)) (k := 1) (o := 4) rfl (Ay (A := ([.slice Au Ao.length Av] : List Value)) (k := 1) (o := 3) rfl (Ay (A := ([.int .i64 Af] : List Value)) (k := 1) (o := 2) rfl (Ay (A := ([.int .i64 start] : List Value)) (k := 1) (o := 1) rfl (Ay (A := ([.slice Ai Ac.length Ah] : List Value)) (k := 1) (o := 0) rfl (Ck (IG (Bj .i64) h8)))))))) (SB (IG (Bj .i64) h8) (Ay (A := ([.slice As walks.length Ar] : List Value)) (k := 1) (o := 4) rfl (Ay (A := ([.slice Au Ao.length Av] : List Value)) (k := 1) (o := 3) rfl (Ay (A := ([.int .i64 Af] : List Value)) (k := 1) (o := 2) rfl (Ay (A := ([.int .i64 start] : List Value)) (k := 1) (o := 1) rfl (Ay (A := ([.slice Ai Ac.length Ah] : List Value)) (k := 1) (o := 0) rfl (Ck (IG (Bj .i64) h8))))))))) ?_))
  obtain ⟨a, qy, lg⟩ := AO qx
  refine c0 call79 (Ib h8 qy) ?_; rintro _ lh _ fi ow ⟨rfl, rfl, fj⟩
  refine AK (ln rfl) ?_
  refine Br rfl zeroValue109 ?_; intro er fk
  refine AK (L' := [(er, ce (arr (cI .i64) (List.replicate 25 0)) 109), (b7, ce ((([.slice As walks.length Ar] : List Value) ++ (([.slice Au Ao.length Av] : List Value) ++ (([.int .i64 Af] : List Value) ++ (([.int .i64 start] : List Value) ++ (([.slice Ai Ac.length Ah] : List Value) ++ (aj.flatMap (cI .i64) ++ (([.slice none 0 0] : List Value) ++ ((List.replicate 15 0).flatMap (cI .i64))))))))).toArray) 113), (b1, ce #[.slice As walks.length Ar, .slice Au Ao.length Av, .int .i64 Af, .int .i64 start, .slice Ai Ac.length Ah] 39)]) rfl (JP (i := 0) sizeOf109 rfl rfl rfl (ES (Bj .i64) List.length_replicate) (ES (Bj .i64) fj) (LF (Bj .i64)) (AK (L' := [(er, ce (arr (cI .i64) a) 109), (b7, ce ((([.slice As walks.length Ar] : List Value) ++ (([.slice Au Ao.length Av] : List Value) ++ (([.int .i64 Af] : List Value) ++ (([.int .i64 start] : List Value) ++ (([.slice Ai Ac.length Ah] : List Value) ++ (aj.flatMap (cI .i64) ++ (([.slice none 0 0] : List Value) ++ ((List.replicate 15 0).flatMap (cI .i64))))))))).toArray) 113), (b1, ce #[.slice As walks.length Ar, .slice Au Ao.length Av, .int .i64 Af, .int .i64 start, .slice Ai Ac.length Ah] 39)]) rfl (Aa (Am ?_))))
  refine Bg (fun jt e1 F1 L1 => ∃ (ai : List Int) (ah : List Int) (bm : Nat), DK jt ai ah = some aa ∧ AW lh F1 ∧ L1 = [(bm, ce (arr (cI .i64) ah) 109), (b7, ce ((([.slice As walks.length Ar] : List Value) ++ (([.slice Au Ao.length Av] : List Value) ++ (([.int .i64 Af] : List Value) ++ (([.int .i64 start] : List Value) ++ (([.slice Ai Ac.length Ah] : List Value) ++ (ai.flatMap (cI .i64) ++ (([.slice none 0 0] : List Value) ++ ((List.replicate 15 0).flatMap (cI .i64))))))))).toArray) 113), (b1, ce #[.slice As walks.length Ar, .slice Au Ao.length Av, .int .i64 Af, .int .i64 start, .slice Ai Ac.length Ah] 39)] ∧ e1.sub [(1, .pointer (some ⟨b1, 0, none⟩)), (5, .pointer (some ⟨b7, 0, none⟩)), (8, .pointer (some ⟨bm, 0, none⟩))] ∧ ai.length = 25 ∧ K.w0.heap.size ≤ bm ∧ ah.length = 25) FU (m0 kr ⟨aj, a, er, lg, AW.refl _, rfl, z3, h8, fk, fj⟩) ?_
  rintro jt e1 qz _ ⟨ai, ah, bm, de, dy, rfl, fl, cf, oy, bh⟩
  refine AD _ fl ?_
  rcases jt with _ | jt
  ·rw [DK] at de; cases de
  rw [DK] at de
  refine Aq (dW (wv (I3 isAgg109 sizeOf109 rfl (Has.own 0 rfl) (ES (Bj .i64) bh)) (wm (wv (AU rfl) (wv (Ad G9 rfl) (wv (AM (cs := arr (cI .i64) ai) isAgg109 sizeOf109 rfl (Has.own 1 rfl) (IS (Ay (A := ([.slice As walks.length Ar] : List Value)) (k := 1) (o := 4) rfl (Ay (A := ([.slice Au Ao.length Av] : List Value)) (k := 1) (o := 3) rfl (Ay (A := ([.int .i64 Af] : List Value)) (k := 1) (o := 2) rfl (Ay (A := ([.int .i64 start] : List Value)) (k := 1) (o := 1) rfl (Ay (A := ([.slice Ai Ac.length Ah] : List Value)) (k := 1) (o := 0) rfl (Ck (IG (Bj .i64) cf)))))))) (SB (IG (Bj .i64) cf) (Ay (A := ([.slice As walks.length Ar] : List Value)) (k := 1) (o := 4) rfl (Ay (A := ([.slice Au Ao.length Av] : List Value)) (k := 1) (o := 3) rfl (Ay (A := ([.int .i64 Af] : List Value)) (k := 1) (o := 2) rfl (Ay (A := ([.int .i64 start] : List Value)) (k := 1) (o := 1) rfl (Ay (A := ([.slice Ai Ac.length Ah] : List Value)) (k := 1) (o := 0) rfl (Ck (IG (Bj .i64) cf))))))))) ?_))))))
  obtain ⟨lj, lk⟩ := AV de
  obtain ⟨ll, fm⟩ := AV lk
  refine wv (UK (UT _ _ _ _) (fun w => Ve (WE ah ai ⟨bh, lj⟩ ⟨cf, ll⟩ w)) rfl rfl) (Df ?_)
  refine cQ (fun et => ?_) fun et => ?_
  ·have lq := A2 fm et
   refine An (Aq ?_)
   refine Am ?_
   refine Ak (um ?_)
   refine uv (I3 isAgg109 sizeOf109 rfl (Has.own 0 rfl) (ES (Bj .i64) bh)) (uv (AU rfl) (uv (Ad G9 rfl) (RL (i := 1) sizeOf109 rfl rfl (lz (IG (Bj .i64) bh)) (Pl (Bj .i64) _) rfl (Nj (A := ([.slice As walks.length Ar] : List Value)) (k := 1) (o := 4) rfl (Nj (A := ([.slice Au Ao.length Av] : List Value)) (k := 1) (o := 3) rfl (Nj (A := ([.int .i64 Af] : List Value)) (k := 1) (o := 2) rfl (Nj (A := ([.int .i64 start] : List Value)) (k := 1) (o := 1) rfl (Nj (A := ([.slice Ai Ac.length Ah] : List Value)) (k := 1) (o := 0) rfl (WU (B := ([.slice none 0 0] : List Value) ++ ((List.replicate 15 0).flatMap (cI .i64))) (IG (Bj .i64) cf))))))) (AK (L' := [(bm, ce (arr (cI .i64) ah) 109), (b7, ce ((([.slice As walks.length Ar] : List Value) ++ (([.slice Au Ao.length Av] : List Value) ++ (([.int .i64 Af] : List Value) ++ (([.int .i64 start] : List Value) ++ (([.slice Ai Ac.length Ah] : List Value) ++ (ah.flatMap (cI .i64) ++ (([.slice none 0 0] : List Value) ++ ((List.replicate 15 0).flatMap (cI .i64))))))))).toArray) 113), (b1, ce #[.slice As walks.length Ar, .slice Au Ao.length Av, .int .i64 Af, .int .i64 start, .slice Ai Ac.length Ah] 39)]) rfl ?_))))
   refine Aa (Az (id := 5) (Aq (AP ?_)))
   refine uv (I3 isAgg109 sizeOf109 rfl (Has.own 0 rfl) (ES (Bj .i64) bh)) ?_
   refine Aa (Ak ?_)
   refine Br rfl zeroValue109 ?_; intro df fo
   refine AK (L' := [(df, ce (arr (cI .i64) (List.replicate 25 0)) 109), (bm, ce (arr (cI .i64) ah) 109), (b7, ce ((([.slice As walks.length Ar] : List Value) ++ (([.slice Au Ao.length Av] : List Value) ++ (([.int .i64 Af] : List Value) ++ (([.int .i64 start] : List Value) ++ (([.slice Ai Ac.length Ah] : List Value) ++ (ah.flatMap (cI .i64) ++ (([.slice none 0 0] : List Value) ++ ((List.replicate 15 0).flatMap (cI .i64))))))))).toArray) 113), (b1, ce #[.slice As walks.length Ar, .slice Au Ao.length Av, .int .i64 Af, .int .i64 start, .slice Ai Ac.length Ah] 39)]) rfl (JP (i := 0) sizeOf109 rfl rfl rfl (ES (Bj .i64) List.length_replicate) (ES (Bj .i64) bh) (LF (Bj .i64)) (AK (L' := [(df, ce (arr (cI .i64) ah) 109), (bm, ce (arr (cI .i64) ah) 109), (b7, ce ((([.slice As walks.length Ar] : List Value) ++ (([.slice Au Ao.length Av] : List Value) ++ (([.int .i64 Af] : List Value) ++ (([.int .i64 start] : List Value) ++ (([.slice Ai Ac.length Ah] : List Value) ++ (ah.flatMap (cI .i64) ++ (([.slice none 0 0] : List Value) ++ ((List.replicate 15 0).flatMap (cI .i64))))))))).toArray) 113), (b1, ce #[.slice As walks.length Ar, .slice Au Ao.length Av, .int .i64 Af, .int .i64 start, .slice Ai Ac.length Ah] 39)]) rfl ?_))
   refine Aa (Ak ?_)
   refine uv (I3 isAgg109 sizeOf109 rfl (Has.own 0 rfl) (ES (Bj .i64) bh)) ?_
   obtain ⟨a2, lr, lu⟩ := AO lq
   refine c0 call79 (Ib bh lr) ?_; rintro _ re _ fp oz ⟨rfl, rfl, fq⟩
   refine AK (ln rfl) (JP (i := 0) sizeOf109 rfl rfl rfl (ES (Bj .i64) bh) (ES (Bj .i64) fq) (LF (Bj .i64)) (AK (L' := [(df, ce (arr (cI .i64) a2) 109), (bm, ce (arr (cI .i64) ah) 109), (b7, ce ((([.slice As walks.length Ar] : List Value) ++ (([.slice Au Ao.length Av] : List Value) ++ (([.int .i64 Af] : List Value) ++ (([.int .i64 start] : List Value) ++ (([.slice Ai Ac.length Ah] : List Value) ++ (ah.flatMap (cI .i64) ++ (([.slice none 0 0] : List Value) ++ ((List.replicate 15 0).flatMap (cI .i64))))))))).toArray) 113), (b1, ce #[.slice As walks.length Ar, .slice Au Ao.length Av, .int .i64 Af, .int .i64 start, .slice Ai Ac.length Ah] 39)]) rfl (Aa ?_)))
   exact le (kc (kd kr)) ⟨ah, a2, df, lu, (dy.trans fp), rfl, z3, bh, fo, fq⟩
  have lv := A1 fm et
  refine AS (Ae (Ae ?_))
  refine AA ?_
  obtain rfl := AR lv
  exact mi (kd kr) ⟨(fi.trans dy), rfl, z2, cf⟩
 rintro e1 fs _ ⟨cg, rfl, ft, eu⟩
 refine AD _ ft ?_
 replace ae := ae.mono (Ax (Ab _)) cg
 replace ad := ad.mono (Ax (Ab _)) cg
 replace ab := ab.mono (At (Ax (Ab _)) (At (Ab _) (Ab _))) cg
 obtain ⟨bx, cj, lx, fv⟩ := CQ ou
 refine AX (fun e1 F1 L1 => ∃ (ew : Option Addr) (ey : Nat) (fa : Nat) (cn : LH), AW fs F1 ∧ L1 = ((b7, ce ((([.slice As walks.length Ar] : List Value) ++ (([.slice Au Ao.length Av] : List Value) ++ (([.int .i64 Af] : List Value) ++ (([.int .i64 start] : List Value) ++ (([.slice Ai Ac.length Ah] : List Value) ++ (aa.flatMap (cI .i64) ++ (([.slice ew ey fa] : List Value) ++ (cj.flatMap (cI .i64))))))))).toArray) 113) :: (cn ++ [])) ∧ e1.sub [(5, .pointer (some ⟨b7, 0, none⟩))] ∧ AT K.w0.heap.size 59 2 (B4 (iE .i64) (iE .i64)) F1 ew ey fa bx cn ∧ cj.length = 15) ?_ ?_
 ·clear fv
  refine AP (uv (Ad Fj rfl) (uv (Al isAgg37 rfl (Has.own 1 rfl) rfl) (uv (A3 underlying37 rfl) ?_)))
  refine um (Aa ?_)
  refine Am ?_
  refine Bg (fun p0 e1 F1 L1 => LA Ac p0 fun tl k4 => ∃ (au : List (Int × Int)) (ao : List Int) (bp : Option Addr) (bq : Nat) (br : Nat) (bb : LH), DG Ao tl k4 au ao = some (bx, cj) ∧ AW fs F1 ∧ L1 = ((b7, ce ((([.slice As walks.length Ar] : List Value) ++ (([.slice Au Ao.length Av] : List Value) ++ (([.int .i64 Af] : List Value) ++ (([.int .i64 start] : List Value) ++ (([.slice Ai Ac.length Ah] : List Value) ++ (aa.flatMap (cI .i64) ++ (([.slice bp bq br] : List Value) ++ (ao.flatMap (cI .i64))))))))).toArray) 113) :: ((b1, ce #[.slice As walks.length Ar, .slice Au Ao.length Av, .int .i64 Af, .int .i64 start, .slice Ai Ac.length Ah] 39) :: (bb ++ []))) ∧ e1.sub [(1, .pointer (some ⟨b1, 0, none⟩)), (5, .pointer (some ⟨b7, 0, none⟩)), (84, .slice Ai Ac.length Ah), (85, .int .i64 (Ac.length : Int)), (86, .int .i64 k4)] ∧ AT K.w0.heap.size 59 2 (B4 (iE .i64) (iE .i64)) F1 bp bq br au bb ∧ ao.length = 15) _ (m0 (kc (kc (ke kr))) ⟨_, _, rfl, BT.start _, [], List.replicate 15 0, none, 0, 0, [], lx, AW.refl _, rfl, z5, AT.nil _ _ _ _ _, List.length_replicate⟩) ?_
  rintro p0 e1 ly _ ⟨tl, k4, fw, cp, au, ao, bp, bq, br, bb, dg, bz, rfl, fx, bj, fy⟩
  refine AD _ fx ?_
  replace ad := ad.mono (Ax (Ab _)) bz
  replace ab := ab.mono (At (Ax (Ab _)) (At (Ab _) (Ab _))) bz
  refine AP (uv (A8 rfl rfl) ?_)
  refine Aa (Aq ?_)
  refine cQ (fun dh => ?_) fun dh => ?_
  ·obtain ⟨x5, sq, rfl, ga, gb, gg⟩ := BT.succ cp dh
   rw [DG] at dg
   refine An ?_
   obtain ⟨bc, bl, ma, gh⟩ := CQ dg
   refine AX (fun e1 F1 L1 => ∃ (di : Option Addr) (dk : Nat) (dm : Nat) (ca : LH), AW ly F1 ∧ L1 = ((b7, ce ((([.slice As walks.length Ar] : List Value) ++ (([.slice Au Ao.length Av] : List Value) ++ (([.int .i64 Af] : List Value) ++ (([.int .i64 start] : List Value) ++ (([.slice Ai Ac.length Ah] : List Value) ++ (aa.flatMap (cI .i64) ++ (([.slice di dk dm] : List Value) ++ (bl.flatMap (cI .i64))))))))).toArray) 113) :: ((b1, ce #[.slice As walks.length Ar, .slice Au Ao.length Av, .int .i64 Af, .int .i64 start, .slice Ai Ac.length Ah] 39) :: (ca ++ []))) ∧ e1.sub [(1, .pointer (some ⟨b1, 0, none⟩)), (5, .pointer (some ⟨b7, 0, none⟩)), (84, .slice Ai Ac.length Ah), (85, .int .i64 (Ac.length : Int)), (86, .int .i64 k4)] ∧ AT K.w0.heap.size 59 2 (B4 (iE .i64) (iE .i64)) F1 di dk dm bc ca ∧ bl.length = 15) ?_ ?_
   ·clear gh
    refine Am ?_
    refine AP (um ?_)
    obtain ⟨rf, rh, ri, p6, gk, gl, cq, ⟨_, _, rfl, ⟨gm, gp, rfl, mb⟩, ⟨_, _, rfl, rfl, rfl⟩⟩, gq, gr⟩ := AF.at (At (Ax (Ab _)) (At (Ab _) (Ab _))) ab ((b7, ce ((([.slice As walks.length Ar] : List Value) ++ (([.slice Au Ao.length Av] : List Value) ++ (([.int .i64 Af] : List Value) ++ (([.int .i64 start] : List Value) ++ (([.slice Ai Ac.length Ah] : List Value) ++ (aa.flatMap (cI .i64) ++ (([.slice bp bq br] : List Value) ++ (ao.flatMap (cI .i64))))))))).toArray) 113) :: ((b1, ce #[.slice As walks.length Ar, .slice Au Ao.length Av, .int .i64 Af, .int .i64 start, .slice Ai Ac.length Ah] 39) :: (bb ++ []))) gb.1 ga
    refine uv (AI underlying37 sizeOf48 rfl gk rfl gb) (uv (AM (cs := #[.slice gm x5.1.length gp, .int .i64 x5.2.1, .int .i64 x5.2.2]) isAgg48 sizeOf48 rfl gl cq (Bh cq gq gr)) ?_)
    refine Br rfl zeroValue48 ?_; intro mc p7
    refine ua (By (i := 0) sizeOf48 rfl rfl rfl (by simp [Value.oneCell']) rfl (CE rfl) (AK (L' := (mc, ce #[.slice gm x5.1.length gp, .int .i64 x5.2.1, .int .i64 x5.2.2] 48) :: ((b7, ce ((([.slice As walks.length Ar] : List Value) ++ (([.slice Au Ao.length Av] : List Value) ++ (([.int .i64 Af] : List Value) ++ (([.int .i64 start] : List Value) ++ (([.slice Ai Ac.length Ah] : List Value) ++ (aa.flatMap (cI .i64) ++ (([.slice bp bq br] : List Value) ++ (ao.flatMap (cI .i64))))))))).toArray) 113) :: ((b1, ce #[.slice As walks.length Ar, .slice Au Ao.length Av, .int .i64 Af, .int .i64 start, .slice Ai Ac.length Ah] 39) :: (bb ++ [])))) rfl (Cj (uv (Ad Ol rfl) (uv (Al isAgg33 rfl (Has.own 0 rfl) rfl) ?_)))))
    obtain ⟨y, me, mg⟩ := AO ma
    refine c0 call81 (J4 mb me) ?_; rintro _ rj _ cr p8 ⟨p9, rfl, rfl, fb⟩
    replace ad := ad.mono (Ax (Ab _)) cr
    replace bj := bj.mono (At (Ab _) (Ab _)) cr
    refine AK (ln rfl) ?_
    obtain ⟨l, mh, mj⟩ := AO mg
    refine c0 call80 (LM call103 fb mh) ?_; rintro _ ct _ cu gu ⟨dn, dp, dq, ba, rfl, rfl, bk⟩
    replace ad := ad.mono (Ax (Ab _)) cu
    replace bj := bj.mono (At (Ab _) (Ab _)) cu
    replace bk := bk.new fun p hp => gu p (by simp [hp])
    refine AK (lp (ln rfl)) (kO (kf (fS fO) (kf (fS fO) (kf (fS fO) kr))) (uv ((A3 underlying33 rfl).i (AT.Hc bk)) ?_))
    refine um (Aa ?_)
    refine Am (kW (kd kr) ?_)
    refine Bg (fun pa e1 F1 L1 => LA l pa fun pb k5 => ∃ (af : List (Int × Int)) (az : List Int) (av : Option Addr) (aw : Nat) (ax : Nat) (ay : LH), Ec Ao k4 pb af az = some (bc, bl) ∧ ct = F1 ∧ L1 = ((b7, ce ((([.slice As walks.length Ar] : List Value) ++ (([.slice Au Ao.length Av] : List Value) ++ (([.int .i64 Af] : List Value) ++ (([.int .i64 start] : List Value) ++ (([.slice Ai Ac.length Ah] : List Value) ++ (aa.flatMap (cI .i64) ++ (([.slice av aw ax] : List Value) ++ (az.flatMap (cI .i64))))))))).toArray) 113) :: ((b1, ce #[.slice As walks.length Ar, .slice Au Ao.length Av, .int .i64 Af, .int .i64 start, .slice Ai Ac.length Ah] 39) :: (ay ++ (ba ++ [])))) ∧ e1.sub [(1, .pointer (some ⟨b1, 0, none⟩)), (5, .pointer (some ⟨b7, 0, none⟩)), (9, .int .i64 k4), (84, .slice Ai Ac.length Ah), (85, .int .i64 (Ac.length : Int)), (86, .int .i64 k4), (94, .slice dn dp dq), (95, .int .i64 (l.length : Int)), (96, .int .i64 k5)] ∧ AT K.w0.heap.size 59 2 (B4 (iE .i64) (iE .i64)) F1 av aw ax af ay ∧ az.length = 15) _ (m0 (kc (kc (kg (fS fP) kr))) ⟨_, _, rfl, BT.start _, au, ao, bp, bq, br, bb, mj, rfl, rfl, (sc rfl z8), bj, fy⟩) ?_
    rintro pa e1 _ _ ⟨pb, k5, gv, cv, af, az, av, aw, ax, ay, dr, rfl, rfl, gw, cw, gz⟩
    refine AD _ gw (AP (uv (A8 rfl rfl) ?_))
    refine Aa (Aq ?_)
    refine cQ (fun dt => ?_) fun dt => ?_
    ·obtain ⟨x6, ss, rfl, ia, ib, ic⟩ := BT.succ cv dt
     rw [Ec] at dr
     refine An ?_
     obtain ⟨bn, bu, ml, ie⟩ := CQ dr
     refine AX (fun e1 F1 L1 => ∃ (du : Option Addr) (dv : Nat) (dw : Nat) (cb : LH), ct = F1 ∧ L1 = ((b7, ce ((([.slice As walks.length Ar] : List Value) ++ (([.slice Au Ao.length Av] : List Value) ++ (([.int .i64 Af] : List Value) ++ (([.int .i64 start] : List Value) ++ (([.slice Ai Ac.length Ah] : List Value) ++ (aa.flatMap (cI .i64) ++ (([.slice du dv dw] : List Value) ++ (bu.flatMap (cI .i64))))))))).toArray) 113) :: ((b1, ce #[.slice As walks.length Ar, .slice Au Ao.length Av, .int .i64 Af, .int .i64 start, .slice Ai Ac.length Ah] 39) :: (cb ++ (ba ++ [])))) ∧ e1.sub [(1, .pointer (some ⟨b1, 0, none⟩)), (5, .pointer (some ⟨b7, 0, none⟩)), (9, .int .i64 k4), (84, .slice Ai Ac.length Ah), (85, .int .i64 (Ac.length : Int)), (86, .int .i64 k4), (94, .slice dn dp dq), (95, .int .i64 (l.length : Int)), (96, .int .i64 k5)] ∧ AT K.w0.heap.size 59 2 (B4 (iE .i64) (iE .i64)) F1 du dv dw bn cb ∧ bu.length = 15) ?_ ?_
     ·clear ie
      refine Am (AP ?_)
      obtain ⟨rk, rl, rm, pc, ig, ij, mo, rfl, pd, ik⟩ := AT.at (Ab _) bk (L := (b7, ce ((([.slice As walks.length Ar] : List Value) ++ (([.slice Au Ao.length Av] : List Value) ++ (([.int .i64 Af] : List Value) ++ (([.int .i64 start] : List Value) ++ (([.slice Ai Ac.length Ah] : List Value) ++ (aa.flatMap (cI .i64) ++ (([.slice av aw ax] : List Value) ++ (az.flatMap (cI .i64))))))))).toArray) 113) :: ((b1, ce #[.slice As walks.length Ar, .slice Au Ao.length Av, .int .i64 Af, .int .i64 start, .slice Ai Ac.length Ah] 39) :: (ay ++ (ba ++ [])))) (fC (fC (fS fP))) ib.1 ia
      refine uv (AI underlying33 sizeOf3 rfl ig rfl (AT.idx bk ib)) (uv (Al isAgg3 rfl ij (ik 0 (by decide))) ?_)
      refine ua (Aa ?_)
      obtain ⟨bg, mq, il⟩ := AO ml
      refine AX (fun e1 F1 L1 => ct = F1 ∧ L1 = ((b7, ce ((([.slice As walks.length Ar] : List Value) ++ (([.slice Au Ao.length Av] : List Value) ++ (([.int .i64 Af] : List Value) ++ (([.int .i64 start] : List Value) ++ (([.slice Ai Ac.length Ah] : List Value) ++ (aa.flatMap (cI .i64) ++ (([.slice av aw ax] : List Value) ++ (bg.flatMap (cI .i64))))))))).toArray) 113) :: ((b1, ce #[.slice As walks.length Ar, .slice Au Ao.length Av, .int .i64 Af, .int .i64 start, .slice Ai Ac.length Ah] 39) :: (ay ++ (ba ++ [])))) ∧ e1.sub [(1, .pointer (some ⟨b1, 0, none⟩)), (5, .pointer (some ⟨b7, 0, none⟩)), (9, .int .i64 k4), (12, .int .i64 x6), (84, .slice Ai Ac.length Ah), (85, .int .i64 (Ac.length : Int)), (86, .int .i64 k4), (94, .slice dn dp dq), (95, .int .i64 (l.length : Int)), (96, .int .i64 k5)] ∧ bg.length = 15) ?_ ?_
      ·clear il
       refine AP (uv (Ad H8 rfl) (uv (Al isAgg36 rfl (Has.own 1 rfl) rfl) (uv (A3 underlying36 rfl) ?_)))
       refine um (Aa ?_)
       refine Am ?_
       refine Bg (fun pf e1 F1 L1 => LA Ao pf fun pg k6 => ∃ (al : List Int), DJ k4 af x6 pg k6 al = some bg ∧ ct = F1 ∧ L1 = ((b7, ce ((([.slice As walks.length Ar] : List Value) ++ (([.slice Au Ao.length Av] : List Value) ++ (([.int .i64 Af] : List Value) ++ (([.int .i64 start] : List Value) ++ (([.slice Ai Ac.length Ah] : List Value) ++ (aa.flatMap (cI .i64) ++ (([.slice av aw ax] : List Value) ++ (al.flatMap (cI .i64))))))))).toArray) 113) :: ((b1, ce #[.slice As walks.length Ar, .slice Au Ao.length Av, .int .i64 Af, .int .i64 start, .slice Ai Ac.length Ah] 39) :: (ay ++ (ba ++ [])))) ∧ e1.sub [(1, .pointer (some ⟨b1, 0, none⟩)), (5, .pointer (some ⟨b7, 0, none⟩)), (9, .int .i64 k4), (12, .int .i64 x6), (84, .slice Ai Ac.length Ah), (85, .int .i64 (Ac.length : Int)), (86, .int .i64 k4), (94, .slice dn dp dq), (95, .int .i64 (l.length : Int)), (96, .int .i64 k5), (101, .slice Au Ao.length Av), (102, .int .i64 (Ao.length : Int)), (103, .int .i64 k6)] ∧ al.length = 15) _ (m0 kr ⟨_, _, rfl, BT.start _, az, mq, rfl, rfl, (sc rfl (sc rfl (sc rfl (sc rfl (sc rfl z8))))), gz⟩) ?_
       rintro pf e1 _ _ ⟨pg, k6, dz, cc, al, dx, rfl, rfl, im, bo⟩
       refine AD _ im (AP (uv (A8 rfl rfl) ?_))
       refine Aa (Aq ?_)
       refine cQ (fun cx => ?_) fun cx => ?_
       ·obtain ⟨x7, su, rfl, iq, ir, e9⟩ := BT.succ cc cx
        rw [DJ] at dx
        refine An (Aq ?_)
        refine Am ?_
        refine AP (um ?_)
        obtain ⟨rp, rq, rr, ph, iu, iv, mr, ⟨ru, ry, rfl, mv⟩, pj, iw⟩ := AF.at (Ax (Ab _)) ad ((b7, ce ((([.slice As walks.length Ar] : List Value) ++ (([.slice Au Ao.length Av] : List Value) ++ (([.int .i64 Af] : List Value) ++ (([.int .i64 start] : List Value) ++ (([.slice Ai Ac.length Ah] : List Value) ++ (aa.flatMap (cI .i64) ++ (([.slice av aw ax] : List Value) ++ (al.flatMap (cI .i64))))))))).toArray) 113) :: ((b1, ce #[.slice As walks.length Ar, .slice Au Ao.length Av, .int .i64 Af, .int .i64 start, .slice Ai Ac.length Ah] 39) :: (ay ++ (ba ++ [])))) ir.1 iq
        refine uv (AI underlying36 sizeOf33 rfl iu rfl ir) (uv (Al isAgg33 rfl iv (iw 0 (by decide))) ?_)
        refine ua (ua (Cj (um (um ?_))))
        obtain ⟨ok, mw, iy⟩ := AO dx
        refine cV call10 (Cn mv mw) (Aa ?_)
        refine AY rfl (fun fe => ?_) (fun fe => ?_)
        ·have mx := bt iy fe
         refine C5 [(.still, 0), (.still, 1), (.still, 2), (.still, 3), (.still, 4), (.still, 5), (.still, 6), (.still, 7), (.still, 8), (.still, 9), (.still, 10), (.still, 11), (.still, 12), (.still, 13), (.still, 14), (.still, 15), (.still, 16), (.still, 17), (.still, 18), (.seq, 19)] (by kernel_rfl) (by kernel_rfl) (trivial) (by rfl) (by kernel_rfl) (mS [5] rfl (Be rfl) (mS [13] rfl (Be rfl) (mS [9] rfl (Be rfl) (mS [111] rfl (AU rfl) (mS [114] rfl (Ad Pk rfl) ?_)))))
         obtain ⟨iz, my⟩ := AV mx
         refine mS [112, 115] rfl (BB underlying111 sizeOf110 rfl rfl iz) ?_
         obtain ⟨j0, mz⟩ := AV my
         obtain ⟨x8, na, j3, nc⟩ := BH mz
         have j4 : (k6 * 3 + k4 : Int).toNat = (k6 : Int).toNat * 3 + (k4 : Int).toNat := by have := iz; have := j0; omega
         have j5 := IJ (Bj .i64) bo j4 j3 (Ii (Ay (A := ([.slice As walks.length Ar] : List Value)) (k := 1) (o := 30) rfl (Ay (A := ([.slice Au Ao.length Av] : List Value)) (k := 1) (o := 29) rfl (Ay (A := ([.int .i64 Af] : List Value)) (k := 1) (o := 28) rfl (Ay (A := ([.int .i64 start] : List Value)) (k := 1) (o := 27) rfl (Ay (A := ([.slice Ai Ac.length Ah] : List Value)) (k := 1) (o := 26) rfl (Ay (A := aa.flatMap (cI .i64)) (k := 25) (o := 1) (IG (Bj .i64) eu) (Ay (A := ([.slice av aw ax] : List Value)) (k := 1) (o := 0) rfl (G2 (IG (Bj .i64) bo)))))))))) (IS (Ay (A := ([.slice As walks.length Ar] : List Value)) (k := 1) (o := 30) rfl (Ay (A := ([.slice Au Ao.length Av] : List Value)) (k := 1) (o := 29) rfl (Ay (A := ([.int .i64 Af] : List Value)) (k := 1) (o := 28) rfl (Ay (A := ([.int .i64 start] : List Value)) (k := 1) (o := 27) rfl (Ay (A := ([.slice Ai Ac.length Ah] : List Value)) (k := 1) (o := 26) rfl (Ay (A := aa.flatMap (cI .i64)) (k := 25) (o := 1) (IG (Bj .i64) eu) (Ay (A := ([.slice av aw ax] : List Value)) (k := 1) (o := 0) rfl (G2 (IG (Bj .i64) bo))))))))))
         refine mS [113, 116] rfl (BB underlying110 sizeOf3 rfl rfl j0) (mL [117] ([(b7, ce ((([.slice As walks.length Ar] : List Value) ++ (([.slice Au Ao.length Av] : List Value) ++ (([.int .i64 Af] : List Value) ++ (([.int .i64 start] : List Value) ++ (([.slice Ai Ac.length Ah] : List Value) ++ (aa.flatMap (cI .i64) ++ (([.slice av aw ax] : List Value) ++ (al.flatMap (cI .i64))))))))).toArray) 113)]) rfl (s0 (s2 (s1 (s3 (s3 sr))))) (fun H F' L' db dd => Al isAgg3 rfl ((Has.own 0 rfl).ext db dd) ((j5).2.2 0 (by decide))) (mS [5] rfl (Be rfl) (mS [119] rfl (AU rfl) (mS [120] rfl (Ad GA rfl) (mL [121] ([(b7, ce ((([.slice As walks.length Ar] : List Value) ++ (([.slice Au Ao.length Av] : List Value) ++ (([.int .i64 Af] : List Value) ++ (([.int .i64 start] : List Value) ++ (([.slice Ai Ac.length Ah] : List Value) ++ (aa.flatMap (cI .i64) ++ (([.slice av aw ax] : List Value) ++ (al.flatMap (cI .i64))))))))).toArray) 113)]) rfl (s0 (s2 (s1 (s3 (s3 sr))))) (fun H F' L' db dd => Al isAgg54 rfl ((Has.own 0 rfl).ext db dd) (Ed (Ay (A := ([.slice As walks.length Ar] : List Value)) (k := 1) (o := 29) rfl (Ay (A := ([.slice Au Ao.length Av] : List Value)) (k := 1) (o := 28) rfl (Ay (A := ([.int .i64 Af] : List Value)) (k := 1) (o := 27) rfl (Ay (A := ([.int .i64 start] : List Value)) (k := 1) (o := 26) rfl (Ay (A := ([.slice Ai Ac.length Ah] : List Value)) (k := 1) (o := 25) rfl (Ay (A := aa.flatMap (cI .i64)) (k := 25) (o := 0) (IG (Bj .i64) eu) (Ck rfl))))))))) (mS [122] rfl ((A3 underlying54 rfl).i (AT.Hc cw)) ?_))))))
         obtain ⟨nf, ng⟩ := AV nc
         refine mS (v := .int .i64 (shl 1 (af.length : Int))) [123] rfl (Qg rfl rfl nf) (mS (v := .int .i64 (LR x8 (shl 1 (af.length : Int)))) [118, 124] rfl (SN rfl rfl) (mS [111] rfl (AU rfl) (mS [126] rfl (Ad Pk rfl) ?_)))
         obtain ⟨j6, nh⟩ := AV ng
         refine mS [112, 127] rfl (BB underlying111 sizeOf110 rfl rfl j6) ?_
         obtain ⟨j7, ni⟩ := AV nh
         have j8 : (k6 * 3 + k4 : Int).toNat = (k6 : Int).toNat * 3 + (k4 : Int).toNat := by have := j6; have := j7; omega
         refine mS [113, 128] rfl (BB underlying110 sizeOf3 rfl rfl j7) ?_
         refine ⟨_, [(125, .int .i64 (LR x8 (shl 1 (af.length : Int)))), (129, .pointer (some ⟨b7, 31 + (k6 : Int).toNat * 3 + (k4 : Int).toNat * 1, none⟩))], rfl, rfl, z2, by kernel_rfl, ?_⟩; intro H
         obtain ⟨nj, j9, nk⟩ := CT ni
         have nn : nj.length = 15 := by rw [j9, List.length_set]; exact bo
         refine Ko (i := 0) sizeOf3 rfl (by have := j8; omega) rfl rfl rfl (D9 (A := ([.slice As walks.length Ar] : List Value)) (k := 1) rfl (D9 (A := ([.slice Au Ao.length Av] : List Value)) (k := 1) rfl (D9 (A := ([.int .i64 Af] : List Value)) (k := 1) rfl (D9 (A := ([.int .i64 start] : List Value)) (k := 1) rfl (D9 (A := ([.slice Ai Ac.length Ah] : List Value)) (k := 1) rfl (D9 (A := aa.flatMap (cI .i64)) (k := 25) (IG (Bj .i64) eu) (D9 (A := ([.slice av aw ax] : List Value)) (k := 1) rfl (SW (p := (k6 * 3 + k4 : Int).toNat) (Bj .i64) (u := LR x8 (shl 1 (af.length : Int))) rfl bo (by have := na; have := bo; omega) ct)))))))) ?_
         refine AK (L' := (b7, ce ((([.slice As walks.length Ar] : List Value) ++ (([.slice Au Ao.length Av] : List Value) ++ (([.int .i64 Af] : List Value) ++ (([.int .i64 start] : List Value) ++ (([.slice Ai Ac.length Ah] : List Value) ++ (aa.flatMap (cI .i64) ++ (([.slice av aw ax] : List Value) ++ (nj.flatMap (cI .i64))))))))).toArray) 113) :: ((b1, ce #[.slice As walks.length Ar, .slice Au Ao.length Av, .int .i64 Af, .int .i64 start, .slice Ai Ac.length Ah] 39) :: (ay ++ (ba ++ [])))) (by rw [j9]; rfl) ?_
         refine Aa ⟨undef, rfl, AW.refl _, [], by kernel_rfl, .inl (.inl rfl), nm, ?_⟩
         refine Ef ?_
         refine Az (id := 11) (Ak ?_)
         refine uv (A5 rfl rfl (BT.El cc cx (AF.lt ad))) ?_
         refine um (Aa ?_)
         subst dz; exact le kr ⟨_, _, rfl, e9, nj, nk, rfl, rfl, (sc rfl (sc rfl (sc rfl (sc rfl (sc rfl z8))))), nn⟩
        have np := bf iy fe
        refine An (Az (id := 11) (Ak ?_))
        refine uv (A5 rfl rfl (BT.El cc cx (AF.lt ad))) ?_
        refine um (Aa ?_)
        subst dz; exact le kr ⟨_, _, rfl, e9, al, np, rfl, rfl, (sc rfl (sc rfl (sc rfl (sc rfl (sc rfl z8))))), bo⟩
       obtain rfl := BT.zero cc cx
       rw [DJ] at dx
       refine AS (Ae (Ae ?_))
       refine AA ?_
       obtain rfl := AR dx
       exact mi kr ⟨rfl, rfl, (sc rfl (sc rfl z8)), bo⟩
      rintro e1 _ _ ⟨rfl, rfl, ja, nq⟩
      refine AD _ ja ?_
      refine Ak (um (um ?_))
      refine uv (AU rfl) (uv (Ad GA rfl) (uv (Al isAgg54 rfl (Has.own 0 rfl) (Ed (Ay (A := ([.slice As walks.length Ar] : List Value)) (k := 1) (o := 29) rfl (Ay (A := ([.slice Au Ao.length Av] : List Value)) (k := 1) (o := 28) rfl (Ay (A := ([.int .i64 Af] : List Value)) (k := 1) (o := 27) rfl (Ay (A := ([.int .i64 start] : List Value)) (k := 1) (o := 26) rfl (Ay (A := ([.slice Ai Ac.length Ah] : List Value)) (k := 1) (o := 25) rfl (Ay (A := aa.flatMap (cI .i64)) (k := 25) (o := 0) (IG (Bj .i64) eu) (Ck rfl))))))))) ?_))
      refine um (um ?_)
      refine uv (BC (v := .agg #[.int .i64 k4, .int .i64 x6]) rfl (by intro w; kernel_rfl)) ?_
      refine bA (cs := #[.int .i64 k4, .int .i64 x6]) Kx [.agg #[.int .i64 k4, .int .i64 x6]] ?_; intro rz pk
      obtain ⟨c, nr, nt, nu⟩ := FQ il
      refine EA (xs := af) (ys := [(k4, x6)]) (zs := c) rfl Kx rfl rfl (Nat.le_refl _) (fun _ => .c (.c (.c .h))) cw (Gk.box (vss := [[.int .i64 k4, .int .i64 x6]]) (ys := [(k4, x6)]) 0 rfl (At (Ab _) (Ab _)) (.cons ⟨_, _, rfl, rfl, rfl⟩ .nil) rfl rfl) nr nt (by decide) ?_; intro jb jc jd eg je
      refine kO (kd kr) (uv (AU rfl) (uv (Ad GA rfl) (Ko (i := 0) sizeOf54 rfl rfl rfl rfl rfl (D9 (A := ([.slice As walks.length Ar] : List Value)) (k := 1) (p := 29) rfl (D9 (A := ([.slice Au Ao.length Av] : List Value)) (k := 1) (p := 28) rfl (D9 (A := ([.int .i64 Af] : List Value)) (k := 1) (p := 27) rfl (D9 (A := ([.int .i64 start] : List Value)) (k := 1) (p := 26) rfl (D9 (A := ([.slice Ai Ac.length Ah] : List Value)) (k := 1) (p := 25) rfl (D9 (A := aa.flatMap (cI .i64)) (k := 25) (p := 0) (IG (Bj .i64) eu) (Ra (B := bg.flatMap (cI .i64)) Xw))))))) (AK (L' := (b7, ce ((([.slice As walks.length Ar] : List Value) ++ (([.slice Au Ao.length Av] : List Value) ++ (([.int .i64 Af] : List Value) ++ (([.int .i64 start] : List Value) ++ (([.slice Ai Ac.length Ah] : List Value) ++ (aa.flatMap (cI .i64) ++ (([.slice jb jc jd] : List Value) ++ (bg.flatMap (cI .i64))))))))).toArray) 113) :: ((b1, ce #[.slice As walks.length Ar, .slice Au Ao.length Av, .int .i64 Af, .int .i64 start, .slice Ai Ac.length Ah] 39) :: (eg ++ (ba ++ [])))) rfl ?_))))
      refine Aa (Az (id := 9) ?_)
      obtain ⟨rfl, rfl⟩ := CP nu
      exact mi kr ⟨jb, jc, jd, eg, rfl, rfl, (sc rfl z8), je, nq⟩
     rintro e1 _ _ ⟨du, dv, dw, cb, rfl, rfl, jf, jg, nv⟩
     refine AD _ jf (Ak (uv (A5 rfl rfl (BT.El cv dt (AT.UD bk))) ?_))
     refine um (Aa ?_)
     subst gv; exact le kr ⟨_, _, rfl, ic, bn, bu, du, dv, dw, cb, ie, rfl, rfl, (sc rfl z8), jg, nv⟩
    obtain rfl := BT.zero cv dt
    rw [Ec] at dr
    refine AS (Ae (Ae ?_))
    refine AA (Az (id := 7) ?_)
    obtain ⟨rfl, rfl⟩ := CP dr
    exact mi (kc (kc (ka kn))) ⟨av, aw, ax, ay, (cr.trans cu), rfl, z5, cw, gz⟩
   rintro e1 s6 _ ⟨di, dk, dm, ca, eh, rfl, jh, ji, nw⟩
   refine AD _ jh ?_
   replace ab := ab.mono (At (Ax (Ab _)) (At (Ab _) (Ab _))) eh
   refine Ak (uv (A5 rfl rfl (BT.El cp dh (AF.lt ab))) ?_)
   refine um (Aa ?_)
   subst fw; exact le kr ⟨_, _, rfl, gg, bc, bl, di, dk, dm, ca, gh, (bz.trans eh), rfl, z5, ji, nw⟩
  obtain rfl := BT.zero cp dh
  rw [DG] at dg
  refine AS (Ae (Ae ?_))
  refine AA ?_
  obtain ⟨rfl, rfl⟩ := CP dg
  exact mi (kc (kd kr)) ⟨bp, bq, br, bb, bz, rfl, z1, bj, fy⟩
 rintro e1 s7 _ ⟨ew, ey, fa, cn, cy, rfl, jj, ej, ny⟩
 refine AD _ jj ?_
 replace ae := ae.mono (Ax (Ab _)) cy
 replace ad := ad.mono (Ax (Ab _)) cy
 replace ab := ab.mono (At (Ax (Ab _)) (At (Ab _) (Ab _))) cy
 refine AP (um (ua (ua (Aa ?_))))
 obtain rfl := (AT.C4 ej).1
 refine Lh (Nat.le_refl _) (At (Ab _) (Ab _)) (fC fP) ej ?_; intro s8 cz ff
 replace ae := ae.mono (Ax (Ab _)) cz
 replace ad := ad.mono (Ax (Ab _)) cz
 replace ab := ab.mono (At (Ax (Ab _)) (At (Ab _) (Ab _))) cz
 refine DL 0 rfl pn ?_; intro s9 cd jk
 refine Gv (L' := []) rfl ?_
 replace ae := ae.mono (Ax (Ab _)) cd
 replace ad := ad.mono (Ax (Ab _)) cd
 replace ab := ab.mono (At (Ax (Ab _)) (At (Ab _) (Ab _))) cd
 replace ff := ff.mono (At (Ab _) (Ab _)) cd
 refine Ap (BU results41 (AH rfl) (AH rfl) (sr) ?_)
 obtain ⟨rfl, rfl⟩ := CP fv
 exact ⟨_, rfl, rfl, ⟨_, _, _, rfl, jk, ⟨_, _, rfl, ⟨_, _, rfl, ae⟩, ⟨_, _, rfl, ⟨_, _, rfl, ad⟩, ⟨_, _, rfl, rfl, ⟨_, _, rfl, rfl, ⟨_, _, rfl, ⟨_, _, rfl, ab⟩, ⟨_, _, rfl, ⟨rfl, eu⟩, ⟨_, _, rfl, ⟨_, _, rfl, ff⟩, ⟨rfl, ny⟩⟩⟩⟩⟩⟩⟩⟩⟩⟩
set_option maxHeartbeats 1000000 in
theorem Kq {af : Nat} {az : Nat × Nat} (aj : F G4 = some (.cells #[.pointer (some ⟨K6, 0, none⟩)] 97 KC)) (ae : F K6 = some (.cells ((([.slice As walks.length Ar] : List Value) ++ (([.slice Au Ao.length Av] : List Value) ++ (([.int .i64 Af] : List Value) ++ (([.int .i64 start] : List Value) ++ (([.slice Ai Ac.length Ah] : List Value) ++ (AG.flatMap (cI .i64) ++ (([.slice Bu AN.length Bt] : List Value) ++ (hit.flatMap (cI .i64))))))))).toArray) 113 M1)) (_ca : AF 1 (CD 1 (iE .i64)) F As Ar walks) (ad : AF 1 (CD 1 (iE .i64)) F Au Av Ao) (aa : AF 3 (B4 (CD 1 (iE .i64)) (B4 (iE .i64) (iE .i64))) F Ai Ah Ac) (al : AG.length = 25) (_cb : AF 2 (B4 (iE .i64) (iE .i64)) F Bu Bt AN) (ax : hit.length = 15) (ab : F af = some (.cells #[.int .i64 Bs] 3 az)) {xs : List ((Int × Int) × Int)} (hr : Fs walks Ao Af start Ac AG AN hit Bs = some xs) :
    G7 Tryz.prog 104 #[] #[.pointer (some ⟨G4, 0, none⟩), .pointer (some ⟨af, 0, none⟩)] F (fun x : (Int × Int) × Int => #[.agg ((cP (cI .i64) (cI .i64)) x.1).toArray, .int .i64 x.2]) xs := by
 intro G0 bo yv J Jx eg dp hy Fc L0 hG dq
 replace aj := (bo.trans hG) _ _ aj
 replace ae := (bo.trans hG) _ _ ae
 replace ad := ad.mono (Ax (Ab _)) (bo.trans hG)
 replace aa := aa.mono (At (Ax (Ab _)) (At (Ab _) (Ab _))) (bo.trans hG)
 replace ab := (bo.trans hG) _ _ ab
 have bk : xs = [] ++ xs := rfl
 show SH.Spec Tryz.prog 104 #[yv, .pointer (some ⟨G4, 0, none⟩), .pointer (some ⟨af, 0, none⟩)] Fc L0 _
 refine sp func104 ntmps104 fun K _ _ => ?_
 rw [Fs] at hr; refine Gv (L' := L0 ++ []) (by simp) ?_
 refine AP (uv (Al isAgg97 rfl (Has.frozen aj) rfl) (uv (AU rfl) (uv (Ad Gc rfl) (uv (Ad H8 rfl) (uv (Al isAgg36 rfl (Has.frozen ae) (Ed (Ay (A := ([.slice As walks.length Ar] : List Value)) (k := 1) (o := 0) rfl (Ck rfl)))) (uv (A3 underlying36 rfl) ?_))))))
 refine um (Aa ?_)
 refine Am ?_
 refine Bg (fun da e1 F1 L1 => LA Ao da fun tl k => ∃ (ba : List ((Int × Int) × Int)) (bb : List ((Int × Int) × Int)) (cc : LH), Bz Ac hit Bs tl k = some bb ∧ AW Fc F1 ∧ L1 = (cc ++ []) ∧ e1.sub [(0, yv), (1, .pointer (some ⟨G4, 0, none⟩)), (2, .pointer (some ⟨af, 0, none⟩)), (12, .int .i64 (Ao.length : Int)), (13, .int .i64 k)] ∧ xs = ba ++ bb ∧ J ba F1 cc ∧ AW G0 F1) _ (m0 kr ⟨_, _, rfl, BT.start _, [], xs, L0, hr, AW.refl _, rfl, z5, bk, dq, hG⟩) ?_
 rintro da e1 db _ ⟨tl, k, dr, cg, ba, bb, cc, r8, av, rfl, dt, ay, dd, hG⟩
 refine AD _ dt ?_
 replace ad := ad.mono (Ax (Ab _)) av
 replace aa := aa.mono (At (Ax (Ab _)) (At (Ab _) (Ab _))) av
 replace ae := av _ _ ae
 replace aj := av _ _ aj
 replace ab := av _ _ ab
 refine AP (uv (A8 rfl rfl) ?_)
 refine Aa (Aq ?_)
 refine cQ (fun cd => ?_) fun cd => ?_
 ·obtain ⟨x, de, rfl, du, eh, cj⟩ := BT.succ cg cd
  rw [Bz] at r8
  refine An ?_
  refine AX (fun e1 F1 L1 => ∃ (ar : List ((Int × Int) × Int)) (au : List ((Int × Int) × Int)) (bc : LH), EB k (Bz Ac hit Bs de) = some au ∧ AW db F1 ∧ L1 = (bc ++ []) ∧ e1.sub [(0, yv), (1, .pointer (some ⟨G4, 0, none⟩)), (2, .pointer (some ⟨af, 0, none⟩)), (12, .int .i64 (Ao.length : Int)), (13, .int .i64 k)] ∧ xs = ar ++ au ∧ J ar F1 bc ∧ AW G0 F1) ?_ ?_
  ·refine Am ?_
   refine AP (um (ua (Cj ?_)))
   refine uv (Al isAgg97 rfl (Has.frozen aj) rfl) (uv (AU rfl) (uv (Ad Gc rfl) (uv (Ad Fj rfl) (uv (Al isAgg37 rfl (Has.frozen ae) (Ed (Ay (A := ([.slice As walks.length Ar] : List Value)) (k := 1) (o := 3) rfl (Ay (A := ([.slice Au Ao.length Av] : List Value)) (k := 1) (o := 2) rfl (Ay (A := ([.int .i64 Af] : List Value)) (k := 1) (o := 1) rfl (Ay (A := ([.int .i64 start] : List Value)) (k := 1) (o := 0) rfl (Ck rfl))))))) (uv (A3 underlying37 rfl) ?_)))))
   refine um (Aa ?_)
   refine Am ?_
   refine Bg (fun df e1 F1 L1 => LA Ac df fun dg k2 => ∃ (ah : List ((Int × Int) × Int)) (ao : List ((Int × Int) × Int)) (aw : LH), B0 hit Bs k (Bz Ac hit Bs de) dg k2 = some ao ∧ AW db F1 ∧ L1 = (aw ++ []) ∧ e1.sub [(0, yv), (1, .pointer (some ⟨G4, 0, none⟩)), (2, .pointer (some ⟨af, 0, none⟩)), (4, .int .i64 k), (12, .int .i64 (Ao.length : Int)), (13, .int .i64 k), (21, .int .i64 (Ac.length : Int)), (22, .int .i64 k2)] ∧ xs = ah ++ ao ∧ J ah F1 aw ∧ AW G0 F1) _ (m0 kr ⟨_, _, rfl, BT.start _, ba, bb, cc, r8, AW.refl _, rfl, z8, ay, dd, hG⟩) ?_
   rintro df e1 ej _ ⟨dg, k2, bp, bg, ah, ao, aw, cf, aq, rfl, cn, ai, bl, hG⟩
   refine AD _ cn ?_
   replace aa := aa.mono (At (Ax (Ab _)) (At (Ab _) (Ab _))) aq
   replace ae := aq _ _ ae
   replace aj := aq _ _ aj
   replace ab := aq _ _ ab
   refine AP (uv (A8 rfl rfl) ?_)
   refine Aa (Aq ?_)
   refine cQ (fun bq => ?_) fun bq => ?_
   ·obtain ⟨x2, eo, rfl, dv, er, br⟩ := BT.succ bg bq
    rw [B0] at cf
    refine An (Aq ?_)
    refine Am ?_
    refine AP (um (ua ?_))
    refine dN (wv (Al isAgg3 rfl (Has.frozen ab) rfl) (wv (Al isAgg97 rfl (Has.frozen aj) rfl) ?_))
    refine wm (wm ?_)
    refine wv (AU rfl) (wv (Ad Pk rfl) ?_)
    obtain ⟨dh, dw⟩ := AV cf
    refine wv (BB underlying111 sizeOf110 rfl rfl dh) ?_
    obtain ⟨di, dx⟩ := AV dw
    obtain ⟨x3, et, cp, dk⟩ := BH dx
    have cq : (k * 3 + k2 : Int).toNat = (k : Int).toNat * 3 + (k2 : Int).toNat := by have := dh; have := di; omega
    have cr := IJ (Bj .i64) ax cq cp (Ii (Ay (A := ([.slice As walks.length Ar] : List Value)) (k := 1) (o := 30) rfl (Ay (A := ([.slice Au Ao.length Av] : List Value)) (k := 1) (o := 29) rfl (Ay (A := ([.int .i64 Af] : List Value)) (k := 1) (o := 28) rfl (Ay (A := ([.int .i64 start] : List Value)) (k := 1) (o := 27) rfl (Ay (A := ([.slice Ai Ac.length Ah] : List Value)) (k := 1) (o := 26) rfl (Ay (A := AG.flatMap (cI .i64)) (k := 25) (o := 1) (IG (Bj .i64) al) (Ay (A := ([.slice Bu AN.length Bt] : List Value)) (k := 1) (o := 0) rfl (G2 (IG (Bj .i64) ax)))))))))) (IS (Ay (A := ([.slice As walks.length Ar] : List Value)) (k := 1) (o := 30) rfl (Ay (A := ([.slice Au Ao.length Av] : List Value)) (k := 1) (o := 29) rfl (Ay (A := ([.int .i64 Af] : List Value)) (k := 1) (o := 28) rfl (Ay (A := ([.int .i64 start] : List Value)) (k := 1) (o := 27) rfl (Ay (A := ([.slice Ai Ac.length Ah] : List Value)) (k := 1) (o := 26) rfl (Ay (A := AG.flatMap (cI .i64)) (k := 25) (o := 1) (IG (Bj .i64) al) (Ay (A := ([.slice Bu AN.length Bt] : List Value)) (k := 1) (o := 0) rfl (G2 (IG (Bj .i64) ax))))))))))
    refine wv (BB underlying110 sizeOf3 rfl rfl di) (wv (Al isAgg3 rfl (Has.frozen ae) ((cr).2.2 0 (by decide))) (wv (Sp rfl rfl) ?_))
    refine wa (YG (um ?_))
    refine uv (Al isAgg3 rfl (Has.frozen ab) rfl) (uv (B6 rfl rfl) (um ?_))
    by_cases ak : (KK Bs x3) ≠ Bs
    ·have dy := A2 dk ak
     refine nT ak (um (nT ak (um (nT ak (um (nT ak ?_))))))
     refine uv (BC (v := .agg #[.int .i64 k, .int .i64 k2]) rfl (by intro w; kernel_rfl)) ?_
     refine nT ak (um (nT ak ?_))
     obtain ⟨bm, dz, bu⟩ := Tq dy
     refine On (Lb := aw) (Lr := []) (vs := [.agg #[.int .i64 k, .int .i64 k2], .int .i64 (KK Bs x3)]) rfl rfl rfl fP (hy ah ((k, k2), KK Bs x3) bm (by rw [ai, bu]) _ _ hG bl) ?_
     rintro eu ew ct bn cu; obtain ⟨e9, rfl, bw, bx⟩ := KA cu
     replace aa := aa.mono (At (Ax (Ab _)) (At (Ab _) (Ab _))) bn
     replace hG := hG.trans bn
     refine nT ak (uv (CI rfl) (uv (AQ (Bd rfl ak) rfl) (Aa ?_)))
     refine AY rfl (fun cv => ?_) (fun cv => ?_)
     ·have cw := bx (by simpa using cv)
      refine Ap (AE (Aj (Aj (AE (AE (Aj (Aj (AE ?_))))))))
      refine Kv (.inl rfl) results104 (sr) ?_
      exact .inr (by rw [List.append_nil]; exact cw)
     have cx := bw (by simpa using cv)
     have bh : xs = (ah ++ [((k, k2), KK Bs x3)]) ++ bm := by rw [ai, bu]; simp
     refine An (Az (id := 3) (Ak ?_))
     refine uv (A5 rfl rfl (BT.El bg bq (AF.lt aa))) ?_
     refine um (Aa ?_)
     subst bp; exact le kr ⟨_, _, rfl, br, ah ++ [((k, k2), KK Bs x3)], bm, ct, dz, (aq.trans bn), rfl, z8, bh, cx, hG⟩
    have El := A1 dk ak
    refine fF ak (fF ak (fF ak (fF ak (fF ak (fF ak (fF ak ?_))))))
    refine uv (AL (A4 rfl ak) rfl) (Aa ?_)
    refine AY rfl (fun dm => nomatch dm) (fun dm => ?_)
    refine An (Az (id := 3) (Ak ?_))
    refine uv (A5 rfl rfl (BT.El bg bq (AF.lt aa))) ?_
    refine um (Aa ?_)
    subst bp; exact le kr ⟨_, _, rfl, br, ah, ao, aw, El, aq, rfl, z8, ai, bl, hG⟩
   obtain rfl := BT.zero bg bq
   rw [B0] at cf
   refine AS (Ae (Ae ?_))
   refine AA (Az (id := 1) ?_)
   exact mi kr ⟨ah, ao, aw, cf, aq, rfl, z5, ai, bl, hG⟩
  rintro e1 ey _ ⟨ar, au, bc, dn, bz, rfl, cy, bj, cz, hG⟩
  refine AD _ cy ?_
  replace ad := ad.mono (Ax (Ab _)) bz
  rw [EB] at dn
  refine Ak (uv (A5 rfl rfl (BT.El cg cd (AF.lt ad))) ?_)
  refine um (Aa ?_)
  subst dr; exact le kr ⟨_, _, rfl, cj, ar, au, bc, dn, (av.trans bz), rfl, z5, bj, cz, hG⟩
 obtain rfl := BT.zero cg cd
 rw [Bz] at r8
 refine AS (Ae (Ae ?_))
 refine AA (Kv (.inr rfl) results104 (sr) ?_)
 obtain rfl := AR r8
 exact .inl (by have e1 := ay; rw [List.append_nil] at e1; rw [List.append_nil, e1]; exact dd)
set_option maxHeartbeats 1000000 in
theorem K5 (af : F G4 = some (.cells ((([.slice As walks.length Ar] : List Value) ++ (([.slice Au Ao.length Av] : List Value) ++ (([.int .i64 Af] : List Value) ++ (([.int .i64 start] : List Value) ++ (([.slice Ai Ac.length Ah] : List Value) ++ (AG.flatMap (cI .i64) ++ (([.slice Bu AN.length Bt] : List Value) ++ (hit.flatMap (cI .i64))))))))).toArray) 113 KC)) (ab : AF 1 (CD 1 (iE .i64)) F As Ar walks) (ad : AF 1 (CD 1 (iE .i64)) F Au Av Ao) (aa : AF 3 (B4 (CD 1 (iE .i64)) (B4 (iE .i64) (iE .i64))) F Ai Ah Ac) (ah : AG.length = 25) (ae : AF 2 (B4 (iE .i64) (iE .i64)) F Bu Bt AN) (aj : hit.length = 15) {r : List ((Int × Int) × Int)} (hr : E3 walks Ao Af start Ac AG AN hit Bs = some r) :
    SH.Spec Tryz.prog 82 #[.pointer (some ⟨G4, 0, none⟩), .int .i64 Bs] F [] fun F' L' v => ∃ (aq : Array Value), v = .func (.func 104) #[] aq ∧ L' = [] ∧ G7 Tryz.prog 104 #[] aq F' (fun x : (Int × Int) × Int => #[.agg ((cP (cI .i64) (cI .i64)) x.1).toArray, .int .i64 x.2]) r := by
 refine sp func82 ntmps82 fun K _ _ => ?_
 rw [E3] at hr
 refine AP ?_
 refine BK rfl rfl ?_; intro b1 ar
 refine BK rfl rfl ?_; intro b2 au
 refine ua (Cj ?_)
 refine uv (DO rfl rfl) ?_
 refine ua (Aa ?_)
 refine DL 1 rfl ar ?_; intro F3 ak ao
 refine Gv (L' := [(b2, ce #[.int .i64 Bs] 3)]) rfl ?_
 replace ab := ab.mono (Ax (Ab _)) ak
 replace ad := ad.mono (Ax (Ab _)) ak
 replace aa := aa.mono (At (Ax (Ab _)) (At (Ab _) (Ab _))) ak
 replace ae := ae.mono (At (Ab _) (Ab _)) ak
 replace af := ak _ _ af
 refine DL 0 rfl au ?_; intro F6 ai av
 refine Gv (L' := []) rfl ?_
 replace ab := ab.mono (Ax (Ab _)) ai
 replace ad := ad.mono (Ax (Ab _)) ai
 replace aa := aa.mono (At (Ax (Ab _)) (At (Ab _) (Ab _))) ai
 replace ae := ae.mono (At (Ab _) (Ab _)) ai
 replace af := ai _ _ af
 replace ao := ai _ _ ao
 obtain ⟨l, h9, aw⟩ := AO hr
 have al : G7 Tryz.prog 104 #[] #[.pointer (some ⟨b1, 0, none⟩), .pointer (some ⟨b2, 0, none⟩)] F6 (fun x : (Int × Int) × Int => #[.agg ((cP (cI .i64) (cI .i64)) x.1).toArray, .int .i64 x.2]) l := Kq ao af ab ad aa ah ae aj av h9
 refine Ap (C9 results82 ?_)
 obtain rfl := AR aw
 exact ⟨_, rfl, rfl, al⟩
set_option maxHeartbeats 1000000 in
theorem G6 {s_ : List (Int × Int)} (ah : AT GJ 62 2 (B4 (iE .i64) (iE .i64)) F CG EV Cq s_ Gq) {r : List (Int × Int)} (hr : Cg s_ = some r) :
    SH.Spec Tryz.prog 83 #[.slice CG EV Cq] F (Gq ++ []) fun F' L' v => ∃ (rL : LH), v = .tuple #[] ∧ L' = rL ++ [] ∧ AT GJ 62 2 (B4 (iE .i64) (iE .i64)) F' CG EV Cq r rL := by
 refine sp func83 ntmps83 fun K _ _ => ?_
 rw [Cg] at hr
 refine Gv (L' := Gq ++ []) (by simp) ?_
 refine AP (um ?_)
 refine uv ((A3 underlying51 rfl).i (AT.Hc ah)) ?_
 obtain ⟨g1, r2⟩ := AV hr
 refine uv (FR rfl rfl g1) ?_
 refine ua (ua (Aa ?_))
 refine Am ?_
 refine Bg (fun ao e1 F1 L1 => ∃ (aq : List (Int × Int)) (i : Int) (j : Int) (aa : LH), Bn ao aq i j = some r ∧ F = F1 ∧ L1 = (aa ++ []) ∧ e1.sub [(0, .slice CG EV Cq), (2, .int .i64 i), (3, .int .i64 j)] ∧ AT GJ 62 2 (B4 (iE .i64) (iE .i64)) F1 CG EV Cq aq aa) FU (m0 kr ⟨s_, 0, (s_.length : Int) - 1, Gq, r2, rfl, rfl, z3, ah⟩) ?_
 rintro ao e1 _ _ ⟨aq, i, j, aa, r7, rfl, rfl, bq, ab⟩
 refine AD _ bq ?_
 rcases ao with _ | ao
 ·rw [Bn] at r7; cases r7
 rw [Bn] at r7
 refine Aq (AP (um (um ?_)))
 refine uv (A8 rfl rfl) (Aa ?_)
 refine cQ (fun c9 => ?_) fun c9 => ?_
 ·have br := A2 r7 c9
  refine An (Aq ?_)
  refine Am (C5 [(.still, 0), (.still, 1), (.still, 2), (.still, 3), (.still, 4), (.still, 5), (.still, 6), (.still, 7), (.still, 8), (.still, 9), (.still, 10), (.still, 11), (.still, 12), (.seq, 13), (.still, 14), (.seq, 15)] (by kernel_rfl) (by kernel_rfl) (trivial) (by rfl) (by kernel_rfl) (mS [0] rfl (Be rfl) (mS [2] rfl (Be rfl) (mS [0] rfl (Be rfl) (mS [3] rfl (Be rfl) (mS [0] rfl (Be rfl) (mS [3] rfl (Be rfl) ?_)))))))
  obtain ⟨x, bn, ar, bu⟩ := BH br
  obtain ⟨df, dg, dh, bw, au, av, ad, ⟨_, _, rfl, rfl, rfl⟩, aw, ax⟩ := AT.at (At (Ab _) (Ab _)) ab (L := aa ++ []) fP bn.1 ar
  refine mS [18, 19] rfl (AI underlying51 sizeOf62 rfl au rfl (AT.idx ab bn)) (mL [20] (aa ++ []) rfl (s0 sr) (fun H F' L' ay az => AM isAgg62 sizeOf62 rfl (av.ext ay az) ad (Bh ad aw ax)) (mS [0] rfl (Be rfl) (mS [2] rfl (Be rfl) ?_)))
  obtain ⟨x2, ai, aj, bx⟩ := BH bu
  obtain ⟨di, dk, dm, bz, ba, bb, ae, ⟨_, _, rfl, rfl, rfl⟩, bc, bg⟩ := AT.at (At (Ab _) (Ab _)) ab (L := aa ++ []) fP ai.1 aj
  refine mS [22, 23] rfl (AI underlying51 sizeOf62 rfl ba rfl (AT.idx ab ai)) (mL [24] (aa ++ []) rfl (s0 sr) (fun H F' L' ay az => AM isAgg62 sizeOf62 rfl (bb.ext ay az) ae (Bh ae bc bg)) ?_)
  obtain ⟨ca, cb, dn, cc, ak, cd, bo, ⟨_, _, rfl, rfl, rfl⟩, cf, cg⟩ := AT.at (At (Ab _) (Ab _)) ab (L := aa ++ []) fP ai.1 aj
  refine mS [14, 15] rfl (AI underlying51 sizeOf62 rfl ak rfl (AT.idx ab ai)) ?_
  refine ⟨_, [(21, .agg #[.int .i64 x.1, .int .i64 x.2]), (26, .pointer (some ⟨ca, cb + (i : Int).toNat * 2, none⟩))], rfl, rfl, z2, by kernel_rfl, ?_⟩; intro H
  obtain ⟨l, cj, cn⟩ := CT bx
  refine E5 (u := (x.1, x.2)) sizeOf62 (At (Ab _) (Ab _)) rfl ak rfl ⟨_, _, rfl, rfl, rfl⟩ (fun _ => .h) ab cj ai ?_; intro bh af
  refine Aa ⟨undef, rfl, AW.refl _, [3, 2], by kernel_rfl, .inl (.inr (fun d h => by cases h)), (fc sm (fc sm nm)), ?_⟩
  obtain ⟨x3, bj, bk, cp⟩ := BH cn
  obtain ⟨cq, cr, dp, ct, al, cu, bp, ⟨_, _, rfl, rfl, rfl⟩, cv, cw⟩ := AT.at (At (Ab _) (Ab _)) af (L := bh ++ []) fP bj.1 bk
  refine mS [16, 17] rfl (AI underlying51 sizeOf62 rfl al rfl (AT.idx af bj)) ?_
  refine ⟨_, [(25, .agg #[.int .i64 x2.1, .int .i64 x2.2]), (27, .pointer (some ⟨cq, cr + (j : Int).toNat * 2, none⟩))], rfl, rfl, z2, by kernel_rfl, ?_⟩; intro H
  obtain ⟨l2, cx, cy⟩ := CT cp
  refine E5 (u := (x2.1, x2.2)) sizeOf62 (At (Ab _) (Ab _)) rfl al rfl ⟨_, _, rfl, rfl, rfl⟩ (fun _ => .h) af cx bj ?_; intro bl bm
  refine Aa ⟨undef, rfl, AW.refl _, [], by kernel_rfl, .inl (.inl rfl), nm, ?_⟩
  refine Ef ?_
  refine Az (id := 1) (Ak (um ?_))
  obtain ⟨cz, da⟩ := AV cy
  refine uv (A5 rfl rfl cz) (um ?_)
  obtain ⟨db, dd⟩ := AV da
  refine uv (FR rfl rfl db) ?_
  refine ua (ua (Aa ?_))
  exact le kr ⟨l2, i + 1, j - 1, bl, dd, rfl, rfl, z3, bm⟩
 have de := A1 r7 c9
 refine AS (Ae (Ae ?_))
 refine AA (QH (.inr rfl) results83 ?_)
 obtain rfl := AR de
 exact ⟨_, rfl, rfl, ab⟩
set_option maxHeartbeats 1000000 in
theorem Ea {I2 : FuncId} {IW IY : Array Value} {ok : (Int × Int) → Option Bool} (ao : F G4 = some (.cells ((([.slice As walks.length Ar] : List Value) ++ (([.slice Au Ao.length Av] : List Value) ++ (([.int .i64 Af] : List Value) ++ (([.int .i64 start] : List Value) ++ (([.slice Ai Ac.length Ah] : List Value) ++ (AG.flatMap (cI .i64) ++ (([.slice Bu AN.length Bt] : List Value) ++ (hit.flatMap (cI .i64))))))))).toArray) 113 KC)) (av : AF 1 (CD 1 (iE .i64)) F As Ar walks) (ai : AF 1 (CD 1 (iE .i64)) F Au Av Ao) (ah : AF 3 (B4 (CD 1 (iE .i64)) (B4 (iE .i64) (iE .i64))) F Ai Ah Ac) (aw : AG.length = 25) (ax : AF 2 (B4 (iE .i64) (iE .i64)) F Bu Bt AN) (er : hit.length = 15) (bc : KM Tryz.prog F I2 IW IY (B4 (iE .i64) (iE .i64)) Value.bool ok) {r : List (Int × Int)} {r2 : Int} {r3 : Bool} (hr : CC walks Ao Af start Ac AG AN hit Bs ok = some (r, r2, r3)) :
    SH.Spec Tryz.prog 42 #[.pointer (some ⟨G4, 0, none⟩), .int .i64 Bs, .agg #[.func (.func I2) IW IY]] F [] fun F' L' v => ∃ (ra : Option Addr) (rn : Nat) (rc : Nat) (rL : LH), v = .tuple #[.slice ra rn rc, .int .i64 r2, .bool r3] ∧ L' = rL ++ [] ∧ AT 0 62 2 (B4 (iE .i64) (iE .i64)) F' ra rn rc r rL := by
 refine sp func42 ntmps42 fun K _ _ => ?_
 rw [CC] at hr
 refine AP ?_
 refine BK rfl rfl ?_; intro b1 p0
 refine BK rfl rfl ?_; intro b2 p6
 refine ua (ua (ua (Cj ?_)))
 refine LC rfl ?_; intro b3 p7
 refine uv (Al isAgg97 rfl (Has.own 2 rfl) rfl) (uv (AU rfl) (uv (Ad Gc rfl) (uv (Ad Ov rfl) (uv (Al isAgg3 rfl (Has.frozen ao) (Ed (Ay (A := ([.slice As walks.length Ar] : List Value)) (k := 1) (o := 2) rfl (Ay (A := ([.slice Au Ao.length Av] : List Value)) (k := 1) (o := 1) rfl (Ay (A := ([.int .i64 Af] : List Value)) (k := 1) (o := 0) rfl (Ck (B := ([.slice Ai Ac.length Ah] : List Value) ++ (AG.flatMap (cI .i64) ++ (([.slice Bu AN.length Bt] : List Value) ++ (hit.flatMap (cI .i64))))) rfl)))))) (um ?_)))))
 refine uv (BC (v := .agg #[.int .i64 start, .int .i64 Bs]) rfl (by intro w; kernel_rfl)) ?_
 refine uv (BC (v := .agg #[.int .i64 0, .int .i64 0, .int .i64 0, .int .i64 0, .int .i64 0]) rfl (by intro w; kernel_rfl)) ?_
 refine K3 (i := 0) (k := (start, Bs)) (v := (0, 0, 0, 0, 0)) underlying151 LD rfl rfl rfl rfl (show Eb (vA (cP (cI .i64) (cI .i64))) (vA (cP (cI .i64) (cP (cI .i64) (cP (cI .i64) (cP (cI .i64) (cI .i64)))))) #[] ([] : List ((Int × Int) × (Int × Int × Int × Int × Int))) from Eb.nil) ?_; intro mg mh jz
 obtain ⟨met, h7, r8⟩ := CT hr
 rw [← h7] at jz
 refine AK rfl (um ?_)
 refine Br rfl zeroValue151 ?_; intro b9 p8
 refine CS (i := 0) sizeOf151 rfl rfl rfl rfl (CE rfl) (AK rfl (Aa ?_))
 obtain ⟨ae, mj, kb⟩ := AO r8
 refine AX (fun e1 F1 L1 => ∃ (bg : Array MapEntry) (br : Nat), AW F F1 ∧ L1 = [(b9, ce #[.map (some b3)] 151), (b3, .map bg br), (b1, ce #[.pointer (some ⟨G4, 0, none⟩)] 97)] ∧ e1.sub [(1, .int .i64 Bs), (3, .pointer (some ⟨b1, 0, none⟩)), (9, .pointer (some ⟨b9, 0, none⟩))] ∧ Eb (vA (cP (cI .i64) (cI .i64))) (vA (cP (cI .i64) (cP (cI .i64) (cP (cI .i64) (cP (cI .i64) (cI .i64)))))) bg ae) ?_ ?_
 ·clear kb
  refine AP (um (ua (Aa ?_)))
  refine Am ?_
  refine Bg (fun gh e1 F1 L1 => ∃ (cc : List ((Int × Int) × (Int × Int × Int × Int × Int))) (ab : Int) (bu : Array MapEntry) (bw : Nat), CU walks Ao Af start Ac AG AN hit Bs ok gh cc ab = some ae ∧ AW F F1 ∧ L1 = [(b9, ce #[.map (some b3)] 151), (b3, .map bu bw), (b2, ce #[.func (.func I2) IW IY] 105), (b1, ce #[.pointer (some ⟨G4, 0, none⟩)] 97)] ∧ e1.sub [(1, .int .i64 Bs), (3, .pointer (some ⟨b1, 0, none⟩)), (5, .pointer (some ⟨b2, 0, none⟩)), (9, .pointer (some ⟨b9, 0, none⟩)), (10, .int .i64 ab)] ∧ Eb (vA (cP (cI .i64) (cI .i64))) (vA (cP (cI .i64) (cP (cI .i64) (cP (cI .i64) (cP (cI .i64) (cI .i64)))))) bu cc) FU (m0 kr ⟨met, Bs, mg, mh, mj, AW.refl _, rfl, z5, jz⟩) ?_
  rintro gh e1 kh _ ⟨cc, ab, bu, bw, et, bj, rfl, gp, dh⟩
  refine AD _ gp ?_
  replace av := av.mono (Ax (Ab _)) bj
  replace ai := ai.mono (Ax (Ab _)) bj
  replace ah := ah.mono (At (Ax (Ab _)) (At (Ab _) (Ab _))) bj
  replace ax := ax.mono (At (Ab _) (Ab _)) bj
  replace bc := bc.mono bj
  replace ao := bj _ _ ao
  rcases gh with _ | gh
  ·rw [CU] at et; cases et
  rw [CU] at et
  refine Aq (AP (um ?_))
  refine uv (IF rfl rfl) (Aa ?_)
  refine cQ (fun gq => ?_) fun gq => ?_
  ·have ml := A2 et gq
   refine An ?_
   obtain ⟨di, kj, kl⟩ := AO ml
   refine AX (fun e1 F1 L1 => ∃ (cd : Array MapEntry) (dk : Nat), AW kh F1 ∧ L1 = [(b9, ce #[.map (some b3)] 151), (b3, .map cd dk), (b2, ce #[.func (.func I2) IW IY] 105), (b1, ce #[.pointer (some ⟨G4, 0, none⟩)] 97)] ∧ e1.sub [(1, .int .i64 Bs), (3, .pointer (some ⟨b1, 0, none⟩)), (5, .pointer (some ⟨b2, 0, none⟩)), (9, .pointer (some ⟨b9, 0, none⟩)), (10, .int .i64 ab)] ∧ Eb (vA (cP (cI .i64) (cI .i64))) (vA (cP (cI .i64) (cP (cI .i64) (cP (cI .i64) (cP (cI .i64) (cI .i64)))))) cd di) ?_ ?_
   ·clear kl
    refine Am ?_
    refine Aq (AP (um (um ?_)))
    refine uv (Sp rfl rfl) (uv (B6 rfl rfl) (Aa ?_))
    refine cQ (fun gr => ?_) fun gr => ?_
    ·have mo := A2 kj gr
     refine AS (Ae ?_)
     refine AA ?_
     obtain rfl := AR mo
     exact mi kr ⟨bu, bw, AW.refl _, rfl, z5, dh⟩
    have mq := A1 kj gr
    refine An (AP ?_)
    refine uv (Al isAgg97 rfl (Has.own 3 rfl) rfl) (uv (AU rfl) (uv (Ad Gc rfl) (uv (Ad H8 rfl) (uv (Al isAgg36 rfl (Has.frozen ao) (Ed (Ay (A := ([.slice As walks.length Ar] : List Value)) (k := 1) (o := 0) rfl (Ck (B := ([.int .i64 Af] : List Value) ++ (([.int .i64 start] : List Value) ++ (([.slice Ai Ac.length Ah] : List Value) ++ (AG.flatMap (cI .i64) ++ (([.slice Bu AN.length Bt] : List Value) ++ (hit.flatMap (cI .i64))))))) rfl)))) (uv (A3 underlying36 rfl) ?_)))))
    refine um (Aa ?_)
    refine Am ?_
    refine Bg (fun km e1 F1 L1 => LA Ao km fun tl k => ∃ (af : List ((Int × Int) × (Int × Int × Int × Int × Int))) (bm : Array MapEntry) (bx : Nat), CW walks Ao Af start Ac AG AN hit ok ab tl k af = some di ∧ AW kh F1 ∧ L1 = [(b9, ce #[.map (some b3)] 151), (b3, .map bm bx), (b2, ce #[.func (.func I2) IW IY] 105), (b1, ce #[.pointer (some ⟨G4, 0, none⟩)] 97)] ∧ e1.sub [(1, .int .i64 Bs), (3, .pointer (some ⟨b1, 0, none⟩)), (5, .pointer (some ⟨b2, 0, none⟩)), (9, .pointer (some ⟨b9, 0, none⟩)), (10, .int .i64 ab), (53, .int .i64 (Ao.length : Int)), (54, .int .i64 k)] ∧ Eb (vA (cP (cI .i64) (cI .i64))) (vA (cP (cI .i64) (cP (cI .i64) (cP (cI .i64) (cP (cI .i64) (cI .i64)))))) bm af) _ (m0 kr ⟨_, _, rfl, BT.start _, cc, bu, bw, mq, AW.refl _, rfl, z7, dh⟩) ?_
    rintro km e1 mr _ ⟨tl, k, gu, dm, af, bm, bx, gk, bk, rfl, gv, cf⟩
    refine AD _ gv ?_
    replace av := av.mono (Ax (Ab _)) bk
    replace ai := ai.mono (Ax (Ab _)) bk
    replace ah := ah.mono (At (Ax (Ab _)) (At (Ab _) (Ab _))) bk
    replace ax := ax.mono (At (Ab _) (Ab _)) bk
    replace bc := bc.mono bk
    replace ao := bk _ _ ao
    refine AP (uv (A8 rfl rfl) ?_)
    refine Aa (Aq ?_)
    refine cQ (fun gl => ?_) fun gl => ?_
    ·obtain ⟨x, p9, rfl, mv, pa, gw⟩ := BT.succ dm gl
     rw [CW] at gk
     refine An ?_
     obtain ⟨dn, ko, kt⟩ := AO gk
     refine AX (fun e1 F1 L1 => ∃ (cg : Array MapEntry) (dp : Nat), AW mr F1 ∧ L1 = [(b9, ce #[.map (some b3)] 151), (b3, .map cg dp), (b2, ce #[.func (.func I2) IW IY] 105), (b1, ce #[.pointer (some ⟨G4, 0, none⟩)] 97)] ∧ e1.sub [(1, .int .i64 Bs), (3, .pointer (some ⟨b1, 0, none⟩)), (5, .pointer (some ⟨b2, 0, none⟩)), (9, .pointer (some ⟨b9, 0, none⟩)), (10, .int .i64 ab), (53, .int .i64 (Ao.length : Int)), (54, .int .i64 k)] ∧ Eb (vA (cP (cI .i64) (cI .i64))) (vA (cP (cI .i64) (cP (cI .i64) (cP (cI .i64) (cP (cI .i64) (cI .i64)))))) cg dn) ?_ ?_
     ·clear kt
      refine Am ?_
      refine AP (um ?_)
      refine Br rfl zeroValue3 ?_; intro cv mw
      refine CS (i := 0) sizeOf3 rfl rfl rfl rfl (CE rfl) (AK rfl (Cj (uv (Al isAgg3 rfl (Has.own 0 rfl) rfl) (um ?_))))
      refine uv (BC (v := .agg #[.int .i64 k, .int .i64 ab]) rfl (by intro w; kernel_rfl)) ?_
      refine Br rfl zeroValue148 ?_; intro cw mx
      refine By (i := 0) sizeOf148 rfl rfl rfl (by simp [Value.oneCell']) rfl (CE rfl) (AK rfl (Cj (uv (Al isAgg151 rfl (Has.own 2 rfl) rfl) (uv (AM (cs := #[.int .i64 k, .int .i64 ab]) isAgg148 sizeOf148 rfl (Has.own 0 rfl) (CE rfl) rfl) (uv (E7.eq (v' := .tuple #[.agg #[.int .i64 (((AZ af (k, ab)).getD (0, 0, 0, 0, 0)).1), .int .i64 (((AZ af (k, ab)).getD (0, 0, 0, 0, 0)).2.1), .int .i64 (((AZ af (k, ab)).getD (0, 0, 0, 0, 0)).2.2.1), .int .i64 (((AZ af (k, ab)).getD (0, 0, 0, 0, 0)).2.2.2.1), .int .i64 (((AZ af (k, ab)).getD (0, 0, 0, 0, 0)).2.2.2.2)], .bool ((AZ af (k, ab)).isSome)]) (Lw (k := (k, ab)) (z0 := (0, 0, 0, 0, 0)) rfl underlying151 LD zeroValue150 rfl rfl (Kw.own 3 rfl) (show Eb (vA (cP (cI .i64) (cI .i64))) (vA (cP (cI .i64) (cP (cI .i64) (cP (cI .i64) (cP (cI .i64) (cI .i64)))))) bm (af : List ((Int × Int) × (Int × Int × Int × Int × Int))) from cf)) rfl) ?_)))))
      refine um (ox rfl rfl rfl (ox rfl rfl rfl ?_))
      refine Br rfl zeroValue150 ?_; intro cx my
      refine By (i := 0) sizeOf150 rfl rfl rfl (by simp [Value.oneCell']) rfl (CE rfl) (AK rfl ?_)
      refine ua (Aa (Aq (AP (um ?_))))
      refine uv (CI rfl) (Aa ?_)
      refine AY rfl (fun gz => ?_) (fun gz => ?_)
      ·have mz := bt ko gz
       refine AS (Ae ?_)
       refine AA ?_
       obtain rfl := AR mz
       exact mi (kd (kd (kd kr))) ⟨bm, bx, AW.refl _, rfl, z7, cf⟩
      have na := bf ko gz
      refine An (AP ?_)
      refine uv (Al isAgg97 rfl (Has.own 6 rfl) rfl) (um ?_)
      obtain ⟨y, nc, nf⟩ := AO na
      refine c0 call82 (K5 ao av ai ah aw ax er nc) ?_; rintro _ pb _ cj ng ⟨nh, rfl, rfl, eu⟩
      replace ah := ah.mono (At (Ax (Ab _)) (At (Ab _) (Ab _))) cj
      replace bc := bc.mono cj
      replace ao := cj _ _ ao
      refine AK (ln rfl) (Aa (Am ?_))
      refine JK (encs := (fun x : (Int × Int) × Int => #[.agg ((cP (cI .i64) (cI .i64)) x.1).toArray, .int .i64 x.2])) (xs := y) rfl call104 rfl (fun _ => rfl) eu (fun pre F1 L1 => ∃ (eo : List ((Int × Int) × Int)) (ak : List ((Int × Int) × (Int × Int × Int × Int × Int))) (aq : Array MapEntry) (ba : Nat), y = pre ++ eo ∧ BW Ac AG ok ab af k eo ak = some dn ∧ L1 = [(cx, ce #[.int .i64 (((AZ af (k, ab)).getD (0, 0, 0, 0, 0)).1), .int .i64 (((AZ af (k, ab)).getD (0, 0, 0, 0, 0)).2.1), .int .i64 (((AZ af (k, ab)).getD (0, 0, 0, 0, 0)).2.2.1), .int .i64 (((AZ af (k, ab)).getD (0, 0, 0, 0, 0)).2.2.2.1), .int .i64 (((AZ af (k, ab)).getD (0, 0, 0, 0, 0)).2.2.2.2)] 150), (cw, ce #[.int .i64 k, .int .i64 ab] 148), (cv, ce #[.int .i64 k] 3), (b9, ce #[.map (some b3)] 151), (b3, .map aq ba), (b2, ce #[.func (.func I2) IW IY] 105), (b1, ce #[.pointer (some ⟨G4, 0, none⟩)] 97)] ∧ Eb (vA (cP (cI .i64) (cI .i64))) (vA (cP (cI .i64) (cP (cI .i64) (cP (cI .i64) (cP (cI .i64) (cI .i64)))))) aq ak) (fun _ _ _ => False) ?_ ?_ ?_ ?_ ?_ ?_
      ·rintro pre F1 F2 L1 ⟨eo, ak, aq, ba, bz, ni, rfl, bl⟩ hx; exact ⟨eo, ak, aq, ba, bz, ni, rfl, bl⟩
      ·intro c F1 F2 L1 h hx; exact h
      ·exact ⟨_, af, bm, bx, rfl, nf, rfl, cf⟩
      ·rintro pc nj nk nn np nq ku nr pre x2 pd bn pf _ dq ⟨eo, ak, aq, ba, bz, kv, rfl, bl⟩
       obtain rfl := Np bz bn
       rw [BW] at kv
       replace ah := ah.mono (At (Ax (Ab _)) (At (Ab _) (Ab _))) dq
       replace bc := bc.mono dq
       replace ao := dq _ _ ao
       refine AD [(1, .int .i64 Bs), (3, .pointer (some ⟨b1, 0, none⟩)), (5, .pointer (some ⟨b2, 0, none⟩)), (9, .pointer (some ⟨b9, 0, none⟩)), (10, .int .i64 ab), (11, .pointer (some ⟨cv, 0, none⟩)), (12, .pointer (some ⟨cw, 0, none⟩)), (13, .pointer (some ⟨cx, 0, none⟩)), (53, .int .i64 (Ao.length : Int)), (54, .int .i64 k), (71, .agg #[.int .i64 x2.1.1, .int .i64 x2.1.2]), (72, .int .i64 x2.2)] (by exact (sc rfl (sc rfl (sc rfl (sc rfl z8))))) (AP ?_)
       refine Br rfl zeroValue62 ?_; intro ia nt
       refine By (i := 0) sizeOf62 rfl rfl rfl (by simp [Value.oneCell']) rfl (CE rfl) (AK rfl ?_)
       refine Aa (Ak (ua (Aa ?_)))
       refine ⟨rfl, ?_⟩
       refine Am (dW (wv (Al isAgg97 rfl (Has.own 7 rfl) rfl) (wv (Al isAgg3 rfl (Has.own 3 rfl) rfl) (wv (Ad IV rfl) (wv (Al isAgg3 rfl (Has.own 0 rfl) rfl) (wv (AU rfl) (wv (Ad G9 rfl) ?_)))))))
       obtain ⟨kz, nu⟩ := AV kv
       refine wv (BB underlying109 sizeOf107 rfl rfl kz) ?_
       obtain ⟨l0, nv⟩ := AV nu
       obtain ⟨x3, pg, ib, la⟩ := BH nv
       have ic : (k * 5 + x2.1.1 : Int).toNat = (k : Int).toNat * 5 + (x2.1.1 : Int).toNat := by have := kz; have := l0; omega
       have ie := IJ (Bj .i64) aw ic ib (Ii (Ay (A := ([.slice As walks.length Ar] : List Value)) (k := 1) (o := 4) rfl (Ay (A := ([.slice Au Ao.length Av] : List Value)) (k := 1) (o := 3) rfl (Ay (A := ([.int .i64 Af] : List Value)) (k := 1) (o := 2) rfl (Ay (A := ([.int .i64 start] : List Value)) (k := 1) (o := 1) rfl (Ay (A := ([.slice Ai Ac.length Ah] : List Value)) (k := 1) (o := 0) rfl (Ck (B := ([.slice Bu AN.length Bt] : List Value) ++ (hit.flatMap (cI .i64))) (IG (Bj .i64) aw)))))))) (IS (Ay (A := ([.slice As walks.length Ar] : List Value)) (k := 1) (o := 4) rfl (Ay (A := ([.slice Au Ao.length Av] : List Value)) (k := 1) (o := 3) rfl (Ay (A := ([.int .i64 Af] : List Value)) (k := 1) (o := 2) rfl (Ay (A := ([.int .i64 start] : List Value)) (k := 1) (o := 1) rfl (Ay (A := ([.slice Ai Ac.length Ah] : List Value)) (k := 1) (o := 0) rfl (Ck (B := ([.slice Bu AN.length Bt] : List Value) ++ (hit.flatMap (cI .i64))) (IG (Bj .i64) aw))))))))
       refine wv (BB underlying107 sizeOf3 rfl rfl l0) (wv (Al isAgg3 rfl (Has.frozen ao) ((ie).2.2 0 (by decide))) ?_)
       refine wa (Df (Aq (AP (um ?_))))
       refine uv (DY rfl rfl) (Aa ?_)
       refine cQ (fun ig => ?_) fun ig => ?_
       ·have nw := A2 la ig
        refine AS (Ae ?_)
        refine AA ?_
        refine ⟨[(cx, ce #[.int .i64 (((AZ af (k, ab)).getD (0, 0, 0, 0, 0)).1), .int .i64 (((AZ af (k, ab)).getD (0, 0, 0, 0, 0)).2.1), .int .i64 (((AZ af (k, ab)).getD (0, 0, 0, 0, 0)).2.2.1), .int .i64 (((AZ af (k, ab)).getD (0, 0, 0, 0, 0)).2.2.2.1), .int .i64 (((AZ af (k, ab)).getD (0, 0, 0, 0, 0)).2.2.2.2)] 150), (cw, ce #[.int .i64 k, .int .i64 ab] 148), (cv, ce #[.int .i64 k] 3), (b9, ce #[.map (some b3)] 151), (b3, .map aq ba), (b2, ce #[.func (.func I2) IW IY] 105), (b1, ce #[.pointer (some ⟨G4, 0, none⟩)] 97)], ⟨_, .refl _, s1 (s2 (s2 (s2 (s2 (s2 (s2 (s2 sr)))))))⟩, ?_⟩; exact ⟨_, ak, aq, ba, (by rw [bn]; simp), nw, rfl, bl⟩
       have ny := A1 la ig
       refine An (dW (wv (Ad ME rfl) (wv (Al isAgg3 rfl (Has.own 1 rfl) rfl) (wm ?_))))
       obtain ⟨nz, o3⟩ := AV ny
       refine wv (A5 rfl rfl nz) (wv (Al isAgg97 rfl (Has.own 7 rfl) rfl) (wv (AU rfl) (wv (Ad Gc rfl) (wv (Ad Fj rfl) (wv (Al isAgg37 rfl (Has.frozen ao) (Ed (Ay (A := ([.slice As walks.length Ar] : List Value)) (k := 1) (o := 3) rfl (Ay (A := ([.slice Au Ao.length Av] : List Value)) (k := 1) (o := 2) rfl (Ay (A := ([.int .i64 Af] : List Value)) (k := 1) (o := 1) rfl (Ay (A := ([.int .i64 start] : List Value)) (k := 1) (o := 0) rfl (Ck (B := AG.flatMap (cI .i64) ++ (([.slice Bu AN.length Bt] : List Value) ++ (hit.flatMap (cI .i64)))) rfl))))))) (wv (Ad LJ rfl) (wv (Al isAgg3 rfl (Has.own 0 rfl) rfl) ?_)))))))
       obtain ⟨x4, ld, ew, ij⟩ := BH o3
       obtain ⟨o7, o8, o9, lg, ey, fa, ik, ⟨_, _, rfl, ⟨oc, od, rfl, oe⟩, ⟨_, _, rfl, rfl, rfl⟩⟩, lh, fb⟩ := AF.at (At (Ax (Ab _)) (At (Ab _) (Ab _))) ah ([(ia, ce #[.int .i64 x2.1.1, .int .i64 x2.1.2] 62), (cx, ce #[.int .i64 (((AZ af (k, ab)).getD (0, 0, 0, 0, 0)).1), .int .i64 (((AZ af (k, ab)).getD (0, 0, 0, 0, 0)).2.1), .int .i64 (((AZ af (k, ab)).getD (0, 0, 0, 0, 0)).2.2.1), .int .i64 (((AZ af (k, ab)).getD (0, 0, 0, 0, 0)).2.2.2.1), .int .i64 (((AZ af (k, ab)).getD (0, 0, 0, 0, 0)).2.2.2.2)] 150), (cw, ce #[.int .i64 k, .int .i64 ab] 148), (cv, ce #[.int .i64 k] 3), (b9, ce #[.map (some b3)] 151), (b3, .map aq ba), (b2, ce #[.func (.func I2) IW IY] 105), (b1, ce #[.pointer (some ⟨G4, 0, none⟩)] 97)]) ld.1 ew
       refine wv (AI underlying37 sizeOf48 rfl ey rfl ld) (wv (Ad Oi rfl) (wv (Al isAgg3 rfl fa (fb 1 (by decide))) ?_))
       obtain ⟨il, im⟩ := AV ij
       refine wv (A5 rfl rfl il) ?_
       obtain ⟨end_, iq, ir⟩ := CT im
       refine wv ((DQ rfl).i iq) (YG (uv (Ad IV rfl) (uv (Al isAgg3 rfl (Has.own 0 rfl) rfl) (um ?_))))
       refine uv (BC (v := .agg #[.int .i64 x2.1.1, .int .i64 x2.2]) rfl (by intro w; kernel_rfl)) ?_
       refine Br rfl zeroValue148 ?_; intro fe lj
       refine By (i := 0) sizeOf148 rfl rfl rfl (by simp [Value.oneCell']) rfl (CE rfl) (AK rfl (Cj (uv (Al isAgg151 rfl (Has.own 5 rfl) rfl) (uv (AM (cs := #[.int .i64 x2.1.1, .int .i64 x2.2]) isAgg148 sizeOf148 rfl (Has.own 0 rfl) (CE rfl) rfl) (uv (E7.eq (v' := .tuple #[.agg #[.int .i64 (((AZ ak (x2.1.1, x2.2)).getD (0, 0, 0, 0, 0)).1), .int .i64 (((AZ ak (x2.1.1, x2.2)).getD (0, 0, 0, 0, 0)).2.1), .int .i64 (((AZ ak (x2.1.1, x2.2)).getD (0, 0, 0, 0, 0)).2.2.1), .int .i64 (((AZ ak (x2.1.1, x2.2)).getD (0, 0, 0, 0, 0)).2.2.2.1), .int .i64 (((AZ ak (x2.1.1, x2.2)).getD (0, 0, 0, 0, 0)).2.2.2.2)], .bool ((AZ ak (x2.1.1, x2.2)).isSome)]) (Lw (k := (x2.1.1, x2.2)) (z0 := (0, 0, 0, 0, 0)) rfl underlying151 LD zeroValue150 rfl rfl (Kw.own 6 rfl) (show Eb (vA (cP (cI .i64) (cI .i64))) (vA (cP (cI .i64) (cP (cI .i64) (cP (cI .i64) (cP (cI .i64) (cI .i64)))))) aq (ak : List ((Int × Int) × (Int × Int × Int × Int × Int))) from bl)) rfl) ?_)))))
       refine um (ox rfl rfl rfl (ox rfl rfl rfl ?_))
       refine Br rfl zeroValue150 ?_; intro og lk
       refine By (i := 0) sizeOf150 rfl rfl rfl (by simp [Value.oneCell']) rfl (CE rfl) (AK rfl ?_)
       refine ua (Aa ?_)
       obtain ⟨k2, iu, dr⟩ := AO ir
       refine jE ([(fe, ce #[.int .i64 x2.1.1, .int .i64 x2.2] 148), (ia, ce #[.int .i64 x2.1.1, .int .i64 x2.1.2] 62), (cx, ce #[.int .i64 (((AZ af (k, ab)).getD (0, 0, 0, 0, 0)).1), .int .i64 (((AZ af (k, ab)).getD (0, 0, 0, 0, 0)).2.1), .int .i64 (((AZ af (k, ab)).getD (0, 0, 0, 0, 0)).2.2.1), .int .i64 (((AZ af (k, ab)).getD (0, 0, 0, 0, 0)).2.2.2.1), .int .i64 (((AZ af (k, ab)).getD (0, 0, 0, 0, 0)).2.2.2.2)] 150), (cw, ce #[.int .i64 k, .int .i64 ab] 148), (cv, ce #[.int .i64 k] 3), (b9, ce #[.map (some b3)] 151), (b3, .map aq ba), (b2, ce #[.func (.func I2) IW IY] 105), (b1, ce #[.pointer (some ⟨G4, 0, none⟩)] 97)]) [(1, .int .i64 Bs), (3, .pointer (some ⟨b1, 0, none⟩)), (5, .pointer (some ⟨b2, 0, none⟩)), (9, .pointer (some ⟨b9, 0, none⟩)), (10, .int .i64 ab), (11, .pointer (some ⟨cv, 0, none⟩)), (12, .pointer (some ⟨cw, 0, none⟩)), (13, .pointer (some ⟨cx, 0, none⟩)), (15, .pointer (some ⟨ia, 0, none⟩)), (18, .int .i64 end_), (19, .pointer (some ⟨fe, 0, none⟩)), (53, .int .i64 (Ao.length : Int)), (54, .int .i64 k), (71, .agg #[.int .i64 x2.1.1, .int .i64 x2.1.2]), (72, .int .i64 x2.2), (124, .bool k2)] ?_ ?_
       ·clear dr
        refine Ak (uv (Ad Vr rfl) (uv (Al isAgg103 rfl (Has.own 8 rfl) rfl) (uv (Ad LJ rfl) (uv (Al isAgg3 rfl (Has.own 2 rfl) rfl) (um ?_)))))
        obtain ⟨oh, iv, ff⟩ := AO iu
        refine I1 rfl bc.1 rfl rfl rfl (bc.2 _ (AW.refl _) _ _ _ ⟨_, _, rfl, rfl, rfl⟩ iv) (um ?_)
        rcases EL oh with ar | ar
        ·have fg := bt ff ar
         refine nB ar (um (nB ar ?_))
         refine uv (CI rfl) ?_
         refine nB ar (um ?_)
         rcases EL (!((AZ ak (x2.1.1, x2.2)).isSome)) with ay | ay
         ·have iw := bt fg ay
          refine fB ay (fB ay (fB ay (fB ay (nB ar ?_))))
          refine uv (AQ (KX rfl ay) rfl) (uv (AQ (KX rfl ar) rfl) (Aa ?_))
          obtain rfl := AR iw
          exact mi (kd kr) ⟨rfl, rfl, (sc rfl (sc rfl (sc rfl (sc rfl (sc rfl (sc rfl (sc rfl (sc rfl z8))))))))⟩
         have iy := bf fg ay
         refine nB ay (um (nB ay ?_))
         refine uv (Ad ME rfl) (nB ay (uv (Al isAgg3 rfl (Has.own 0 rfl) rfl) (nB ay (uv (A8 rfl rfl) (nB ar (uv (AL (KX rfl ay) rfl) (uv (AQ (KX rfl ar) rfl) ?_)))))))
         refine Aa ?_
         obtain rfl := AR iy
         exact mi (kd kr) ⟨rfl, rfl, (sc rfl (sc rfl (sc rfl (sc rfl (sc rfl (sc rfl (sc rfl (sc rfl z8))))))))⟩
        have iz := bf ff ar
        refine fB ar (fB ar (fB ar (fU (fU (fU (fU (fB ar ?_)))))))
        refine uv (AL (KX rfl ar) rfl) (Aa ?_)
        obtain rfl := AR iz
        exact mi (kd kr) ⟨rfl, rfl, (sc rfl (sc rfl (sc rfl (sc rfl (sc rfl (sc rfl (sc rfl (sc rfl z8))))))))⟩
       refine AY rfl (fun dt => ?_) (fun dt => ?_)
       ·have j0 := bt dr dt
        refine Ak (uv (Al isAgg151 rfl (Has.own 5 rfl) rfl) (uv (AM (cs := #[.int .i64 x2.1.1, .int .i64 x2.2]) isAgg148 sizeOf148 rfl (Has.own 0 rfl) (CE rfl) rfl) (um (uv (AM (cs := #[.int .i64 x2.1.1, .int .i64 x2.1.2]) isAgg62 sizeOf62 rfl (Has.own 1 rfl) (CE rfl) rfl) (uv (AM (cs := #[.int .i64 k, .int .i64 ab]) isAgg148 sizeOf148 rfl (Has.own 3 rfl) (CE rfl) rfl) ?_)))))
        refine uv (BC (v := .agg #[.int .i64 end_, .int .i64 x2.1.1, .int .i64 x2.1.2, .int .i64 k, .int .i64 ab]) rfl (by intro w; kernel_rfl)) ?_
        refine Lu (i := 6) (k := (x2.1.1, x2.2)) (v := (end_, x2.1.1, x2.1.2, k, ab)) underlying151 LD rfl rfl rfl rfl (show Eb (vA (cP (cI .i64) (cI .i64))) (vA (cP (cI .i64) (cP (cI .i64) (cP (cI .i64) (cP (cI .i64) (cI .i64)))))) aq (ak : List ((Int × Int) × (Int × Int × Int × Int × Int))) from bl) ?_; intro cy cz da
        obtain ⟨j3, j4, j5⟩ := CT j0
        rw [← j4] at da
        refine AK rfl ?_
        refine Aa (Az (id := 5) ?_)
        refine ⟨[(cx, ce #[.int .i64 (((AZ af (k, ab)).getD (0, 0, 0, 0, 0)).1), .int .i64 (((AZ af (k, ab)).getD (0, 0, 0, 0, 0)).2.1), .int .i64 (((AZ af (k, ab)).getD (0, 0, 0, 0, 0)).2.2.1), .int .i64 (((AZ af (k, ab)).getD (0, 0, 0, 0, 0)).2.2.2.1), .int .i64 (((AZ af (k, ab)).getD (0, 0, 0, 0, 0)).2.2.2.2)] 150), (cw, ce #[.int .i64 k, .int .i64 ab] 148), (cv, ce #[.int .i64 k] 3), (b9, ce #[.map (some b3)] 151), (b3, .map cy cz), (b2, ce #[.func (.func I2) IW IY] 105), (b1, ce #[.pointer (some ⟨G4, 0, none⟩)] 97)], ⟨_, .refl _, s1 (s1 (s2 (s2 (s2 (s2 (s2 (s2 (s2 sr))))))))⟩, ?_⟩; exact ⟨_, j3, cy, cz, (by rw [bn]; simp), j5, rfl, da⟩
       have j6 := bf dr dt
       refine An (Az (id := 5) ?_)
       refine ⟨[(cx, ce #[.int .i64 (((AZ af (k, ab)).getD (0, 0, 0, 0, 0)).1), .int .i64 (((AZ af (k, ab)).getD (0, 0, 0, 0, 0)).2.1), .int .i64 (((AZ af (k, ab)).getD (0, 0, 0, 0, 0)).2.2.1), .int .i64 (((AZ af (k, ab)).getD (0, 0, 0, 0, 0)).2.2.2.1), .int .i64 (((AZ af (k, ab)).getD (0, 0, 0, 0, 0)).2.2.2.2)] 150), (cw, ce #[.int .i64 k, .int .i64 ab] 148), (cv, ce #[.int .i64 k] 3), (b9, ce #[.map (some b3)] 151), (b3, .map aq ba), (b2, ce #[.func (.func I2) IW IY] 105), (b1, ce #[.pointer (some ⟨G4, 0, none⟩)] 97)], ⟨_, .refl _, s1 (s1 (s2 (s2 (s2 (s2 (s2 (s2 (s2 sr))))))))⟩, ?_⟩; exact ⟨_, ak, aq, ba, (by rw [bn]; simp), j6, rfl, bl⟩
      ·rintro oi _ fh ⟨eo, ak, aq, ba, bz, fi, rfl, bl⟩
       obtain rfl := Pn bz; rw [BW] at fi
       refine Az (id := 4) (Az (id := 3) ?_)
       obtain rfl := AR fi
       exact mi (kd (kd (kd kr))) ⟨aq, ba, (cj.trans fh), rfl, z7, bl⟩
      intro c F1 L1 hx h; exact h.elim
     rintro e1 oj _ ⟨cg, dp, db, rfl, fj, j7⟩
     refine AD _ fj ?_
     replace ai := ai.mono (Ax (Ab _)) db
     refine Ak (uv (A5 rfl rfl (BT.El dm gl (AF.lt ai))) ?_)
     refine um (Aa ?_)
     subst gu; exact le kr ⟨_, _, rfl, gw, dn, cg, dp, kt, (bk.trans db), rfl, z7, j7⟩
    obtain rfl := BT.zero dm gl
    rw [CW] at gk
    refine AS (Ae (Ae ?_))
    refine AA (Az (id := 1) ?_)
    obtain rfl := AR gk
    exact mi kr ⟨bm, bx, bk, rfl, z5, cf⟩
   rintro e1 oo _ ⟨cd, dk, fk, rfl, fl, j8⟩
   refine AD _ fl ?_
   refine Ak (um ?_)
   obtain ⟨j9, ja⟩ := AV kl
   refine uv (FR rfl rfl j9) ?_
   refine ua (Aa ?_)
   exact le kr ⟨di, ab - 1, cd, dk, ja, (bj.trans fk), rfl, z5, j8⟩
  have jb := A1 et gq
  refine AS (Ae (Ae ?_))
  refine AA ?_
  obtain rfl := AR jb
  exact mi (kc (kc (kd kr))) ⟨bu, bw, bj, rfl, z3, dh⟩
 rintro e1 du _ ⟨bg, br, dd, rfl, fm, fo⟩
 refine AD _ fm ?_
 replace ai := ai.mono (Ax (Ab _)) dd
 replace ao := dd _ _ ao
 refine AP ?_
 refine uv (BC (v := .agg #[.int .i64 (-1), .int .i64 0]) rfl (by intro w; kernel_rfl)) ?_
 refine Br rfl zeroValue148 ?_; intro bh ll
 refine By (i := 0) sizeOf148 rfl rfl rfl (by simp [Value.oneCell']) rfl (CE rfl) (AK rfl ?_)
 refine ua (Aa ?_)
 obtain ⟨az, minute, jc, dv⟩ := CQ kb
 refine jE ([(bh, ce #[.int .i64 az, .int .i64 0] 148), (b9, ce #[.map (some b3)] 151), (b3, .map bg br)]) [(1, .int .i64 Bs), (9, .pointer (some ⟨b9, 0, none⟩)), (22, .pointer (some ⟨bh, 0, none⟩)), (23, .int .i64 minute)] ?_ ?_
 ·clear dv
  refine AP (uv (Al isAgg97 rfl (Has.own 3 rfl) rfl) (uv (AU rfl) (uv (Ad Gc rfl) (uv (Ad H8 rfl) (uv (Al isAgg36 rfl (Has.frozen ao) (Ed (Ay (A := ([.slice As walks.length Ar] : List Value)) (k := 1) (o := 0) rfl (Ck (B := ([.int .i64 Af] : List Value) ++ (([.int .i64 start] : List Value) ++ (([.slice Ai Ac.length Ah] : List Value) ++ (AG.flatMap (cI .i64) ++ (([.slice Bu AN.length Bt] : List Value) ++ (hit.flatMap (cI .i64))))))) rfl)))) (uv (A3 underlying36 rfl) ?_))))))
  refine um (Aa ?_)
  refine Am (kW (kc (kc (kc kn))) ?_)
  refine Bg (fun lq e1 F1 L1 => LA Ao lq fun lr k3 => ∃ (aj : Int) (al : Int), Cd ae lr k3 aj al = some (az, minute) ∧ du = F1 ∧ L1 = [(bh, ce #[.int .i64 aj, .int .i64 0] 148), (b9, ce #[.map (some b3)] 151), (b3, .map bg br)] ∧ e1.sub [(1, .int .i64 Bs), (9, .pointer (some ⟨b9, 0, none⟩)), (22, .pointer (some ⟨bh, 0, none⟩)), (23, .int .i64 al), (138, .int .i64 (Ao.length : Int)), (139, .int .i64 k3)]) _ (m0 kr ⟨_, _, rfl, BT.start _, -1, -1, jc, rfl, rfl, z6⟩) ?_
  rintro lq e1 _ _ ⟨lr, k3, de, bo, aj, al, cn, rfl, rfl, fp⟩
  refine AD _ fp (AP (uv (A8 rfl rfl) ?_))
  refine Aa (Aq ?_)
  refine cQ (fun ca => ?_) fun ca => ?_
  ·obtain ⟨x5, ph, rfl, lu, oq, df⟩ := BT.succ bo ca
   rw [Cd] at cn
   refine An (Aq ?_)
   refine Am ?_
   refine AP (um (ua (Cj ?_)))
   refine uv (Al isAgg151 rfl (Has.own 1 rfl) rfl) (um ?_)
   refine uv (BC (v := .agg #[.int .i64 k3, .int .i64 0]) rfl (by intro w; kernel_rfl)) ?_
   refine uv (E7.eq (v' := .tuple #[.agg #[.int .i64 (((AZ ae (k3, 0)).getD (0, 0, 0, 0, 0)).1), .int .i64 (((AZ ae (k3, 0)).getD (0, 0, 0, 0, 0)).2.1), .int .i64 (((AZ ae (k3, 0)).getD (0, 0, 0, 0, 0)).2.2.1), .int .i64 (((AZ ae (k3, 0)).getD (0, 0, 0, 0, 0)).2.2.2.1), .int .i64 (((AZ ae (k3, 0)).getD (0, 0, 0, 0, 0)).2.2.2.2)], .bool ((AZ ae (k3, 0)).isSome)]) (Lw (k := (k3, 0)) (z0 := (0, 0, 0, 0, 0)) rfl underlying151 LD zeroValue150 rfl rfl (Kw.own 2 rfl) (show Eb (vA (cP (cI .i64) (cI .i64))) (vA (cP (cI .i64) (cP (cI .i64) (cP (cI .i64) (cP (cI .i64) (cI .i64)))))) bg (ae : List ((Int × Int) × (Int × Int × Int × Int × Int))) from fo)) rfl) ?_
   refine um (ox rfl rfl rfl (ox rfl rfl rfl ?_))
   refine Br rfl zeroValue150 ?_; intro dw lv
   refine By (i := 0) sizeOf150 rfl rfl rfl (by simp [Value.oneCell']) rfl (CE rfl) (AK rfl ?_)
   refine ua (Aa ?_)
   obtain ⟨k4, fq, dx⟩ := AO cn
   refine jE ([(dw, ce #[.int .i64 (((AZ ae (k3, 0)).getD (0, 0, 0, 0, 0)).1), .int .i64 (((AZ ae (k3, 0)).getD (0, 0, 0, 0, 0)).2.1), .int .i64 (((AZ ae (k3, 0)).getD (0, 0, 0, 0, 0)).2.2.1), .int .i64 (((AZ ae (k3, 0)).getD (0, 0, 0, 0, 0)).2.2.2.1), .int .i64 (((AZ ae (k3, 0)).getD (0, 0, 0, 0, 0)).2.2.2.2)] 150), (bh, ce #[.int .i64 aj, .int .i64 0] 148), (b9, ce #[.map (some b3)] 151), (b3, .map bg br)]) [(1, .int .i64 Bs), (9, .pointer (some ⟨b9, 0, none⟩)), (22, .pointer (some ⟨bh, 0, none⟩)), (23, .int .i64 al), (24, .int .i64 k3), (25, .pointer (some ⟨dw, 0, none⟩)), (138, .int .i64 (Ao.length : Int)), (139, .int .i64 k3), (159, .bool k4)] ?_ ?_
   ·clear dx
    refine Ak (um (um ?_))
    rcases EL ((AZ ae (k3, 0)).isSome) with au | au
    ·have fs := bt fq au
     refine nB au (um (nB au ?_))
     refine uv (DY rfl rfl) ?_
     refine nB au (um ?_)
     by_cases bb : al = (-1)
     ·have jd := A2 fs bb
      refine fT bb (fT bb (fT bb (fT bb (nB au ?_))))
      refine uv (AQ (Bd rfl bb) rfl) (uv (AQ (KX rfl au) rfl) (Aa ?_))
      obtain rfl := AR jd
      exact mi kr ⟨rfl, rfl, (sc rfl z8)⟩
     have je := A1 fs bb
     refine nF bb (uv (Ad ME rfl) (nF bb (uv (Al isAgg3 rfl (Has.own 0 rfl) rfl) ?_)))
     refine nF bb (um (nF bb ?_))
     refine uv (A8 rfl rfl) (nB au (uv (AL (A4 rfl bb) rfl) (uv (AQ (KX rfl au) rfl) (Aa ?_))))
     obtain rfl := AR je
     exact mi kr ⟨rfl, rfl, (sc rfl z8)⟩
    have jf := bf fq au
    refine fB au (fB au (fB au (fU (fU (fU (fU (fB au ?_)))))))
    refine uv (AL (KX rfl au) rfl) (Aa ?_)
    obtain rfl := AR jf
    exact mi kr ⟨rfl, rfl, (sc rfl z8)⟩
   refine AY rfl (fun dy => ?_) (fun dy => ?_)
   ·have jg := bt dx dy
    refine C5 [(.still, 0), (.still, 1), (.still, 2), (.still, 3), (.seq, 4), (.seq, 5)] (by kernel_rfl) (by kernel_rfl) (trivial) (by rfl) (by kernel_rfl) (mS [24] rfl (Be rfl) ?_)
    refine mS (v := .agg #[.int .i64 k3, .int .i64 0]) [160] rfl (BC (v := .agg #[.int .i64 k3, .int .i64 0]) rfl (by intro w; kernel_rfl)) ?_
    refine mS [25] rfl (Ad ME rfl) (mL [162] ([(dw, ce #[.int .i64 (((AZ ae (k3, 0)).getD (0, 0, 0, 0, 0)).1), .int .i64 (((AZ ae (k3, 0)).getD (0, 0, 0, 0, 0)).2.1), .int .i64 (((AZ ae (k3, 0)).getD (0, 0, 0, 0, 0)).2.2.1), .int .i64 (((AZ ae (k3, 0)).getD (0, 0, 0, 0, 0)).2.2.2.1), .int .i64 (((AZ ae (k3, 0)).getD (0, 0, 0, 0, 0)).2.2.2.2)] 150)]) rfl (s0 (s2 (s1 (s1 (s1 sr))))) (fun H F' L' ot ou => Al isAgg3 rfl ((Has.own 0 rfl).ext ot ou) rfl) ?_)
    refine ⟨_, [(22, .pointer (some ⟨bh, 0, none⟩)), (161, .agg #[.int .i64 k3, .int .i64 0])], rfl, rfl, z2, by kernel_rfl, ?_⟩; intro H
    refine By (i := 1) sizeOf148 rfl rfl rfl (by simp [Value.oneCell']) rfl (CE rfl) (AK rfl ?_)
    refine Aa ⟨undef, rfl, AW.refl _, [3, 2], by kernel_rfl, .inl (.inr (fun d h => by cases h)), (fc (s0 (s2 (s1 (s1 (s1 sr))))) (fc sm nm)), ?_⟩
    refine ⟨_, [(163, .int .i64 (((AZ ae (k3, 0)).getD (0, 0, 0, 0, 0)).1))], rfl, rfl, z1, by kernel_rfl, ?_⟩; intro H
    obtain ⟨cp, jh, ji⟩ := CT jg
    refine uv ((DQ rfl).i jh) ?_
    refine Aa ⟨_, rfl, AW.refl _, [], by kernel_rfl, .inl (.inl rfl), nm, ?_⟩
    refine Ef ?_
    refine Az (id := 7) (Ak ?_)
    refine uv (A5 rfl rfl (BT.El bo ca (AF.lt ai))) ?_
    refine um (Aa ?_)
    subst de; exact le (kd kr) ⟨_, _, rfl, df, k3, cp, ji, rfl, rfl, z6⟩
   have jj := bf dx dy
   refine An (Az (id := 7) (Ak ?_))
   refine uv (A5 rfl rfl (BT.El bo ca (AF.lt ai))) ?_
   refine um (Aa ?_)
   subst de; exact le (kd kr) ⟨_, _, rfl, df, aj, al, jj, rfl, rfl, z6⟩
  obtain rfl := BT.zero bo ca
  rw [Cd] at cn
  refine AS (Ae (Ae ?_))
  refine AA ?_
  obtain ⟨rfl, rfl⟩ := CP cn
  exact mi kr ⟨rfl, rfl, z4⟩
 refine Aq (AP (um ?_))
 refine uv (DY rfl rfl) (Aa ?_)
 refine cQ (fun dz => ?_) fun dz => ?_
 ·have jk := A2 dv dz
  refine AP (ua (ua (ua (Aa ?_))))
  refine kW kn ?_
  refine Ap (Aj ?_)
  refine Ik results42 (AH rfl) (AH rfl) (AH rfl) (sr) ?_
  obtain ⟨rfl, rfl, rfl⟩ := Iz jk
  exact ⟨_, _, _, [], rfl, rfl, AT.nil _ _ _ _ _⟩
 have jl := A1 dv dz
 refine An (AP (ua (Aa ?_)))
 obtain ⟨out, jm, ft⟩ := AO jl
 refine AX (fun e1 F1 L1 => ∃ (e9 : Option Addr) (eg : Nat) (eh : Nat) (bp : LH), du = F1 ∧ L1 = (bp ++ []) ∧ e1.sub [(23, .int .i64 minute), (27, .slice e9 eg eh)] ∧ AT K.w0.heap.size 62 2 (B4 (iE .i64) (iE .i64)) F1 e9 eg eh out bp) ?_ ?_
 ·clear ft
  refine Am ?_
  refine Bg (fun gm e1 F1 L1 => ∃ (aa : Int) (ad : Int) (cq : List (Int × Int)) (cr : Option Addr) (ct : Nat) (cu : Nat) (bq : LH), Cx Bs ae gm aa ad cq = some out ∧ du = F1 ∧ L1 = ((bh, ce #[.int .i64 aa, .int .i64 ad] 148) :: ((b9, ce #[.map (some b3)] 151) :: ((b3, .map bg br) :: (bq ++ [])))) ∧ e1.sub [(1, .int .i64 Bs), (9, .pointer (some ⟨b9, 0, none⟩)), (22, .pointer (some ⟨bh, 0, none⟩)), (23, .int .i64 minute), (27, .slice cr ct cu)] ∧ AT K.w0.heap.size 62 2 (B4 (iE .i64) (iE .i64)) F1 cr ct cu cq bq) FU (m0 (kc (kc (kc (ke kr)))) ⟨az, 0, [], none, 0, 0, [], jm, rfl, rfl, z5, AT.nil _ _ _ _ _⟩) ?_
  rintro gm e1 _ _ ⟨aa, ad, cq, cr, ct, cu, bq, cb, rfl, rfl, fv, dg⟩
  refine AD _ fv ?_
  rcases gm with _ | gm
  ·rw [Cx] at cb; cases cb
  rw [Cx] at cb
  refine Aq (AP ?_)
  refine uv (Ad VC rfl) (uv (Al isAgg3 rfl (Has.own 0 rfl) rfl) (um (uv (B6 rfl rfl) (Aa ?_))))
  refine cQ (fun ej => ?_) fun ej => ?_
  ·have jn := A2 cb ej
   refine An (Am (AP (uv (Al isAgg151 rfl (Has.own 1 rfl) rfl) (uv (AM (cs := #[.int .i64 aa, .int .i64 ad]) isAgg148 sizeOf148 rfl (Has.own 0 rfl) (CE rfl) rfl) (uv (E7.eq (v' := .agg #[.int .i64 (((AZ ae (aa, ad)).getD (0, 0, 0, 0, 0)).1), .int .i64 (((AZ ae (aa, ad)).getD (0, 0, 0, 0, 0)).2.1), .int .i64 (((AZ ae (aa, ad)).getD (0, 0, 0, 0, 0)).2.2.1), .int .i64 (((AZ ae (aa, ad)).getD (0, 0, 0, 0, 0)).2.2.2.1), .int .i64 (((AZ ae (aa, ad)).getD (0, 0, 0, 0, 0)).2.2.2.2)]) (RY (k := (aa, ad)) (z0 := (0, 0, 0, 0, 0)) rfl underlying151 LD zeroValue150 rfl rfl (Kw.own 2 rfl) (show Eb (vA (cP (cI .i64) (cI .i64))) (vA (cP (cI .i64) (cP (cI .i64) (cP (cI .i64) (cP (cI .i64) (cI .i64)))))) bg (ae : List ((Int × Int) × (Int × Int × Int × Int × Int))) from fo)) rfl) ?_)))))
   refine Br rfl zeroValue150 ?_; intro ow lx
   refine By (i := 0) sizeOf150 rfl rfl rfl (by simp [Value.oneCell']) rfl (CE rfl) (AK rfl ?_)
   refine Cj (um ?_)
   refine uv (Ad Wb rfl) (uv (AM (cs := #[.int .i64 (((AZ ae (aa, ad)).getD (0, 0, 0, 0, 0)).2.1), .int .i64 (((AZ ae (aa, ad)).getD (0, 0, 0, 0, 0)).2.2.1)]) isAgg62 sizeOf62 rfl (Has.own 0 rfl) (CE rfl) rfl) ?_)
   refine bA (cs := #[.int .i64 (((AZ ae (aa, ad)).getD (0, 0, 0, 0, 0)).2.1), .int .i64 (((AZ ae (aa, ad)).getD (0, 0, 0, 0, 0)).2.2.1)]) VP [.agg #[.int .i64 (((AZ ae (aa, ad)).getD (0, 0, 0, 0, 0)).2.1), .int .i64 (((AZ ae (aa, ad)).getD (0, 0, 0, 0, 0)).2.2.1)]] ?_; intro oy ly
   obtain ⟨fw, jo, jq, jr⟩ := FQ jn
   refine EA (xs := cq) (ys := [(((AZ ae (aa, ad)).getD (0, 0, 0, 0, 0)).2.1, ((AZ ae (aa, ad)).getD (0, 0, 0, 0, 0)).2.2.1)]) (zs := fw) rfl VP rfl rfl (Nat.le_refl _) (fun _ => .c (.c (.c (.c (.c .h))))) dg (Gk.box (vss := [[.int .i64 (((AZ ae (aa, ad)).getD (0, 0, 0, 0, 0)).2.1), .int .i64 (((AZ ae (aa, ad)).getD (0, 0, 0, 0, 0)).2.2.1)]]) (ys := [(((AZ ae (aa, ad)).getD (0, 0, 0, 0, 0)).2.1, ((AZ ae (aa, ad)).getD (0, 0, 0, 0, 0)).2.2.1)]) 0 rfl (At (Ab _) (Ab _)) (.cons ⟨_, _, rfl, rfl, rfl⟩ .nil) rfl rfl) jo jq (by decide) ?_; intro js jt ju fx fy
   refine kO (kd kr) ?_
   refine ua (Aa (Ak ?_))
   refine uv (Ad UR rfl) (uv (AM (cs := #[.int .i64 (((AZ ae (aa, ad)).getD (0, 0, 0, 0, 0)).2.2.2.1), .int .i64 (((AZ ae (aa, ad)).getD (0, 0, 0, 0, 0)).2.2.2.2)]) isAgg148 sizeOf148 rfl (Has.own 0 rfl) (CE rfl) rfl) (By (i := 1) sizeOf148 rfl rfl rfl (by simp [Value.oneCell']) rfl (CE rfl) (AK rfl ?_)))
   refine Aa (Az (id := 9) ?_)
   exact le (kd kr) ⟨((AZ ae (aa, ad)).getD (0, 0, 0, 0, 0)).2.2.2.1, ((AZ ae (aa, ad)).getD (0, 0, 0, 0, 0)).2.2.2.2, fw, js, jt, ju, fx, jr, rfl, rfl, z5, fy⟩
  have jv := A1 cb ej
  refine AS (Ae (Ae ?_))
  refine AA ?_
  obtain rfl := AR jv
  exact mi (kd (kd (kd kr))) ⟨cr, ct, cu, bq, rfl, rfl, z2, dg⟩
 rintro e1 _ _ ⟨e9, eg, eh, bp, rfl, rfl, ga, gb⟩
 refine AD _ ga ?_
 refine AP (um ?_)
 obtain ⟨s_, jw, jx⟩ := AO ft
 refine Fy (Lb := bp ++ []) (Lr := []) rfl call83 rfl rfl rfl (pT pR (lp (ln rfl))) (G6 gb jw) ?_; rintro _ oz _ ma mb mc ⟨me, rfl, rfl, gg⟩
 refine AK (lp (ln rfl)) ?_
 refine Cj (um (um (ua (ua (ua (Aa (Ap ?_)))))))
 refine Ik results42 (AH rfl) (AH rfl) (AH rfl) (sr) ?_
 obtain ⟨rfl, rfl, rfl⟩ := Iz jx
 exact ⟨_, _, _, _, rfl, rfl, gg.any⟩
theorem HP (ab : F G4 = some (.cells ((([.slice As walks.length Ar] : List Value) ++ (([.slice Au Ao.length Av] : List Value) ++ (([.int .i64 Af] : List Value) ++ (([.int .i64 start] : List Value) ++ (([.slice Ai Ac.length Ah] : List Value) ++ (AG.flatMap (cI .i64) ++ (([.slice Bu AN.length Bt] : List Value) ++ (hit.flatMap (cI .i64))))))))).toArray) 113 KC)) (_h_walks : AF 1 (CD 1 (iE .i64)) F As Ar walks) (_h_hears : AF 1 (CD 1 (iE .i64)) F Au Av Ao) (_h_notices : AF 3 (B4 (CD 1 (iE .i64)) (B4 (iE .i64) (iE .i64))) F Ai Ah Ac) (aa : AG.length = 25) (_h_pairs : AF 2 (B4 (iE .i64) (iE .i64)) F Bu Bt AN) (_h_hit : hit.length = 15) {r : Int} (hr : EJ walks Ao Af start Ac AG AN hit = some r) :
    BG Tryz.prog 43 #[.pointer (some ⟨G4, 0, none⟩)] F (.int .i64 r) := by
 refine sp func43 ntmps43 fun K _ _ => ?_
 rw [EJ] at hr
 refine AP (ua (Cj (um ?_)))
 refine uv (AU rfl) (uv (Ad GA rfl) (uv (Al isAgg54 rfl (Has.frozen ab) (Ed (Ay (k := 1) (o := 29) rfl (Ay (k := 1) (o := 28) rfl (Ay (k := 1) (o := 27) rfl (Ay (k := 1) (o := 26) rfl (Ay (k := 1) (o := 25) rfl (Ay (k := 25) (o := 0) (IG (Bj .i64) aa) (Ck rfl))))))))) (uv (A3 underlying54 rfl) ?_)))
 obtain ⟨g1, r2⟩ := AV hr
 refine uv (Qg rfl rfl g1) ?_
 obtain ⟨g3, r4⟩ := AV r2
 refine uv (FR rfl rfl g3) ?_
 refine ua (Aa (Ap ?_))
 refine C9 results43 ?_
 obtain rfl := AR r4
 exact rfl
theorem Mi {Bx minute : Int} {ab : Nat} {ad : Nat × Nat} (ae : F ab = some (.cells #[.int .i64 last] 3 ad)) (ah : F G4 = some (.cells #[.pointer (some ⟨K6, 0, none⟩)] 97 KC)) (af : F K6 = some (.cells ((([.slice As walks.length Ar] : List Value) ++ (([.slice Au Ao.length Av] : List Value) ++ (([.int .i64 Af] : List Value) ++ (([.int .i64 start] : List Value) ++ (([.slice Ai Ac.length Ah] : List Value) ++ (AG.flatMap (cI .i64) ++ (([.slice Bu AN.length Bt] : List Value) ++ (hit.flatMap (cI .i64))))))))).toArray) 113 M1)) (_h_walks : AF 1 (CD 1 (iE .i64)) F As Ar walks) (_h_hears : AF 1 (CD 1 (iE .i64)) F Au Av Ao) (aa : AF 3 (B4 (CD 1 (iE .i64)) (B4 (iE .i64) (iE .i64))) F Ai Ah Ac) (_h_walks2 : AG.length = 25) (_h_pairs : AF 2 (B4 (iE .i64) (iE .i64)) F Bu Bt AN) (_h_hit : hit.length = 15) {r : Bool} (hr : DR Bx minute last walks Ao Af start Ac AG AN hit = some r) :
    BG Tryz.prog 88 #[.int .i64 Bx, .int .i64 minute, .pointer (some ⟨ab, 0, none⟩), .pointer (some ⟨G4, 0, none⟩)] F (.bool r) := by
 refine sp func88 ntmps88 fun K _ _ => ?_
 rw [DR] at hr
 refine AP (ua ?_)
 refine dN (wm (wv (Al isAgg3 rfl (Has.frozen ae) rfl) (wv (Al isAgg97 rfl (Has.frozen ah) rfl) (wv (AU rfl) (wv (Ad Gc rfl) (wv (Ad Fj rfl) (wv (Al isAgg37 rfl (Has.frozen af) (Ed (Ay (k := 1) (o := 3) rfl (Ay (k := 1) (o := 2) rfl (Ay (k := 1) (o := 1) rfl (Ay (k := 1) (o := 0) rfl (Ck rfl))))))) ?_)))))))
 refine wm ?_
 obtain ⟨x, g1, ak, r3⟩ := BH hr
 obtain ⟨b4, o5, c6, ar, al, ao, aj, ⟨_, _, rfl, ⟨au, av, rfl, aw⟩, ⟨_, _, rfl, rfl, rfl⟩⟩, aq, ai⟩ := AF.at (At (Ax (Ab _)) (At (Ab _) (Ab _))) aa ([]) g1.1 ak
 refine wv (AI underlying37 sizeOf48 rfl al rfl g1) (wv (Ad LB rfl) (wv (Al isAgg3 rfl ao (ai 2 (by decide))) (wv (SZ rfl rfl) (wv (Lm rfl rfl) ?_))))
 refine wa (Df (Ap ?_))
 refine C9 results88 ?_
 obtain rfl := AR r3
 exact rfl
set_option maxHeartbeats 1000000 in
theorem J6 (af : F G4 = some (.cells ((([.slice As walks.length Ar] : List Value) ++ (([.slice Au Ao.length Av] : List Value) ++ (([.int .i64 Af] : List Value) ++ (([.int .i64 start] : List Value) ++ (([.slice Ai Ac.length Ah] : List Value) ++ (AG.flatMap (cI .i64) ++ (([.slice Bu AN.length Bt] : List Value) ++ (hit.flatMap (cI .i64))))))))).toArray) 113 KC)) (ab : AF 1 (CD 1 (iE .i64)) F As Ar walks) (ad : AF 1 (CD 1 (iE .i64)) F Au Av Ao) (aa : AF 3 (B4 (CD 1 (iE .i64)) (B4 (iE .i64) (iE .i64))) F Ai Ah Ac) (ah : AG.length = 25) (ae : AF 2 (B4 (iE .i64) (iE .i64)) F Bu Bt AN) (aj : hit.length = 15) {r : (Int × Int) → Option Bool} (hr : GN walks Ao Af start Ac AG AN hit last = some r) :
    SH.Spec Tryz.prog 54 #[.pointer (some ⟨G4, 0, none⟩), .int .i64 last] F [] fun F' L' v => ∃ (ar : FuncId) (au : Array Value) (av : Array Value), v = .agg #[.func (.func ar) au av] ∧ L' = [] ∧ KM Tryz.prog F' ar au av (B4 (iE .i64) (iE .i64)) Value.bool r := by
 refine sp func54 ntmps54 fun K _ _ => ?_
 rw [GN] at hr
 refine AP ?_
 refine BK rfl rfl ?_; intro b1 aw
 refine BK rfl rfl ?_; intro b2 ax
 refine Br rfl zeroValue105 ?_; intro b3 az
 refine Cj (uv (DO rfl rfl) ?_)
 refine uv (BC (v := .agg (#[.func (.func 88) #[] #[.pointer (some ⟨b2, 0, none⟩), .pointer (some ⟨b1, 0, none⟩)]])) rfl (by intro w; kernel_rfl)) ?_
 refine By (i := 0) sizeOf105 rfl rfl rfl (by simp [Value.oneCell']) rfl (CE rfl) (AK rfl (Aa ?_))
 refine DL 1 rfl ax ?_; intro F4 ak al
 refine Gv (L' := [(b3, ce (#[.func (.func 88) #[] #[.pointer (some ⟨b2, 0, none⟩), .pointer (some ⟨b1, 0, none⟩)]]) 105), (b1, ce #[.pointer (some ⟨G4, 0, none⟩)] 97)]) rfl ?_
 replace ab := ab.mono (Ax (Ab _)) ak
 replace ad := ad.mono (Ax (Ab _)) ak
 replace aa := aa.mono (At (Ax (Ab _)) (At (Ab _) (Ab _))) ak
 replace ae := ae.mono (At (Ab _) (Ab _)) ak
 replace af := ak _ _ af
 refine DL 1 rfl aw ?_; intro F7 ai ay
 refine Gv (L' := [(b3, ce (#[.func (.func 88) #[] #[.pointer (some ⟨b2, 0, none⟩), .pointer (some ⟨b1, 0, none⟩)]]) 105)]) rfl ?_
 replace ab := ab.mono (Ax (Ab _)) ai
 replace ad := ad.mono (Ax (Ab _)) ai
 replace aa := aa.mono (At (Ax (Ab _)) (At (Ab _) (Ab _))) ai
 replace ae := ae.mono (At (Ab _) (Ab _)) ai
 replace af := ai _ _ af
 replace al := ai _ _ al
 have ao : KM Tryz.prog F7 88 #[] #[.pointer (some ⟨b2, 0, none⟩), .pointer (some ⟨b1, 0, none⟩)] (B4 (iE .i64) (iE .i64)) Value.bool (fun aq : Int × Int => DR aq.1 aq.2 last walks Ao Af start Ac AG AN hit) := ⟨call88, fun F2 h2 vs aq r ha hr => by obtain ⟨_, _, rfl, rfl, rfl⟩ := ha; exact Mi (h2 _ _ al) (h2 _ _ ay) (h2 _ _ af) (ab.mono (Ax (Ab _)) h2) (ad.mono (Ax (Ab _)) h2) (aa.mono (At (Ax (Ab _)) (At (Ab _) (Ab _))) h2) ah (ae.mono (At (Ab _) (Ab _)) h2) aj hr⟩
 refine Ap (K9 results54 (Gn (cs := #[.func (.func 88) #[] #[.pointer (some ⟨b2, 0, none⟩), .pointer (some ⟨b1, 0, none⟩)]]) isAgg105 sizeOf105 rfl (Has.own 0 rfl) (CE rfl) rfl) (s1 sr) ?_)
 obtain rfl := AR hr
 exact ⟨_, _, _, rfl, rfl, ao⟩
theorem G3 (aj : F G4 = some (.cells ((([.slice As walks.length Ar] : List Value) ++ (([.slice Au Ao.length Av] : List Value) ++ (([.int .i64 Af] : List Value) ++ (([.int .i64 start] : List Value) ++ (([.slice Ai Ac.length Ah] : List Value) ++ (AG.flatMap (cI .i64) ++ (([.slice Bu AN.length Bt] : List Value) ++ (hit.flatMap (cI .i64))))))))).toArray) 113 KC)) (ad : AF 1 (CD 1 (iE .i64)) F As Ar walks) (ae : AF 1 (CD 1 (iE .i64)) F Au Av Ao) (aa : AF 3 (B4 (CD 1 (iE .i64)) (B4 (iE .i64) (iE .i64))) F Ai Ah Ac) (ab : AG.length = 25) (af : AF 2 (B4 (iE .i64) (iE .i64)) F Bu Bt AN) (ah : hit.length = 15) {r : (Int × Int) → Option Bool} (hr : ED walks Ao Af start Ac AG AN hit = some r) :
    SH.Spec Tryz.prog 44 #[.pointer (some ⟨G4, 0, none⟩)] F [] fun F' L' v => ∃ (al : FuncId) (ao : Array Value) (aq : Array Value), v = .agg #[.func (.func al) ao aq] ∧ L' = [] ∧ KM Tryz.prog F' al ao aq (B4 (iE .i64) (iE .i64)) Value.bool r := by
 refine sp func44 ntmps44 fun K _ _ => ?_
 rw [ED] at hr
 refine AP ?_
 refine Br rfl zeroValue105 ?_; intro b1 av
 refine Cj (um ?_)
 obtain ⟨y, h2, r3⟩ := AO hr
 refine c0 call54 (J6 aj ad ae aa ab af ah h2) ?_; rintro _ F4 _ aw ax ⟨ar, au, ak, rfl, rfl, ai⟩
 refine AK (ln rfl) (By (i := 0) sizeOf105 rfl rfl rfl (by simp [Value.oneCell']) rfl (CE rfl) (AK rfl ?_))
 refine Aa (Ap ?_)
 refine K9 results44 (Gn (cs := #[.func (.func ar) au ak]) isAgg105 sizeOf105 rfl (Has.own 0 rfl) (CE rfl) rfl) (s1 sr) ?_
 obtain rfl := AR r3
 exact ⟨_, _, _, rfl, rfl, ai⟩
set_option maxHeartbeats 1000000 in
theorem ML (af : AF 1 (CD 1 (iE .i64)) F As Ar walks) (ah : AF 1 (CD 1 (iE .i64)) F Au Av Ao) (ab : AF 3 (B4 (CD 1 (iE .i64)) (B4 (iE .i64) (iE .i64))) F Ai Ah Ac) {r : List (Int × Int)} {r2 r3 : Int} (hr : Hw walks Ao Af start Ac = some (r, r2, r3)) :
    SH.Spec Tryz.prog 15 #[.agg #[.slice As walks.length Ar, .slice Au Ao.length Av, .int .i64 Af, .int .i64 start, .slice Ai Ac.length Ah]] F [] fun F' L' v => ∃ (ra : Option Addr) (rn : Nat) (rc : Nat) (rL : LH), v = .tuple #[.slice ra rn rc, .int .i64 r2, .int .i64 r3] ∧ L' = rL ++ [] ∧ AT 0 62 2 (B4 (iE .i64) (iE .i64)) F' ra rn rc r rL := by
 refine sp func15 ntmps15 fun K _ _ => ?_
 rw [Hw] at hr
 refine AP ?_
 refine BK rfl rfl ?_; intro b1 cx
 refine ua (ua (ua (Cj ?_)))
 refine uv (AM isAgg39 sizeOf39 rfl (Has.own 0 rfl) (CE rfl) rfl) ?_
 obtain ⟨d, n, h2, r4⟩ := CQ hr
 refine c0 call41 (D0 af ah ab h2) ?_; rintro _ F5 _ cy cz ⟨v9, rfl, rfl, ax⟩
 refine AK (ln rfl) ?_
 refine um (ox rfl rfl rfl (ox rfl rfl rfl (ua (ua (Aa (Aq (AP (um ?_))))))))
 refine uv (B6 rfl rfl) (Aa ?_)
 refine cQ (fun ay => ?_) fun ay => ?_
 ·have bk := A2 r4 ay
  refine AP (um (ua (ua (ua (Aa ?_)))))
  refine kW kn ?_
  refine Ap (Aj ?_)
  refine Ik results15 (AH rfl) (AH rfl) (AH rfl) (sr) ?_
  obtain ⟨rfl, rfl, rfl⟩ := Iz bk
  exact ⟨_, _, _, [], rfl, rfl, AT.nil _ _ _ _ _⟩
 have bl := A1 r4 ay
 refine An (AP (um (um ?_)))
 obtain ⟨AG, aj, ai, ak, ad, al, AN, hit, bm, bn⟩ := MT bl
 have bh := ax; rw [bm] at bh; obtain ⟨bo, da, bp, az, aa, ⟨_, _, rfl, ⟨bq, br, rfl, aq⟩, ⟨_, _, rfl, ⟨bu, bw, rfl, ar⟩, ⟨_, _, rfl, rfl, ⟨_, _, rfl, rfl, ⟨_, _, rfl, ⟨bx, bz, rfl, au⟩, ⟨_, _, rfl, ⟨rfl, ba⟩, ⟨_, _, rfl, ⟨ca, cb, rfl, av⟩, ⟨rfl, bb⟩⟩⟩⟩⟩⟩⟩⟩⟩ := bh; subst az
 have aa : F5 bo = some (.cells ((([.slice bq AG.length br] : List Value) ++ (([.slice bu aj.length bw] : List Value) ++ (([.int .i64 ai] : List Value) ++ (([.int .i64 ak] : List Value) ++ (([.slice bx ad.length bz] : List Value) ++ (al.flatMap (cI .i64) ++ (([.slice ca AN.length cb] : List Value) ++ (hit.flatMap (cI .i64))))))))).toArray) 113 bp) := aa
 obtain ⟨n2, cc, cd⟩ := AO bn
 refine cV call43 (HP aa aq ar au ba av bb cc) (um ?_)
 obtain ⟨y, cf, cg⟩ := AO cd
 refine c0 call44 (G3 aa aq ar au ba av bb cf) ?_; rintro _ db _ ae cj ⟨cn, cp, cq, rfl, rfl, aw⟩
 replace aq := aq.mono (Ax (Ab _)) ae
 replace ar := ar.mono (Ax (Ab _)) ae
 replace au := au.mono (At (Ax (Ab _)) (At (Ab _) (Ab _))) ae
 replace av := av.mono (At (Ab _) (Ab _)) ae
 replace aa := ae _ _ aa
 refine AK (ln rfl) ?_
 obtain ⟨l, n3, ok, cr, bj⟩ := EZ cg
 refine c0 call42 (Ea aa aq ar au ba av bb aw cr) ?_; rintro _ dd _ ct bc ⟨de, df, dg, cu, rfl, rfl, ao⟩
 replace ao := ao.new fun p hp => bc p (by simp [hp])
 refine AK (lp (ln rfl)) (kO (kf (fS fO) kr) ?_)
 refine um (ox rfl rfl rfl (ox rfl rfl rfl (ox rfl rfl rfl (ua (ua (ua (Aa (Aq (AP ?_)))))))))
 refine um (uv (CI rfl) (Aa ?_))
 refine AY rfl (fun bg => ?_) (fun bg => ?_)
 ·have cv := bt bj bg
  refine AP (ua (ua (ua (Aa ?_))))
  refine kW kn ?_
  refine Ap (Aj ?_)
  refine Ik results15 (AH rfl) (AH rfl) (AH rfl) (sr) ?_
  obtain ⟨rfl, rfl, rfl⟩ := Iz cv
  exact ⟨_, _, _, [], rfl, rfl, AT.nil _ _ _ _ _⟩
 have cw := bf bj bg
 refine An (AP (um (um (ua (ua (ua (Aa ?_)))))))
 refine kW (kd kr) (Ap (Ik results15 (AH rfl) (AH rfl) (AH rfl) (sr) ?_))
 obtain ⟨rfl, rfl, rfl⟩ := Iz cw
 exact ⟨_, _, _, _, rfl, rfl, ao.any⟩
set_option maxHeartbeats 1000000 in
theorem DZ {r r2 : List (List Int)} {r3 : Int} {r5 : List ((List Int) × Int × Int)} (hr : DH = some (r, r2, r3, r4, r5)) :
    SH.Spec Tryz.prog 22 #[] F [] fun F' L' v => ∃ (ra : Option Addr) (rn : Nat) (rc : Nat) (rL : LH) (bq : Option Addr) (br : Nat) (bu : Nat) (bw : LH) (bx : Option Addr) (bz : Nat) (ca : Nat) (cb : LH), v = .agg #[.slice ra rn rc, .slice bq br bu, .int .i64 r3, .int .i64 r4, .slice bx bz ca] ∧ L' = rL ++ (bw ++ (cb ++ [])) ∧ AT 0 33 1 (CD 1 (iE .i64)) F' ra rn rc r rL ∧ AT 0 33 1 (CD 1 (iE .i64)) F' bq br bu r2 bw ∧ AT 0 48 3 (B4 (CD 1 (iE .i64)) (B4 (iE .i64) (iE .i64))) F' bx bz ca r5 cb := by
 refine sp func22 ntmps22 fun K _ _ => ?_
 rw [DH] at hr
 refine AP ?_
 refine Br rfl zeroValue39 ?_; intro b1 df
 refine Cj ?_
 refine bA (cs := #[.int .i64 0, .int .i64 2, .int .i64 (-1)]) BX [.int .i64 0, .int .i64 2, .int .i64 (-1)] ?_; intro b2 cg
 refine bA (cs := #[.int .i64 2, .int .i64 0, .int .i64 2]) BX [.int .i64 2, .int .i64 0, .int .i64 2] ?_; intro b3 cj
 refine bA (cs := #[.int .i64 (-1), .int .i64 2, .int .i64 0]) BX [.int .i64 (-1), .int .i64 2, .int .i64 0] ?_; intro b4 cn
 refine bA (cs := #[.slice (some ⟨b2, 0, none⟩) 3 3, .slice (some ⟨b3, 0, none⟩) 3 3, .slice (some ⟨b4, 0, none⟩) 3 3]) Lx [.slice (some ⟨b2, 0, none⟩) 3 3, .slice (some ⟨b3, 0, none⟩) 3 3, .slice (some ⟨b4, 0, none⟩) 3 3] ?_; intro b5 cp
 refine bA (cs := #[.int .i64 0]) BX [.int .i64 0] ?_; intro b6 cq
 refine bA (cs := #[.int .i64 1]) BX [.int .i64 1] ?_; intro b7 cr
 refine bA (cs := #[.int .i64 1, .int .i64 2]) BX [.int .i64 1, .int .i64 2] ?_; intro b8 ct
 refine bA (cs := #[.slice (some ⟨b6, 0, none⟩) 1 1, .slice (some ⟨b7, 0, none⟩) 1 1, .slice (some ⟨b8, 0, none⟩) 2 2]) Lx [.slice (some ⟨b6, 0, none⟩) 1 1, .slice (some ⟨b7, 0, none⟩) 1 1, .slice (some ⟨b8, 0, none⟩) 2 2] ?_; intro b9 cu
 refine bA (cs := #[.int .i64 0, .int .i64 2]) BX [.int .i64 0, .int .i64 2] ?_; intro HI aw
 refine uv (BC (v := .agg #[.slice (some ⟨HI, 0, none⟩) 2 2, .int .i64 3, .int .i64 12]) rfl (by intro w; kernel_rfl)) ?_
 refine bA (cs := #[.int .i64 1]) BX [.int .i64 1] ?_; intro N9 ax
 refine uv (BC (v := .agg #[.slice (some ⟨N9, 0, none⟩) 1 1, .int .i64 1, .int .i64 20]) rfl (by intro w; kernel_rfl)) ?_
 refine bA (cs := #[.slice (some ⟨HI, 0, none⟩) 2 2, .int .i64 3, .int .i64 12, .slice (some ⟨N9, 0, none⟩) 1 1, .int .i64 1, .int .i64 20]) We [.agg #[.slice (some ⟨HI, 0, none⟩) 2 2, .int .i64 3, .int .i64 12], .agg #[.slice (some ⟨N9, 0, none⟩) 1 1, .int .i64 1, .int .i64 20]] ?_; intro Tx ay
 refine uv (BC (v := .agg #[.slice (some ⟨b5, 0, none⟩) 3 3, .slice (some ⟨b9, 0, none⟩) 3 3, .int .i64 3, .int .i64 0, .slice (some ⟨Tx, 0, none⟩) 2 2]) rfl (by intro w; kernel_rfl)) ?_
 refine BP 10 rfl cg ?_; intro cv cw az
 refine AK rfl ?_
 have ak : AF 1 (iE .i64) cv (some ⟨b2, 0, none⟩) 3 [0, 2, -1] := AF.CV (Ab _) (vss := [[.int .i64 0], [.int .i64 2], [.int .i64 (-1)]]) (xs := [0, 2, -1]) az (.cons rfl (.cons rfl (.cons rfl .nil))) rfl (by simp [maxLen])
 refine BP 9 rfl cj ?_; intro cx ba bb
 refine AK rfl ?_
 replace ak := ak.mono (Ab _) ba
 have bc : AF 1 (iE .i64) cx (some ⟨b3, 0, none⟩) 3 [2, 0, 2] := AF.CV (Ab _) (vss := [[.int .i64 2], [.int .i64 0], [.int .i64 2]]) (xs := [2, 0, 2]) bb (.cons rfl (.cons rfl (.cons rfl .nil))) rfl (by simp [maxLen])
 refine BP 8 rfl cn ?_; intro cc al bg
 refine AK rfl ?_
 replace ak := ak.mono (Ab _) al
 replace bc := bc.mono (Ab _) al
 have cy : AF 1 (iE .i64) cc (some ⟨b4, 0, none⟩) 3 [-1, 2, 0] := AF.CV (Ab _) (vss := [[.int .i64 (-1)], [.int .i64 2], [.int .i64 0]]) (xs := [-1, 2, 0]) bg (.cons rfl (.cons rfl (.cons rfl .nil))) rfl (by simp [maxLen])
 have aa : AT K.w0.heap.size 33 1 (CD 1 (iE .i64)) cc (some ⟨b5, 0, none⟩) 3 3 [[0, 2, -1], [2, 0, 2], [-1, 2, 0]] [(b5, ce (#[.slice (some ⟨b2, 0, none⟩) [0, 2, -1].length 3, .slice (some ⟨b3, 0, none⟩) [2, 0, 2].length 3, .slice (some ⟨b4, 0, none⟩) [-1, 2, 0].length 3]) 33)] := AT.CV (vss := [[.slice (some ⟨b2, 0, none⟩) [0, 2, -1].length 3], [.slice (some ⟨b3, 0, none⟩) [2, 0, 2].length 3], [.slice (some ⟨b4, 0, none⟩) [-1, 2, 0].length 3]]) (Ax (Ab _)) cp (.cons ⟨_, _, rfl, ak⟩ (.cons ⟨_, _, rfl, bc⟩ (.cons ⟨_, _, rfl, cy⟩ .nil))) rfl rfl (by simp [maxLen])
 generalize ae : ([(b5, ce (#[.slice (some ⟨b2, 0, none⟩) [0, 2, -1].length 3, .slice (some ⟨b3, 0, none⟩) [2, 0, 2].length 3, .slice (some ⟨b4, 0, none⟩) [-1, 2, 0].length 3]) 33)] : LH) = Lb25 at aa
 refine Dl (L' := Lb25 ++ [(Tx, ce #[.slice (some ⟨HI, 0, none⟩) 2 2, .int .i64 3, .int .i64 12, .slice (some ⟨N9, 0, none⟩) 1 1, .int .i64 1, .int .i64 20] 48), (N9, ce #[.int .i64 1] 3), (HI, ce #[.int .i64 0, .int .i64 2] 3), (b9, ce #[.slice (some ⟨b6, 0, none⟩) 1 1, .slice (some ⟨b7, 0, none⟩) 1 1, .slice (some ⟨b8, 0, none⟩) 2 2] 33), (b8, ce #[.int .i64 1, .int .i64 2] 3), (b7, ce #[.int .i64 1] 3), (b6, ce #[.int .i64 0] 3), (b1, ce #[.slice none 0 0, .slice none 0 0, .int .i64 0, .int .i64 0, .slice none 0 0] 39)]) (by rw [← ae]; exact (fC (fC (fC (fC (fC (fC (fC fO)))))))) ?_
 refine Dl (L' := (Tx, ce #[.slice (some ⟨HI, 0, none⟩) 2 2, .int .i64 3, .int .i64 12, .slice (some ⟨N9, 0, none⟩) 1 1, .int .i64 1, .int .i64 20] 48) :: ((N9, ce #[.int .i64 1] 3) :: ((HI, ce #[.int .i64 0, .int .i64 2] 3) :: ((b9, ce #[.slice (some ⟨b6, 0, none⟩) 1 1, .slice (some ⟨b7, 0, none⟩) 1 1, .slice (some ⟨b8, 0, none⟩) 2 2] 33) :: ((b8, ce #[.int .i64 1, .int .i64 2] 3) :: ((b7, ce #[.int .i64 1] 3) :: ((b6, ce #[.int .i64 0] 3) :: ((b1, ce #[.slice none 0 0, .slice none 0 0, .int .i64 0, .int .i64 0, .slice none 0 0] 39) :: (Lb25 ++ []))))))))) (List.Perm.symm (fC (fC (fC (fC (fC (fC (fC (fC fP))))))))) ?_
 refine BP 6 rfl cq ?_; intro cz bh bj
 refine AK rfl ?_
 replace aa := aa.mono (Ax (Ab _)) bh
 have ao : AF 1 (iE .i64) cz (some ⟨b6, 0, none⟩) 1 [0] := AF.CV (Ab _) (vss := [[.int .i64 0]]) (xs := [0]) bj (.cons rfl .nil) rfl (by simp [maxLen])
 refine BP 5 rfl cr ?_; intro da aq bk
 refine AK rfl ?_
 replace ao := ao.mono (Ab _) aq
 replace aa := aa.mono (Ax (Ab _)) aq
 have bl : AF 1 (iE .i64) da (some ⟨b7, 0, none⟩) 1 [1] := AF.CV (Ab _) (vss := [[.int .i64 1]]) (xs := [1]) bk (.cons rfl .nil) rfl (by simp [maxLen])
 refine BP 4 rfl ct ?_; intro cd af bm
 refine AK rfl ?_
 replace ao := ao.mono (Ab _) af
 replace bl := bl.mono (Ab _) af
 replace aa := aa.mono (Ax (Ab _)) af
 have db : AF 1 (iE .i64) cd (some ⟨b8, 0, none⟩) 2 [1, 2] := AF.CV (Ab _) (vss := [[.int .i64 1], [.int .i64 2]]) (xs := [1, 2]) bm (.cons rfl (.cons rfl .nil)) rfl (by simp [maxLen])
 have ab : AT K.w0.heap.size 33 1 (CD 1 (iE .i64)) cd (some ⟨b9, 0, none⟩) 3 3 [[0], [1], [1, 2]] [(b9, ce (#[.slice (some ⟨b6, 0, none⟩) [0].length 1, .slice (some ⟨b7, 0, none⟩) [1].length 1, .slice (some ⟨b8, 0, none⟩) [1, 2].length 2]) 33)] := AT.CV (vss := [[.slice (some ⟨b6, 0, none⟩) [0].length 1], [.slice (some ⟨b7, 0, none⟩) [1].length 1], [.slice (some ⟨b8, 0, none⟩) [1, 2].length 2]]) (Ax (Ab _)) cu (.cons ⟨_, _, rfl, ao⟩ (.cons ⟨_, _, rfl, bl⟩ (.cons ⟨_, _, rfl, db⟩ .nil))) rfl rfl (by simp [maxLen])
 generalize ah : ([(b9, ce (#[.slice (some ⟨b6, 0, none⟩) [0].length 1, .slice (some ⟨b7, 0, none⟩) [1].length 1, .slice (some ⟨b8, 0, none⟩) [1, 2].length 2]) 33)] : LH) = ad at ab
 refine Dl (L' := ad ++ ((Tx, ce #[.slice (some ⟨HI, 0, none⟩) 2 2, .int .i64 3, .int .i64 12, .slice (some ⟨N9, 0, none⟩) 1 1, .int .i64 1, .int .i64 20] 48) :: ((N9, ce #[.int .i64 1] 3) :: ((HI, ce #[.int .i64 0, .int .i64 2] 3) :: ((b1, ce #[.slice none 0 0, .slice none 0 0, .int .i64 0, .int .i64 0, .slice none 0 0] 39) :: (Lb25 ++ [])))))) (by rw [← ah]; exact (fC (fC (fC fO)))) ?_
 refine Dl (L' := (Tx, ce #[.slice (some ⟨HI, 0, none⟩) 2 2, .int .i64 3, .int .i64 12, .slice (some ⟨N9, 0, none⟩) 1 1, .int .i64 1, .int .i64 20] 48) :: ((N9, ce #[.int .i64 1] 3) :: ((HI, ce #[.int .i64 0, .int .i64 2] 3) :: ((b1, ce #[.slice none 0 0, .slice none 0 0, .int .i64 0, .int .i64 0, .slice none 0 0] 39) :: (ad ++ (Lb25 ++ [])))))) (List.Perm.symm (fC (fC (fC (fC fP))))) ?_
 refine BP 2 rfl aw ?_; intro dd ar bn
 refine AK rfl ?_
 replace aa := aa.mono (Ax (Ab _)) ar
 replace ab := ab.mono (Ax (Ab _)) ar
 have bo : AF 1 (iE .i64) dd (some ⟨HI, 0, none⟩) 2 [0, 2] := AF.CV (Ab _) (vss := [[.int .i64 0], [.int .i64 2]]) (xs := [0, 2]) bn (.cons rfl (.cons rfl .nil)) rfl (by simp [maxLen])
 refine BP 1 rfl ax ?_; intro cf ai bp
 refine AK rfl ?_
 replace bo := bo.mono (Ab _) ai
 replace aa := aa.mono (Ax (Ab _)) ai
 replace ab := ab.mono (Ax (Ab _)) ai
 have de : AF 1 (iE .i64) cf (some ⟨N9, 0, none⟩) 1 [1] := AF.CV (Ab _) (vss := [[.int .i64 1]]) (xs := [1]) bp (.cons rfl .nil) rfl (by simp [maxLen])
 have au : AT K.w0.heap.size 48 3 (B4 (CD 1 (iE .i64)) (B4 (iE .i64) (iE .i64))) cf (some ⟨Tx, 0, none⟩) 2 2 [([0, 2], 3, 12), ([1], 1, 20)] [(Tx, ce (#[.slice (some ⟨HI, 0, none⟩) [0, 2].length 2, .int .i64 3, .int .i64 12, .slice (some ⟨N9, 0, none⟩) [1].length 1, .int .i64 1, .int .i64 20]) 48)] := AT.CV (vss := [[.slice (some ⟨HI, 0, none⟩) [0, 2].length 2, .int .i64 3, .int .i64 12], [.slice (some ⟨N9, 0, none⟩) [1].length 1, .int .i64 1, .int .i64 20]]) (At (Ax (Ab _)) (At (Ab _) (Ab _))) ay (.cons ⟨_, _, rfl, ⟨_, _, rfl, bo⟩, ⟨_, _, rfl, rfl, rfl⟩⟩ (.cons ⟨_, _, rfl, ⟨_, _, rfl, de⟩, ⟨_, _, rfl, rfl, rfl⟩⟩ .nil)) rfl rfl (by simp [maxLen])
 generalize aj : ([(Tx, ce (#[.slice (some ⟨HI, 0, none⟩) [0, 2].length 2, .int .i64 3, .int .i64 12, .slice (some ⟨N9, 0, none⟩) [1].length 1, .int .i64 1, .int .i64 20]) 48)] : LH) = av at au
 refine Dl (L' := av ++ ((b1, ce #[.slice none 0 0, .slice none 0 0, .int .i64 0, .int .i64 0, .slice none 0 0] 39) :: (ad ++ (Lb25 ++ [])))) (by rw [← aj]; exact fO) ?_
 refine Dl (L' := (b1, ce #[.slice none 0 0, .slice none 0 0, .int .i64 0, .int .i64 0, .slice none 0 0] 39) :: (av ++ (ad ++ (Lb25 ++ [])))) (List.Perm.symm (fC fP)) (By (i := 0) sizeOf39 rfl rfl rfl (by simp [Value.oneCell']) rfl (CE rfl) (AK rfl (Aa (kW (kc (kg (fS (fS fP)) (kg (fS fP) kr))) (Ap (K9 results22 (Gn (cs := #[.slice (some ⟨b5, 0, none⟩) 3 3, .slice (some ⟨b9, 0, none⟩) 3 3, .int .i64 3, .int .i64 0, .slice (some ⟨Tx, 0, none⟩) 2 2]) isAgg39 sizeOf39 rfl (Has.own 0 rfl) (CE rfl) rfl) (s1 (s4 (s4 (s4 sr)))) ?_))))))
 obtain ⟨rfl, rfl, rfl, rfl, rfl⟩ := YO hr
 exact ⟨_, _, _, _, _, _, _, _, _, _, _, _, rfl, rfl, aa.any, ab.any, au.any⟩
theorem IL (_h_walks : AF 1 (CD 1 (iE .i64)) F As Ar walks) (_h_hears : AF 1 (CD 1 (iE .i64)) F Au Av Ao) (_h_notices : AF 3 (B4 (CD 1 (iE .i64)) (B4 (iE .i64) (iE .i64))) F Ai Ah Ac) {r : Bool} (hr : Gs walks Ao Af start Ac n = some r) :
    BG Tryz.prog 58 #[.agg #[.slice As walks.length Ar, .slice Au Ao.length Av, .int .i64 Af, .int .i64 start, .slice Ai Ac.length Ah], .int .i64 n] F (.bool r) := by
 refine sp func58 ntmps58 fun K _ _ => ?_
 rw [Gs] at hr
 refine AP ?_
 refine BK rfl rfl ?_; intro b1 aa
 refine ua (Cj (um ?_))
 refine uv (Ad Fj rfl) (uv (Al isAgg37 rfl (Has.own 0 rfl) rfl) (uv (A3 underlying37 rfl) ?_))
 obtain ⟨g2, r3⟩ := AV hr
 refine uv (FR rfl rfl g2) ?_
 obtain ⟨ok, h4, r5⟩ := AO r3
 refine cV call45 (EG h4) ?_
 refine ua (Aa ?_)
 refine kW kn (Ap (C9 results58 ?_))
 obtain rfl := AR r5
 exact rfl
set_option maxHeartbeats 1000000 in
theorem Ql {Gt : Option Addr} {Gr : Nat} {round : List (Int × Int)} (ab : AF 1 (CD 1 (iE .i64)) F As Ar walks) (ad : AF 1 (CD 1 (iE .i64)) F Au Av Ao) (aa : AF 3 (B4 (CD 1 (iE .i64)) (B4 (iE .i64) (iE .i64))) F Ai Ah Ac) (ae : AF 2 (B4 (iE .i64) (iE .i64)) F Gt Gr round) {r : Option ((List (List Int)) × (List (List Int)) × Int × Int × (List ((List Int) × Int × Int)) × (List Int) × (List (Int × Int)) × (List Int))} {r2 : List Int} {r3 : Int} (hr : Mp walks Ao Af start Ac round = some (r, r2, r3)) :
    SH.Spec Tryz.prog 86 #[.agg #[.slice As walks.length Ar, .slice Au Ao.length Av, .int .i64 Af, .int .i64 start, .slice Ai Ac.length Ah], .slice Gt round.length Gr] F [] fun F' L' v => ∃ (rv : Value) (eo : Option Addr) (er : Nat) (et : Nat) (eu : LH), v = .tuple #[rv, .slice eo er et, .int .i64 r3] ∧ L' = eu ++ [] ∧ MU 113 (B4 (CD 1 (CD 1 (iE .i64))) (B4 (CD 1 (CD 1 (iE .i64))) (B4 (iE .i64) (B4 (iE .i64) (B4 (CD 3 (B4 (CD 1 (iE .i64)) (B4 (iE .i64) (iE .i64)))) (B4 (Kf 25 (cI .i64)) (B4 (CD 2 (B4 (iE .i64) (iE .i64))) (Kf 15 (cI .i64))))))))) F' rv r ∧ AT 0 3 1 (iE .i64) F' eo er et r2 eu := by
 refine sp func86 ntmps86 fun K _ _ => ?_
 rw [Mp] at hr
 refine AP ?_
 refine BK rfl rfl ?_; intro b1 ie
 refine ua (ua (ua (Cj ?_)))
 refine uv (AM (cs := #[.slice As walks.length Ar, .slice Au Ao.length Av, .int .i64 Af, .int .i64 start, .slice Ai Ac.length Ah]) isAgg39 sizeOf39 rfl (Has.own 0 rfl) (CE rfl) rfl) ?_
 obtain ⟨d, n, h2, r4⟩ := CQ hr
 refine c0 call41 (D0 ab ad aa h2) ?_; rintro _ F5 _ br ig ⟨v9, rfl, rfl, bx⟩
 replace ab := ab.mono (Ax (Ab _)) br
 replace ad := ad.mono (Ax (Ab _)) br
 replace aa := aa.mono (At (Ax (Ab _)) (At (Ab _) (Ab _))) br
 replace ae := ae.mono (At (Ab _) (Ab _)) br
 refine AK (ln rfl) ?_
 refine um (ox rfl rfl rfl (ox rfl rfl rfl (ua (ua (Aa (Aq ?_))))))
 refine Am ?_
 refine AP (um ?_)
 refine uv (B6 rfl rfl) ?_
 refine ua (Aa ?_)
 refine cQ (fun bz => ?_) fun bz => ?_
 ·have fm := A2 r4 bz
  refine AP (um (ua (ua (ua (Aa ?_)))))
  refine kW kn ?_
  refine Ap (AE (Aj ?_))
  refine Ik results86 (AH rfl) (AH rfl) (AH rfl) (sr) ?_
  obtain ⟨rfl, rfl, rfl⟩ := Iz fm
  exact ⟨_, _, _, _, [], rfl, rfl, rfl, AT.nil _ _ _ _ _⟩
 have ew := A1 r4 bz
 refine AP (um ?_)
 refine uv (A3 underlying51 rfl) (uv (IF rfl rfl) ?_)
 refine ua (Aa ?_)
 refine cQ (fun ca => ?_) fun ca => ?_
 ·have fo := A2 ew ca
  refine AP (ua (ua (ua (Aa ?_))))
  refine kW kn ?_
  refine Ap (AE (Aj ?_))
  refine Ik results86 (AH rfl) (AH rfl) (AH rfl) (sr) ?_
  obtain ⟨rfl, rfl, rfl⟩ := Iz fo
  exact ⟨_, _, _, _, [], rfl, rfl, rfl, AT.nil _ _ _ _ _⟩
 have fp := A1 ew ca
 refine An (Az (id := 0) (AP ?_))
 refine uv (Ad Ov rfl) (uv (Al isAgg3 rfl (Has.own 0 rfl) rfl) ?_)
 refine ua (ua (Cj (ua (Cj ?_))))
 refine uv (AM (cs := #[.slice As walks.length Ar, .slice Au Ao.length Av, .int .i64 Af, .int .i64 start, .slice Ai Ac.length Ah]) isAgg39 sizeOf39 rfl (Has.own 0 rfl) (CE rfl) rfl) (uv (DO rfl rfl) ?_)
 refine ua (Aa ?_)
 refine AX (fun e1 F1 L1 => ∃ (out : List Int) (cb : Value) (cc : Option Addr) (cd : Nat) (cf : Nat) (ar : LH), JJ d out = some (r, r2, r3) ∧ F5 = F1 ∧ L1 = (ar ++ []) ∧ e1.sub [(7, cb), (11, .slice cc cd cf)] ∧ MU 113 (B4 (CD 1 (CD 1 (iE .i64))) (B4 (CD 1 (CD 1 (iE .i64))) (B4 (iE .i64) (B4 (iE .i64) (B4 (CD 3 (B4 (CD 1 (iE .i64)) (B4 (iE .i64) (iE .i64)))) (B4 (Kf 25 (cI .i64)) (B4 (CD 2 (B4 (iE .i64) (iE .i64))) (Kf 15 (cI .i64))))))))) F1 cb d ∧ AT K.w0.heap.size 3 1 (iE .i64) F1 cc cd cf out ar) ?_ ?_
 ·refine AP (um ?_)
  refine uv (A3 underlying51 rfl) ?_
  refine um (Aa ?_)
  refine Am ?_
  refine Bg (fun ey e1 F1 L1 => LA round ey fun tl k => ∃ (at_ : Int) (minute : Int) (ao : List Int) (ay : Value) (az : Option Addr) (ba : Nat) (bb : Nat) (ai : LH), He walks Ao Af start Ac d tl at_ minute ao = some (r, r2, r3) ∧ F5 = F1 ∧ L1 = ((b1, ce #[.slice As walks.length Ar, .slice Au Ao.length Av, .int .i64 Af, .int .i64 start, .slice Ai Ac.length Ah] 39) :: (ai ++ [])) ∧ e1.sub [(2, .pointer (some ⟨b1, 0, none⟩)), (7, ay), (9, .int .i64 at_), (10, .int .i64 minute), (11, .slice az ba bb), (12, .func (.func 53) #[.agg #[.slice As walks.length Ar, .slice Au Ao.length Av, .int .i64 Af, .int .i64 start, .slice Ai Ac.length Ah]] #[]), (33, .slice Gt round.length Gr), (34, .int .i64 (round.length : Int)), (35, .int .i64 k)] ∧ MU 113 (B4 (CD 1 (CD 1 (iE .i64))) (B4 (CD 1 (CD 1 (iE .i64))) (B4 (iE .i64) (B4 (iE .i64) (B4 (CD 3 (B4 (CD 1 (iE .i64)) (B4 (iE .i64) (iE .i64)))) (B4 (Kf 25 (cI .i64)) (B4 (CD 2 (B4 (iE .i64) (iE .i64))) (Kf 15 (cI .i64))))))))) F1 ay d ∧ AT K.w0.heap.size 3 1 (iE .i64) F1 az ba bb ao ai) _ (m0 (kc (ke kr)) ⟨_, _, rfl, BT.start _, start, 0, [], v9, none, 0, 0, [], fp, rfl, rfl, (sc rfl z8), bx, AT.nil _ _ _ _ _⟩) ?_
  rintro ey e1 _ _ ⟨tl, k, cg, au, at_, minute, ao, ay, az, ba, bb, ai, bu, rfl, rfl, cj, av, bc⟩
  refine AD _ cj (AP (uv (A8 rfl rfl) ?_))
  refine Aa (Aq ?_)
  refine cQ (fun bw => ?_) fun bw => ?_
  ·obtain ⟨x, ij, rfl, cn, fa, cp⟩ := BT.succ au bw
   rw [He] at bu
   refine An (Aq ?_)
   refine Am (AP ?_)
   obtain ⟨ik, il, im, fq, cq, cr, aq, ⟨_, _, rfl, rfl, rfl⟩, ct, cu⟩ := AF.at (At (Ab _) (Ab _)) ae ((b1, ce #[.slice As walks.length Ar, .slice Au Ao.length Av, .int .i64 Af, .int .i64 start, .slice Ai Ac.length Ah] 39) :: (ai ++ [])) fa.1 cn
   refine uv (AI underlying51 sizeOf62 rfl cq rfl fa) (uv (AM (cs := #[.int .i64 x.1, .int .i64 x.2]) isAgg62 sizeOf62 rfl cr aq (Bh aq ct cu)) ?_)
   refine Br rfl zeroValue62 ?_; intro cv fs
   refine By (i := 0) sizeOf62 rfl rfl rfl (by simp [Value.oneCell']) rfl (CE rfl) (AK rfl ?_)
   refine Aa (Aq ?_)
   obtain ⟨k2, ft, cw⟩ := AO bu
   refine jE (((cv, ce #[.int .i64 x.1, .int .i64 x.2] 62) :: ((b1, ce #[.slice As walks.length Ar, .slice Au Ao.length Av, .int .i64 Af, .int .i64 start, .slice Ai Ac.length Ah] 39) :: (ai ++ [])))) [(2, .pointer (some ⟨b1, 0, none⟩)), (7, ay), (9, .int .i64 at_), (10, .int .i64 minute), (11, .slice az ba bb), (12, .func (.func 53) #[.agg #[.slice As walks.length Ar, .slice Au Ao.length Av, .int .i64 Af, .int .i64 start, .slice Ai Ac.length Ah]] #[]), (14, .pointer (some ⟨cv, 0, none⟩)), (33, .slice Gt round.length Gr), (34, .int .i64 (round.length : Int)), (35, .int .i64 k), (50, .bool k2)] ?_ ?_
   ·clear cw
    refine Ak (um ?_)
    refine uv (Ad IV rfl) (uv (Al isAgg3 rfl (Has.own 0 rfl) rfl) ?_)
    obtain ⟨ok, fv, fb⟩ := AO ft
    refine cV call53 (FX ab ad aa fv) (uv (CI rfl) (um ?_))
    rcases EL (!ok) with aj | aj
    ·have fw := bt fb aj
     refine fB aj (fB aj (fB aj (fB aj (fB aj ?_))))
     refine uv (AQ (KX rfl aj) rfl) (Aa ?_)
     obtain rfl := AR fw
     exact mi kr ⟨rfl, rfl, (sc rfl (sc rfl (sc rfl z8)))⟩
    have fx := bf fb aj
    refine nB aj (uv (AM (cs := #[.slice As walks.length Ar, .slice Au Ao.length Av, .int .i64 Af, .int .i64 start, .slice Ai Ac.length Ah]) isAgg39 sizeOf39 rfl (Has.own 1 rfl) (CE rfl) rfl) (nB aj (uv (Ad LJ rfl) (nB aj (uv (Al isAgg3 rfl (Has.own 0 rfl) rfl) (nB aj ?_))))))
    obtain ⟨iq, fy, ga⟩ := AO fx
    refine cV call58 (IL ab ad aa fy) (nB aj (uv (CI rfl) (uv (AL (KX rfl aj) rfl) (Aa ?_))))
    obtain rfl := AR ga
    exact mi kr ⟨rfl, rfl, (sc rfl (sc rfl (sc rfl z8)))⟩
   refine AY rfl (fun cx => ?_) (fun cx => ?_)
   ·have gb := bt cw cx
    refine AP (ua (ua (ua (Aa ?_))))
    refine kW kn ?_
    refine Ap (Aj (AE (Aj (Aj (AE (Aj ?_))))))
    refine Ik results86 (AH rfl) (AH rfl) (AH rfl) (sr) ?_
    obtain ⟨rfl, rfl, rfl⟩ := Iz gb
    exact ⟨_, _, _, _, [], rfl, rfl, rfl, AT.nil _ _ _ _ _⟩
   have El := bf cw cx
   refine An (dW ?_)
   refine wm (wm ?_)
   refine wv (Ad IV rfl) (wv (Al isAgg3 rfl (Has.own 0 rfl) rfl) ?_)
   obtain ⟨AG, ak, ah, al, af, aw, AN, hit, gg, gh⟩ := MT El
   have fe := av; rw [gg] at fe; obtain ⟨ff, ir, gk, cy, ax, ⟨_, _, rfl, ⟨cz, da, rfl, iu⟩, ⟨_, _, rfl, ⟨db, dd, rfl, iv⟩, ⟨_, _, rfl, rfl, ⟨_, _, rfl, rfl, ⟨_, _, rfl, ⟨de, df, rfl, iw⟩, ⟨_, _, rfl, ⟨rfl, dg⟩, ⟨_, _, rfl, ⟨dh, di, rfl, iy⟩, ⟨rfl, iz⟩⟩⟩⟩⟩⟩⟩⟩⟩ := fe; subst cy
   have ax : F5 ff = some (.cells ((([.slice cz AG.length da] : List Value) ++ (([.slice db ak.length dd] : List Value) ++ (([.int .i64 ah] : List Value) ++ (([.int .i64 al] : List Value) ++ (([.slice de af.length df] : List Value) ++ (aw.flatMap (cI .i64) ++ (([.slice dh AN.length di] : List Value) ++ (hit.flatMap (cI .i64))))))))).toArray) 113 gk) := ax
   refine wv (AU rfl) (wv (Ad G9 rfl) ?_)
   obtain ⟨fg, gl⟩ := AV gh
   refine wv (BB underlying109 sizeOf107 rfl rfl fg) ?_
   obtain ⟨fh, gm⟩ := AV gl
   obtain ⟨x2, j0, dk, fi⟩ := BH gm
   have dm : (at_ * 5 + x.1 : Int).toNat = (at_ : Int).toNat * 5 + (x.1 : Int).toNat := by have := fg; have := fh; omega
   have dn := IJ (Bj .i64) dg dm dk (Ii (Ay (A := ([.slice cz AG.length da] : List Value)) (k := 1) (o := 4) rfl (Ay (A := ([.slice db ak.length dd] : List Value)) (k := 1) (o := 3) rfl (Ay (A := ([.int .i64 ah] : List Value)) (k := 1) (o := 2) rfl (Ay (A := ([.int .i64 al] : List Value)) (k := 1) (o := 1) rfl (Ay (A := ([.slice de af.length df] : List Value)) (k := 1) (o := 0) rfl (Ck (B := ([.slice dh AN.length di] : List Value) ++ (hit.flatMap (cI .i64))) (IG (Bj .i64) dg)))))))) (IS (Ay (A := ([.slice cz AG.length da] : List Value)) (k := 1) (o := 4) rfl (Ay (A := ([.slice db ak.length dd] : List Value)) (k := 1) (o := 3) rfl (Ay (A := ([.int .i64 ah] : List Value)) (k := 1) (o := 2) rfl (Ay (A := ([.int .i64 al] : List Value)) (k := 1) (o := 1) rfl (Ay (A := ([.slice de af.length df] : List Value)) (k := 1) (o := 0) rfl (Ck (B := ([.slice dh AN.length di] : List Value) ++ (hit.flatMap (cI .i64))) (IG (Bj .i64) dg))))))))
   refine wv (BB underlying107 sizeOf3 rfl rfl fh) (wv (Al isAgg3 rfl (Has.frozen ax) ((dn).2.2 0 (by decide))) ?_)
   refine wa (Df (Aq (AP (um ?_))))
   refine uv (DY rfl rfl) (Aa ?_)
   refine cQ (fun dp => ?_) fun dp => ?_
   ·have gp := A2 fi dp
    refine AP (ua (ua (ua (Aa ?_))))
    refine kW kn ?_
    refine Ap (Aj (AE (Aj (Aj (AE (Aj ?_))))))
    refine Ik results86 (AH rfl) (AH rfl) (AH rfl) (sr) ?_
    obtain ⟨rfl, rfl, rfl⟩ := Iz gp
    exact ⟨_, _, _, _, [], rfl, rfl, rfl, AT.nil _ _ _ _ _⟩
   have gq := A1 fi dp
   refine An (dW (wv (Ad IV rfl) (wv (Al isAgg3 rfl (Has.own 0 rfl) rfl) ?_)))
   refine wm (wm ?_)
   obtain ⟨gr, dq⟩ := AV gq
   refine wv (A5 rfl rfl gr) (wv (Ad Fj rfl) (wv (Al isAgg37 rfl (Has.own 1 rfl) rfl) (wv (Ad LJ rfl) (wv (Al isAgg3 rfl (Has.own 0 rfl) rfl) ?_))))
   obtain ⟨x3, bg, bh, dr⟩ := BH dq
   obtain ⟨gu, gv, gw, fj, bj, bk, dt, ⟨_, _, rfl, ⟨gz, ia, rfl, ib⟩, ⟨_, _, rfl, rfl, rfl⟩⟩, fk, bl⟩ := AF.at (At (Ax (Ab _)) (At (Ab _) (Ab _))) aa ((cv, ce #[.int .i64 x.1, .int .i64 x.2] 62) :: ((b1, ce #[.slice As walks.length Ar, .slice Au Ao.length Av, .int .i64 Af, .int .i64 start, .slice Ai Ac.length Ah] 39) :: (ai ++ []))) bg.1 bh
   refine wv (AI underlying37 sizeOf48 rfl bj rfl bg) (wv (Ad Oi rfl) (wv (Al isAgg3 rfl bk (bl 1 (by decide))) ?_))
   obtain ⟨du, dv⟩ := AV dr
   refine wv (A5 rfl rfl du) ?_
   refine wa (wa (Df (Ak (um (um ?_)))))
   refine bA (cs := #[.int .i64 ((minute + x2) + x3.2.1)]) BX [.int .i64 ((minute + x2) + x3.2.1)] ?_; intro ic fl
   obtain ⟨bm, dw, dx, dy⟩ := FQ dv
   refine EA (xs := ao) (ys := [(minute + x2) + x3.2.1]) (zs := bm) rfl BX rfl rfl (Nat.le_refl _) (fun _ => .c (.c (.c .h))) bc (Gk.box (vss := [[.int .i64 ((minute + x2) + x3.2.1)]]) (ys := [(minute + x2) + x3.2.1]) 0 rfl (Ab _) (.cons rfl .nil) rfl rfl) dw dx (by decide) ?_; intro dz e9 eg bn bo
   refine kO (kd kr) ?_
   refine ua (Aa (Az (id := 2) (Ak ?_)))
   refine uv (A5 rfl rfl (BT.El au bw (AF.lt ae))) ?_
   refine um (Aa ?_)
   subst cg; exact le (kd kr) ⟨_, _, rfl, cp, x.1, (minute + x2) + x3.2.1, bm, .pointer (some ⟨ff, 0, none⟩), dz, e9, eg, bn, dy, rfl, rfl, (sc rfl z8), av, bo⟩
  obtain rfl := BT.zero au bw
  rw [He] at bu
  refine AS (Ae (Ae ?_))
  refine AA ?_
  exact mi (kd kr) ⟨ao, ay, az, ba, bb, ai, bu, rfl, rfl, z2, av, bc⟩
 rintro e1 _ _ ⟨out, cb, cc, cd, cf, ar, bp, rfl, rfl, bq, eh, ej⟩
 refine AD _ bq ?_
 rw [JJ] at bp
 refine AP (um (um (ua (ua (ua (Aa (Ap ?_)))))))
 refine Ik results86 (AH rfl) (AH rfl) (AH rfl) (sr) ?_
 obtain ⟨rfl, rfl, rfl⟩ := Iz bp
 exact ⟨_, _, _, _, _, rfl, rfl, eh, ej.any⟩
theorem MD {x : Int} {r r2 : Int} (hr : IC x y = some (r, r2)) :
    BG Tryz.prog 116 #[.int .u64 x, .int .u64 y] F (.tuple #[.int .u64 r, .int .u64 r2]) := by
 refine sp func116 ntmps116 fun K _ _ => ?_
 rw [IC] at hr
 refine AP (ua (ua (Cj (um ?_))))
 refine uv (TL rfl rfl rfl) ?_
 refine ua (Cj (um ?_))
 refine uv (K2 rfl rfl (by decide)) ?_
 refine ua (Cj (um ?_))
 refine uv (TL rfl rfl rfl) ?_
 refine ua (Cj (um ?_))
 refine uv (K2 rfl rfl (by decide)) ?_
 refine ua (Cj (um (um ?_)))
 refine uv (OC rfl rfl rfl) ?_
 obtain ⟨w0, h1, r3⟩ := CT hr
 refine uv ((DQ rfl).i h1) ?_
 refine Cj (um (um ?_))
 refine uv (OC rfl rfl rfl) (um (uv (K2 rfl rfl (by decide)) (uv (P8 rfl rfl rfl) ?_)))
 obtain ⟨t, h4, r5⟩ := CT r3
 refine uv ((DQ rfl).i h4) ?_
 refine Cj (um ?_)
 refine uv (TL rfl rfl rfl) ?_
 refine ua (Cj (um ?_))
 refine uv (K2 rfl rfl (by decide)) ?_
 refine ua (Cj (um (um (um ?_))))
 refine uv (OC rfl rfl rfl) (uv (P8 rfl rfl rfl) ?_)
 obtain ⟨w1, h6, r7⟩ := CT r5
 refine uv ((DQ rfl).i h6) ?_
 refine Cj (um (um ?_))
 refine uv (OC rfl rfl rfl) (um (uv (P8 rfl rfl rfl) (um (uv (K2 rfl rfl (by decide)) (uv (P8 rfl rfl rfl) ?_)))))
 obtain ⟨hi, h8, r9⟩ := CT r7
 refine uv ((DQ rfl).i h8) ?_
 refine Cj (um (um ?_))
 refine uv (OC rfl rfl rfl) ?_
 obtain ⟨lo, aa, ab⟩ := CT r9
 refine uv ((DQ rfl).i aa) ?_
 refine Aa (Ap ?_)
 refine BU results116 (AH rfl) (AH rfl) (sr) ?_
 obtain ⟨rfl, rfl⟩ := CP ab
 exact rfl
theorem N4 {x : Int} {r r2 : Int} (hr : JH x y = some (r, r2)) :
    BG Tryz.prog 105 #[.int .u64 x, .int .u64 y] F (.tuple #[.int .u64 r, .int .u64 r2]) := by
 refine sp func105 ntmps105 fun K _ _ => ?_
 rw [JH] at hr
 refine AP (ua (ua (Aa (Aq ?_))))
 refine AY rfl (fun c1 => nomatch c1) (fun c1 => ?_)
 refine An (AP (um (um ?_)))
 obtain ⟨n, n2, h2, r3⟩ := CQ hr
 refine cV call116 (MD h2) ?_
 refine um (ox rfl rfl rfl (ox rfl rfl rfl (ua (ua (Cj (um (um (ua (ua ?_)))))))))
 refine Aa (Ap ?_)
 refine BU results105 (AH rfl) (AH rfl) (sr) ?_
 obtain ⟨rfl, rfl⟩ := CP r3
 exact rfl
end Go.Proofs.YtfmapnhfamoecabGreat
