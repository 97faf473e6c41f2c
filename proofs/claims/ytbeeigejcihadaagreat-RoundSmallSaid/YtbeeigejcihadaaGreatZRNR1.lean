/- The walks that this claim needs, printed by a program of mine; part 1. -/
import Derived.Test.YtbeeigejcihadaaGreatZRShX
import Derived.Test.YtbeeigejcihadaaGreatZRYG
import Derived.Test.YtbeeigejcihadaaGreatZRYE
import Derived.Test.YtbeeigejcihadaaGreatZRYD
import Derived.Test.YtbeeigejcihadaaGreatZRTf
import Derived.Test.YtbeeigejcihadaaGreatZRTd
namespace Go.Proofs.YtbeeigejcihadaaGreat
open Go.SH Go.PL
open Tryz 
variable {so : (List Int) → Option Bool} {Ru RD N2 NY Rf Rc : Array Value} {F : FS} {RB Ks Rk : FuncId} {B7 Ae n AW r4 BX start v y : Int} {IQ : LH} {Ab r5 : List ((List Int) × Int × Int)} {AE round : List (Int × Int)} {Af walks : List (List Int)} {BH seq Ax : List Int} {FO Al Hj Ac A2 Co D4 HG II Ai Sz : Nat} {I8 : Nat × Nat} {Ak Hg Ad A3 Cl D3 Aj Sx : Option Addr}
set_option maxHeartbeats 1000000 in
theorem Fl {r r2 : List (List Int)} {r3 : Int} (hr : DV = some (r, r2, r3, r4, r5)) :
    SH.Spec Tryz.prog 4 #[] F [] fun F' L' v => ∃ (ak : Nat) (al : Nat) (ao : Nat) (aq : Nat) (aa : Nat) (ab : Nat) (ad : Nat) (ae : Nat) (ah : Nat) (ai : Nat) (aj : Nat), v = .agg #[sL (aD ak) 3 3, sL (aD aa) 3 3, vI r3, vI r4, sL (aD ah) 2 2] ∧ L' = [(ak, ce #[sL (aD al) 3 3, sL (aD ao) 3 3, sL (aD aq) 3 3] 22), (al, ce #[vI 0, vI 2, vI (-1)] 3), (ao, ce #[vI 2, vI 0, vI 2] 3), (aq, ce #[vI (-1), vI 2, vI 0] 3), (aa, ce #[sL (aD ab) 1 1, sL (aD ad) 1 1, sL (aD ae) 2 2] 22), (ab, ce #[vI 0] 3), (ad, ce #[vI 1] 3), (ae, ce #[vI 1, vI 2] 3), (ah, ce #[sL (aD ai) 2 2, vI 3, vI 12, sL (aD aj) 1 1, vI 1, vI 20] 35), (ai, ce #[vI 0, vI 2] 3), (aj, ce #[vI 1] 3)] ∧ F = F' := by
 refine sp func4 ntmps4 fun K _ _ => ?_
 rw [DV] at hr
 refine AJ ?_
 refine Bh rfl zeroValue26 ?_; intro b1 aw
 refine BL ?_
 refine bA (cs := #[vI 0, vI 2, vI (-1)]) Bp [vI 0, vI 2, vI (-1)] ?_; intro b2 ax
 refine bA (cs := #[vI 2, vI 0, vI 2]) Bp [vI 2, vI 0, vI 2] ?_; intro b3 ay
 refine bA (cs := #[vI (-1), vI 2, vI 0]) Bp [vI (-1), vI 2, vI 0] ?_; intro b4 az
 refine bA (cs := #[sL (aD b2) 3 3, sL (aD b3) 3 3, sL (aD b4) 3 3]) Fm [sL (aD b2) 3 3, sL (aD b3) 3 3, sL (aD b4) 3 3] ?_; intro b5 ba
 refine bA (cs := #[vI 0]) Bp [vI 0] ?_; intro b6 bb
 refine bA (cs := #[vI 1]) Bp [vI 1] ?_; intro b7 bc
 refine bA (cs := #[vI 1, vI 2]) Bp [vI 1, vI 2] ?_; intro b8 bd
 refine bA (cs := #[sL (aD b6) 1 1, sL (aD b7) 1 1, sL (aD b8) 2 2]) Fm [sL (aD b6) 1 1, sL (aD b7) 1 1, sL (aD b8) 2 2] ?_; intro b9 bg
 refine bA (cs := #[vI 0, vI 2]) Bp [vI 0, vI 2] ?_; intro NF ar
 refine uv (BI (v := .agg #[sL (aD NF) 2 2, vI 3, vI 12]) rfl (by intro w; kernel_rfl)) ?_
 refine bA (cs := #[vI 1]) Bp [vI 1] ?_; intro Nb au
 refine uv (BI (v := .agg #[sL (aD Nb) 1 1, vI 1, vI 20]) rfl (by intro w; kernel_rfl)) ?_
 refine bA (cs := #[sL (aD NF) 2 2, vI 3, vI 12, sL (aD Nb) 1 1, vI 1, vI 20]) Kj [.agg #[sL (aD NF) 2 2, vI 3, vI 12], .agg #[sL (aD Nb) 1 1, vI 1, vI 20]] ?_; intro OY av
 refine uv (BI (v := .agg #[sL (aD b5) 3 3, sL (aD b9) 3 3, vI 3, vI 0, sL (aD OY) 2 2]) rfl (by intro w; kernel_rfl)) ?_
 refine A8 (i := 11) sizeOf26 rfl rfl rfl (by simp [Value.oneCell']) rfl (B2 rfl) (Aw rfl (Aa (kW (kf (fC (fC (fC (fC (fC (fC (fC (fC (fC (fC (fC fO))))))))))) (kf (fC (fC (fC (fC (fC (fC (fC fO))))))) (kf (fC (fC (fC (fC (fC (fC (fC (fC (fC fO))))))))) (kf (fC (fC (fC (fC (fC (fC (fC (fC fO)))))))) (kf (fC (fC (fC (fC (fC (fC (fC fO))))))) (kf (fC (fC (fC fO))) (kf (fC (fC (fC (fC (fC fO))))) (kf (fC (fC (fC (fC fO)))) (kf (fC (fC (fC fO))) (kc (kf (fC fO) kr))))))))))) (AA (KY results4 (Fq (cs := #[sL (aD b5) 3 3, sL (aD b9) 3 3, vI 3, vI 0, sL (aD OY) 2 2]) isAgg26 sizeOf26 rfl (Has.own 0 rfl) (B2 rfl) rfl) (s1 (s2 (s2 (s2 (s2 (s2 (s2 (s2 (s2 (s2 (s2 (s2 sr)))))))))))) ?_)))))
 obtain ⟨rfl, rfl, rfl, rfl, rfl⟩ := QN hr
 exact ⟨_, _, _, _, _, _, _, _, _, _, _, rfl, rfl, rfl⟩
set_option maxHeartbeats 1000000 in
theorem DM {r r2 : List (List Int)} {r3 : Int} (hr : Da = some (r, r2, r3, r4, r5)) :
    SH.Spec Tryz.prog 4 #[] F [] fun F' L' v => ∃ (ra : Option Addr) (rn : Nat) (rc : Nat) (rL : LH) (bq : Option Addr) (br : Nat) (bu : Nat) (bw : LH) (bx : Option Addr) (bz : Nat) (cb : Nat) (cc : LH), v = .agg #[sL ra rn rc, sL bq br bu, vI r3, vI r4, sL bx bz cb] ∧ L' = rL ++ (bw ++ (cc ++ [])) ∧ AM 0 22 1 eJ F' ra rn rc r rL ∧ AM 0 22 1 eJ F' bq br bu r2 bw ∧ AM 0 35 3 eN F' bx bz cb r5 cc := by
 refine sp func4 ntmps4 fun K _ _ => ?_
 rw [Da] at hr
 refine AJ ?_
 refine Bh rfl zeroValue26 ?_; intro b1 dg
 refine BL ?_
 refine bA (cs := #[vI 0, vI 2, vI (-1)]) Bp [vI 0, vI 2, vI (-1)] ?_; intro b2 ck
 refine bA (cs := #[vI 2, vI 0, vI 2]) Bp [vI 2, vI 0, vI 2] ?_; intro b3 cn
 refine bA (cs := #[vI (-1), vI 2, vI 0]) Bp [vI (-1), vI 2, vI 0] ?_; intro b4 cp
 refine bA (cs := #[sL (aD b2) 3 3, sL (aD b3) 3 3, sL (aD b4) 3 3]) Fm [sL (aD b2) 3 3, sL (aD b3) 3 3, sL (aD b4) 3 3] ?_; intro b5 cq
 refine bA (cs := #[vI 0]) Bp [vI 0] ?_; intro b6 cr
 refine bA (cs := #[vI 1]) Bp [vI 1] ?_; intro b7 ct
 refine bA (cs := #[vI 1, vI 2]) Bp [vI 1, vI 2] ?_; intro b8 cu
 refine bA (cs := #[sL (aD b6) 1 1, sL (aD b7) 1 1, sL (aD b8) 2 2]) Fm [sL (aD b6) 1 1, sL (aD b7) 1 1, sL (aD b8) 2 2] ?_; intro b9 cv
 refine bA (cs := #[vI 0, vI 2]) Bp [vI 0, vI 2] ?_; intro NF ax
 refine uv (BI (v := .agg #[sL (aD NF) 2 2, vI 3, vI 12]) rfl (by intro w; kernel_rfl)) ?_
 refine bA (cs := #[vI 1]) Bp [vI 1] ?_; intro Nb ay
 refine uv (BI (v := .agg #[sL (aD Nb) 1 1, vI 1, vI 20]) rfl (by intro w; kernel_rfl)) ?_
 refine bA (cs := #[sL (aD NF) 2 2, vI 3, vI 12, sL (aD Nb) 1 1, vI 1, vI 20]) Kj [.agg #[sL (aD NF) 2 2, vI 3, vI 12], .agg #[sL (aD Nb) 1 1, vI 1, vI 20]] ?_; intro OY az
 refine uv (BI (v := .agg #[sL (aD b5) 3 3, sL (aD b9) 3 3, vI 3, vI 0, sL (aD OY) 2 2]) rfl (by intro w; kernel_rfl)) ?_
 refine Br 10 rfl ck ?_; intro cw cx ba
 refine Aw rfl ?_
 have ao : Ar 1 eI cw (aD b2) 3 [0, 2, -1] := Ar.oI ba
 refine Br 9 rfl cn ?_; intro cy bb bc
 refine Aw rfl ?_
 replace ao := ao.m1 bb
 have bd : Ar 1 eI cy (aD b3) 3 [2, 0, 2] := Ar.oI bc
 refine Br 8 rfl cp ?_; intro cf aq bg
 refine Aw rfl ?_
 replace ao := ao.m1 aq
 replace bd := bd.m1 aq
 have cz : Ar 1 eI cf (aD b4) 3 [-1, 2, 0] := Ar.oI bg
 have aa : AM K.w0.heap.size 22 1 eJ cf (aD b5) 3 3 [[0, 2, -1], [2, 0, 2], [-1, 2, 0]] [(b5, ce (#[sL (aD b2) [0, 2, -1].length 3, sL (aD b3) [2, 0, 2].length 3, sL (aD b4) [-1, 2, 0].length 3]) 22)] := AM.BD (vss := [[sL (aD b2) [0, 2, -1].length 3], [sL (aD b3) [2, 0, 2].length 3], [sL (aD b4) [-1, 2, 0].length 3]]) kJ cq (.cons ⟨_, _, rfl, ao⟩ (.cons ⟨_, _, rfl, bd⟩ (.cons ⟨_, _, rfl, cz⟩ .nil))) rfl rfl (by simp [maxLen])
 generalize ah : ([(b5, ce (#[sL (aD b2) [0, 2, -1].length 3, sL (aD b3) [2, 0, 2].length 3, sL (aD b4) [-1, 2, 0].length 3]) 22)] : LH) = ab at aa
 refine BA (L' := ab ++ [(OY, ce #[sL (aD NF) 2 2, vI 3, vI 12, sL (aD Nb) 1 1, vI 1, vI 20] 35), (Nb, ce #[vI 1] 3), (NF, ce #[vI 0, vI 2] 3), (b9, ce #[sL (aD b6) 1 1, sL (aD b7) 1 1, sL (aD b8) 2 2] 22), (b8, ce #[vI 1, vI 2] 3), (b7, ce #[vI 1] 3), (b6, ce #[vI 0] 3), (b1, ce #[sL none 0 0, sL none 0 0, vI 0, vI 0, sL none 0 0] 26)]) (by rw [← ah]; exact (fC (fC (fC (fC (fC (fC (fC fO)))))))) ?_
 refine BA (L' := (OY, ce #[sL (aD NF) 2 2, vI 3, vI 12, sL (aD Nb) 1 1, vI 1, vI 20] 35) :: ((Nb, ce #[vI 1] 3) :: ((NF, ce #[vI 0, vI 2] 3) :: ((b9, ce #[sL (aD b6) 1 1, sL (aD b7) 1 1, sL (aD b8) 2 2] 22) :: ((b8, ce #[vI 1, vI 2] 3) :: ((b7, ce #[vI 1] 3) :: ((b6, ce #[vI 0] 3) :: ((b1, ce #[sL none 0 0, sL none 0 0, vI 0, vI 0, sL none 0 0] 26) :: (ab ++ []))))))))) (List.Perm.symm (fC (fC (fC (fC (fC (fC (fC (fC fP))))))))) ?_
 refine Br 6 rfl cr ?_; intro da bh bj
 refine Aw rfl ?_
 replace aa := aa.m2 bh
 have ar : Ar 1 eI da (aD b6) 1 [0] := Ar.oI bj
 refine Br 5 rfl ct ?_; intro db au bk
 refine Aw rfl ?_
 replace ar := ar.m1 au
 replace aa := aa.m2 au
 have bl : Ar 1 eI db (aD b7) 1 [1] := Ar.oI bk
 refine Br 4 rfl cu ?_; intro cg ai bm
 refine Aw rfl ?_
 replace ar := ar.m1 ai
 replace bl := bl.m1 ai
 replace aa := aa.m2 ai
 have dd : Ar 1 eI cg (aD b8) 2 [1, 2] := Ar.oI bm
 have ad : AM K.w0.heap.size 22 1 eJ cg (aD b9) 3 3 [[0], [1], [1, 2]] [(b9, ce (#[sL (aD b6) [0].length 1, sL (aD b7) [1].length 1, sL (aD b8) [1, 2].length 2]) 22)] := AM.BD (vss := [[sL (aD b6) [0].length 1], [sL (aD b7) [1].length 1], [sL (aD b8) [1, 2].length 2]]) kJ cv (.cons ⟨_, _, rfl, ar⟩ (.cons ⟨_, _, rfl, bl⟩ (.cons ⟨_, _, rfl, dd⟩ .nil))) rfl rfl (by simp [maxLen])
 generalize aj : ([(b9, ce (#[sL (aD b6) [0].length 1, sL (aD b7) [1].length 1, sL (aD b8) [1, 2].length 2]) 22)] : LH) = ae at ad
 refine BA (L' := ae ++ ((OY, ce #[sL (aD NF) 2 2, vI 3, vI 12, sL (aD Nb) 1 1, vI 1, vI 20] 35) :: ((Nb, ce #[vI 1] 3) :: ((NF, ce #[vI 0, vI 2] 3) :: ((b1, ce #[sL none 0 0, sL none 0 0, vI 0, vI 0, sL none 0 0] 26) :: (ab ++ [])))))) (by rw [← aj]; exact (fC (fC (fC fO)))) ?_
 refine BA (L' := (OY, ce #[sL (aD NF) 2 2, vI 3, vI 12, sL (aD Nb) 1 1, vI 1, vI 20] 35) :: ((Nb, ce #[vI 1] 3) :: ((NF, ce #[vI 0, vI 2] 3) :: ((b1, ce #[sL none 0 0, sL none 0 0, vI 0, vI 0, sL none 0 0] 26) :: (ae ++ (ab ++ [])))))) (List.Perm.symm (fC (fC (fC (fC fP))))) ?_
 refine Br 2 rfl ax ?_; intro de av bn
 refine Aw rfl ?_
 replace aa := aa.m2 av
 replace ad := ad.m2 av
 have bo : Ar 1 eI de (aD NF) 2 [0, 2] := Ar.oI bn
 refine Br 1 rfl ay ?_; intro cj ak bp
 refine Aw rfl ?_
 replace bo := bo.m1 ak
 replace aa := aa.m2 ak
 replace ad := ad.m2 ak
 have df : Ar 1 eI cj (aD Nb) 1 [1] := Ar.oI bp
 have aw : AM K.w0.heap.size 35 3 eN cj (aD OY) 2 2 [([0, 2], 3, 12), ([1], 1, 20)] [(OY, ce (#[sL (aD NF) [0, 2].length 2, vI 3, vI 12, sL (aD Nb) [1].length 1, vI 1, vI 20]) 35)] := AM.BD (vss := [[sL (aD NF) [0, 2].length 2, vI 3, vI 12], [sL (aD Nb) [1].length 1, vI 1, vI 20]]) kN az (.cons ⟨_, _, rfl, ⟨_, _, rfl, bo⟩, ⟨_, _, rfl, rfl, rfl⟩⟩ (.cons ⟨_, _, rfl, ⟨_, _, rfl, df⟩, ⟨_, _, rfl, rfl, rfl⟩⟩ .nil)) rfl rfl (by simp [maxLen])
 generalize al : ([(OY, ce (#[sL (aD NF) [0, 2].length 2, vI 3, vI 12, sL (aD Nb) [1].length 1, vI 1, vI 20]) 35)] : LH) = Lb51 at aw
 refine BA (L' := Lb51 ++ ((b1, ce #[sL none 0 0, sL none 0 0, vI 0, vI 0, sL none 0 0] 26) :: (ae ++ (ab ++ [])))) (by rw [← al]; exact fO) ?_
 refine BA (L' := (b1, ce #[sL none 0 0, sL none 0 0, vI 0, vI 0, sL none 0 0] 26) :: (Lb51 ++ (ae ++ (ab ++ [])))) (List.Perm.symm (fC fP)) (A8 (i := 0) sizeOf26 rfl rfl rfl (by simp [Value.oneCell']) rfl (B2 rfl) (Aw rfl (Aa (kW (kc (kg (fS (fS fP)) (kg (fS fP) kr))) (AA (KY results4 (Fq (cs := #[sL (aD b5) 3 3, sL (aD b9) 3 3, vI 3, vI 0, sL (aD OY) 2 2]) isAgg26 sizeOf26 rfl (Has.own 0 rfl) (B2 rfl) rfl) (s1 (s4 (s4 (s4 sr)))) ?_))))))
 obtain ⟨rfl, rfl, rfl, rfl, rfl⟩ := QN hr
 exact ⟨_, _, _, _, _, _, _, _, _, _, _, _, rfl, rfl, aa.any, ad.any, aw.any⟩
theorem Ed {lo hi : Int} {r : Bool} (hr : EU n lo hi = some r) :
    Bv Tryz.prog 77 #[vI n, vI lo, vI hi] F (.bool r) := by
 refine sp func77 ntmps77 fun K _ _ => ?_
 rw [EU] at hr
 refine AJ (ua (BL (um (um ?_))))
 refine uv (HV rfl rfl) (um ?_)
 by_cases c1 : lo ≤ n
 ·have r2 := A5 hr c1
  refine nT c1 (um (nT c1 (um (nT c1 ?_))))
  refine uv (KM rfl rfl) (uv (AF (AX rfl c1) rfl) ?_)
  refine ua (Aa (AA ?_))
  refine C3 results77 ?_
  obtain rfl := AP r2
  exact rfl
 have r3 := A4 hr c1
 refine fF c1 (fF c1 (fF c1 ?_))
 refine uv (AD (AL rfl c1) rfl) ?_
 refine ua (Aa (AA ?_))
 refine C3 results77 ?_
 obtain rfl := AP r3
 exact rfl
theorem JV {s_ : List (List Int)} {f : (List Int) → Option Bool} (aa : Ar 1 eJ F D3 D4 s_) (aj : Oa Tryz.prog F RB Ru RD eJ Value.bool f) {r : Int} (hr : FK s_ f = some r) :
    Bv Tryz.prog 125 #[sL D3 s_.length D4, .func (.func RB) Ru RD] F (vI r) := by
 refine sp func125 ntmps125 fun K _ _ => ?_
 rw [FK] at hr
 refine AJ (ua (Aa ?_))
 obtain ⟨h1, r2⟩ := Ij hr
 refine jE ([]) [] ?_ ?_
 ·clear r2
  refine AJ (um ?_)
  refine uv (AQ underlying23 rfl) ?_
  refine um (Aa ?_)
  refine Ap ?_
  refine Bb (fun ak e1 F1 L1 => LA s_ ak fun tl k => CD f tl = some () ∧ F = F1 ∧ L1 = [] ∧ e1.sub [(0, sL D3 s_.length D4), (1, .func (.func RB) Ru RD), (7, vI (s_.length : Int)), (8, vI k)]) _ (m0 kr ⟨_, _, rfl, Bl.start _, h1, rfl, rfl, z4⟩) ?_
  rintro ak e1 _ _ ⟨tl, k, ar, ab, r5, rfl, rfl, au⟩
  refine Az _ au (AJ (uv (AV rfl rfl) ?_))
  refine Aa (Aq ?_)
  refine cQ (fun c8 => ?_) fun c8 => ?_
  ·obtain ⟨x, bd, rfl, ad, al, av⟩ := Bl.succ ab c8
   rw [CD] at r5
   refine Ao (Aq ?_)
   refine Ap ?_
   refine AJ (um (ua (BL (um (um (um ?_))))))
   obtain ⟨OY, bg, bh, aw, ae, ah, ao, ⟨bj, bk, rfl, ax⟩, ay, ai⟩ := Ar.ta kJ aa al.1 ad
   refine uv (Cx underlying23 sizeOf22 ae al) (uv (AG isAgg22 rfl (ah _) (ai 0 (by decide))) ?_)
   obtain ⟨ok, az, ba⟩ := Av r5
   refine I0 rfl aj.1 rfl rfl rfl (aj.2 _ (AN.refl _) _ _ _ ⟨_, _, rfl, ax⟩ az) (Aa ?_)
   obtain ⟨bb, bc⟩ := AB ba
   refine AR rfl (fun aq => absurd (bb.symm.trans aq) (by decide)) (fun aq => ?_)
   refine Ao (Ay (id := 1) (An ?_))
   refine uv (A0 rfl rfl (Bl.Cs ab c8 (Ar.lt aa))) ?_
   refine um (Aa ?_)
   subst ar; exact le kr ⟨_, _, rfl, av, bc, rfl, rfl, z4⟩
  obtain rfl := Bl.zero ab c8
  rw [CD] at r5
  refine AI (Am (Am ?_))
  refine At ?_
  clear r5
  exact mi kr ⟨rfl, rfl, (sn _)⟩
 refine AJ (ua (Aa (AA ?_)))
 refine C3 results125 ?_
 obtain rfl := AP r2
 exact rfl
theorem I4 {s_ : List (List Int)} {f : (List Int) → Option Bool} (aa : Ar 1 eJ F D3 D4 s_) (ab : Oa Tryz.prog F RB Ru RD eJ Value.bool f) {r : Bool} (hr : EN s_ f = some r) :
    Bv Tryz.prog 116 #[sL D3 s_.length D4, .func (.func RB) Ru RD] F (.bool r) := by
 refine sp func116 ntmps116 fun K _ _ => ?_
 rw [EN] at hr
 refine AJ (ua (BL (um (um ?_))))
 obtain ⟨n, h1, r2⟩ := Av hr
 refine cV call125 (JV aa ab h1) (uv (HV rfl rfl) ?_)
 refine ua (Aa (AA ?_))
 refine C3 results116 ?_
 obtain rfl := AP r2
 exact rfl
theorem LS {x : List Int} {aa : Nat} {ab : Nat × Nat} (ah : Ar 1 eI F Sx Sz x) (ad : F aa = some (.cells #[.func (.func Rk) Rf Rc] 151 ab)) (ae : Oa Tryz.prog F Rk Rf Rc eJ Value.bool so) {r : Bool} (hr : G2 x so = some r) :
    Bv Tryz.prog 117 #[sL Sx x.length Sz, pO aa] F (.bool r) := by
 refine sp func117 ntmps117 fun K _ _ => ?_
 rw [G2] at hr
 refine AJ (ua (BL ?_))
 refine uv (AG isAgg151 rfl (Has.frozen ad) rfl) (um ?_)
 obtain ⟨ok, h1, r2⟩ := Av hr
 refine I0 rfl ae.1 rfl rfl rfl (ae.2 _ (AN.refl _) _ _ _ ⟨_, _, rfl, ah⟩ h1) (uv (Bz rfl) ?_)
 refine ua (Aa (AA ?_))
 refine C3 results117 ?_
 obtain rfl := AP r2
 exact rfl
theorem ML {l : List (List Int)} (ab : Ar 1 eJ F Hg Hj l) (aa : Oa Tryz.prog F Rk Rf Rc eJ Value.bool so) {r : Bool} (hr : Ja l so = some r) :
    Bv Tryz.prog 103 #[sL Hg l.length Hj, .func (.func Rk) Rf Rc] F (.bool r) := by
 refine sp func103 ntmps103 fun K _ _ => ?_
 rw [Ja] at hr
 refine AJ ?_
 refine Bx rfl rfl ?_; intro b1 ah
 refine ua (BL (um ?_))
 refine uv (Fh rfl rfl) ?_
 refine Br 0 rfl ah ?_; intro F2 ad ai
 refine Aw rfl ?_
 replace ab := ab.m2 ad
 replace aa := aa.mono ad
 have aj : Oa Tryz.prog F2 117 #[] #[pO b1] eJ Value.bool (fun ae : (List Int) => G2 ae so) := ⟨call117, fun F2 h2 vs ae r ha hr => by obtain ⟨a5, c6, rfl, h7⟩ := ha; exact LS h7 (h2 _ _ ai) (aa.mono h2) hr⟩
 obtain ⟨ok, h9, ak⟩ := Av hr
 refine cV call116 (I4 ab aj h9) (uv (Bz rfl) ?_)
 refine ua (Aa (AA ?_))
 refine C3 results103 ?_
 obtain rfl := AP ak
 exact rfl
theorem KN {l : List Int} {ad : Nat} {aa : Nat × Nat} (_h_l : Ar 1 eI F Hg Hj l) (ab : F ad = some (.cells #[vI n] 3 aa)) {r : Bool} (hr : FG l n = some r) :
    Bv Tryz.prog 104 #[sL Hg l.length Hj, pO ad] F (.bool r) := by
 refine sp func104 ntmps104 fun K _ _ => ?_
 rw [FG] at hr
 refine AJ (ua (BL (um ?_)))
 refine uv (AQ underlying22 rfl) (uv (AG isAgg3 rfl (Has.frozen ab) rfl) (uv (BO rfl rfl) ?_))
 refine ua (Aa (AA ?_))
 refine C3 results104 ?_
 obtain rfl := AP hr
 exact rfl
set_option maxHeartbeats 1000000 in
theorem Lv (aa : Ar 1 eJ F Aj Ai walks) (_ah : Ar 1 eJ F Ak Al Af) (_ad : Ar 3 eN F Ad Ac Ab) {r : Bool} (hr : H3 walks Af Ae start Ab = some r) :
    Bv Tryz.prog 61 #[.agg #[sL Aj walks.length Ai, sL Ak Af.length Al, vI Ae, vI start, sL Ad Ab.length Ac]] F (.bool r) := by
 refine sp func61 ntmps61 fun K _ _ => ?_
 rw [H3] at hr
 refine AJ ?_
 refine Bx rfl rfl ?_; intro b1 bd
 refine ua (BL ?_)
 refine uv (Ah Df rfl) (uv (BM isAgg23 0) (uv (AQ underlying23 rfl) ?_))
 refine Bh rfl zeroValue3 ?_; intro b2 aq
 refine By (i := 0) sizeOf3 rfl rfl rfl rfl (B2 rfl) (Aw rfl (BL (uv (BM isAgg3 0) ?_)))
 obtain ⟨ok, h3, r4⟩ := Av hr
 refine cV call77 (Ed h3) (um ?_)
 rcases EE ok with c5 | c5
 ·have r6 := bt r4 c5
  refine nB c5 (uv (Ah Ke rfl) (nB c5 (uv (BM isAgg3 1) (nB c5 ?_))))
  obtain ⟨ar, h7, r8⟩ := Av r6
  refine cV call77 (Ed h7) (uv (AF (Gl rfl c5) rfl) (um ?_))
  rcases EE ar with c9 | c9
  ·have al := bt r8 c9
   refine nB c9 (uv (Ah BF rfl) (nB c9 (uv (BM isAgg24 1) (nB c9 (uv (AQ underlying24 rfl) (nB c9 (uv (KM rfl rfl) ?_)))))))
   refine uv (AF (Gl rfl c9) rfl) (um ?_)
   by_cases ab : (Ab.length : Int) ≤ 3
   ·have au := A5 al ab
    refine nT ab (uv (Ah CI rfl) (nT ab (uv (BM isAgg23 1) (nT ab (uv (AQ underlying23 rfl) (nT ab (uv (BM isAgg3 0) ?_)))))))
    refine nT ab (uv (BO rfl rfl) (uv (AF (AX rfl ab) rfl) (um ?_)))
    obtain ⟨ae, av⟩ := AB au
    refine nT ae (uv (Ah CI rfl) (nT ae (uv (BM isAgg23 1) (nT ae (uv (Fh rfl rfl) (nT ae ?_))))))
    refine Br 0 rfl aq ?_; intro aw ai aj
    refine Aw rfl ?_
    replace aa := aa.m2 ai
    have ak : Oa Tryz.prog aw 104 #[] #[pO b2] eJ Value.bool (fun ao : (List Int) => FG ao (Af.length : Int)) := ⟨call104, fun F2 h2 vs ao r ha hr => by obtain ⟨bg, bh, rfl, ax⟩ := ha; exact KN ax (h2 _ _ aj) hr⟩
    obtain ⟨bj, ay, az⟩ := Av av
    refine cV call103 (ML aa ak ay) (uv (AF (AX rfl ae) rfl) ?_)
    refine ua (Aa ?_)
    refine kW kn (AA (C3 results61 ?_))
    obtain rfl := AP az
    exact rfl
   have ba := A4 al ab
   refine fF ab (fF ab (fF ab (fF ab (fF ab ?_))))
   refine uv (AD (AL rfl ab) rfl) ?_
   refine um (Bm (b' := false) 27 rfl rfl rfl rfl (Bm (b' := false) 27 rfl rfl rfl rfl (Bm (b' := false) 27 rfl rfl rfl rfl (Bm (b' := false) 27 rfl rfl rfl rfl ?_))))
   refine uv (AD rfl rfl) ?_
   refine ua (Aa ?_)
   refine kW kn (AA (C3 results61 ?_))
   obtain rfl := AP ba
   exact rfl
  have bb := bf r8 c9
  refine fB c9 (fB c9 (fB c9 (fB c9 ?_)))
  refine uv (AD (Gl rfl c9) rfl) ?_
  refine um (Bm (b' := false) 20 rfl rfl rfl rfl (Bm (b' := false) 20 rfl rfl rfl rfl (Bm (b' := false) 20 rfl rfl rfl rfl (Bm (b' := false) 20 rfl rfl rfl rfl (Bm (b' := false) 20 rfl rfl rfl rfl ?_)))))
  refine uv (AD rfl rfl) ?_
  refine um (Bm (b' := false) 27 rfl rfl rfl rfl (Bm (b' := false) 27 rfl rfl rfl rfl (Bm (b' := false) 27 rfl rfl rfl rfl (Bm (b' := false) 27 rfl rfl rfl rfl ?_))))
  refine uv (AD rfl rfl) ?_
  refine ua (Aa ?_)
  refine kW kn (AA (C3 results61 ?_))
  obtain rfl := AP bb
  exact rfl
 have bc := bf r4 c5
 refine fB c5 (fB c5 (fB c5 ?_))
 refine uv (AD (Gl rfl c5) rfl) ?_
 refine um (Bm (b' := false) 14 rfl rfl rfl rfl (Bm (b' := false) 14 rfl rfl rfl rfl (Bm (b' := false) 14 rfl rfl rfl rfl (Bm (b' := false) 14 rfl rfl rfl rfl ?_))))
 refine uv (AD rfl rfl) ?_
 refine um (Bm (b' := false) 20 rfl rfl rfl rfl (Bm (b' := false) 20 rfl rfl rfl rfl (Bm (b' := false) 20 rfl rfl rfl rfl (Bm (b' := false) 20 rfl rfl rfl rfl (Bm (b' := false) 20 rfl rfl rfl rfl ?_)))))
 refine uv (AD rfl rfl) ?_
 refine um (Bm (b' := false) 27 rfl rfl rfl rfl (Bm (b' := false) 27 rfl rfl rfl rfl (Bm (b' := false) 27 rfl rfl rfl rfl (Bm (b' := false) 27 rfl rfl rfl rfl ?_))))
 refine uv (AD rfl rfl) ?_
 refine ua (Aa ?_)
 refine kW kn (AA (C3 results61 ?_))
 obtain rfl := AP bc
 exact rfl
theorem Gr {s_ : Int} (_h_walks : Ar 1 eJ F Aj Ai walks) (_h_hears : Ar 1 eJ F Ak Al Af) (_h_notices : Ar 3 eN F Ad Ac Ab) {r : Bool} (hr : ET walks Af Ae start Ab s_ = some r) :
    Bv Tryz.prog 62 #[.agg #[sL Aj walks.length Ai, sL Ak Af.length Al, vI Ae, vI start, sL Ad Ab.length Ac], vI s_] F (.bool r) := by
 refine sp func62 ntmps62 fun K _ _ => ?_
 rw [ET] at hr
 refine AJ ?_
 refine Bx rfl rfl ?_; intro b1 aa
 refine ua (BL (um ?_))
 refine uv (Ah Df rfl) (uv (BM isAgg23 0) (uv (AQ underlying23 rfl) ?_))
 obtain ⟨g2, r3⟩ := AB hr
 refine uv (DP rfl rfl g2) ?_
 obtain ⟨ok, h4, r5⟩ := Av r3
 refine cV call77 (Ed h4) ?_
 refine ua (Aa ?_)
 refine kW kn (AA (C3 results62 ?_))
 obtain rfl := AP r5
 exact rfl
set_option maxHeartbeats 1000000 in
theorem Lf (ab : Ar 1 eJ F Aj Ai walks) (_h_hears : Ar 1 eJ F Ak Al Af) (_h_notices : Ar 3 eN F Ad Ac Ab) {r : Bool} (hr : HA walks Af Ae start Ab = some r) :
    Bv Tryz.prog 63 #[.agg #[sL Aj walks.length Ai, sL Ak Af.length Al, vI Ae, vI start, sL Ad Ab.length Ac]] F (.bool r) := by
 refine sp func63 ntmps63 fun K _ _ => ?_
 rw [HA] at hr
 refine AJ ?_
 refine Bx rfl rfl ?_; intro b1 dp
 refine ua (Aa ?_)
 refine AU (fun e1 F1 L1 => Gk = some r ∧ F = F1 ∧ L1 = [] ∧ e1.sub []) ?_ ?_
 ·refine AJ (uv (Ah CI rfl) (uv (BM isAgg23 0) (uv (AQ underlying23 rfl) ?_)))
  refine um (Aa ?_)
  refine Ap (kW kn ?_)
  refine Bb (fun bk e1 F1 L1 => LA walks bk fun tl k => Cn tl k = some r ∧ F = F1 ∧ L1 = [] ∧ e1.sub [(8, sL Aj walks.length Ai), (9, vI (walks.length : Int)), (10, vI k)]) _ (m0 kr ⟨_, _, rfl, Bl.start _, hr, rfl, rfl, z3⟩) ?_
  rintro bk e1 _ _ ⟨tl, k, cp, aq, r4, rfl, rfl, cq⟩
  refine Az _ cq (AJ (uv (AV rfl rfl) ?_))
  refine Aa (Aq ?_)
  refine cQ (fun c7 => ?_) fun c7 => ?_
  ·obtain ⟨x, bl, rfl, cr, bm, ct⟩ := Bl.succ aq c7
   rw [Cn] at r4
   refine Ao ?_
   refine AU (fun e1 F1 L1 => Gm k (Cn bl) = some r ∧ F = F1 ∧ L1 = [] ∧ e1.sub [(8, sL Aj walks.length Ai), (9, vI (walks.length : Int)), (10, vI k)]) ?_ ?_
   ·refine Ap ?_
    refine AJ (um ?_)
    obtain ⟨Nb, dq, dr, cu, ar, au, bn, ⟨bo, bp, rfl, bq⟩, cv, av⟩ := Ar.ta kJ ab bm.1 cr
    refine uv (Cx underlying23 sizeOf22 ar bm) (uv (AG isAgg22 rfl (au _) (av 0 (by decide))) ?_)
    refine ua (ua (BL (um ?_)))
    refine uv (AQ underlying22 rfl) ?_
    refine um (Aa ?_)
    refine Ap ?_
    refine Bb (fun br e1 F1 L1 => LA x br fun bu k2 => DH k (Cn bl) bu k2 = some r ∧ F = F1 ∧ L1 = [] ∧ e1.sub [(3, vI k), (8, sL Aj walks.length Ai), (9, vI (walks.length : Int)), (10, vI k), (15, sL bo x.length bp), (16, vI (x.length : Int)), (17, vI k2)]) _ (m0 kr ⟨_, _, rfl, Bl.start _, r4, rfl, rfl, z7⟩) ?_
    rintro br e1 _ _ ⟨bu, k2, aw, ak, al, rfl, rfl, ax⟩
    refine Az _ ax (AJ (uv (AV rfl rfl) ?_))
    refine Aa (Aq ?_)
    refine cQ (fun ao => ?_) fun ao => ?_
    ·obtain ⟨x2, dt, rfl, ay, bw, az⟩ := Bl.succ ak ao
     rw [DH] at al
     refine Ao (Aq ?_)
     refine Ap ?_
     refine AJ (um ?_)
     obtain ⟨du, dv, dw, cw, ba, bb, bx, rfl, cx, bc⟩ := Ar.ta kI bq bw.1 ay
     refine uv (Cx underlying22 sizeOf3 ba bw) (uv (AG isAgg3 rfl (bb _) (bc 0 (by decide))) ?_)
     refine ua (ua (Aa ?_))
     obtain ⟨k3, bz, bd⟩ := Av al
     refine jE ([]) [(3, vI k), (8, sL Aj walks.length Ai), (9, vI (walks.length : Int)), (10, vI k), (15, sL bo x.length bp), (16, vI (x.length : Int)), (17, vI k2), (42, .bool k3)] ?_ ?_
     ·clear bd
      refine An (um (um ?_))
      refine uv (BO rfl rfl) (um ?_)
      by_cases ah : k = k2
      ·have cb := A5 bz ah
       refine nT ah (um (nT ah ?_))
       refine uv (Bt rfl rfl) (uv (AF (AX rfl ah) rfl) (um ?_))
       by_cases aa : x2 ≠ 0
       ·have cy := A5 cb aa
        refine fT aa (fT aa (fT aa (fT aa (fU (fU (fT aa (fT aa (fU (fU ?_)))))))))
        refine fU (fT aa ?_)
        refine uv (AF (AX rfl aa) rfl) (Aa ?_)
        obtain rfl := AP cy
        exact mi kr ⟨rfl, rfl, z8⟩
       have cc := A4 cb aa
       refine nF aa (um (nF aa (um (nF aa ?_))))
       refine uv (Bt rfl rfl) ?_
       refine nF aa (um ?_)
       by_cases ai : k ≠ k2
       ·have cf := A5 cc ai
        refine nT ai (um (nT ai ?_))
        refine uv (Bt rfl rfl) (nF aa (uv (AF (AX rfl ai) rfl) ?_))
        refine nF aa (um ?_)
        by_cases ad : x2 ≠ (-1)
        ·have cz := A5 cf ad
         refine nT ad (um (nT ad ?_))
         obtain ⟨ok, da, db⟩ := Av cz
         refine cV call77 (Ed da) (nT ad (uv (Bz rfl) (nF aa (uv (AF (AX rfl ad) rfl) (uv (AD (AL rfl aa) rfl) (Aa ?_))))))
         obtain rfl := AP db
         exact mi kr ⟨rfl, rfl, z8⟩
        have dd := A4 cf ad
        refine fF ad (fF ad (fF ad (nF aa ?_)))
        refine uv (AD (AL rfl ad) rfl) (uv (AD (AL rfl aa) rfl) (Aa ?_))
        obtain rfl := AP dd
        exact mi kr ⟨rfl, rfl, z8⟩
       have de := A4 cc ai
       refine fF ai (fF ai (nF aa ?_))
       refine uv (AD (AL rfl ai) rfl) ?_
       refine nF aa (um (Bm (b' := false) 37 rfl rfl rfl rfl (Bm (b' := false) 37 rfl rfl rfl rfl (Bm (b' := false) 37 rfl rfl rfl rfl (nF aa ?_)))))
       refine uv (AD rfl rfl) (uv (AD (AL rfl aa) rfl) (Aa ?_))
       obtain rfl := AP de
       exact mi kr ⟨rfl, rfl, z8⟩
      have cg := A4 bz ah
      refine fF ah (fF ah ?_)
      refine uv (AD (AL rfl ah) rfl) ?_
      refine um (BV (b := false) 29 rfl rfl (um (BV (b := false) 29 rfl rfl (um (BV (b := false) 29 rfl rfl ?_)))))
      refine uv (Bt rfl rfl) ?_
      refine BV (b := false) 29 rfl rfl (um ?_)
      by_cases aj : k ≠ k2
      ·have cj := A5 cg aj
       refine nT aj (um (nT aj ?_))
       refine uv (Bt rfl rfl) (BV (b := false) 29 rfl rfl (uv (AF (AX rfl aj) rfl) ?_))
       refine BV (b := false) 29 rfl rfl (um ?_)
       by_cases ae : x2 ≠ (-1)
       ·have df := A5 cj ae
        refine nT ae (um (nT ae ?_))
        obtain ⟨dx, dg, dh⟩ := Av df
        refine cV call77 (Ed dg) (nT ae (uv (Bz rfl) (BV (b := false) 29 rfl rfl (uv (AF (AX rfl ae) rfl) (uv (AD rfl rfl) (Aa ?_))))))
        obtain rfl := AP dh
        exact mi kr ⟨rfl, rfl, z8⟩
       have di := A4 cj ae
       refine fF ae (fF ae (fF ae (BV (b := false) 29 rfl rfl ?_)))
       refine uv (AD (AL rfl ae) rfl) (uv (AD rfl rfl) (Aa ?_))
       obtain rfl := AP di
       exact mi kr ⟨rfl, rfl, z8⟩
      have Cs := A4 cg aj
      refine fF aj (fF aj (BV (b := false) 29 rfl rfl ?_))
      refine uv (AD (AL rfl aj) rfl) ?_
      refine BV (b := false) 29 rfl rfl (um (Bm (b' := false) 37 rfl rfl rfl rfl (Bm (b' := false) 37 rfl rfl rfl rfl (Bm (b' := false) 37 rfl rfl rfl rfl (BV (b := false) 29 rfl rfl ?_)))))
      refine uv (AD rfl rfl) (uv (AD rfl rfl) (Aa ?_))
      obtain rfl := AP Cs
      exact mi kr ⟨rfl, rfl, z8⟩
     refine AR rfl (fun bg => ?_) (fun bg => ?_)
     ·have dk := bt bd bg
      refine AJ (ua (Aa (AA (AK (As (As (AK (AK (As ?_)))))))))
      refine As (AK (As ?_))
      refine C3 results63 ?_
      obtain rfl := AP dk
      exact rfl
     have dm := bf bd bg
     refine Ao (Ay (id := 3) (An ?_))
     refine uv (A0 rfl rfl (Bl.Cs ak ao (Ar.lt bq))) ?_
     refine um (Aa ?_)
     subst aw; exact le kr ⟨_, _, rfl, az, dm, rfl, rfl, z7⟩
    obtain rfl := Bl.zero ak ao
    rw [DH] at al
    refine AI (Am (Am ?_))
    refine At (Ay (id := 1) ?_)
    exact mi kr ⟨al, rfl, rfl, z3⟩
   rintro e1 _ _ ⟨ck, rfl, rfl, bh⟩
   refine Az _ bh ?_
   rw [Gm] at ck
   refine An (uv (A0 rfl rfl (Bl.Cs aq c7 (Ar.lt ab))) ?_)
   refine um (Aa ?_)
   subst cp; exact le kr ⟨_, _, rfl, ct, ck, rfl, rfl, z3⟩
  obtain rfl := Bl.zero aq c7
  rw [Cn] at r4
  refine AI (Am (Am ?_))
  refine At ?_
  exact mi kr ⟨r4, rfl, rfl, (sn _)⟩
 rintro e1 _ _ ⟨cn, rfl, rfl, bj⟩
 refine Az _ bj ?_
 rw [Gk] at cn
 refine AJ (ua (Aa (AA ?_)))
 refine C3 results63 ?_
 obtain rfl := AP cn
 exact rfl
theorem KS {s_ : List Int} (aa : Ar 1 eI F D3 D4 s_) {r : Int} (hr : He s_ v = some r) :
    Bv Tryz.prog 118 #[sL D3 s_.length D4, vI v] F (vI r) := by
 refine sp func118 ntmps118 fun K _ _ => ?_
 rw [He] at hr
 refine AJ (ua (Aa ?_))
 refine AU (fun e1 F1 L1 => Gb = some r ∧ F = F1 ∧ L1 = [] ∧ e1.sub []) ?_ ?_
 ·refine AJ (um ?_)
  refine uv (AQ underlying22 rfl) ?_
  refine um (Aa ?_)
  refine Ap ?_
  refine Bb (fun ak e1 F1 L1 => LA s_ ak fun tl k => DB v tl k = some r ∧ F = F1 ∧ L1 = [] ∧ e1.sub [(0, sL D3 s_.length D4), (1, vI v), (7, vI (s_.length : Int)), (8, vI k)]) _ (m0 kr ⟨_, _, rfl, Bl.start _, hr, rfl, rfl, z4⟩) ?_
  rintro ak e1 _ _ ⟨tl, k, aq, ab, r3, rfl, rfl, ar⟩
  refine Az _ ar (AJ (uv (AV rfl rfl) ?_))
  refine Aa (Aq ?_)
  refine cQ (fun c6 => ?_) fun c6 => ?_
  ·obtain ⟨x, ba, rfl, au, g9, av⟩ := Bl.succ ab c6
   rw [DB] at r3
   refine Ao (Aq ?_)
   refine Ap ?_
   refine AJ (um (ua (BL (um (um (um ?_))))))
   obtain ⟨NF, bb, bc, aw, ad, ae, al, rfl, ax, ah⟩ := Ar.ta kI aa g9.1 au
   refine uv (Cx underlying22 sizeOf3 ad g9) (uv (AG isAgg3 rfl (ae _) (ah 0 (by decide))) (uv (BO rfl rfl) (Aa ?_)))
   refine cQ (fun ai => ?_) fun ai => ?_
   ·have ay := A5 r3 ai
    refine AJ (um (ua (Aa (AA (AK (As (As (AK (As ?_)))))))))
    refine C3 results118 ?_
    obtain rfl := AP ay
    exact rfl
   have az := A4 r3 ai
   refine Ao (Ay (id := 1) (An ?_))
   refine uv (A0 rfl rfl (Bl.Cs ab c6 (Ar.lt aa))) ?_
   refine um (Aa ?_)
   subst aq; exact le kr ⟨_, _, rfl, av, az, rfl, rfl, z4⟩
  obtain rfl := Bl.zero ab c6
  rw [DB] at r3
  refine AI (Am (Am ?_))
  refine At ?_
  exact mi kr ⟨r3, rfl, rfl, (sn _)⟩
 rintro e1 _ _ ⟨ao, rfl, rfl, aj⟩
 refine Az _ aj ?_
 rw [Gb] at ao
 refine AJ (ua (Aa (AA ?_)))
 refine C3 results118 ?_
 obtain rfl := AP ao
 exact rfl
theorem D2 {s_ : List Int} (aa : Ar 1 eI F D3 D4 s_) {r : Bool} (hr : CG s_ v = some r) :
    Bv Tryz.prog 105 #[sL D3 s_.length D4, vI v] F (.bool r) := by
 refine sp func105 ntmps105 fun K _ _ => ?_
 rw [CG] at hr
 refine AJ (ua (BL (um (um ?_))))
 obtain ⟨n, h1, r2⟩ := Av hr
 refine cV call118 (KS aa h1) (uv (HV rfl rfl) ?_)
 refine ua (Aa (AA ?_))
 refine C3 results105 ?_
 obtain rfl := AP r2
 exact rfl
set_option maxHeartbeats 1000000 in
theorem Jk {l : List Int} (_h_walks : Ar 1 eJ F Aj Ai walks) (_h_hears : Ar 1 eJ F Ak Al Af) (_h_notices : Ar 3 eN F Ad Ac Ab) (ab : Ar 1 eI F Hg Hj l) {r : Int} (hr : GZ walks Af Ae start Ab l = some r) :
    Bv Tryz.prog 64 #[.agg #[sL Aj walks.length Ai, sL Ak Af.length Al, vI Ae, vI start, sL Ad Ab.length Ac], sL Hg l.length Hj] F (vI r) := by
 refine sp func64 ntmps64 fun K _ _ => ?_
 rw [GZ] at hr
 refine AJ ?_
 refine Bx rfl rfl ?_; intro b1 bw
 refine ua (Aa ?_)
 refine AU (fun e1 F1 L1 => Hm = some r ∧ F = F1 ∧ L1 = [] ∧ e1.sub []) ?_ ?_
 ·refine AJ (um ?_)
  refine uv (AQ underlying22 rfl) ?_
  refine um (Aa ?_)
  refine Ap ?_
  refine Bb (fun ao e1 F1 L1 => LA l ao fun tl k => Et Ae l tl k = some r ∧ F = F1 ∧ L1 = [(b1, ce #[sL Aj walks.length Ai, sL Ak Af.length Al, vI Ae, vI start, sL Ad Ab.length Ac] 26)] ∧ e1.sub [(1, sL Hg l.length Hj), (2, pO b1), (7, sL Hg l.length Hj), (8, vI (l.length : Int)), (9, vI k)]) _ (m0 kr ⟨_, _, rfl, Bl.start _, hr, rfl, rfl, z5⟩) ?_
  rintro ao e1 _ _ ⟨tl, k, ax, ad, r4, rfl, rfl, ay⟩
  refine Az _ ay (AJ (uv (AV rfl rfl) ?_))
  refine Aa (Aq ?_)
  refine cQ (fun c7 => ?_) fun c7 => ?_
  ·obtain ⟨x, bx, rfl, az, aq, ba⟩ := Bl.succ ad c7
   rw [Et] at r4
   refine Ao (Aq ?_)
   refine Ap ?_
   refine AJ (um ?_)
   obtain ⟨Nb, bz, cb, bb, ae, ah, ar, rfl, bc, ai⟩ := Ar.ta kI ab aq.1 az
   refine uv (Cx underlying22 sizeOf3 ae aq) (uv (AG isAgg3 rfl (ah _) (ai 0 (by decide))) ?_)
   refine ua (ua (Aa (Aq (AJ (um ?_)))))
   refine uv (Ah Ke rfl) (uv (BM isAgg3 0) ?_)
   obtain ⟨bd, bg⟩ := AB r4
   refine uv (DP rfl rfl bd) ?_
   obtain ⟨ok, bh, au⟩ := Av bg
   refine cV call77 (Ed bh) (uv (Bz rfl) (Aa ?_))
   refine AR rfl (fun aj => ?_) (fun aj => ?_)
   ·have bj := bt au aj
    refine AJ (ua (Aa ?_))
    refine kW kn ?_
    refine AA (As (AK (As (As (AK (As ?_))))))
    refine C3 results64 ?_
    obtain rfl := AP bj
    exact rfl
   have bk := bf au aj
   refine Ao (AJ (um (um ?_)))
   obtain ⟨bl, bm⟩ := AB bk
   obtain ⟨l2, bn, bo⟩ := BC bm
   obtain ⟨cc, cf, bp, aa⟩ := Ar.slice kI ab bl bn
   refine uv ((J2 (l := 0) (h := k) underlying22 sizeOf3 rfl (.inl ⟨rfl, rfl⟩) (.inr ⟨_, rfl, rfl⟩) aa.1).eq aa.2) (um ?_)
   obtain ⟨cg, bq, av⟩ := Av bo
   refine cV call105 (D2 bp bq) (Aa ?_)
   refine AR rfl (fun ak => ?_) (fun ak => ?_)
   ·have br := bt av ak
    refine AJ (ua (Aa ?_))
    refine kW kn ?_
    refine AA (AK (As (As (AK (As ?_)))))
    refine C3 results64 ?_
    obtain rfl := AP br
    exact rfl
   have bu := bf av ak
   refine Ao (Ay (id := 1) (An ?_))
   refine uv (A0 rfl rfl (Bl.Cs ad c7 (Ar.lt ab))) ?_
   refine um (Aa ?_)
   subst ax; exact le kr ⟨_, _, rfl, ba, bu, rfl, rfl, z5⟩
  obtain rfl := Bl.zero ad c7
  rw [Et] at r4
  refine AI (Am (Am ?_))
  refine At ?_
  exact mi kn ⟨r4, rfl, rfl, (sn _)⟩
 rintro e1 _ _ ⟨aw, rfl, rfl, al⟩
 refine Az _ al ?_
 rw [Hm] at aw
 refine AJ (ua (Aa (AA ?_)))
 refine C3 results64 ?_
 obtain rfl := AP aw
 exact rfl
set_option maxHeartbeats 1000000 in
theorem Ml {aa : Option Addr} {ab : Nat} {quarter : List Int} {words hour : Int} (ai : Ar 1 eJ F Aj Ai walks) (aj : Ar 1 eJ F Ak Al Af) (ad : Ar 3 eN F Ad Ac Ab) (ae : Ar 1 eI F aa ab quarter) {r : Int} (hr : IN walks Af Ae start Ab quarter words hour = some r) :
    Bv Tryz.prog 65 #[.agg #[sL Aj walks.length Ai, sL Ak Af.length Al, vI Ae, vI start, sL Ad Ab.length Ac], .agg #[sL aa quarter.length ab, vI words, vI hour]] F (vI r) := by
 refine sp func65 ntmps65 fun K _ _ => ?_
 rw [IN] at hr
 refine AJ ?_
 refine Bx rfl rfl ?_; intro b1 bc
 refine Bx rfl rfl ?_; intro b2 bd
 refine ua (Aa (Aq (AJ ?_)))
 refine uv (Ah GX rfl) (uv (BM isAgg22 0) (uv (AQ underlying22 rfl) (uv (BO rfl rfl) (Aa ?_))))
 obtain ⟨g4, r5⟩ := AB hr
 refine BP rfl (fun c6 => absurd c6 g4) (fun c6 => ?_)
 refine Ao (Aq (AJ ?_))
 refine uv (CA isAgg26 sizeOf26 1) (uv (Ah GX rfl) (uv (BM isAgg22 0) ?_))
 obtain ⟨n, h7, r8⟩ := Av r5
 refine cV call64 (Jk ai aj ad ae h7) ?_
 refine ua (BL (um ?_))
 refine uv (Bt rfl rfl) (Aa ?_)
 refine cQ (fun c9 => ?_) fun c9 => ?_
 ·have aq := A5 r8 c9
  refine AJ (um (ua (Aa ?_)))
  refine kW kn ?_
  refine AA (As ?_)
  refine C3 results65 ?_
  obtain rfl := AP aq
  exact rfl
 have ar := A4 r8 c9
 refine Ao (Aq ?_)
 obtain ⟨k, au, ak⟩ := Av ar
 refine jE ([]) [(26, .bool k)] ?_ ?_
 ·clear ak
  refine An (uv (Ah KO rfl) (uv (BM isAgg3 0) ?_))
  obtain ⟨ok, av, ao⟩ := Av au
  refine cV call77 (Ed av) (uv (Bz rfl) (um ?_))
  rcases EE (!ok) with ah | ah
  ·have aw := bt ao ah
   refine fB ah (fB ah (fB ah (fB ah ?_)))
   refine uv (AF (Gl rfl ah) rfl) (Aa ?_)
   obtain rfl := AP aw
   exact mi kn ⟨rfl, rfl, z1⟩
  have ax := bf ao ah
  refine nB ah (uv (Ah Ic rfl) (nB ah (uv (BM isAgg3 0) (nB ah ?_))))
  obtain ⟨bg, ay, az⟩ := Av ax
  refine cV call77 (Ed ay) (nB ah (uv (Bz rfl) (uv (AD (Gl rfl ah) rfl) (Aa ?_))))
  obtain rfl := AP az
  exact mi kn ⟨rfl, rfl, z1⟩
 refine AR rfl (fun al => ?_) (fun al => ?_)
 ·have ba := bt ak al
  refine AJ (ua (Aa (AA (As ?_))))
  refine C3 results65 ?_
  obtain rfl := AP ba
  exact rfl
 have bb := bf ak al
 refine Ao (AJ (ua (Aa (AA ?_))))
 refine C3 results65 ?_
 obtain rfl := AP bb
 exact rfl
set_option maxHeartbeats 1000000 in
theorem GL (ad : Ar 1 eJ F Aj Ai walks) (ab : Ar 1 eJ F Ak Al Af) (aa : Ar 3 eN F Ad Ac Ab) {r : Int} (hr : Gj walks Af Ae start Ab = some r) :
    Bv Tryz.prog 13 #[.agg #[sL Aj walks.length Ai, sL Ak Af.length Al, vI Ae, vI start, sL Ad Ab.length Ac]] F (vI r) := by
 refine sp func13 ntmps13 fun K _ _ => ?_
 rw [Gj] at hr
 refine AJ ?_
 refine Bx rfl rfl ?_; intro b1 dp
 refine ua (Aa (Aq ?_))
 refine Ap (AJ (uv (CA isAgg26 sizeOf26 0) ?_))
 obtain ⟨ok, h2, r3⟩ := Av hr
 refine cV call61 (Lv ad ab aa h2) (uv (Bz rfl) ?_)
 refine ua (Aa ?_)
 refine AR rfl (fun c4 => ?_) (fun c4 => ?_)
 ·have r5 := bt r3 c4
  refine AJ (ua (Aa ?_))
  refine kW kn ?_
  refine AA (AK (As ?_))
  refine C3 results13 ?_
  obtain rfl := AP r5
  exact rfl
 have r6 := bf r3 c4
 refine AJ (uv (CA isAgg26 sizeOf26 0) (uv (Ah Jt rfl) (uv (BM isAgg3 0) ?_)))
 obtain ⟨dq, h7, r8⟩ := Av r6
 refine cV call62 (Gr ad ab aa h7) (uv (Bz rfl) ?_)
 refine ua (Aa ?_)
 refine AR rfl (fun c9 => ?_) (fun c9 => ?_)
 ·have cn := bt r8 c9
  refine AJ (ua (Aa ?_))
  refine kW kn ?_
  refine AA (AK (As ?_))
  refine C3 results13 ?_
  obtain rfl := AP cn
  exact rfl
 have cp := bf r8 c9
 refine AJ (uv (CA isAgg26 sizeOf26 0) ?_)
 obtain ⟨dr, cq, bq⟩ := Av cp
 refine cV call63 (Lf ad ab aa cq) (uv (Bz rfl) ?_)
 refine ua (Aa ?_)
 refine AR rfl (fun ar => ?_) (fun ar => ?_)
 ·have cr := bt bq ar
  refine AJ (ua (Aa ?_))
  refine kW kn ?_
  refine AA (AK (As ?_))
  refine C3 results13 ?_
  obtain rfl := AP cr
  exact rfl
 have ct := bf bq ar
 refine Ao (Ay (id := 0) ?_)
 refine AU (fun e1 F1 L1 => JW walks Af Ae start Ab = some r ∧ F = F1 ∧ L1 = [(b1, ce #[sL Aj walks.length Ai, sL Ak Af.length Al, vI Ae, vI start, sL Ad Ab.length Ac] 26)] ∧ e1.sub [(1, pO b1)]) ?_ ?_
 ·refine AJ (uv (Ah Df rfl) (uv (BM isAgg23 0) (uv (AQ underlying23 rfl) ?_)))
  refine um (Aa ?_)
  refine Ap ?_
  refine Bb (fun br e1 F1 L1 => LA Af br fun tl k => Hf walks Af Ae start Ab tl = some r ∧ F = F1 ∧ L1 = [(b1, ce #[sL Aj walks.length Ai, sL Ak Af.length Al, vI Ae, vI start, sL Ad Ab.length Ac] 26)] ∧ e1.sub [(1, pO b1), (25, sL Ak Af.length Al), (26, vI (Af.length : Int)), (27, vI k)]) _ (m0 kr ⟨_, _, rfl, Bl.start _, ct, rfl, rfl, z4⟩) ?_
  rintro br e1 _ _ ⟨tl, k, au, ai, ak, rfl, rfl, av⟩
  refine Az _ av (AJ (uv (AV rfl rfl) ?_))
  refine Aa (Aq ?_)
  refine cQ (fun al => ?_) fun al => ?_
  ·obtain ⟨x, dt, rfl, aw, bu, ax⟩ := Bl.succ ai al
   rw [Hf] at ak
   refine Ao (Aq ?_)
   refine Ap (AJ ?_)
   obtain ⟨du, dv, dw, cu, ay, az, bw, ⟨dx, dy, rfl, cv⟩, cw, ba⟩ := Ar.ta kJ ab bu.1 aw
   refine uv (Cx underlying23 sizeOf22 ay bu) (uv (AG isAgg22 rfl (az _) (ba 0 (by decide))) ?_)
   refine ua (BL ?_)
   refine uv (CA isAgg26 sizeOf26 0) (um ?_)
   obtain ⟨n, cx, bx⟩ := Av ak
   refine cV call64 (Jk ad ab aa cv cx) ?_
   refine ua (BL (um ?_))
   refine uv (Bt rfl rfl) (Aa ?_)
   refine cQ (fun bb => ?_) fun bb => ?_
   ·have cy := A5 bx bb
    refine AJ (um (ua (Aa ?_)))
    refine kW kn ?_
    refine AA (AK (As (As (AK (As ?_)))))
    refine C3 results13 ?_
    obtain rfl := AP cy
    exact rfl
   have cz := A4 bx bb
   refine Ao (Ay (id := 2) (An ?_))
   refine uv (A0 rfl rfl (Bl.Cs ai al (Ar.lt ab))) ?_
   refine um (Aa ?_)
   subst au; exact le kr ⟨_, _, rfl, ax, cz, rfl, rfl, z4⟩
  obtain rfl := Bl.zero ai al
  rw [Hf] at ak
  refine AI (Am (Am ?_))
  refine At ?_
  exact mi kr ⟨ak, rfl, rfl, z1⟩
 rintro e1 _ _ ⟨bz, rfl, rfl, bc⟩
 refine Az _ bc ?_
 rw [JW] at bz
 refine AJ (ua (Aa ?_))
 refine AU (fun e1 F1 L1 => ∃ (AE : Int), JJ AE = some r ∧ F = F1 ∧ L1 = [] ∧ e1.sub [(6, vI AE)]) ?_ ?_
 ·refine AJ (uv (Ah BF rfl) (uv (BM isAgg24 0) (uv (AQ underlying24 rfl) ?_)))
  refine um (Aa ?_)
  refine Ap ?_
  refine Bb (fun cb e1 F1 L1 => LA Ab cb fun cc k2 => ∃ (ae : Int), Hl walks Af Ae start Ab cc ae = some r ∧ F = F1 ∧ L1 = [(b1, ce #[sL Aj walks.length Ai, sL Ak Af.length Al, vI Ae, vI start, sL Ad Ab.length Ac] 26)] ∧ e1.sub [(1, pO b1), (6, vI ae), (39, sL Ad Ab.length Ac), (40, vI (Ab.length : Int)), (41, vI k2)]) _ (m0 kr ⟨_, _, rfl, Bl.start _, 0, bz, rfl, rfl, z5⟩) ?_
  rintro cb e1 _ _ ⟨cc, k2, bd, aj, ae, ao, rfl, rfl, bg⟩
  refine Az _ bg (AJ (uv (AV rfl rfl) ?_))
  refine Aa (Aq ?_)
  refine cQ (fun aq => ?_) fun aq => ?_
  ·obtain ⟨x2, dz, rfl, bh, cf, bj⟩ := Bl.succ aj aq
   rw [Hl] at ao
   refine Ao (Aq ?_)
   refine Ap (AJ ?_)
   obtain ⟨eb, ec, ef, da, bk, bl, ah, ⟨_, _, rfl, ⟨eg, eh, rfl, db⟩, ⟨_, _, rfl, rfl, rfl⟩⟩, bm, bn⟩ := Ar.ta kN aa cf.1 bh
   refine uv (Cx underlying24 sizeOf35 bk cf) (uv (AZ isAgg35 sizeOf35 rfl (bl _) ah (Ba ah bm bn)) ?_)
   refine Bh rfl zeroValue35 ?_; intro ei dd
   refine A8 (i := 0) sizeOf35 rfl rfl rfl (by simp [Value.oneCell']) rfl (B2 rfl) (Aw rfl ?_)
   refine Aa (Aq (AJ ?_))
   refine uv (CA isAgg26 sizeOf26 1) (uv (CA isAgg35 sizeOf35 0) ?_)
   obtain ⟨n2, de, cg⟩ := Av ao
   refine cV call65 (Ml ad ab aa db de) ?_
   refine ua (BL (um ?_))
   refine uv (Bt rfl rfl) (Aa ?_)
   refine cQ (fun bo => ?_) fun bo => ?_
   ·have df := A5 cg bo
    refine AJ (um (ua (Aa ?_)))
    refine kW kn ?_
    refine AA (As (AK (As (As (AK (As ?_))))))
    refine C3 results13 ?_
    obtain rfl := AP df
    exact rfl
   have dg := A4 cg bo
   refine Ao (An (um ?_))
   refine uv (Ah GX rfl) (uv (BM isAgg22 0) (uv (AQ underlying22 rfl) ?_))
   obtain ⟨dh, di⟩ := AB dg
   refine uv (A0 rfl rfl dh) ?_
   refine ua (Aa (Ay (id := 4) (An ?_)))
   refine uv (A0 rfl rfl (Bl.Cs aj aq (Ar.lt aa))) ?_
   refine um (Aa ?_)
   subst bd; exact le (kd kr) ⟨_, _, rfl, bj, ae + (x2.1.length : Int), di, rfl, rfl, z5⟩
  obtain rfl := Bl.zero aj aq
  rw [Hl] at ao
  refine AI (Am (Am ?_))
  refine At ?_
  exact mi kn ⟨ae, ao, rfl, rfl, z1⟩
 rintro e1 _ _ ⟨AE, cj, rfl, rfl, bp⟩
 refine Az _ bp ?_
 rw [JJ] at cj
 refine Aq (AJ (um ?_))
 refine uv (CQ rfl rfl) (Aa ?_)
 obtain ⟨dk, dm⟩ := AB cj
 refine BP rfl (fun ck => absurd ck dk) (fun ck => ?_)
 refine Ao (AJ (ua (Aa (AA ?_))))
 refine C3 results13 ?_
 obtain rfl := AP dm
 exact rfl
set_option maxHeartbeats 1000000 in
theorem Jd {l : List Int} (ah : Ar 1 eI F Hg Hj l) {r : Int} (hr : HK l = some r) :
    Bv Tryz.prog 83 #[sL Hg l.length Hj] F (vI r) := by
 refine sp func83 ntmps83 fun K _ _ => ?_
 rw [HK] at hr
 refine AJ (ua (BL (ua (Aa ?_))))
 obtain ⟨out, h1, r2⟩ := Av hr
 refine jE ([]) [(3, vI out)] ?_ ?_
 ·clear r2
  refine AJ (um ?_)
  refine uv (AQ underlying22 rfl) ?_
  refine um (Aa ?_)
  refine Ap ?_
  refine Bb (fun ar e1 F1 L1 => LA l ar fun tl k => ∃ (ab : Int), ER tl ab = some out ∧ F = F1 ∧ L1 = [] ∧ e1.sub [(3, vI ab), (6, sL Hg l.length Hj), (7, vI (l.length : Int)), (8, vI k)]) _ (m0 kr ⟨_, _, rfl, Bl.start _, -1, h1, rfl, rfl, z4⟩) ?_
  rintro ar e1 _ _ ⟨tl, k, au, ae, ab, r5, rfl, rfl, ba⟩
  refine Az _ ba (AJ (uv (AV rfl rfl) ?_))
  refine Aa (Aq ?_)
  refine cQ (fun c8 => ?_) fun c8 => ?_
  ·obtain ⟨x, bl, rfl, ai, av, aw⟩ := Bl.succ ae c8
   rw [ER] at r5
   refine Ao (Aq ?_)
   refine Ap (AJ ?_)
   obtain ⟨OY, bm, bn, bb, aj, ak, ax, rfl, bc, al⟩ := Ar.ta kI ah av.1 ai
   refine uv (Cx underlying22 sizeOf3 aj av) (uv (AG isAgg3 rfl (ak _) (al 0 (by decide))) ?_)
   refine ua (Aa ?_)
   obtain ⟨k2, ay, ao⟩ := Av r5
   refine jE ([]) [(3, vI ab), (5, vI x), (6, sL Hg l.length Hj), (7, vI (l.length : Int)), (8, vI k), (22, .bool k2)] ?_ ?_
   ·clear ao
    refine An (um ?_)
    refine uv (Bt rfl rfl) (um ?_)
    by_cases aa : x ≠ (-1)
    ·have az := A5 ay aa
     refine nT aa (um (nT aa ?_))
     refine uv (BO rfl rfl) ?_
     refine nT aa (um ?_)
     by_cases ad : ab = (-1)
     ·have bd := A5 az ad
      refine fT ad (fT ad (fT ad (nT aa ?_)))
      refine uv (AF (AX rfl ad) rfl) (uv (AF (AX rfl aa) rfl) (Aa ?_))
      obtain rfl := AP bd
      exact mi kr ⟨rfl, rfl, z6⟩
     have bg := A4 az ad
     refine nF ad (um (nF ad (um (nF ad ?_))))
     refine uv (AV rfl rfl) (nT aa (uv (AD (AL rfl ad) rfl) (uv (AF (AX rfl aa) rfl) (Aa ?_))))
     obtain rfl := AP bg
     exact mi kr ⟨rfl, rfl, z6⟩
    have bh := A4 ay aa
    refine fF aa (fF aa (fF aa (fU (fU (fU (fF aa ?_))))))
    refine uv (AD (AL rfl aa) rfl) (Aa ?_)
    obtain rfl := AP bh
    exact mi kr ⟨rfl, rfl, z6⟩
   refine AR rfl (fun aq => ?_) (fun aq => ?_)
   ·have bj := bt ao aq
    refine An (um (ua (Aa (Ay (id := 1) (An ?_)))))
    refine uv (A0 rfl rfl (Bl.Cs ae c8 (Ar.lt ah))) ?_
    refine um (Aa ?_)
    subst au; exact le kr ⟨_, _, rfl, aw, x, bj, rfl, rfl, z4⟩
   have bk := bf ao aq
   refine Ao (Ay (id := 1) (An ?_))
   refine uv (A0 rfl rfl (Bl.Cs ae c8 (Ar.lt ah))) ?_
   refine um (Aa ?_)
   subst au; exact le kr ⟨_, _, rfl, aw, ab, bk, rfl, rfl, z4⟩
  obtain rfl := Bl.zero ae c8
  rw [ER] at r5
  refine AI (Am (Am ?_))
  refine At ?_
  obtain rfl := AP r5
  exact mi kr ⟨rfl, rfl, z1⟩
 refine AJ (um (ua (Aa (AA ?_))))
 refine C3 results83 ?_
 obtain rfl := AP r2
 exact rfl
set_option maxHeartbeats 1000000 in
theorem IJ {w : List Int} (ad : w.length = 25) {r : List Int} (hr : FR w = some r) :
    SH.Spec Tryz.prog 106 #[.agg (arr (cI .i64) w)] F [] fun _ L' v => v = .agg (arr (cI .i64) r) ∧ L' = [] ∧ r.length = 25 := by
 refine sp func106 ntmps106 fun K _ _ => ?_
 rw [FR] at hr
 refine AJ ?_
 refine Bx rfl rfl ?_; intro b1 gm
 refine Bh rfl zeroValue118 ?_; intro b2 gn
 refine Aw (L' := [(b2, ce (arr (cI .i64) (List.replicate 25 0)) 118), (b1, ce (arr (cI .i64) w) 118)]) rfl (BL (uv (LO isAgg118 sizeOf118 rfl (Has.own 1 rfl) (Hk (Bj .i64) ad)) ?_))
 refine Bh rfl zeroValue118 ?_; intro b3 gp
 refine Aw (L' := [(b3, ce (arr (cI .i64) (List.replicate 25 0)) 118), (b2, ce (arr (cI .i64) (List.replicate 25 0)) 118), (b1, ce (arr (cI .i64) w) 118)]) rfl (Lq (i := 0) sizeOf118 rfl rfl rfl (Hk (Bj .i64) List.length_replicate) (Hk (Bj .i64) ad) (MQ (Bj .i64)) (Aw (L' := [(b3, ce (arr (cI .i64) w) 118), (b2, ce (arr (cI .i64) (List.replicate 25 0)) 118), (b1, ce (arr (cI .i64) w) 118)]) rfl (Aa ?_)))
 obtain ⟨out, h5, r6⟩ := Av hr
 refine AU (fun e1 F1 L1 => AN F F1 ∧ L1 = [(b3, ce (arr (cI .i64) out) 118), (b2, ce (arr (cI .i64) (List.replicate 25 0)) 118)] ∧ e1.sub [(2, pO b2), (3, pO b3)] ∧ out.length = 25) ?_ ?_
 ·clear r6
  refine AJ (um (Aa ?_))
  refine Ap ?_
  obtain ⟨g8, r9⟩ := AB h5
  refine Bb (fun bu e1 F1 L1 => ∃ (k : Int), CC 0 5 k bu ∧ ∃ (ae : List Int), DF w bu k ae = some out ∧ AN F F1 ∧ L1 = [(b3, ce (arr (cI .i64) ae) 118), (b2, ce (arr (cI .i64) (List.replicate 25 0)) 118), (b1, ce (arr (cI .i64) w) 118)] ∧ e1.sub [(1, pO b1), (2, pO b2), (3, pO b3), (8, vI k)] ∧ ae.length = 25) _ (m0 kr ⟨_, CC.start _ _, w, r9, AN.refl _, rfl, z4, ad⟩) ?_
  rintro bu e1 dy _ ⟨k, aq, ae, bw, av, rfl, cj, h7⟩
  refine Az _ cj (AJ (uv (AV rfl rfl) ?_))
  refine Aa (Aq ?_)
  refine cQ (fun bx => ?_) fun bx => ?_
  ·obtain ⟨bu, rfl, ck⟩ := CC.succ aq bx
   rw [DF] at bw
   refine Ao ?_
   obtain ⟨ai, fa, dz⟩ := Av bw
   refine AU (fun e1 F1 L1 => AN dy F1 ∧ L1 = [(b3, ce (arr (cI .i64) ai) 118), (b2, ce (arr (cI .i64) (List.replicate 25 0)) 118), (b1, ce (arr (cI .i64) w) 118)] ∧ e1.sub [(1, pO b1), (2, pO b2), (3, pO b3), (8, vI k)] ∧ ai.length = 25) ?_ ?_
   ·clear dz
    refine Ap ?_
    refine AJ (um (ua (BL (um (Aa ?_)))))
    refine Ap ?_
    obtain ⟨fb, fe⟩ := AB fa
    refine Bb (fun bz e1 F1 L1 => ∃ (k2 : Int), CC 0 5 k2 bz ∧ ∃ (ah : List Int), DT w k bz k2 ah = some ai ∧ AN dy F1 ∧ L1 = [(b3, ce (arr (cI .i64) ah) 118), (b2, ce (arr (cI .i64) (List.replicate 25 0)) 118), (b1, ce (arr (cI .i64) w) 118)] ∧ e1.sub [(1, pO b1), (2, pO b2), (3, pO b3), (4, vI k), (8, vI k), (11, vI k2)] ∧ ah.length = 25) _ (m0 kr ⟨_, CC.start _ _, ae, fe, AN.refl _, rfl, z6, h7⟩) ?_
    rintro bz e1 eb _ ⟨k2, ar, ah, cb, aw, rfl, cn, ec⟩
    refine Az _ cn (AJ (uv (AV rfl rfl) ?_))
    refine Aa (Aq ?_)
    refine cQ (fun cc => ?_) fun cc => ?_
    ·obtain ⟨bz, rfl, cp⟩ := CC.succ ar cc
     rw [DT] at cb
     refine Ao ?_
     obtain ⟨aj, ff, ef⟩ := Av cb
     refine AU (fun e1 F1 L1 => AN eb F1 ∧ L1 = [(b3, ce (arr (cI .i64) aj) 118), (b2, ce (arr (cI .i64) (List.replicate 25 0)) 118), (b1, ce (arr (cI .i64) w) 118)] ∧ e1.sub [(1, pO b1), (2, pO b2), (3, pO b3), (4, vI k), (8, vI k), (11, vI k2)] ∧ aj.length = 25) ?_ ?_
     ·clear ef
      refine Ap ?_
      refine AJ (um (ua (BL (um (Aa ?_)))))
      refine Ap ?_
      obtain ⟨eg, fg⟩ := AB ff
      refine Bb (fun cf e1 F1 L1 => ∃ (k3 : Int), CC 0 5 k3 cf ∧ ∃ (aa : List Int), CW w k k2 cf k3 aa = some aj ∧ AN eb F1 ∧ L1 = [(b3, ce (arr (cI .i64) aa) 118), (b2, ce (arr (cI .i64) (List.replicate 25 0)) 118), (b1, ce (arr (cI .i64) w) 118)] ∧ e1.sub [(1, pO b1), (2, pO b2), (3, pO b3), (4, vI k), (5, vI k2), (8, vI k), (11, vI k2), (14, vI k3)] ∧ aa.length = 25) _ (m0 kr ⟨_, CC.start _ _, ah, fg, AN.refl _, rfl, z8, ec⟩) ?_
      rintro cf e1 gq _ ⟨k3, ak, aa, cg, au, rfl, cq, al⟩
      refine Az _ cq (AJ (uv (AV rfl rfl) ?_))
      refine Aa (Aq ?_)
      refine cQ (fun ax => ?_) fun ax => ?_
      ·obtain ⟨cf, rfl, ay⟩ := CC.succ ak ax
       rw [CW] at cg
       refine Ao (Aq ?_)
       refine Ap ?_
       refine AJ (um (ua (Aa ?_)))
       obtain ⟨k4, fh, cr⟩ := Av cg
       refine jE ([(b3, ce (arr (cI .i64) aa) 118), (b2, ce (arr (cI .i64) (List.replicate 25 0)) 118), (b1, ce (arr (cI .i64) w) 118)]) [(1, pO b1), (2, pO b2), (3, pO b3), (4, vI k), (5, vI k2), (6, vI k3), (8, vI k), (11, vI k2), (14, vI k3), (30, .bool k4)] ?_ ?_
       ·clear cr
        refine An (um (um ?_))
        obtain ⟨eh, fi⟩ := AB fh
        refine uv (Bs underlying118 sizeOf116 rfl rfl eh) ?_
        obtain ⟨ei, fj⟩ := AB fi
        obtain ⟨x, gr, ct, ej⟩ := Bi fj
        have cu : (k * 5 + k3 : Int).toNat = (k : Int).toNat * 5 + (k3 : Int).toNat := by have := eh; have := ei; omega
        have cv := H6 (Bj .i64) ad cu ct (HH (HE (IG (Bj .i64) ad))) (Iy (HE (IG (Bj .i64) ad)))
        refine uv (Bs underlying116 sizeOf3 rfl rfl ei) (uv (AG isAgg3 rfl (Has.own 2 rfl) ((cv).2.2 0 (by decide))) (uv (Bt rfl rfl) (um ?_)))
        by_cases ab : x ≠ (-1)
        ·have fk := A5 ej ab
         refine nT ab (um (nT ab (um (nT ab ?_))))
         obtain ⟨en, fl⟩ := AB fk
         refine uv (Bs underlying118 sizeOf116 rfl rfl en) (nT ab ?_)
         obtain ⟨eo, fm⟩ := AB fl
         obtain ⟨x2, gu, cw, fo⟩ := Bi fm
         have cx : (k3 * 5 + k2 : Int).toNat = (k3 : Int).toNat * 5 + (k2 : Int).toNat := by have := en; have := eo; omega
         have cy := H6 (Bj .i64) ad cx cw (HH (HE (IG (Bj .i64) ad))) (Iy (HE (IG (Bj .i64) ad)))
         refine uv (Bs underlying116 sizeOf3 rfl rfl eo) (nT ab (uv (AG isAgg3 rfl (Has.own 2 rfl) ((cy).2.2 0 (by decide))) (nT ab (uv (Bt rfl rfl) (uv (AF (AX rfl ab) rfl) (Aa ?_))))))
         obtain rfl := AP fo
         exact mi kr ⟨rfl, rfl, (sc rfl (sc rfl z8))⟩
        have fp := A4 ej ab
        refine fF ab (fF ab (fF ab (fF ab (fF ab (fF ab ?_)))))
        refine uv (AD (AL rfl ab) rfl) (Aa ?_)
        obtain rfl := AP fp
        exact mi kr ⟨rfl, rfl, (sc rfl (sc rfl z8))⟩
       refine AR rfl (fun cz => ?_) (fun cz => ?_)
       ·have fq := bt cr cz
        refine Bg [(.still, 0), (.still, 1), (.still, 2), (.still, 3), (.still, 4), (.still, 5), (.still, 6), (.still, 7), (.still, 8), (.still, 9), (.still, 10), (.still, 11), (.still, 12), (.still, 13), (.still, 14), (.still, 15), (.still, 16), (.still, 17), (.still, 20), (.seq, 18), (.seq, 19), (.still, 21), (.seq, 22)] (by kernel_rfl) (by kernel_rfl) (trivial) (by rfl) (by kernel_rfl) (mS [4] rfl (AO rfl) (mS [5] rfl (AO rfl) (mS [4] rfl (AO rfl) (mS [5] rfl (AO rfl) ?_))))
        obtain ⟨ep, fs⟩ := AB fq
        refine mS [3, 33] rfl (Bs underlying118 sizeOf116 rfl rfl ep) ?_
        obtain ⟨er, ft⟩ := AB fs
        obtain ⟨x3, fv, da, fw⟩ := Bi ft
        have db : (k * 5 + k2 : Int).toNat = (k : Int).toNat * 5 + (k2 : Int).toNat := by have := ep; have := er; omega
        have dd := H6 (Bj .i64) al db da (HH (HE (IG (Bj .i64) al))) (Iy (HE (IG (Bj .i64) al)))
        refine mS [34, 35] rfl (Bs underlying116 sizeOf3 rfl rfl er) (mL [36] ([(b3, ce (arr (cI .i64) aa) 118)]) rfl (s0 (s2 (s1 (s1 sr)))) (fun H F' L' az ba => AG isAgg3 rfl ((Has.own 0 rfl).ext az ba) ((dd).2.2 0 (by decide))) (mS [4] rfl (AO rfl) (mS [6] rfl (AO rfl) ?_)))
        obtain ⟨et, fx⟩ := AB fw
        refine mS [1, 38] rfl (Bs underlying118 sizeOf116 rfl rfl et) ?_
        obtain ⟨eu, fy⟩ := AB fx
        obtain ⟨x4, gv, de, g0⟩ := Bi fy
        have df : (k * 5 + k3 : Int).toNat = (k : Int).toNat * 5 + (k3 : Int).toNat := by have := et; have := eu; omega
        have dg := H6 (Bj .i64) ad df de (HH (HE (IG (Bj .i64) ad))) (Iy (HE (IG (Bj .i64) ad)))
        refine mS [39, 40] rfl (Bs underlying116 sizeOf3 rfl rfl eu) (mL [41] ([(b1, ce (arr (cI .i64) w) 118)]) rfl (s0 (s1 (s1 (s2 sr)))) (fun H F' L' az ba => AG isAgg3 rfl ((Has.own 0 rfl).ext az ba) ((dg).2.2 0 (by decide))) (mS [6] rfl (AO rfl) (mS [5] rfl (AO rfl) ?_)))
        obtain ⟨ew, ga⟩ := AB g0
        refine mS [1, 43] rfl (Bs underlying118 sizeOf116 rfl rfl ew) ?_
        obtain ⟨ey, gb⟩ := AB ga
        obtain ⟨x5, gw, dh, gg⟩ := Bi gb
        have bb : (k3 * 5 + k2 : Int).toNat = (k3 : Int).toNat * 5 + (k2 : Int).toNat := by have := ew; have := ey; omega
        have bc := H6 (Bj .i64) ad bb dh (HH (HE (IG (Bj .i64) ad))) (Iy (HE (IG (Bj .i64) ad)))
        refine mS [44, 45] rfl (Bs underlying116 sizeOf3 rfl rfl ey) (mL [46] ([(b1, ce (arr (cI .i64) w) 118)]) rfl (s0 (s1 (s1 (s2 sr)))) (fun H F' L' az ba => AG isAgg3 rfl ((Has.own 0 rfl).ext az ba) ((bc).2.2 0 (by decide))) ?_)
        obtain ⟨di, dk⟩ := AB gg
        refine mS (v := vI (x4 + x5)) [42, 47] rfl (A0 rfl rfl di) ?_
        obtain ⟨bd, dm⟩ := AB dk
        refine mS [3, 31] rfl (Bs underlying118 sizeOf116 rfl rfl bd) ?_
        refine ⟨_, [(37, vI x3), (48, vI (x4 + x5))], rfl, rfl, z2, by kernel_rfl, ?_⟩; intro H
        refine bA (cs := #[vI x3, vI (x4 + x5)]) Bp [vI x3, vI (x4 + x5)] ?_; intro bg bh
        refine Aa ⟨_, rfl, AN.refl _, [20, 1, 0], by kernel_rfl, .inl (.inr (fun d h => by cases h; rfl)), (fc sm (fc sm (fc sm nm))), ?_⟩
        refine ⟨_, [(49, sL (aD bg) 2 2)], rfl, rfl, z1, by kernel_rfl, ?_⟩; intro H
        refine Br 0 rfl bh ?_; intro dp ao bj
        refine Aw (L' := [(b3, ce (arr (cI .i64) aa) 118), (b2, ce (arr (cI .i64) (List.replicate 25 0)) 118), (b1, ce (arr (cI .i64) w) 118)]) rfl ?_
        have dq : Ar 1 eI dp (aD bg) 2 [x3, x4 + x5] := Ar.oI bj
        obtain ⟨n, dr, dt⟩ := Av dm
        refine cV call83 (Jd dq dr) ?_
        refine Aa ⟨_, rfl, ao, [20, 1, 0], by kernel_rfl, .inl (.inr (fun d h => by cases h; rfl)), (fc sm (fc sm (fc sm nm))), ?_⟩
        obtain ⟨bk, du⟩ := AB dt
        have bl : (k * 5 + k2 : Int).toNat = (k : Int).toNat * 5 + (k2 : Int).toNat := by have := bd; have := bk; omega
        refine mS [32, 51] rfl (Bs underlying116 sizeOf3 rfl rfl bk) ?_
        refine ⟨_, [(50, vI n), (52, .pointer (some ⟨b3, 0 + (k : Int).toNat * 5 + (k2 : Int).toNat * 1, none⟩))], rfl, rfl, z2, by kernel_rfl, ?_⟩; intro H
        obtain ⟨l, bm, dv⟩ := BC du
        have dw : l.length = 25 := by rw [bm, List.length_set]; exact al
        refine O8 (i := 0) sizeOf3 (Bj .i64) rfl rfl rfl rfl bl (by have := fv; have := al; omega) al ?_
        refine Aw (L' := [(b3, ce (arr (cI .i64) l) 118), (b2, ce (arr (cI .i64) (List.replicate 25 0)) 118), (b1, ce (arr (cI .i64) w) 118)]) (by rw [bm]; rfl) ?_
        refine Aa ⟨undef, rfl, AN.refl _, [], by kernel_rfl, .inl (.inl rfl), nm, ?_⟩
        refine Bo ?_
        refine Ay (id := 5) (An ?_)
        refine uv (A0 rfl rfl (CC.Cs ak ax eg)) ?_
        refine um (Aa ?_)
        exact le kr ⟨_, ay, l, dv, (au.trans ao), rfl, z8, dw⟩
       have dx := bf cr cz
       refine Ao (Ay (id := 5) (An ?_))
       refine uv (A0 rfl rfl (CC.Cs ak ax eg)) ?_
       refine um (Aa ?_)
       exact le kr ⟨_, ay, aa, dx, au, rfl, z8, al⟩
      obtain rfl := CC.zero ak ax
      rw [CW] at cg
      refine AI (Am (Am ?_))
      refine At (Ay (id := 3) ?_)
      obtain rfl := AP cg
      exact mi kr ⟨au, rfl, z6, al⟩
     rintro e1 gh _ ⟨bn, rfl, bo, gi⟩
     refine Az _ bo (An (uv (A0 rfl rfl (CC.Cs ar cc fb)) ?_))
     refine um (Aa ?_)
     exact le kr ⟨_, cp, aj, ef, (aw.trans bn), rfl, z6, gi⟩
    obtain rfl := CC.zero ar cc
    rw [DT] at cb
    refine AI (Am (Am ?_))
    refine At (Ay (id := 1) ?_)
    obtain rfl := AP cb
    exact mi kr ⟨aw, rfl, z4, ec⟩
   rintro e1 gj _ ⟨bp, rfl, bq, gk⟩
   refine Az _ bq (An (uv (A0 rfl rfl (CC.Cs aq bx g8)) ?_))
   refine um (Aa ?_)
   exact le kr ⟨_, ck, ai, dz, (av.trans bp), rfl, z4, gk⟩
  obtain rfl := CC.zero aq bx
  rw [DF] at bw
  refine AI (Am (Am ?_))
  refine At ?_
  obtain rfl := AP bw
  exact mi (kc (kc kn)) ⟨av, rfl, z2, h7⟩
 rintro e1 gl _ ⟨ez, rfl, br, h4⟩
 refine Az _ br (AJ (uv (LO isAgg118 sizeOf118 rfl (Has.own 0 rfl) (Hk (Bj .i64) h4)) (Lq (i := 1) sizeOf118 rfl rfl rfl (Hk (Bj .i64) List.length_replicate) (Hk (Bj .i64) h4) (MQ (Bj .i64)) (Aw (L' := [(b3, ce (arr (cI .i64) out) 118), (b2, ce (arr (cI .i64) out) 118)]) rfl (Aa (kW (kd kr) (AA ?_)))))))
 refine KY results106 (Fq (cs := arr (cI .i64) out) isAgg118 sizeOf118 rfl (Has.own 0 rfl) (Iy (HE (IG (Bj .i64) h4))) (PD (IG (Bj .i64) h4) (HE (IG (Bj .i64) h4)))) (s1 sr) ?_
 obtain rfl := AP r6
 exact ⟨rfl, rfl, h4⟩
set_option maxHeartbeats 1000000 in
theorem JX {s_ : List Int} (ar : AM 0 3 1 eI F D3 HG D4 s_ IQ) (ah : ∀ args w, (callFunc Ks args).run Tryz.prog w = .ok (.enter Ks args) w) (ao : IS Tryz.prog Ks N2 NY F (fun x : Int => #[vI x]) seq) {r : List Int} (hr : FJ s_ seq = some r) :
    SH.Spec Tryz.prog 126 #[sL D3 HG D4, .func (.func Ks) N2 NY] F (IQ ++ []) fun F' L' v => ∃ (ra : Option Addr) (rn : Nat) (rc : Nat) (rL : LH), v = sL ra rn rc ∧ L' = rL ++ [] ∧ AM 0 3 1 eI F' ra rn rc r rL := by
 refine sp func126 ntmps126 fun K _ _ => ?_
 rw [FJ] at hr
 refine CU (L' := IQ ++ []) (by simp) (AJ ?_)
 refine Bx rfl rfl ?_; intro b1 cc
 refine ua (Aa ?_)
 obtain ⟨ay, h8, r9⟩ := Av hr
 refine AU (fun e1 F1 L1 => ∃ (a2 : Option Addr) (n6 : Nat) (c3 : Nat) (au : LH), AN F F1 ∧ L1 = ((b1, ce #[sL a2 n6 c3] 22) :: (au ++ [])) ∧ e1.sub [(2, pO b1)] ∧ AM 0 3 1 eI F1 a2 n6 c3 ay au) ?_ ?_
 ·clear r9
  refine AJ (um (Aa ?_))
  refine Ap ?_
  refine L8 (encs := (fun x : Int => #[vI x])) (xs := seq) rfl ah rfl (fun _ => rfl) ao (fun pre F1 L1 => ∃ (tl : List Int) (ai : List Int) (aj : Option Addr) (ak : Nat) (al : Nat) (aa : LH), seq = pre ++ tl ∧ CE tl ai = some ay ∧ L1 = ((b1, ce #[sL aj ak al] 22) :: (aa ++ [])) ∧ AM 0 3 1 eI F1 aj ak al ai aa) (fun _ _ _ => False) ?_ ?_ ?_ ?_ ?_ ?_
  ·rintro pre F1 F2 L1 ⟨tl, ai, aj, ak, al, aa, ab, bj, rfl, ad⟩ hx; exact ⟨tl, ai, aj, ak, al, aa, ab, bj, rfl, ad.mono kI hx⟩
  ·intro c F1 F2 L1 h hx; exact h
  ·exact ⟨_, s_, D3, HG, D4, IQ, rfl, h8, rfl, ar⟩
  ·rintro cf bk bl bm bn bo az bp pre x cg ae cj _ bq ⟨tl, ai, aj, ak, al, aa, ab, ba, rfl, ad⟩
   obtain rfl := Oi ab ae
   rw [CE] at ba
   refine Az [(2, pO b1), (6, .func (.func Ks) N2 NY), (7, vI x)] (by exact z3) ?_
   refine An (ua (Aa ?_))
   refine ⟨rfl, ?_⟩
   refine Ap (An (uv (BM isAgg22 0) (um ?_)))
   refine bA (cs := #[vI x]) Bp [vI x] ?_; intro ck br
   obtain ⟨bb, bu, bw, bx⟩ := DS ba
   refine Cq (xs := ai) (ys := [x]) (zs := bb) rfl Bp rfl rfl (Nat.zero_le _) (fun _ => .c (.c .h)) ad (Fg.box (vss := [[vI x]]) (ys := [x]) 0 rfl kI (.cons rfl .nil) rfl rfl) bu bw (by decide) ?_; intro bc bd bg aq av
   refine kO (kd kr) (By (i := 0) sizeOf22 rfl rfl rfl rfl (B2 rfl) (Aw rfl ?_))
   refine Aa (Ay (id := 1) ?_)
   refine ⟨(b1, ce #[sL bc bd bg] 22) :: (aq ++ []), ⟨_, .refl _, sr⟩, ?_⟩; exact ⟨_, bb, bc, bd, bg, aq, (by rw [ae]; simp), bx, rfl, av⟩
  ·rintro cn _ aw ⟨tl, ai, aj, ak, al, aa, ab, bh, rfl, ad⟩
   obtain rfl := O2 ab; rw [CE] at bh
   refine Ay (id := 0) ?_
   obtain rfl := AP bh
   exact mi kr ⟨aj, ak, al, aa, aw, rfl, z1, ad⟩
  intro c F1 L1 hx h; exact h.elim
 rintro e1 cp _ ⟨a2, n6, c3, au, bz, rfl, ax, cb⟩
 refine Az _ ax (AJ (uv (BM isAgg22 0) ?_))
 refine ua (Aa ?_)
 refine kW (kd kr) (AA (C3 results126 ?_))
 obtain rfl := AP r9
 exact ⟨_, _, _, _, rfl, rfl, cb⟩
theorem Lw (aa : ∀ args w, (callFunc Ks args).run Tryz.prog w = .ok (.enter Ks args) w) (ab : IS Tryz.prog Ks N2 NY F (fun x : Int => #[vI x]) seq) {r : List Int} (hr : HU seq = some r) :
    SH.Spec Tryz.prog 119 #[.func (.func Ks) N2 NY] F [] fun F' L' v => ∃ (ra : Option Addr) (rn : Nat) (rc : Nat) (rL : LH), v = sL ra rn rc ∧ L' = rL ++ [] ∧ AM 0 3 1 eI F' ra rn rc r rL := by
 refine sp func119 ntmps119 fun K _ _ => ?_
 rw [HU] at hr
 refine AJ (ua (BL (um ?_)))
 obtain ⟨l, h1, r2⟩ := Av hr
 refine c0 call126 (JX (AM.nil 0 _ _ _ _) aa ab h1) ?_; rintro _ F3 _ ae ah ⟨a7, ai, c8, aj, rfl, rfl, ad⟩
 refine Aw (lp (ln rfl)) ?_
 refine ua (Aa (AA ?_))
 refine C3 results119 ?_
 obtain rfl := AP r2
 exact ⟨_, _, _, _, rfl, rfl, ad.any⟩
theorem NG {x : Int} {r : Bool} (hr : Ko x = some r) :
    Bv Tryz.prog 145 #[vI x] F (.bool r) := by
 refine sp func145 ntmps145 fun K _ _ => ?_
 rw [Ko] at hr
 refine AJ (ua (BL (um (um ?_))))
 refine uv (Bt rfl rfl) ?_
 refine ua (Aa (AA ?_))
 refine C3 results145 ?_
 obtain rfl := AP hr
 exact rfl
theorem NZ {x : Int} {r : Bool} (hr : KP x y = some r) :
    Bv Tryz.prog 135 #[vI x, vI y] F (.bool r) := by
 refine sp func135 ntmps135 fun K _ _ => ?_
 rw [KP] at hr
 refine AJ (ua (BL (um ?_)))
 obtain ⟨ok, h1, r2⟩ := Av hr
 refine cV call145 (NG h1) (um ?_)
 obtain ⟨g3, r4⟩ := AB r2
 refine fB g3 (fB g3 (fB g3 ?_))
 refine uv (AD (Gl rfl g3) rfl) ?_
 refine um (BV (b := false) 12 rfl rfl (um (BV (b := false) 12 rfl rfl (um (BV (b := false) 12 rfl rfl ?_)))))
 refine uv (AV rfl rfl) (uv (AD rfl rfl) ?_)
 refine ua (Aa (AA ?_))
 refine C3 results135 ?_
 obtain rfl := AP r4
 exact rfl
set_option maxHeartbeats 1000000 in
theorem Ib {s_ : List Int} {a b : Int} (bd : AM II 3 1 eI F D3 HG D4 s_ IQ) {r : List Int} (hr : D1 s_ a b = some r) :
    SH.Spec Tryz.prog 129 #[sL D3 HG D4, vI a, vI b] F (IQ ++ []) fun F' L' v => ∃ (rL : LH), v = .tuple #[] ∧ L' = rL ++ [] ∧ AM II 3 1 eI F' D3 HG D4 r rL := by
 refine sp func129 ntmps129 fun K _ _ => ?_
 rw [D1] at hr
 refine CU (L' := IQ ++ []) (by simp) ?_
 refine AJ (um ?_)
 obtain ⟨g1, r2⟩ := AB hr
 refine uv (A0 rfl rfl g1) ?_
 refine ua (Aa ?_)
 refine Ap ?_
 obtain ⟨g5, r6⟩ := AB r2
 refine Bb (fun ay e1 F1 L1 => ∃ (i : Int), CC (a + 1) b i ay ∧ ∃ (data : List Int) (az : LH), B3 a ay i data = some r ∧ F = F1 ∧ L1 = (az ++ []) ∧ e1.sub [(0, sL D3 HG D4), (1, vI a), (2, vI b), (6, vI i)] ∧ AM II 3 1 eI F1 D3 HG D4 data az) _ (m0 kr ⟨_, CC.start _ _, s_, IQ, r6, rfl, rfl, z4, bd⟩) ?_
 rintro ay e1 _ _ ⟨i, bg, data, az, r9, rfl, rfl, bh, dd⟩
 refine Az _ bh ?_
 refine Aq (AJ (um (um ?_)))
 refine uv (AV rfl rfl) (Aa ?_)
 refine cQ (fun ba => ?_) fun ba => ?_
 ·obtain ⟨ay, rfl, bj⟩ := CC.succ bg ba
  rw [B3] at r9
  refine Ao ?_
  obtain ⟨ae, dx, de⟩ := Av r9
  refine AU (fun e1 F1 L1 => ∃ (aj : LH), F = F1 ∧ L1 = (aj ++ []) ∧ e1.sub [(0, sL D3 HG D4), (1, vI a), (2, vI b), (6, vI i)] ∧ AM II 3 1 eI F1 D3 HG D4 ae aj) ?_ ?_
  ·clear de
   refine Ap ?_
   refine AJ (um (ua (Aa ?_)))
   refine Ap ?_
   refine Bb (fun bb e1 F1 L1 => ∃ (ah : List Int) (j : Int) (aa : LH), B4 a bb ah j = some ae ∧ F = F1 ∧ L1 = (aa ++ []) ∧ e1.sub [(0, sL D3 HG D4), (1, vI a), (2, vI b), (6, vI i), (7, vI j)] ∧ AM II 3 1 eI F1 D3 HG D4 ah aa) FU (m0 kr ⟨data, i, az, dx, rfl, rfl, z5, dd⟩) ?_
   rintro bb e1 _ _ ⟨ah, j, aa, bc, rfl, rfl, bk, ab⟩
   refine Az _ bk ?_
   rcases bb with _ | bb
   ·rw [B4] at bc; cases bc
   rw [B4] at bc
   refine Aq ?_
   obtain ⟨k, df, bl⟩ := Av bc
   refine jE ((aa ++ [])) [(0, sL D3 HG D4), (1, vI a), (2, vI b), (6, vI i), (7, vI j), (30, .bool k)] ?_ ?_
   ·clear bl
    refine Ie (by kernel_rfl) (by kernel_rfl) (by kernel_rfl) ?_
    refine wm (wm ?_)
    refine wv (CQ rfl rfl) (wm ?_)
    by_cases ad : a < j
    ·have dy := A5 df ad
     refine Bf (b := true) 19 rfl (Env.CY rfl ad) (wm (Bf (b := true) 19 rfl (Env.CY rfl ad) (wm (Bf (b := true) 19 rfl (Env.CY rfl ad) ?_))))
     obtain ⟨x, dg, bm, dz⟩ := Bi dy
     obtain ⟨fs, ft, fv, eb, bn, bo, dh, rfl, ec, bp⟩ := AM.at kI ab (L := aa ++ []) fP dg.1 bm
     refine wv (Cx underlying22 sizeOf3 bn (AM.idx ab dg)) (Bf (b := true) 19 rfl (Env.CY rfl ad) (wv (AG isAgg3 rfl bo (bp 0 (by decide))) ?_))
     refine Bf (b := true) 19 rfl (Env.CY rfl ad) (wm (Bf (b := true) 19 rfl (Env.CY rfl ad) (wm (Bf (b := true) 19 rfl (Env.CY rfl ad) ?_))))
     obtain ⟨ef, eg⟩ := AB dz
     refine wv (DP rfl rfl ef) (Bf (b := true) 19 rfl (Env.CY rfl ad) ?_)
     obtain ⟨x2, di, bq, eh⟩ := Bi eg
     obtain ⟨fw, fx, fy, ei, br, bu, dk, rfl, ej, bw⟩ := AM.at kI ab (L := aa ++ []) fP di.1 bq
     refine wv (Cx underlying22 sizeOf3 br (AM.idx ab di)) (Bf (b := true) 19 rfl (Env.CY rfl ad) (wv (AG isAgg3 rfl bu (bw 0 (by decide))) (Bf (b := true) 19 rfl (Env.CY rfl ad) ?_)))
     obtain ⟨ok, en, eo⟩ := Av eh
     refine ES rfl call135 rfl rfl rfl (NZ en) (wv (AF (AX rfl ad) rfl) (B1 ?_))
     obtain rfl := AP eo
     exact mi kr ⟨rfl, rfl, z6⟩
    have ep := A4 df ad
    refine A1 (b' := false) 19 rfl (Env.C8 rfl ad) rfl rfl (A1 (b' := false) 19 rfl (Env.C8 rfl ad) rfl rfl (A1 (b' := false) 19 rfl (Env.C8 rfl ad) rfl rfl (A1 (b' := false) 19 rfl (Env.C8 rfl ad) rfl rfl (A1 (b' := false) 19 rfl (Env.C8 rfl ad) rfl rfl (A1 (b' := false) 19 rfl (Env.C8 rfl ad) rfl rfl (A1 (b' := false) 19 rfl (Env.C8 rfl ad) rfl rfl (A1 (b' := false) 19 rfl (Env.C8 rfl ad) rfl rfl (A1 (b' := false) 19 rfl (Env.C8 rfl ad) rfl rfl (A1 (b' := false) 19 rfl (Env.C8 rfl ad) rfl rfl ?_)))))))))
    refine wv (AD (AL rfl ad) rfl) (B1 ?_)
    obtain rfl := AP ep
    exact mi kr ⟨rfl, rfl, z6⟩
   refine AR rfl (fun bx => ?_) (fun bx => ?_)
   ·have er := bt bl bx
    refine Ao (Aq ?_)
    refine Ap (Bg [(.still, 0), (.still, 1), (.still, 2), (.still, 3), (.still, 4), (.still, 5), (.still, 6), (.still, 7), (.still, 8), (.still, 9), (.still, 10), (.still, 11), (.still, 12), (.still, 13), (.still, 14), (.seq, 15), (.still, 16), (.seq, 17)] (by kernel_rfl) (by kernel_rfl) (trivial) (by rfl) (by kernel_rfl) (mS [0] rfl (AO rfl) (mS [7] rfl (AO rfl) (mS [0] rfl (AO rfl) (mS [7] rfl (AO rfl) ?_)))))
    obtain ⟨et, eu⟩ := AB er
    refine mS (v := vI (j - 1)) [36] rfl (DP rfl rfl et) (mS [0] rfl (AO rfl) (mS [7] rfl (AO rfl) ?_))
    obtain ⟨ew, ey⟩ := AB eu
    refine mS (v := vI (j - 1)) [39] rfl (DP rfl rfl ew) ?_
    obtain ⟨x3, dm, bz, ez⟩ := Bi ey
    obtain ⟨g0, ga, gb, fa, cb, cc, dp, rfl, fb, cf⟩ := AM.at kI ab (L := aa ++ []) fP dm.1 bz
    refine mS [38, 40] rfl (BQ underlying22 sizeOf3 rfl cb rfl (AM.idx ab dm)) (mL [41] (aa ++ []) rfl (s0 sr) (fun H F' L' cg cj => AG isAgg3 rfl (cc.ext cg cj) (cf 0 (by decide))) (mS [0] rfl (AO rfl) (mS [7] rfl (AO rfl) ?_)))
    obtain ⟨x4, ao, aq, fe⟩ := Bi ez
    obtain ⟨gg, gh, gi, ff, ck, cn, dq, rfl, fg, cp⟩ := AM.at kI ab (L := aa ++ []) fP ao.1 aq
    refine mS [43, 44] rfl (BQ underlying22 sizeOf3 rfl ck rfl (AM.idx ab ao)) (mL [45] (aa ++ []) rfl (s0 sr) (fun H F' L' cg cj => AG isAgg3 rfl (cn.ext cg cj) (cp 0 (by decide))) ?_)
    obtain ⟨fh, fi, gj, fj, ar, fk, dr, rfl, fl, fm⟩ := AM.at kI ab (L := aa ++ []) fP ao.1 aq
    refine mS [33, 34] rfl (BQ underlying22 sizeOf3 rfl ar rfl (AM.idx ab ao)) ?_
    refine ⟨_, [(42, vI x3), (47, .pointer (some ⟨fh, fi + (j : Int).toNat * 1, none⟩))], rfl, rfl, z2, by kernel_rfl, ?_⟩; intro H
    obtain ⟨l, fo, fp⟩ := BC fe
    refine EH (u := x3) sizeOf3 kI rfl ar rfl rfl (fun _ => .h) ab fo ao ?_; intro cq ai
    refine Aa ⟨undef, rfl, AN.refl _, [4, 3, 2], by kernel_rfl, .inl (.inr (fun d h => by cases h)), (fc sm (fc sm (fc sm nm))), ?_⟩
    obtain ⟨x5, al, au, cr⟩ := Bi fp
    obtain ⟨ct, cu, fq, dt, ak, du, cv, rfl, dv, dw⟩ := AM.at kI ai (L := cq ++ []) fP al.1 au
    refine mS [35, 37] rfl (BQ underlying22 sizeOf3 rfl ak rfl (AM.idx ai al)) ?_
    refine ⟨_, [(46, vI x4), (48, .pointer (some ⟨ct, cu + (j - 1 : Int).toNat * 1, none⟩))], rfl, rfl, z2, by kernel_rfl, ?_⟩; intro H
    obtain ⟨l2, cw, cx⟩ := BC cr
    refine EH (u := x4) sizeOf3 kI rfl ak rfl rfl (fun _ => .h) ai cw al ?_; intro av aw
    refine Aa ⟨undef, rfl, AN.refl _, [], by kernel_rfl, .inl (.inl rfl), nm, ?_⟩
    refine Bo ?_
    refine Ay (id := 3) (An (um ?_))
    obtain ⟨cy, cz⟩ := AB cx
    refine uv (DP rfl rfl cy) ?_
    refine ua (Aa ?_)
    exact le kr ⟨l2, j - 1, av, cz, rfl, rfl, z5, aw⟩
   have da := bf bl bx
   refine AI (Am (Am ?_))
   refine At (Ay (id := 1) ?_)
   obtain rfl := AP da
   exact mi kr ⟨aa, rfl, rfl, z4, ab⟩
  rintro e1 _ _ ⟨aj, rfl, rfl, ax, db⟩
  refine Az _ ax ?_
  refine An (um ?_)
  refine uv (A0 rfl rfl (CC.Cs bg ba g5)) ?_
  refine ua (Aa ?_)
  exact le kr ⟨_, bj, ae, aj, de, rfl, rfl, z4, db⟩
 obtain rfl := CC.zero bg ba
 rw [B3] at r9
 refine AI (Am (Am ?_))
 refine At (M8 (.inr rfl) results129 ?_)
 obtain rfl := AP r9
 exact ⟨_, rfl, rfl, dd⟩
theorem MK {x r : Int} (hr : Je x = some r) :
    Bv Tryz.prog 139 #[.int .u64 x] F (vI r) := by
 refine sp func139 ntmps139 fun K _ _ => ?_
 rw [Je] at hr
 refine AJ (ua (Aa (Aq (AJ (um ?_)))))
 refine uv (HV rfl rfl) (Aa ?_)
 obtain ⟨g2, r3⟩ := AB hr
 refine BP rfl (fun c4 => absurd c4 g2) (fun c4 => ?_)
 refine Ao (Aq (AJ (um ?_)))
 refine uv (HV rfl rfl) (Aa ?_)
 obtain ⟨g6, r7⟩ := AB r3
 refine BP rfl (fun c8 => absurd c8 g6) (fun c8 => ?_)
 refine Ao (Aq (AJ (um ?_)))
 refine uv (HV rfl rfl) (Aa ?_)
 obtain ⟨ad, ae⟩ := AB r7
 refine BP rfl (fun ab => absurd ab ad) (fun ab => ?_)
 refine Ao (AJ (um (um ?_)))
 refine uv (OR rfl underlying177 underlying5 rfl) ?_
 obtain ⟨x2, ah, aa, ai⟩ := Bi ae
 refine uv (Pw underlying9 (congrArg (fun s => some (Value.string s)) O9) rfl ah.1 aa (Pk _ (List.mem_of_getElem? aa))) ?_
 obtain ⟨aj, ak⟩ := AB ai
 refine uv (QC underlying5 underlying3 rfl aj) ?_
 obtain ⟨al, ao⟩ := AB ak
 refine uv (A0 rfl rfl al) ?_
 refine ua (Aa (AA ?_))
 refine C3 results139 ?_
 obtain rfl := AP ao
 exact rfl
theorem ND {x r : Int} (hr : Kh x = some r) :
    Bv Tryz.prog 128 #[.int .u64 x] F (vI r) := by
 refine sp func128 ntmps128 fun K _ _ => ?_
 rw [Kh] at hr
 refine AJ (ua (Aa (Aq ?_)))
 refine AR rfl (fun c1 => nomatch c1) (fun c1 => ?_)
 refine Ao (AJ (um ?_))
 obtain ⟨n, h2, r3⟩ := Av hr
 refine cV call139 (MK h2) ?_
 refine ua (Aa (AA ?_))
 refine C3 results128 ?_
 obtain rfl := AP r3
 exact rfl
theorem I7 {ab : (List Int) → Int → Int → Int → Option ((List Int))} (_ai : ∀ {D3 : Option Addr} {HG D4 : Nat} {IQ : LH} {s_ : List Int} {II : Nat} {a b aa : Int} {F : FS} (_ : AM II 3 1 eI F D3 HG D4 s_ IQ) {r : List Int} , ab s_ a b aa = some r → SH.Spec Tryz.prog 127 #[sL D3 HG D4, vI a, vI b, vI aa] F (IQ ++ []) fun F' L' v => ∃ (rL : LH), v = .tuple #[] ∧ L' = rL ++ [] ∧ AM II 3 1 eI F' D3 HG D4 r rL) {s_ : List Int} {a b aa : Int} (ae : AM II 3 1 eI F D3 HG D4 s_ IQ) {r : List Int} (hr : EV ab s_ a b aa = some r) :
    SH.Spec Tryz.prog 127 #[sL D3 HG D4, vI a, vI b, vI aa] F (IQ ++ []) fun F' L' v => ∃ (rL : LH), v = .tuple #[] ∧ L' = rL ++ [] ∧ AM II 3 1 eI F' D3 HG D4 r rL := by
 refine sp func127 ntmps127 fun K _ _ => ?_
 rw [EV] at hr
 refine CU (L' := IQ ++ []) (by simp) ?_
 refine AJ (ua (BL (ua (Aa ?_))))
 refine Ap ?_
 refine Bb (fun ad e1 F1 L1 => C2 s_ a b ad = some r ∧ F = F1 ∧ L1 = (IQ ++ []) ∧ e1.sub [(0, sL D3 HG D4), (1, vI a), (2, vI b), (3, vI aa), (8, .bool true), (9, .bool true)]) FU (m0 kr ⟨hr, rfl, rfl, z6⟩) ?_
 rintro ad e1 _ _ ⟨r3, rfl, rfl, aj⟩
 refine Az _ aj ?_
 rcases ad with _ | ad
 ·rw [C2] at r3; cases r3
 rw [C2] at r3
 refine Ap ?_
 refine AJ (um (um ?_))
 obtain ⟨g5, r6⟩ := AB r3
 refine uv (DP rfl rfl g5) ?_
 refine ua (Aa (Aq (AJ (um ?_))))
 refine uv (KM rfl rfl) (Aa ?_)
 obtain ⟨g8, r9⟩ := AB r6
 refine BP rfl (fun c7 => ?_) (fun c7 => absurd g8 c7)
 refine AJ (um (um (um ?_)))
 obtain ⟨av, ak, al⟩ := Av r9
 refine Mx (Lb := IQ ++ []) (Lr := []) rfl call129 rfl rfl rfl (pT pR (lp (ln rfl))) (Ib ae ak) ?_; rintro _ aw _ ao aq ar ⟨au, rfl, rfl, ah⟩
 refine Aw (lp (ln rfl)) ?_
 refine Aa (AA (As (AK (As (AK ?_)))))
 refine M8 (.inl rfl) results127 ?_
 obtain rfl := AP al
 exact ⟨_, rfl, rfl, ah⟩
theorem Jo : ∀ (fu : Nat) {D3 : Option Addr} {HG D4 : Nat} {IQ : LH} {s_ : List Int} {II : Nat} {a b aa : Int} {F : FS} (_ : AM II 3 1 eI F D3 HG D4 s_ IQ) {r : List Int} , CZ fu s_ a b aa = some r → SH.Spec Tryz.prog 127 #[sL D3 HG D4, vI a, vI b, vI aa] F (IQ ++ []) fun F' L' v => ∃ (rL : LH), v = .tuple #[] ∧ L' = rL ++ [] ∧ AM II 3 1 eI F' D3 HG D4 r rL := by
  intro fu
  induction fu with
  | zero => intros; rename_i hr; rw [CZ] at hr; cases hr
  | succ fu ih => intros; rename_i hr; rw [CZ] at hr; exact I7 ih (by assumption) hr
theorem K9 {s_ : List Int} (aa : AM II 3 1 eI F D3 HG D4 s_ IQ) {r : List Int} (hr : HI s_ = some r) :
    SH.Spec Tryz.prog 120 #[sL D3 HG D4] F (IQ ++ []) fun F' L' v => ∃ (rL : LH), v = .tuple #[] ∧ L' = rL ++ [] ∧ AM II 3 1 eI F' D3 HG D4 r rL := by
 refine sp func120 ntmps120 fun K _ _ => ?_
 rw [HI] at hr
 refine CU (L' := IQ ++ []) (by simp) ?_
 refine AJ (um ?_)
 refine uv ((AQ underlying22 rfl).i (AM.Gh aa)) ?_
 refine ua (Aa (An (um (um (um ?_)))))
 refine uv (OR rfl underlying3 underlying157 rfl) ?_
 obtain ⟨n, h1, r2⟩ := Av hr
 refine cV call128 (ND h1) ?_
 obtain ⟨ad, h3, r4⟩ := Av r2
 refine Mx (Lb := IQ ++ []) (Lr := []) rfl call127 rfl rfl rfl (pT pR (lp (ln rfl))) ((Jo FU) aa h3) ?_; rintro _ F5 _ ae ah ai ⟨aj, rfl, rfl, ab⟩
 refine Aw (lp (ln rfl)) (Aa (M8 (.inr rfl) results120 ?_))
 obtain rfl := AP r4
 exact ⟨_, rfl, rfl, ab⟩
theorem LU (aa : ∀ args w, (callFunc Ks args).run Tryz.prog w = .ok (.enter Ks args) w) (ad : IS Tryz.prog Ks N2 NY F (fun x : Int => #[vI x]) seq) {r : List Int} (hr : Ir seq = some r) :
    SH.Spec Tryz.prog 107 #[.func (.func Ks) N2 NY] F [] fun F' L' v => ∃ (ra : Option Addr) (rn : Nat) (rc : Nat) (rL : LH), v = sL ra rn rc ∧ L' = rL ++ [] ∧ AM 0 3 1 eI F' ra rn rc r rL := by
 refine sp func107 ntmps107 fun K _ _ => ?_
 rw [Ir] at hr
 refine AJ (ua (BL (um ?_)))
 obtain ⟨l, h1, r2⟩ := Av hr
 refine c0 call119 (Lw aa ad h1) ?_; rintro _ F3 _ au ah ⟨a7, av, c8, ai, rfl, rfl, ab⟩
 replace ab := ab.new fun p hp => ah p (by simp [hp])
 refine Aw (lp (ln rfl)) ?_
 refine ua (BL (um ?_))
 obtain ⟨s_, aj, ak⟩ := Av r2
 refine Mx (Lb := ai ++ []) (Lr := []) rfl call120 rfl rfl rfl (pT pR (lp (ln rfl))) (K9 ab aj) ?_; rintro _ aw _ al ao aq ⟨ar, rfl, rfl, ae⟩
 refine Aw (lp (ln rfl)) ?_
 refine BL (um (ua (Aa (AA ?_))))
 refine C3 results107 ?_
 obtain rfl := AP ak
 exact ⟨_, _, _, _, rfl, rfl, ae.any⟩
set_option maxHeartbeats 1000000 in
theorem J1 {ai : Nat} {s_ : List Int} {aq : Nat × Nat} (ae : F ai = some (.cells #[sL D3 s_.length D4] 22 aq)) (aa : Ar 1 eI F D3 D4 s_) {xs : List Int} (hr : FZ s_ = some xs) :
    IS Tryz.prog 121 #[] #[pO ai] F (fun x : Int => #[vI x]) xs := by
 intro G0 bn yv J Jx cj bu hy Fc L0 hG bw
 replace ae := (bn.trans hG) _ _ ae
 replace aa := aa.m1 (bn.trans hG)
 have aj : xs = [] ++ xs := rfl
 show SH.Spec Tryz.prog 121 #[yv, pO ai] Fc L0 _
 refine sp func121 ntmps121 fun K _ _ => ?_
 rw [FZ] at hr; refine CU (L' := L0 ++ []) (by simp) ?_
 refine AJ (uv (AG isAgg22 rfl (Has.frozen ae) rfl) (uv (AQ underlying22 rfl) ?_))
 refine um (Aa ?_)
 refine Ap ?_
 refine Bb (fun bo e1 F1 L1 => LA s_ bo fun tl k => ∃ (ad : List Int) (ak : List Int) (ax : LH), CN tl = some ak ∧ AN Fc F1 ∧ L1 = (ax ++ []) ∧ e1.sub [(0, yv), (5, sL D3 s_.length D4), (6, vI (s_.length : Int)), (7, vI k)] ∧ xs = ad ++ ak ∧ J ad F1 ax ∧ AN G0 F1) _ (m0 kr ⟨_, _, rfl, Bl.start _, [], xs, L0, hr, AN.refl _, rfl, z4, aj, bw, hG⟩) ?_
 rintro bo e1 ck _ ⟨tl, k, bx, az, ad, ak, ax, r8, ar, rfl, bz, ab, bp, hG⟩
 refine Az _ bz ?_
 replace aa := aa.m1 ar
 refine AJ (uv (AV rfl rfl) ?_)
 refine Aa (Aq ?_)
 refine cQ (fun ay => ?_) fun ay => ?_
 ·obtain ⟨x, cn, rfl, ba, bq, bb⟩ := Bl.succ az ay
  rw [CN] at r8
  refine Ao (Aq ?_)
  refine Ap (AJ ?_)
  obtain ⟨cp, cq, cr, cb, bc, bd, br, rfl, cc, bg⟩ := Ar.ta kI aa bq.1 ba
  refine uv (Cx underlying22 sizeOf3 bc bq) (uv (AG isAgg3 rfl (bd _) (bg 0 (by decide))) ?_)
  refine ua (BL (um (um ?_)))
  obtain ⟨al, cf, au⟩ := RE r8
  refine PK (Lb := ax) (Lr := []) (vs := [vI x]) rfl rfl rfl fP (hy ad x al (by rw [ab, au]) _ _ hG bp) ?_
  rintro ct cu bh ao bj; obtain ⟨cg, rfl, av, aw⟩ := N6 bj
  replace aa := aa.m1 ao
  replace hG := hG.trans ao
  refine uv (Bz rfl) (Aa ?_)
  refine AR rfl (fun bk => ?_) (fun bk => ?_)
  ·have bl := aw (by simpa using bk)
   refine AA (AK (As (As (AK ?_))))
   refine NM (.inl rfl) results121 (sr) ?_
   exact .inr (by rw [List.append_nil]; exact bl)
  have bm := av (by simpa using bk)
  have ah : xs = (ad ++ [x]) ++ al := by rw [ab, au]; simp
  refine Ao (Ay (id := 1) (An ?_))
  refine uv (A0 rfl rfl (Bl.Cs az ay (Ar.lt aa))) ?_
  refine um (Aa ?_)
  subst bx; exact le kr ⟨_, _, rfl, bb, ad ++ [x], al, bh, cf, (ar.trans ao), rfl, z4, ah, bm, hG⟩
 obtain rfl := Bl.zero az ay
 rw [CN] at r8
 refine AI (Am (Am ?_))
 refine At (NM (.inr rfl) results121 (sr) ?_)
 obtain rfl := AP r8
 exact .inl (by have e1 := ab; rw [List.append_nil] at e1; rw [List.append_nil, e1]; exact bp)
theorem Kv {s_ : List Int} (aa : Ar 1 eI F D3 D4 s_) {r : List Int} (hr : GS s_ = some r) :
    SH.Spec Tryz.prog 108 #[sL D3 s_.length D4] F [] fun F' L' v => ∃ (ad : Array Value), v = .func (.func 121) #[] ad ∧ L' = [] ∧ IS Tryz.prog 121 #[] ad F' (fun x : Int => #[vI x]) r := by
 refine sp func108 ntmps108 fun K _ _ => ?_
 rw [GS] at hr
 refine AJ ?_
 refine Bx rfl rfl ?_; intro b1 ae
 refine ua (BL ?_)
 refine uv (Fh rfl rfl) ?_
 refine ua (Aa ?_)
 refine Bk 0 rfl ae ?_; intro F2 ah ai
 refine CU rfl ?_
 replace aa := aa.m1 ah
 obtain ⟨l, h5, r7⟩ := Av hr
 have ab : IS Tryz.prog 121 #[] #[pO b1] F2 (fun x : Int => #[vI x]) l := J1 ai aa h5
 refine AA (C3 results108 ?_)
 obtain rfl := AP r7
 exact ⟨_, rfl, rfl, ab⟩
set_option maxHeartbeats 1000000 in
theorem Cd (ae : Ar 1 eJ F Aj Ai walks) (ad : Ar 1 eJ F Ak Al Af) (ab : Ar 3 eN F Ad Ac Ab) {r : Option ((List (List Int)) × (List (List Int)) × Int × Int × (List ((List Int) × Int × Int)) × (List Int) × (List (Int × Int)) × (List Int))} {r2 : Int} (hr : Cp walks Af Ae start Ab = some (r, r2)) :
    SH.Spec Tryz.prog 72 #[.agg #[sL Aj walks.length Ai, sL Ak Af.length Al, vI Ae, vI start, sL Ad Ab.length Ac]] F [] fun F' L' v => ∃ (rv : Value), v = .tuple #[rv, vI r2] ∧ L' = [] ∧ KK 122 (DZ (GM 1 eJ) (DZ (GM 1 eJ) (DZ eI (DZ eI (DZ (GM 3 eN) (DZ (Nf 25 (cI .i64)) (DZ (GM 2 eP) (Nf 15 (cI .i64))))))))) F' rv r := by
 refine sp func72 ntmps72 fun K _ _ => ?_
 rw [Cp] at hr
 refine AJ ?_
 refine Bx rfl rfl ?_; intro b1 qz
 refine ua (ua (Aa (Aq (AJ ?_))))
 refine uv (CA isAgg26 sizeOf26 0) ?_
 obtain ⟨n, h2, r3⟩ := Av hr
 refine cV call13 (GL ae ad ab h2) ?_
 refine ua (BL (um ?_))
 refine uv (Bt rfl rfl) (Aa ?_)
 refine cQ (fun c4 => ?_) fun c4 => ?_
 ·have r5 := A5 r3 c4
  refine AJ (um (ua (ua (Aa ?_))))
  refine kW kn ?_
  refine AA (As ?_)
  refine BG results72 (AH rfl) (AH rfl) (sr) ?_
  obtain ⟨rfl, rfl⟩ := B9 r5
  exact ⟨_, rfl, rfl, rfl⟩
 have r6 := A4 r3 c4
 refine Ao (AJ ?_)
 refine uv (CA isAgg26 sizeOf26 0) ?_
 refine uv (BI (v := .agg ((([sL Aj walks.length Ai] : List Value) ++ (([sL Ak Af.length Al] : List Value) ++ (([vI Ae] : List Value) ++ (([vI start] : List Value) ++ (([sL Ad Ab.length Ac] : List Value) ++ ((List.replicate 25 0).flatMap (cI .i64) ++ (([sL none 0 0] : List Value) ++ ((List.replicate 15 0).flatMap (cI .i64))))))))).toArray)) rfl (by intro w; kernel_rfl)) ?_
 refine Bx rfl rfl ?_; intro b7 oy
 refine ua (Aa ?_)
 obtain ⟨al, h9, nk⟩ := Av r6
 refine AU (fun e1 F1 L1 => F = F1 ∧ L1 = [(b7, ce ((([sL Aj walks.length Ai] : List Value) ++ (([sL Ak Af.length Al] : List Value) ++ (([vI Ae] : List Value) ++ (([vI start] : List Value) ++ (([sL Ad Ab.length Ac] : List Value) ++ (al.flatMap (cI .i64) ++ (([sL none 0 0] : List Value) ++ ((List.replicate 15 0).flatMap (cI .i64))))))))).toArray) 122), (b1, ce #[sL Aj walks.length Ai, sL Ak Af.length Al, vI Ae, vI start, sL Ad Ab.length Ac] 26)] ∧ e1.sub [(1, pO b1), (5, pO b7)] ∧ al.length = 25) ?_ ?_
 ·clear nk
  refine AJ (um (Aa ?_))
  refine Ap ?_
  obtain ⟨oz, p0⟩ := AB h9
  refine Bb (fun j9 e1 F1 L1 => ∃ (k : Int), CC 0 5 k j9 ∧ ∃ (aj : List Int), GF walks j9 k aj = some al ∧ F = F1 ∧ L1 = [(b7, ce ((([sL Aj walks.length Ai] : List Value) ++ (([sL Ak Af.length Al] : List Value) ++ (([vI Ae] : List Value) ++ (([vI start] : List Value) ++ (([sL Ad Ab.length Ac] : List Value) ++ (aj.flatMap (cI .i64) ++ (([sL none 0 0] : List Value) ++ ((List.replicate 15 0).flatMap (cI .i64))))))))).toArray) 122), (b1, ce #[sL Aj walks.length Ai, sL Ak Af.length Al, vI Ae, vI start, sL Ad Ab.length Ac] 26)] ∧ e1.sub [(1, pO b1), (5, pO b7), (23, vI k)] ∧ aj.length = 25) _ (m0 kr ⟨_, CC.start _ _, List.replicate 25 0, p0, rfl, rfl, z3, List.length_replicate⟩) ?_
  rintro j9 e1 _ _ ⟨k, eh, aj, ja, rfl, rfl, jh, nn⟩
  refine Az _ jh (AJ (uv (AV rfl rfl) ?_))
  refine Aa (Aq ?_)
  refine cQ (fun jb => ?_) fun jb => ?_
  ·obtain ⟨j9, rfl, ji⟩ := CC.succ eh jb
   rw [GF] at ja
   refine Ao ?_
   obtain ⟨aq, p3, np⟩ := Av ja
   refine AU (fun e1 F1 L1 => F = F1 ∧ L1 = [(b7, ce ((([sL Aj walks.length Ai] : List Value) ++ (([sL Ak Af.length Al] : List Value) ++ (([vI Ae] : List Value) ++ (([vI start] : List Value) ++ (([sL Ad Ab.length Ac] : List Value) ++ (aq.flatMap (cI .i64) ++ (([sL none 0 0] : List Value) ++ ((List.replicate 15 0).flatMap (cI .i64))))))))).toArray) 122), (b1, ce #[sL Aj walks.length Ai, sL Ak Af.length Al, vI Ae, vI start, sL Ad Ab.length Ac] 26)] ∧ e1.sub [(1, pO b1), (5, pO b7), (23, vI k)] ∧ aq.length = 25) ?_ ?_
   ·clear np
    refine Ap ?_
    refine AJ (um (ua (BL (um (Aa ?_)))))
    refine Ap ?_
    obtain ⟨nq, p4⟩ := AB p3
    refine Bb (fun jc e1 F1 L1 => ∃ (k2 : Int), CC 0 5 k2 jc ∧ ∃ (ar : List Int), Ft walks k jc k2 ar = some aq ∧ F = F1 ∧ L1 = [(b7, ce ((([sL Aj walks.length Ai] : List Value) ++ (([sL Ak Af.length Al] : List Value) ++ (([vI Ae] : List Value) ++ (([vI start] : List Value) ++ (([sL Ad Ab.length Ac] : List Value) ++ (ar.flatMap (cI .i64) ++ (([sL none 0 0] : List Value) ++ ((List.replicate 15 0).flatMap (cI .i64))))))))).toArray) 122), (b1, ce #[sL Aj walks.length Ai, sL Ak Af.length Al, vI Ae, vI start, sL Ad Ab.length Ac] 26)] ∧ e1.sub [(1, pO b1), (5, pO b7), (6, vI k), (23, vI k), (26, vI k2)] ∧ ar.length = 25) _ (m0 kr ⟨_, CC.start _ _, aj, p4, rfl, rfl, z5, nn⟩) ?_
    rintro jc e1 _ _ ⟨k2, db, ar, jd, rfl, rfl, jj, je⟩
    refine Az _ jj (AJ (uv (AV rfl rfl) ?_))
    refine Aa (Aq ?_)
    refine cQ (fun fa => ?_) fun fa => ?_
    ·obtain ⟨jc, rfl, fb⟩ := CC.succ db fa
     rw [Ft] at jd
     refine Ao (Aq ?_)
     refine Ap ?_
     refine AJ (um (ua (BL (um (um (um ?_))))))
     refine uv (A9 rfl) (uv (Ah Gg rfl) ?_)
     obtain ⟨nr, p5⟩ := AB jd
     refine uv (Bs underlying118 sizeOf116 rfl rfl nr) ?_
     obtain ⟨ns, p6⟩ := AB p5
     obtain ⟨x, p7, p8, p9⟩ := Bi p6
     have jk : (k * 5 + k2 : Int).toNat = (k : Int).toNat * 5 + (k2 : Int).toNat := by have := nr; have := ns; omega
     refine uv (Bs underlying116 sizeOf3 rfl rfl ns) ?_
     obtain ⟨ws, nt, pa⟩ := BC p9
     have jf : ws.length = 25 := by rw [nt, List.length_set]; exact je
     refine KI (i := 0) sizeOf3 rfl (by have := jk; omega) rfl rfl rfl (DD (A := ([sL Aj walks.length Ai] : List Value)) (k := 1) rfl (DD (A := ([sL Ak Af.length Al] : List Value)) (k := 1) rfl (DD (A := ([vI Ae] : List Value)) (k := 1) rfl (DD (A := ([vI start] : List Value)) (k := 1) rfl (DD (A := ([sL Ad Ab.length Ac] : List Value)) (k := 1) rfl (OO (B := ([sL none 0 0] : List Value) ++ ((List.replicate 15 0).flatMap (cI .i64))) (PE (p := (k * 5 + k2 : Int).toNat) (Bj .i64) (u := -1) rfl je (by have := p7; have := je; omega) F))))))) ?_
     refine Aw (L' := [(b7, ce ((([sL Aj walks.length Ai] : List Value) ++ (([sL Ak Af.length Al] : List Value) ++ (([vI Ae] : List Value) ++ (([vI start] : List Value) ++ (([sL Ad Ab.length Ac] : List Value) ++ (ws.flatMap (cI .i64) ++ (([sL none 0 0] : List Value) ++ ((List.replicate 15 0).flatMap (cI .i64))))))))).toArray) 122), (b1, ce #[sL Aj walks.length Ai, sL Ak Af.length Al, vI Ae, vI start, sL Ad Ab.length Ac] 26)]) (by rw [nt]; rfl) ?_
     refine Aa ?_
     obtain ⟨k3, nu, jl⟩ := Av pa
     refine jE ([(b7, ce ((([sL Aj walks.length Ai] : List Value) ++ (([sL Ak Af.length Al] : List Value) ++ (([vI Ae] : List Value) ++ (([vI start] : List Value) ++ (([sL Ad Ab.length Ac] : List Value) ++ (ws.flatMap (cI .i64) ++ (([sL none 0 0] : List Value) ++ ((List.replicate 15 0).flatMap (cI .i64))))))))).toArray) 122), (b1, ce #[sL Aj walks.length Ai, sL Ak Af.length Al, vI Ae, vI start, sL Ad Ab.length Ac] 26)]) [(1, pO b1), (5, pO b7), (6, vI k), (7, vI k2), (23, vI k), (26, vI k2), (47, .bool k3)] ?_ ?_
     ·clear jl
      refine An (um ?_)
      refine uv (Ah CI rfl) (uv (BM isAgg23 1) (uv (AQ underlying23 rfl) (uv (AV rfl rfl) (um ?_))))
      by_cases bq : k < (walks.length : Int)
      ·have pb := A5 nu bq
       refine nT bq (um (nT bq ?_))
       refine uv (Ah CI rfl) (nT bq (uv (BM isAgg23 1) (nT bq (uv (AQ underlying23 rfl) (nT bq (uv (AV rfl rfl) (uv (AF (AX rfl bq) rfl) ?_)))))))
       refine Aa ?_
       obtain rfl := AP pb
       exact mi kr ⟨rfl, rfl, z7⟩
      have pd := A4 nu bq
      refine fF bq (fF bq (fF bq (fF bq (fF bq ?_))))
      refine uv (AD (AL rfl bq) rfl) (Aa ?_)
      obtain rfl := AP pd
      exact mi kr ⟨rfl, rfl, z7⟩
     refine AR rfl (fun jm => ?_) (fun jm => ?_)
     ·have pe := bt jl jm
      refine Bg [(.still, 0), (.still, 1), (.still, 2), (.still, 3), (.still, 4), (.still, 5), (.still, 6), (.still, 7), (.still, 8), (.still, 9), (.still, 10), (.still, 11), (.still, 12), (.still, 13), (.still, 14), (.seq, 15)] (by kernel_rfl) (by kernel_rfl) (trivial) (by rfl) (by kernel_rfl) (mS [5] rfl (AO rfl) (mS [6] rfl (AO rfl) (mS [7] rfl (AO rfl) (mS [1] rfl (Ah CI rfl) (mK [51] isAgg23 1 rfl rfl rfl rfl (mS [6] rfl (AO rfl) ?_))))))
      obtain ⟨x2, nv, jn, pf⟩ := Bi pe
      obtain ⟨r0, rb, re, pg, jo, jq, nw, ⟨rf, rh, rfl, ph⟩, pj, jr⟩ := Ar.ta kJ ae nv.1 jn
      refine mS [52, 53] rfl (BQ underlying23 sizeOf22 rfl jo rfl nv) (mL [54] ([]) rfl sm (fun H F' L' ei ej => AG isAgg22 rfl ((jq _).ext ei ej) (jr 0 (by decide))) (mS [7] rfl (AO rfl) ?_))
      obtain ⟨x3, ny, js, pk⟩ := Bi pf
      obtain ⟨ri, rj, rk, pn, jt, ju, nz, rfl, po, jv⟩ := Ar.ta kI ph ny.1 js
      refine mS [55, 56] rfl (BQ underlying22 sizeOf3 rfl jt rfl ny) (mL [57] ([]) rfl sm (fun H F' L' ei ej => AG isAgg3 rfl ((ju _).ext ei ej) (jv 0 (by decide))) (mS [48] rfl (A9 rfl) (mS [59] rfl (Ah Gg rfl) ?_)))
      obtain ⟨o0, pq⟩ := AB pk
      refine mS [49, 60] rfl (Bs underlying118 sizeOf116 rfl rfl o0) ?_
      obtain ⟨o1, pr⟩ := AB pq
      obtain ⟨x4, pt, pv, pw⟩ := Bi pr
      have jw : (k * 5 + k2 : Int).toNat = (k : Int).toNat * 5 + (k2 : Int).toNat := by have := o0; have := o1; omega
      refine mS [50, 61] rfl (Bs underlying116 sizeOf3 rfl rfl o1) ?_
      refine ⟨_, [(58, vI x3), (62, .pointer (some ⟨b7, 5 + (k : Int).toNat * 5 + (k2 : Int).toNat * 1, none⟩))], rfl, rfl, z2, by kernel_rfl, ?_⟩; intro H
      obtain ⟨jx, o2, px⟩ := BC pw
      have py : jx.length = 25 := by rw [o2, List.length_set]; exact jf
      refine KI (i := 0) sizeOf3 rfl (by have := jw; omega) rfl rfl rfl (DD (A := ([sL Aj walks.length Ai] : List Value)) (k := 1) rfl (DD (A := ([sL Ak Af.length Al] : List Value)) (k := 1) rfl (DD (A := ([vI Ae] : List Value)) (k := 1) rfl (DD (A := ([vI start] : List Value)) (k := 1) rfl (DD (A := ([sL Ad Ab.length Ac] : List Value)) (k := 1) rfl (OO (B := ([sL none 0 0] : List Value) ++ ((List.replicate 15 0).flatMap (cI .i64))) (PE (p := (k * 5 + k2 : Int).toNat) (Bj .i64) (u := x3) rfl jf (by have := pt; have := jf; omega) F))))))) ?_
      refine Aw (L' := [(b7, ce ((([sL Aj walks.length Ai] : List Value) ++ (([sL Ak Af.length Al] : List Value) ++ (([vI Ae] : List Value) ++ (([vI start] : List Value) ++ (([sL Ad Ab.length Ac] : List Value) ++ (jx.flatMap (cI .i64) ++ (([sL none 0 0] : List Value) ++ ((List.replicate 15 0).flatMap (cI .i64))))))))).toArray) 122), (b1, ce #[sL Aj walks.length Ai, sL Ak Af.length Al, vI Ae, vI start, sL Ad Ab.length Ac] 26)]) (by rw [o2]; rfl) ?_
      refine Aa ⟨undef, rfl, AN.refl _, [], by kernel_rfl, .inl (.inl rfl), nm, ?_⟩
      refine Bo ?_
      refine Ay (id := 3) (An ?_)
      refine uv (A0 rfl rfl (CC.Cs db fa nq)) ?_
      refine um (Aa ?_)
      exact le kr ⟨_, fb, jx, px, rfl, rfl, z5, py⟩
     have pz := bf jl jm
     refine Ao (Ay (id := 3) (An ?_))
     refine uv (A0 rfl rfl (CC.Cs db fa nq)) ?_
     refine um (Aa ?_)
     exact le kr ⟨_, fb, ws, pz, rfl, rfl, z5, jf⟩
    obtain rfl := CC.zero db fa
    rw [Ft] at jd
    refine AI (Am (Am ?_))
    refine At (Ay (id := 1) ?_)
    obtain rfl := AP jd
    exact mi kr ⟨rfl, rfl, z3, je⟩
   rintro e1 _ _ ⟨rfl, rfl, jz, q0⟩
   refine Az _ jz (An (uv (A0 rfl rfl (CC.Cs eh jb oz)) ?_))
   refine um (Aa ?_)
   exact le kr ⟨_, ji, aq, np, rfl, rfl, z3, q0⟩
  obtain rfl := CC.zero eh jb
  rw [GF] at ja
  refine AI (Am (Am ?_))
  refine At ?_
  obtain rfl := AP ja
  exact mi kr ⟨rfl, rfl, z2, nn⟩
 rintro e1 _ _ ⟨rfl, rfl, kb, h8⟩
 refine Az _ kb ?_
 obtain ⟨aa, qb, o3⟩ := Av nk
 refine AU (fun e1 F1 L1 => AN F F1 ∧ L1 = [(b7, ce ((([sL Aj walks.length Ai] : List Value) ++ (([sL Ak Af.length Al] : List Value) ++ (([vI Ae] : List Value) ++ (([vI start] : List Value) ++ (([sL Ad Ab.length Ac] : List Value) ++ (aa.flatMap (cI .i64) ++ (([sL none 0 0] : List Value) ++ ((List.replicate 15 0).flatMap (cI .i64))))))))).toArray) 122), (b1, ce #[sL Aj walks.length Ai, sL Ak Af.length Al, vI Ae, vI start, sL Ad Ab.length Ac] 26)] ∧ e1.sub [(1, pO b1), (5, pO b7)] ∧ aa.length = 25) ?_ ?_
 ·clear o3
  refine AJ (um ?_)
  refine uv (A9 rfl) (uv (Ah Gg rfl) (uv (AZ isAgg118 sizeOf118 rfl (Has.own 0 rfl) (Iy (Au (A := ([sL Aj walks.length Ai] : List Value)) (k := 1) (o := 4) rfl (Au (A := ([sL Ak Af.length Al] : List Value)) (k := 1) (o := 3) rfl (Au (A := ([vI Ae] : List Value)) (k := 1) (o := 2) rfl (Au (A := ([vI start] : List Value)) (k := 1) (o := 1) rfl (Au (A := ([sL Ad Ab.length Ac] : List Value)) (k := 1) (o := 0) rfl (BJ (IG (Bj .i64) h8)))))))) (PD (IG (Bj .i64) h8) (Au (A := ([sL Aj walks.length Ai] : List Value)) (k := 1) (o := 4) rfl (Au (A := ([sL Ak Af.length Al] : List Value)) (k := 1) (o := 3) rfl (Au (A := ([vI Ae] : List Value)) (k := 1) (o := 2) rfl (Au (A := ([vI start] : List Value)) (k := 1) (o := 1) rfl (Au (A := ([sL Ad Ab.length Ac] : List Value)) (k := 1) (o := 0) rfl (BJ (IG (Bj .i64) h8))))))))) ?_))
  obtain ⟨a, qc, kh⟩ := Av qb
  refine c0 call106 (IJ h8 qc) ?_; rintro _ kj _ fe o4 ⟨rfl, rfl, ff⟩
  refine Aw (ln rfl) ?_
  refine Bh rfl zeroValue118 ?_; intro en fg
  refine Aw (L' := [(en, ce (arr (cI .i64) (List.replicate 25 0)) 118), (b7, ce ((([sL Aj walks.length Ai] : List Value) ++ (([sL Ak Af.length Al] : List Value) ++ (([vI Ae] : List Value) ++ (([vI start] : List Value) ++ (([sL Ad Ab.length Ac] : List Value) ++ (al.flatMap (cI .i64) ++ (([sL none 0 0] : List Value) ++ ((List.replicate 15 0).flatMap (cI .i64))))))))).toArray) 122), (b1, ce #[sL Aj walks.length Ai, sL Ak Af.length Al, vI Ae, vI start, sL Ad Ab.length Ac] 26)]) rfl (Lq (i := 0) sizeOf118 rfl rfl rfl (Hk (Bj .i64) List.length_replicate) (Hk (Bj .i64) ff) (MQ (Bj .i64)) (Aw (L' := [(en, ce (arr (cI .i64) a) 118), (b7, ce ((([sL Aj walks.length Ai] : List Value) ++ (([sL Ak Af.length Al] : List Value) ++ (([vI Ae] : List Value) ++ (([vI start] : List Value) ++ (([sL Ad Ab.length Ac] : List Value) ++ (al.flatMap (cI .i64) ++ (([sL none 0 0] : List Value) ++ ((List.replicate 15 0).flatMap (cI .i64))))))))).toArray) 122), (b1, ce #[sL Aj walks.length Ai, sL Ak Af.length Al, vI Ae, vI start, sL Ad Ab.length Ac] 26)]) rfl (Aa (Ap ?_))))
  refine Bb (fun jg e1 F1 L1 => ∃ (ak : List Int) (ai : List Int) (bm : Nat), GC jg ak ai = some aa ∧ AN kj F1 ∧ L1 = [(bm, ce (arr (cI .i64) ai) 118), (b7, ce ((([sL Aj walks.length Ai] : List Value) ++ (([sL Ak Af.length Al] : List Value) ++ (([vI Ae] : List Value) ++ (([vI start] : List Value) ++ (([sL Ad Ab.length Ac] : List Value) ++ (ak.flatMap (cI .i64) ++ (([sL none 0 0] : List Value) ++ ((List.replicate 15 0).flatMap (cI .i64))))))))).toArray) 122), (b1, ce #[sL Aj walks.length Ai, sL Ak Af.length Al, vI Ae, vI start, sL Ad Ab.length Ac] 26)] ∧ e1.sub [(1, pO b1), (5, pO b7), (8, pO bm)] ∧ ak.length = 25 ∧ K.w0.heap.size ≤ bm ∧ ai.length = 25) FU (m0 kr ⟨al, a, en, kh, AN.refl _, rfl, z3, h8, fg, ff⟩) ?_
  rintro jg e1 qd _ ⟨ak, ai, bm, dd, dy, rfl, fh, cc, o6, bg⟩
  refine Az _ fh ?_
  rcases jg with _ | jg
  ·rw [GC] at dd; cases dd
  rw [GC] at dd
  refine Aq (dW (wv (LO isAgg118 sizeOf118 rfl (Has.own 0 rfl) (Hk (Bj .i64) bg)) (wm (wv (A9 rfl) (wv (Ah Gg rfl) (wv (AZ isAgg118 sizeOf118 rfl (Has.own 1 rfl) (Iy (Au (A := ([sL Aj walks.length Ai] : List Value)) (k := 1) (o := 4) rfl (Au (A := ([sL Ak Af.length Al] : List Value)) (k := 1) (o := 3) rfl (Au (A := ([vI Ae] : List Value)) (k := 1) (o := 2) rfl (Au (A := ([vI start] : List Value)) (k := 1) (o := 1) rfl (Au (A := ([sL Ad Ab.length Ac] : List Value)) (k := 1) (o := 0) rfl (BJ (IG (Bj .i64) cc)))))))) (PD (IG (Bj .i64) cc) (Au (A := ([sL Aj walks.length Ai] : List Value)) (k := 1) (o := 4) rfl (Au (A := ([sL Ak Af.length Al] : List Value)) (k := 1) (o := 3) rfl (Au (A := ([vI Ae] : List Value)) (k := 1) (o := 2) rfl (Au (A := ([vI start] : List Value)) (k := 1) (o := 1) rfl (Au (A := ([sL Ad Ab.length Ac] : List Value)) (k := 1) (o := 0) rfl (BJ (IG (Bj .i64) cc))))))))) ?_))))))
  obtain ⟨kl, km⟩ := AB dd
  obtain ⟨ko, fi⟩ := AB km
  refine wv (PM (Qs _ _ _ _) (fun w => QG (Ra ai ak ⟨bg, kl⟩ ⟨cc, ko⟩ w)) rfl rfl) (B1 ?_)
  refine cQ (fun eo => ?_) fun eo => ?_
  ·have kt := A5 fi eo
   refine Ao (Aq ?_)
   refine Ap ?_
   refine An (um ?_)
   refine uv (LO isAgg118 sizeOf118 rfl (Has.own 0 rfl) (Hk (Bj .i64) bg)) (uv (A9 rfl) (uv (Ah Gg rfl) (Pj (i := 1) sizeOf118 rfl rfl (lz (IG (Bj .i64) bg)) (NR (Bj .i64) _) rfl (MC (A := ([sL Aj walks.length Ai] : List Value)) (k := 1) (o := 4) rfl (MC (A := ([sL Ak Af.length Al] : List Value)) (k := 1) (o := 3) rfl (MC (A := ([vI Ae] : List Value)) (k := 1) (o := 2) rfl (MC (A := ([vI start] : List Value)) (k := 1) (o := 1) rfl (MC (A := ([sL Ad Ab.length Ac] : List Value)) (k := 1) (o := 0) rfl (Rj (B := ([sL none 0 0] : List Value) ++ ((List.replicate 15 0).flatMap (cI .i64))) (IG (Bj .i64) cc))))))) (Aw (L' := [(bm, ce (arr (cI .i64) ai) 118), (b7, ce ((([sL Aj walks.length Ai] : List Value) ++ (([sL Ak Af.length Al] : List Value) ++ (([vI Ae] : List Value) ++ (([vI start] : List Value) ++ (([sL Ad Ab.length Ac] : List Value) ++ (ai.flatMap (cI .i64) ++ (([sL none 0 0] : List Value) ++ ((List.replicate 15 0).flatMap (cI .i64))))))))).toArray) 122), (b1, ce #[sL Aj walks.length Ai, sL Ak Af.length Al, vI Ae, vI start, sL Ad Ab.length Ac] 26)]) rfl ?_))))
   refine Aa (Ay (id := 5) (Aq (AJ ?_)))
   refine uv (LO isAgg118 sizeOf118 rfl (Has.own 0 rfl) (Hk (Bj .i64) bg)) ?_
   refine Aa (An ?_)
   refine Bh rfl zeroValue118 ?_; intro de fj
   refine Aw (L' := [(de, ce (arr (cI .i64) (List.replicate 25 0)) 118), (bm, ce (arr (cI .i64) ai) 118), (b7, ce ((([sL Aj walks.length Ai] : List Value) ++ (([sL Ak Af.length Al] : List Value) ++ (([vI Ae] : List Value) ++ (([vI start] : List Value) ++ (([sL Ad Ab.length Ac] : List Value) ++ (ai.flatMap (cI .i64) ++ (([sL none 0 0] : List Value) ++ ((List.replicate 15 0).flatMap (cI .i64))))))))).toArray) 122), (b1, ce #[sL Aj walks.length Ai, sL Ak Af.length Al, vI Ae, vI start, sL Ad Ab.length Ac] 26)]) rfl (Lq (i := 0) sizeOf118 rfl rfl rfl (Hk (Bj .i64) List.length_replicate) (Hk (Bj .i64) bg) (MQ (Bj .i64)) (Aw (L' := [(de, ce (arr (cI .i64) ai) 118), (bm, ce (arr (cI .i64) ai) 118), (b7, ce ((([sL Aj walks.length Ai] : List Value) ++ (([sL Ak Af.length Al] : List Value) ++ (([vI Ae] : List Value) ++ (([vI start] : List Value) ++ (([sL Ad Ab.length Ac] : List Value) ++ (ai.flatMap (cI .i64) ++ (([sL none 0 0] : List Value) ++ ((List.replicate 15 0).flatMap (cI .i64))))))))).toArray) 122), (b1, ce #[sL Aj walks.length Ai, sL Ak Af.length Al, vI Ae, vI start, sL Ad Ab.length Ac] 26)]) rfl ?_))
   refine Aa (An ?_)
   refine uv (LO isAgg118 sizeOf118 rfl (Has.own 0 rfl) (Hk (Bj .i64) bg)) ?_
   obtain ⟨a2, ku, kv⟩ := Av kt
   refine c0 call106 (IJ bg ku) ?_; rintro _ qe _ fk o7 ⟨rfl, rfl, fl⟩
   refine Aw (ln rfl) (Lq (i := 0) sizeOf118 rfl rfl rfl (Hk (Bj .i64) bg) (Hk (Bj .i64) fl) (MQ (Bj .i64)) (Aw (L' := [(de, ce (arr (cI .i64) a2) 118), (bm, ce (arr (cI .i64) ai) 118), (b7, ce ((([sL Aj walks.length Ai] : List Value) ++ (([sL Ak Af.length Al] : List Value) ++ (([vI Ae] : List Value) ++ (([vI start] : List Value) ++ (([sL Ad Ab.length Ac] : List Value) ++ (ai.flatMap (cI .i64) ++ (([sL none 0 0] : List Value) ++ ((List.replicate 15 0).flatMap (cI .i64))))))))).toArray) 122), (b1, ce #[sL Aj walks.length Ai, sL Ak Af.length Al, vI Ae, vI start, sL Ad Ab.length Ac] 26)]) rfl (Aa ?_)))
   exact le (kc (kd kr)) ⟨ai, a2, de, kv, (dy.trans fk), rfl, z3, bg, fj, fl⟩
  have kz := A4 fi eo
  refine AI (Am (Am ?_))
  refine At ?_
  obtain rfl := AP kz
  exact mi (kd kr) ⟨(fe.trans dy), rfl, z2, cc⟩
 rintro e1 fm _ ⟨ck, rfl, fo, ep⟩
 refine Az _ fo ?_
 replace ae := ae.m2 ck
 replace ad := ad.m2 ck
 replace ab := ab.m3 ck
 obtain ⟨br, cn, l0, fp⟩ := BT o3
 refine AU (fun e1 F1 L1 => ∃ (er : Option Addr) (et : Nat) (eu : Nat) (cp : LH), AN fm F1 ∧ L1 = ((b7, ce ((([sL Aj walks.length Ai] : List Value) ++ (([sL Ak Af.length Al] : List Value) ++ (([vI Ae] : List Value) ++ (([vI start] : List Value) ++ (([sL Ad Ab.length Ac] : List Value) ++ (aa.flatMap (cI .i64) ++ (([sL er et eu] : List Value) ++ (cn.flatMap (cI .i64))))))))).toArray) 122) :: (cp ++ [])) ∧ e1.sub [(5, pO b7)] ∧ AM K.w0.heap.size 32 2 eP F1 er et eu br cp ∧ cn.length = 15) ?_ ?_
 ·clear fp
  refine AJ (uv (Ah BF rfl) (uv (BM isAgg24 1) (uv (AQ underlying24 rfl) ?_)))
  refine um (Aa ?_)
  refine Ap ?_
  refine Bb (fun o8 e1 F1 L1 => LA Ab o8 fun tl k4 => ∃ (au : List (Int × Int)) (av : List Int) (cf : Option Addr) (cg : Nat) (cj : Nat) (bh : LH), GH Af tl k4 au av = some (br, cn) ∧ AN fm F1 ∧ L1 = ((b7, ce ((([sL Aj walks.length Ai] : List Value) ++ (([sL Ak Af.length Al] : List Value) ++ (([vI Ae] : List Value) ++ (([vI start] : List Value) ++ (([sL Ad Ab.length Ac] : List Value) ++ (aa.flatMap (cI .i64) ++ (([sL cf cg cj] : List Value) ++ (av.flatMap (cI .i64))))))))).toArray) 122) :: ((b1, ce #[sL Aj walks.length Ai, sL Ak Af.length Al, vI Ae, vI start, sL Ad Ab.length Ac] 26) :: (bh ++ []))) ∧ e1.sub [(1, pO b1), (5, pO b7), (84, sL Ad Ab.length Ac), (85, vI (Ab.length : Int)), (86, vI k4)] ∧ AM K.w0.heap.size 32 2 eP F1 cf cg cj au bh ∧ av.length = 15) _ (m0 (kc (kc (ke kr))) ⟨_, _, rfl, Bl.start _, [], List.replicate 15 0, none, 0, 0, [], l0, AN.refl _, rfl, z5, AM.nil _ _ _ _ _, List.length_replicate⟩) ?_
  rintro o8 e1 la _ ⟨tl, k4, fq, cq, au, av, cf, cg, cj, bh, df, bu, rfl, fs, bj, ft⟩
  refine Az _ fs ?_
  replace ad := ad.m2 bu
  replace ab := ab.m3 bu
  refine AJ (uv (AV rfl rfl) ?_)
  refine Aa (Aq ?_)
  refine cQ (fun dg => ?_) fun dg => ?_
  ·obtain ⟨x5, rl, rfl, fv, fw, fx⟩ := Bl.succ cq dg
   rw [GH] at df
   refine Ao ?_
   obtain ⟨bb, bl, ld, fy⟩ := BT df
   refine AU (fun e1 F1 L1 => ∃ (dh : Option Addr) (di : Nat) (dk : Nat) (bw : LH), AN la F1 ∧ L1 = ((b7, ce ((([sL Aj walks.length Ai] : List Value) ++ (([sL Ak Af.length Al] : List Value) ++ (([vI Ae] : List Value) ++ (([vI start] : List Value) ++ (([sL Ad Ab.length Ac] : List Value) ++ (aa.flatMap (cI .i64) ++ (([sL dh di dk] : List Value) ++ (bl.flatMap (cI .i64))))))))).toArray) 122) :: ((b1, ce #[sL Aj walks.length Ai, sL Ak Af.length Al, vI Ae, vI start, sL Ad Ab.length Ac] 26) :: (bw ++ []))) ∧ e1.sub [(1, pO b1), (5, pO b7), (84, sL Ad Ab.length Ac), (85, vI (Ab.length : Int)), (86, vI k4)] ∧ AM K.w0.heap.size 32 2 eP F1 dh di dk bb bw ∧ bl.length = 15) ?_ ?_
   ·clear fy
    refine Ap ?_
    refine AJ (um ?_)
    obtain ⟨qf, qg, qh, o9, g0, ga, cr, ⟨_, _, rfl, ⟨lg, lh, rfl, lj⟩, ⟨_, _, rfl, rfl, rfl⟩⟩, gb, gg⟩ := Ar.ta kN ab fw.1 fv
    refine uv (Cx underlying24 sizeOf35 g0 fw) (uv (AZ isAgg35 sizeOf35 rfl (ga _) cr (Ba cr gb gg)) ?_)
    refine Bh rfl zeroValue35 ?_; intro lk oc
    refine ua (A8 (i := 0) sizeOf35 rfl rfl rfl (by simp [Value.oneCell']) rfl (B2 rfl) (Aw (L' := (lk, ce #[sL lg x5.1.length lh, vI x5.2.1, vI x5.2.2] 35) :: ((b7, ce ((([sL Aj walks.length Ai] : List Value) ++ (([sL Ak Af.length Al] : List Value) ++ (([vI Ae] : List Value) ++ (([vI start] : List Value) ++ (([sL Ad Ab.length Ac] : List Value) ++ (aa.flatMap (cI .i64) ++ (([sL cf cg cj] : List Value) ++ (av.flatMap (cI .i64))))))))).toArray) 122) :: ((b1, ce #[sL Aj walks.length Ai, sL Ak Af.length Al, vI Ae, vI start, sL Ad Ab.length Ac] 26) :: (bh ++ [])))) rfl (BL (uv (Ah GX rfl) (uv (BM isAgg22 0) ?_)))))
    obtain ⟨y, ll, lq⟩ := Av ld
    refine c0 call108 (Kv lj ll) ?_; rintro _ qi _ ct od ⟨oe, rfl, rfl, ew⟩
    replace ad := ad.m2 ct
    replace bj := bj.m4 ct
    refine Aw (ln rfl) ?_
    obtain ⟨l, lr, lu⟩ := Av lq
    refine c0 call107 (LU call121 ew lr) ?_; rintro _ cu _ cv gh ⟨dm, dp, dq, bc, rfl, rfl, bk⟩
    replace ad := ad.m2 cv
    replace bj := bj.m4 cv
    replace bk := bk.new fun p hp => gh p (by simp [hp])
    refine Aw (lp (ln rfl)) (kO (kf (fS fO) (kf (fS fO) (kf (fS fO) kr))) (uv ((AQ underlying22 rfl).i (AM.Gh bk)) ?_))
    refine um (Aa ?_)
    refine Ap (kW (kd kr) ?_)
    refine Bb (fun og e1 F1 L1 => LA l og fun oh k5 => ∃ (ah : List (Int × Int)) (aw : List Int) (ax : Option Addr) (ay : Nat) (az : Nat) (ba : LH), Gz Af k4 oh ah aw = some (bb, bl) ∧ cu = F1 ∧ L1 = ((b7, ce ((([sL Aj walks.length Ai] : List Value) ++ (([sL Ak Af.length Al] : List Value) ++ (([vI Ae] : List Value) ++ (([vI start] : List Value) ++ (([sL Ad Ab.length Ac] : List Value) ++ (aa.flatMap (cI .i64) ++ (([sL ax ay az] : List Value) ++ (aw.flatMap (cI .i64))))))))).toArray) 122) :: ((b1, ce #[sL Aj walks.length Ai, sL Ak Af.length Al, vI Ae, vI start, sL Ad Ab.length Ac] 26) :: (ba ++ (bc ++ [])))) ∧ e1.sub [(1, pO b1), (5, pO b7), (9, vI k4), (84, sL Ad Ab.length Ac), (85, vI (Ab.length : Int)), (86, vI k4), (94, sL dm dp dq), (95, vI (l.length : Int)), (96, vI k5)] ∧ AM K.w0.heap.size 32 2 eP F1 ax ay az ah ba ∧ aw.length = 15) _ (m0 (kc (kc (kg (fS fP) kr))) ⟨_, _, rfl, Bl.start _, au, av, cf, cg, cj, bh, lu, rfl, rfl, (sc rfl z8), bj, ft⟩) ?_
    rintro og e1 _ _ ⟨oh, k5, gi, cw, ah, aw, ax, ay, az, ba, dr, rfl, rfl, gj, cx, gk⟩
    refine Az _ gj (AJ (uv (AV rfl rfl) ?_))
    refine Aa (Aq ?_)
    refine cQ (fun dt => ?_) fun dt => ?_
    ·obtain ⟨x6, rm, rfl, gl, gm, gn⟩ := Bl.succ cw dt
     rw [Gz] at dr
     refine Ao ?_
     obtain ⟨bn, bp, lv, gp⟩ := BT dr
     refine AU (fun e1 F1 L1 => ∃ (du : Option Addr) (dv : Nat) (dw : Nat) (bx : LH), cu = F1 ∧ L1 = ((b7, ce ((([sL Aj walks.length Ai] : List Value) ++ (([sL Ak Af.length Al] : List Value) ++ (([vI Ae] : List Value) ++ (([vI start] : List Value) ++ (([sL Ad Ab.length Ac] : List Value) ++ (aa.flatMap (cI .i64) ++ (([sL du dv dw] : List Value) ++ (bp.flatMap (cI .i64))))))))).toArray) 122) :: ((b1, ce #[sL Aj walks.length Ai, sL Ak Af.length Al, vI Ae, vI start, sL Ad Ab.length Ac] 26) :: (bx ++ (bc ++ [])))) ∧ e1.sub [(1, pO b1), (5, pO b7), (9, vI k4), (84, sL Ad Ab.length Ac), (85, vI (Ab.length : Int)), (86, vI k4), (94, sL dm dp dq), (95, vI (l.length : Int)), (96, vI k5)] ∧ AM K.w0.heap.size 32 2 eP F1 du dv dw bn bx ∧ bp.length = 15) ?_ ?_
     ·clear gp
      refine Ap (AJ ?_)
      obtain ⟨qj, qk, ql, oi, gq, gr, lx, rfl, oj, gu⟩ := AM.at kI bk (L := (b7, ce ((([sL Aj walks.length Ai] : List Value) ++ (([sL Ak Af.length Al] : List Value) ++ (([vI Ae] : List Value) ++ (([vI start] : List Value) ++ (([sL Ad Ab.length Ac] : List Value) ++ (aa.flatMap (cI .i64) ++ (([sL ax ay az] : List Value) ++ (aw.flatMap (cI .i64))))))))).toArray) 122) :: ((b1, ce #[sL Aj walks.length Ai, sL Ak Af.length Al, vI Ae, vI start, sL Ad Ab.length Ac] 26) :: (ba ++ (bc ++ [])))) (fC (fC (fS fP))) gm.1 gl
      refine uv (Cx underlying22 sizeOf3 gq (AM.idx bk gm)) (uv (AG isAgg3 rfl gr (gu 0 (by decide))) ?_)
      refine ua (Aa ?_)
      obtain ⟨bd, ly, gv⟩ := Av lv
      refine AU (fun e1 F1 L1 => cu = F1 ∧ L1 = ((b7, ce ((([sL Aj walks.length Ai] : List Value) ++ (([sL Ak Af.length Al] : List Value) ++ (([vI Ae] : List Value) ++ (([vI start] : List Value) ++ (([sL Ad Ab.length Ac] : List Value) ++ (aa.flatMap (cI .i64) ++ (([sL ax ay az] : List Value) ++ (bd.flatMap (cI .i64))))))))).toArray) 122) :: ((b1, ce #[sL Aj walks.length Ai, sL Ak Af.length Al, vI Ae, vI start, sL Ad Ab.length Ac] 26) :: (ba ++ (bc ++ [])))) ∧ e1.sub [(1, pO b1), (5, pO b7), (9, vI k4), (12, vI x6), (84, sL Ad Ab.length Ac), (85, vI (Ab.length : Int)), (86, vI k4), (94, sL dm dp dq), (95, vI (l.length : Int)), (96, vI k5)] ∧ bd.length = 15) ?_ ?_
      ·clear gv
       refine AJ (uv (Ah Df rfl) (uv (BM isAgg23 1) (uv (AQ underlying23 rfl) ?_)))
       refine um (Aa ?_)
       refine Ap ?_
       refine Bb (fun oo e1 F1 L1 => LA Af oo fun oq k6 => ∃ (ao : List Int), Fs k4 ah x6 oq k6 ao = some bd ∧ cu = F1 ∧ L1 = ((b7, ce ((([sL Aj walks.length Ai] : List Value) ++ (([sL Ak Af.length Al] : List Value) ++ (([vI Ae] : List Value) ++ (([vI start] : List Value) ++ (([sL Ad Ab.length Ac] : List Value) ++ (aa.flatMap (cI .i64) ++ (([sL ax ay az] : List Value) ++ (ao.flatMap (cI .i64))))))))).toArray) 122) :: ((b1, ce #[sL Aj walks.length Ai, sL Ak Af.length Al, vI Ae, vI start, sL Ad Ab.length Ac] 26) :: (ba ++ (bc ++ [])))) ∧ e1.sub [(1, pO b1), (5, pO b7), (9, vI k4), (12, vI x6), (84, sL Ad Ab.length Ac), (85, vI (Ab.length : Int)), (86, vI k4), (94, sL dm dp dq), (95, vI (l.length : Int)), (96, vI k5), (101, sL Ak Af.length Al), (102, vI (Af.length : Int)), (103, vI k6)] ∧ ao.length = 15) _ (m0 kr ⟨_, _, rfl, Bl.start _, aw, ly, rfl, rfl, (sc rfl (sc rfl (sc rfl (sc rfl (sc rfl z8))))), gk⟩) ?_
       rintro oo e1 _ _ ⟨oq, k6, dz, bz, ao, dx, rfl, rfl, gw, bo⟩
       refine Az _ gw (AJ (uv (AV rfl rfl) ?_))
       refine Aa (Aq ?_)
       refine cQ (fun cy => ?_) fun cy => ?_
       ·obtain ⟨x7, rp, rfl, gz, ia, eb⟩ := Bl.succ bz cy
        rw [Fs] at dx
        refine Ao (Aq ?_)
        refine Ap ?_
        refine AJ (um ?_)
        obtain ⟨qn, qo, qp, ot, ib, ic, ma, ⟨qq, qs, rfl, mb⟩, ou, ie⟩ := Ar.ta kJ ad ia.1 gz
        refine uv (Cx underlying23 sizeOf22 ib ia) (uv (AG isAgg22 rfl (ic _) (ie 0 (by decide))) ?_)
        refine ua (ua (BL (um (um ?_))))
        obtain ⟨ok, mc, ig⟩ := Av dx
        refine cV call105 (D2 mb mc) (Aa ?_)
        refine AR rfl (fun ey => ?_) (fun ey => ?_)
        ·have me := bt ig ey
         refine Bg [(.still, 0), (.still, 1), (.still, 2), (.still, 3), (.still, 4), (.still, 5), (.still, 6), (.still, 7), (.still, 8), (.still, 9), (.still, 10), (.still, 11), (.still, 12), (.still, 13), (.still, 14), (.still, 15), (.still, 16), (.still, 17), (.still, 18), (.seq, 19)] (by kernel_rfl) (by kernel_rfl) (trivial) (by rfl) (by kernel_rfl) (mS [5] rfl (AO rfl) (mS [13] rfl (AO rfl) (mS [9] rfl (AO rfl) (mS [111] rfl (A9 rfl) (mS [114] rfl (Ah N0 rfl) ?_)))))
         obtain ⟨ij, mg⟩ := AB me
         refine mS [112, 115] rfl (Bs underlying120 sizeOf119 rfl rfl ij) ?_
         obtain ⟨ik, mh⟩ := AB mg
         obtain ⟨x8, mj, il, ml⟩ := Bi mh
         have im : (k6 * 3 + k4 : Int).toNat = (k6 : Int).toNat * 3 + (k4 : Int).toNat := by have := ij; have := ik; omega
         have iq := H6 (Bj .i64) bo im il (HH (Au (A := ([sL Aj walks.length Ai] : List Value)) (k := 1) (o := 30) rfl (Au (A := ([sL Ak Af.length Al] : List Value)) (k := 1) (o := 29) rfl (Au (A := ([vI Ae] : List Value)) (k := 1) (o := 28) rfl (Au (A := ([vI start] : List Value)) (k := 1) (o := 27) rfl (Au (A := ([sL Ad Ab.length Ac] : List Value)) (k := 1) (o := 26) rfl (Au (A := aa.flatMap (cI .i64)) (k := 25) (o := 1) (IG (Bj .i64) ep) (Au (A := ([sL ax ay az] : List Value)) (k := 1) (o := 0) rfl (HE (IG (Bj .i64) bo)))))))))) (Iy (Au (A := ([sL Aj walks.length Ai] : List Value)) (k := 1) (o := 30) rfl (Au (A := ([sL Ak Af.length Al] : List Value)) (k := 1) (o := 29) rfl (Au (A := ([vI Ae] : List Value)) (k := 1) (o := 28) rfl (Au (A := ([vI start] : List Value)) (k := 1) (o := 27) rfl (Au (A := ([sL Ad Ab.length Ac] : List Value)) (k := 1) (o := 26) rfl (Au (A := aa.flatMap (cI .i64)) (k := 25) (o := 1) (IG (Bj .i64) ep) (Au (A := ([sL ax ay az] : List Value)) (k := 1) (o := 0) rfl (HE (IG (Bj .i64) bo))))))))))
         refine mS [113, 116] rfl (Bs underlying119 sizeOf3 rfl rfl ik) (mL [117] ([(b7, ce ((([sL Aj walks.length Ai] : List Value) ++ (([sL Ak Af.length Al] : List Value) ++ (([vI Ae] : List Value) ++ (([vI start] : List Value) ++ (([sL Ad Ab.length Ac] : List Value) ++ (aa.flatMap (cI .i64) ++ (([sL ax ay az] : List Value) ++ (ao.flatMap (cI .i64))))))))).toArray) 122)]) rfl (s0 (s2 (s1 (s3 (s3 sr))))) (fun H F' L' ei ej => AG isAgg3 rfl ((Has.own 0 rfl).ext ei ej) ((iq).2.2 0 (by decide))) (mS [5] rfl (AO rfl) (mS [119] rfl (A9 rfl) (mS [120] rfl (Ah GB rfl) (mL [121] ([(b7, ce ((([sL Aj walks.length Ai] : List Value) ++ (([sL Ak Af.length Al] : List Value) ++ (([vI Ae] : List Value) ++ (([vI start] : List Value) ++ (([sL Ad Ab.length Ac] : List Value) ++ (aa.flatMap (cI .i64) ++ (([sL ax ay az] : List Value) ++ (ao.flatMap (cI .i64))))))))).toArray) 122)]) rfl (s0 (s2 (s1 (s3 (s3 sr))))) (fun H F' L' ei ej => AG isAgg41 rfl ((Has.own 0 rfl).ext ei ej) (DN (Au (A := ([sL Aj walks.length Ai] : List Value)) (k := 1) (o := 29) rfl (Au (A := ([sL Ak Af.length Al] : List Value)) (k := 1) (o := 28) rfl (Au (A := ([vI Ae] : List Value)) (k := 1) (o := 27) rfl (Au (A := ([vI start] : List Value)) (k := 1) (o := 26) rfl (Au (A := ([sL Ad Ab.length Ac] : List Value)) (k := 1) (o := 25) rfl (Au (A := aa.flatMap (cI .i64)) (k := 25) (o := 0) (IG (Bj .i64) ep) (BJ rfl))))))))) (mS [122] rfl ((AQ underlying41 rfl).i (AM.Gh cx)) ?_))))))
         obtain ⟨mn, mo⟩ := AB ml
         refine mS (v := vI (shl 1 (ah.length : Int))) [123] rfl (Ns rfl rfl mn) (mS (v := vI (PS x8 (shl 1 (ah.length : Int)))) [118, 124] rfl (Rm rfl rfl) (mS [111] rfl (A9 rfl) (mS [126] rfl (Ah N0 rfl) ?_)))
         obtain ⟨ir, mq⟩ := AB mo
         refine mS [112, 127] rfl (Bs underlying120 sizeOf119 rfl rfl ir) ?_
         obtain ⟨iu, mr⟩ := AB mq
         have iv : (k6 * 3 + k4 : Int).toNat = (k6 : Int).toNat * 3 + (k4 : Int).toNat := by have := ir; have := iu; omega
         refine mS [113, 128] rfl (Bs underlying119 sizeOf3 rfl rfl iu) ?_
         refine ⟨_, [(125, vI (PS x8 (shl 1 (ah.length : Int)))), (129, .pointer (some ⟨b7, 31 + (k6 : Int).toNat * 3 + (k4 : Int).toNat * 1, none⟩))], rfl, rfl, z2, by kernel_rfl, ?_⟩; intro H
         obtain ⟨mu, iw, mv⟩ := BC mr
         have mw : mu.length = 15 := by rw [iw, List.length_set]; exact bo
         refine KI (i := 0) sizeOf3 rfl (by have := iv; omega) rfl rfl rfl (DD (A := ([sL Aj walks.length Ai] : List Value)) (k := 1) rfl (DD (A := ([sL Ak Af.length Al] : List Value)) (k := 1) rfl (DD (A := ([vI Ae] : List Value)) (k := 1) rfl (DD (A := ([vI start] : List Value)) (k := 1) rfl (DD (A := ([sL Ad Ab.length Ac] : List Value)) (k := 1) rfl (DD (A := aa.flatMap (cI .i64)) (k := 25) (IG (Bj .i64) ep) (DD (A := ([sL ax ay az] : List Value)) (k := 1) rfl (PE (p := (k6 * 3 + k4 : Int).toNat) (Bj .i64) (u := PS x8 (shl 1 (ah.length : Int))) rfl bo (by have := mj; have := bo; omega) cu)))))))) ?_
         refine Aw (L' := (b7, ce ((([sL Aj walks.length Ai] : List Value) ++ (([sL Ak Af.length Al] : List Value) ++ (([vI Ae] : List Value) ++ (([vI start] : List Value) ++ (([sL Ad Ab.length Ac] : List Value) ++ (aa.flatMap (cI .i64) ++ (([sL ax ay az] : List Value) ++ (mu.flatMap (cI .i64))))))))).toArray) 122) :: ((b1, ce #[sL Aj walks.length Ai, sL Ak Af.length Al, vI Ae, vI start, sL Ad Ab.length Ac] 26) :: (ba ++ (bc ++ [])))) (by rw [iw]; rfl) ?_
         refine Aa ⟨undef, rfl, AN.refl _, [], by kernel_rfl, .inl (.inl rfl), nm, ?_⟩
         refine Bo ?_
         refine Ay (id := 11) (An ?_)
         refine uv (A0 rfl rfl (Bl.Cs bz cy (Ar.lt ad))) ?_
         refine um (Aa ?_)
         subst dz; exact le kr ⟨_, _, rfl, eb, mu, mv, rfl, rfl, (sc rfl (sc rfl (sc rfl (sc rfl (sc rfl z8))))), mw⟩
        have mx := bf ig ey
        refine Ao (Ay (id := 11) (An ?_))
        refine uv (A0 rfl rfl (Bl.Cs bz cy (Ar.lt ad))) ?_
        refine um (Aa ?_)
        subst dz; exact le kr ⟨_, _, rfl, eb, ao, mx, rfl, rfl, (sc rfl (sc rfl (sc rfl (sc rfl (sc rfl z8))))), bo⟩
       obtain rfl := Bl.zero bz cy
       rw [Fs] at dx
       refine AI (Am (Am ?_))
       refine At ?_
       obtain rfl := AP dx
       exact mi kr ⟨rfl, rfl, (sc rfl (sc rfl z8)), bo⟩
      rintro e1 _ _ ⟨rfl, rfl, iy, na⟩
      refine Az _ iy ?_
      refine An (um (um ?_))
      refine uv (A9 rfl) (uv (Ah GB rfl) (uv (AG isAgg41 rfl (Has.own 0 rfl) (DN (Au (A := ([sL Aj walks.length Ai] : List Value)) (k := 1) (o := 29) rfl (Au (A := ([sL Ak Af.length Al] : List Value)) (k := 1) (o := 28) rfl (Au (A := ([vI Ae] : List Value)) (k := 1) (o := 27) rfl (Au (A := ([vI start] : List Value)) (k := 1) (o := 26) rfl (Au (A := ([sL Ad Ab.length Ac] : List Value)) (k := 1) (o := 25) rfl (Au (A := aa.flatMap (cI .i64)) (k := 25) (o := 0) (IG (Bj .i64) ep) (BJ rfl))))))))) ?_))
      refine um (um ?_)
      refine uv (BI (v := .agg #[vI k4, vI x6]) rfl (by intro w; kernel_rfl)) ?_
      refine bA (cs := #[vI k4, vI x6]) HR [.agg #[vI k4, vI x6]] ?_; intro qt ow
      obtain ⟨c, nc, nf, ng⟩ := DS gv
      refine Cq (xs := ah) (ys := [(k4, x6)]) (zs := c) rfl HR rfl rfl (Nat.le_refl _) (fun _ => .c (.c (.c .h))) cx (Fg.box (vss := [[vI k4, vI x6]]) (ys := [(k4, x6)]) 0 rfl kP (.cons ⟨_, _, rfl, rfl, rfl⟩ .nil) rfl rfl) nc nf (by decide) ?_; intro iz j0 j1 ec j2
      refine kO (kd kr) (uv (A9 rfl) (uv (Ah GB rfl) (KI (i := 0) sizeOf41 rfl rfl rfl rfl rfl (DD (A := ([sL Aj walks.length Ai] : List Value)) (k := 1) (p := 29) rfl (DD (A := ([sL Ak Af.length Al] : List Value)) (k := 1) (p := 28) rfl (DD (A := ([vI Ae] : List Value)) (k := 1) (p := 27) rfl (DD (A := ([vI start] : List Value)) (k := 1) (p := 26) rfl (DD (A := ([sL Ad Ab.length Ac] : List Value)) (k := 1) (p := 25) rfl (DD (A := aa.flatMap (cI .i64)) (k := 25) (p := 0) (IG (Bj .i64) ep) (OO (B := bd.flatMap (cI .i64)) RH))))))) (Aw (L' := (b7, ce ((([sL Aj walks.length Ai] : List Value) ++ (([sL Ak Af.length Al] : List Value) ++ (([vI Ae] : List Value) ++ (([vI start] : List Value) ++ (([sL Ad Ab.length Ac] : List Value) ++ (aa.flatMap (cI .i64) ++ (([sL iz j0 j1] : List Value) ++ (bd.flatMap (cI .i64))))))))).toArray) 122) :: ((b1, ce #[sL Aj walks.length Ai, sL Ak Af.length Al, vI Ae, vI start, sL Ad Ab.length Ac] 26) :: (ec ++ (bc ++ [])))) rfl ?_))))
      refine Aa (Ay (id := 9) ?_)
      obtain ⟨rfl, rfl⟩ := B9 ng
      exact mi kr ⟨iz, j0, j1, ec, rfl, rfl, (sc rfl z8), j2, na⟩
     rintro e1 _ _ ⟨du, dv, dw, bx, rfl, rfl, j3, j4, nh⟩
     refine Az _ j3 (An (uv (A0 rfl rfl (Bl.Cs cw dt (AM.PI bk))) ?_))
     refine um (Aa ?_)
     subst gi; exact le kr ⟨_, _, rfl, gn, bn, bp, du, dv, dw, bx, gp, rfl, rfl, (sc rfl z8), j4, nh⟩
    obtain rfl := Bl.zero cw dt
    rw [Gz] at dr
    refine AI (Am (Am ?_))
    refine At (Ay (id := 7) ?_)
    obtain ⟨rfl, rfl⟩ := B9 dr
    exact mi (kc (kc (ka kn))) ⟨ax, ay, az, ba, (ct.trans cv), rfl, z5, cx, gk⟩
   rintro e1 qu _ ⟨dh, di, dk, bw, ef, rfl, j5, j6, ni⟩
   refine Az _ j5 ?_
   replace ab := ab.m3 ef
   refine An (uv (A0 rfl rfl (Bl.Cs cq dg (Ar.lt ab))) ?_)
   refine um (Aa ?_)
   subst fq; exact le kr ⟨_, _, rfl, fx, bb, bl, dh, di, dk, bw, fy, (bu.trans ef), rfl, z5, j6, ni⟩
  obtain rfl := Bl.zero cq dg
  rw [GH] at df
  refine AI (Am (Am ?_))
  refine At ?_
  obtain ⟨rfl, rfl⟩ := B9 df
  exact mi (kc (kd kr)) ⟨cf, cg, cj, bh, bu, rfl, z1, bj, ft⟩
 rintro e1 qw _ ⟨er, et, eu, cp, cz, rfl, j7, eg, nj⟩
 refine Az _ j7 ?_
 replace ae := ae.m2 cz
 replace ad := ad.m2 cz
 replace ab := ab.m3 cz
 refine AJ (um (ua (ua (Aa ?_))))
 obtain rfl := (AM.A6 eg).1
 refine LB (Nat.le_refl _) kP (fC fP) eg ?_; intro qx da ez
 replace ae := ae.m2 da
 replace ad := ad.m2 da
 replace ab := ab.m3 da
 refine Bk 0 rfl oy ?_; intro qy cb j8
 refine CU (L' := []) rfl ?_
 replace ae := ae.m2 cb
 replace ad := ad.m2 cb
 replace ab := ab.m3 cb
 replace ez := ez.m4 cb
 refine AA (BG results72 (AH rfl) (AH rfl) (sr) ?_)
 obtain ⟨rfl, rfl⟩ := B9 fp
 exact ⟨_, rfl, rfl, ⟨_, _, _, rfl, j8, ⟨_, _, rfl, ⟨_, _, rfl, ae⟩, ⟨_, _, rfl, ⟨_, _, rfl, ad⟩, ⟨_, _, rfl, rfl, ⟨_, _, rfl, rfl, ⟨_, _, rfl, ⟨_, _, rfl, ab⟩, ⟨_, _, rfl, ⟨rfl, ep⟩, ⟨_, _, rfl, ⟨_, _, rfl, ez⟩, ⟨rfl, nj⟩⟩⟩⟩⟩⟩⟩⟩⟩⟩
set_option maxHeartbeats 1000000 in
theorem KH {from_ to : Int} (ad : Ar 1 eJ F Aj Ai walks) (ae : Ar 1 eJ F Ak Al Af) (aa : Ar 3 eN F Ad Ac Ab) {r r2 : Int} (hr : JU walks Af Ae start Ab from_ to = some (r, r2)) :
    Bv Tryz.prog 25 #[.agg #[sL Aj walks.length Ai, sL Ak Af.length Al, vI Ae, vI start, sL Ad Ab.length Ac], vI from_, vI to] F (.tuple #[vI r, vI r2]) := by
 refine sp func25 ntmps25 fun K _ _ => ?_
 rw [JU] at hr
 refine AJ ?_
 refine Bx rfl rfl ?_; intro b1 df
 refine ua (ua (BL ?_))
 refine uv (CA isAgg26 sizeOf26 0) ?_
 obtain ⟨d, n, h2, r3⟩ := BT hr
 refine c0 call72 (Cd ad ae aa h2) ?_; rintro _ F4 _ bc dg ⟨v8, rfl, rfl, cb⟩
 replace ad := ad.m2 bc
 replace ae := ae.m2 bc
 replace aa := aa.m3 bc
 refine Aw (ln rfl) ?_
 refine um (ox rfl rfl rfl (ox rfl rfl rfl (ua (ua (Aa (Aq ?_))))))
 refine Ap ?_
 refine AJ (um ?_)
 refine uv (Bt rfl rfl) ?_
 refine ua (Aa ?_)
 refine cQ (fun bd => ?_) fun bd => ?_
 ·have cc := A5 r3 bd
  refine AJ (um (ua (ua (Aa ?_))))
  refine kW kn ?_
  refine AA (AK (As ?_))
  refine BG results25 (AH rfl) (AH rfl) (sr) ?_
  obtain ⟨rfl, rfl⟩ := B9 cc
  exact rfl
 have cf := A4 r3 bd
 obtain ⟨k, cg, bg⟩ := Av cf
 refine jE ([]) [(1, vI from_), (2, vI to), (8, v8), (19, .bool k)] ?_ ?_
 ·clear bg
  refine An (uv (CA isAgg26 sizeOf26 0) (um ?_))
  obtain ⟨ok, cj, bp⟩ := Av cg
  refine cV call62 (Gr ad ae aa cj) (uv (Bz rfl) (um ?_))
  rcases EE (!ok) with ak | ak
  ·have ck := bt bp ak
   refine fB ak (fB ak (fB ak (fB ak ?_)))
   refine uv (AF (Gl rfl ak) rfl) ?_
   refine ua (Aa ?_)
   obtain rfl := AP ck
   exact mi kn ⟨rfl, rfl, z4⟩
  have cn := bf bp ak
  refine nB ak (uv (CA isAgg26 sizeOf26 0) ?_)
  refine nB ak (um (nB ak ?_))
  obtain ⟨dh, cp, cq⟩ := Av cn
  refine cV call62 (Gr ad ae aa cp) (nB ak (uv (Bz rfl) (uv (AD (Gl rfl ak) rfl) ?_)))
  refine ua (Aa ?_)
  obtain rfl := AP cq
  exact mi kn ⟨rfl, rfl, z4⟩
 refine AR rfl (fun bh => ?_) (fun bh => ?_)
 ·have cr := bt bg bh
  refine AJ (ua (ua (Aa (AA (AK (As ?_))))))
  refine BG results25 (AH rfl) (AH rfl) (sr) ?_
  obtain ⟨rfl, rfl⟩ := B9 cr
  exact rfl
 have ct := bf bg bh
 refine AJ (um (um (um ?_)))
 obtain ⟨Ax, ai, ah, aj, ab, ao, AE, BH, cu, cv⟩ := J3 ct
 have bq := cb; rw [cu] at bq; obtain ⟨cw, di, cx, bj, al, ⟨_, _, rfl, ⟨ar, au, rfl, dk⟩, ⟨_, _, rfl, ⟨av, aw, rfl, dm⟩, ⟨_, _, rfl, rfl, ⟨_, _, rfl, rfl, ⟨_, _, rfl, ⟨ax, ay, rfl, dp⟩, ⟨_, _, rfl, ⟨rfl, aq⟩, ⟨_, _, rfl, ⟨az, ba, rfl, dq⟩, ⟨rfl, dr⟩⟩⟩⟩⟩⟩⟩⟩⟩ := bq; subst bj
 have al : F4 cw = some (.cells ((([sL ar Ax.length au] : List Value) ++ (([sL av ai.length aw] : List Value) ++ (([vI ah] : List Value) ++ (([vI aj] : List Value) ++ (([sL ax ab.length ay] : List Value) ++ (ao.flatMap (cI .i64) ++ (([sL az AE.length ba] : List Value) ++ (BH.flatMap (cI .i64))))))))).toArray) 122 cx) := al
 refine uv (A9 rfl) (uv (Ah Gg rfl) ?_)
 obtain ⟨br, cy⟩ := AB cv
 refine uv (Bs underlying118 sizeOf116 rfl rfl br) ?_
 obtain ⟨bu, cz⟩ := AB cy
 obtain ⟨x, dt, bb, bw⟩ := Bi cz
 have bk : (from_ * 5 + to : Int).toNat = (from_ : Int).toNat * 5 + (to : Int).toNat := by have := br; have := bu; omega
 have bl := H6 (Bj .i64) aq bk bb (HH (Au (A := ([sL ar Ax.length au] : List Value)) (k := 1) (o := 4) rfl (Au (A := ([sL av ai.length aw] : List Value)) (k := 1) (o := 3) rfl (Au (A := ([vI ah] : List Value)) (k := 1) (o := 2) rfl (Au (A := ([vI aj] : List Value)) (k := 1) (o := 1) rfl (Au (A := ([sL ax ab.length ay] : List Value)) (k := 1) (o := 0) rfl (BJ (B := ([sL az AE.length ba] : List Value) ++ (BH.flatMap (cI .i64))) (IG (Bj .i64) aq)))))))) (Iy (Au (A := ([sL ar Ax.length au] : List Value)) (k := 1) (o := 4) rfl (Au (A := ([sL av ai.length aw] : List Value)) (k := 1) (o := 3) rfl (Au (A := ([vI ah] : List Value)) (k := 1) (o := 2) rfl (Au (A := ([vI aj] : List Value)) (k := 1) (o := 1) rfl (Au (A := ([sL ax ab.length ay] : List Value)) (k := 1) (o := 0) rfl (BJ (B := ([sL az AE.length ba] : List Value) ++ (BH.flatMap (cI .i64))) (IG (Bj .i64) aq))))))))
 refine uv (Bs underlying116 sizeOf3 rfl rfl bu) (uv (AG isAgg3 rfl (Has.frozen al) ((bl).2.2 0 (by decide))) (uv (BO rfl rfl) ?_))
 refine ua (Aa ?_)
 refine cQ (fun bm => ?_) fun bm => ?_
 ·have da := A5 bw bm
  refine AJ (ua (ua (Aa (AA (AK (As ?_))))))
  refine BG results25 (AH rfl) (AH rfl) (sr) ?_
  obtain ⟨rfl, rfl⟩ := B9 da
  exact rfl
 have db := A4 bw bm
 refine Ao (Ay (id := 0) (AJ (um (um (um ?_)))))
 refine uv (A9 rfl) (uv (Ah Gg rfl) ?_)
 obtain ⟨bx, dd⟩ := AB db
 refine uv (Bs underlying118 sizeOf116 rfl rfl bx) ?_
 obtain ⟨bz, de⟩ := AB dd
 have bn : (from_ * 5 + to : Int).toNat = (from_ : Int).toNat * 5 + (to : Int).toNat := by have := bx; have := bz; omega
 have bo := H6 (Bj .i64) aq bn bb (HH (Au (A := ([sL ar Ax.length au] : List Value)) (k := 1) (o := 4) rfl (Au (A := ([sL av ai.length aw] : List Value)) (k := 1) (o := 3) rfl (Au (A := ([vI ah] : List Value)) (k := 1) (o := 2) rfl (Au (A := ([vI aj] : List Value)) (k := 1) (o := 1) rfl (Au (A := ([sL ax ab.length ay] : List Value)) (k := 1) (o := 0) rfl (BJ (B := ([sL az AE.length ba] : List Value) ++ (BH.flatMap (cI .i64))) (IG (Bj .i64) aq)))))))) (Iy (Au (A := ([sL ar Ax.length au] : List Value)) (k := 1) (o := 4) rfl (Au (A := ([sL av ai.length aw] : List Value)) (k := 1) (o := 3) rfl (Au (A := ([vI ah] : List Value)) (k := 1) (o := 2) rfl (Au (A := ([vI aj] : List Value)) (k := 1) (o := 1) rfl (Au (A := ([sL ax ab.length ay] : List Value)) (k := 1) (o := 0) rfl (BJ (B := ([sL az AE.length ba] : List Value) ++ (BH.flatMap (cI .i64))) (IG (Bj .i64) aq))))))))
 refine uv (Bs underlying116 sizeOf3 rfl rfl bz) (uv (AG isAgg3 rfl (Has.frozen al) ((bo).2.2 0 (by decide))) ?_)
 refine ua (ua (Aa (AA ?_)))
 refine BG results25 (AH rfl) (AH rfl) (sr) ?_
 obtain ⟨rfl, rfl⟩ := B9 de
 exact rfl
set_option maxHeartbeats 1000000 in
theorem Ig {Lx : Option Addr} {Lp : Nat} {s1 : List Int} {Lu : Option Addr} {LC : Nat} {s2 : List Int} (aa : Ar 1 eI F Lx Lp s1) (ad : Ar 1 eI F Lu LC s2) {r : Bool} (hr : Ek s1 s2 = some r) :
    Bv Tryz.prog 81 #[sL Lx s1.length Lp, sL Lu s2.length LC] F (.bool r) := by
 refine sp func81 ntmps81 fun K _ _ => ?_
 rw [Ek] at hr
 refine AJ (ua (Aa (Aq (AJ (um ?_)))))
 refine uv (AQ underlying22 rfl) (um (uv (AQ underlying22 rfl) (uv (Bt rfl rfl) (Aa ?_))))
 obtain ⟨g2, r3⟩ := AB hr
 refine BP rfl (fun c4 => absurd c4 g2) (fun c4 => ?_)
 refine Ao ?_
 obtain ⟨h5, r6⟩ := Ij r3
 refine jE ([]) [] ?_ ?_
 ·clear r6
  refine AJ (um ?_)
  refine uv (AQ underlying22 rfl) ?_
  refine um (Aa ?_)
  refine Ap ?_
  refine Bb (fun aw e1 F1 L1 => LA s1 aw fun tl k => Dt s2 tl k = some () ∧ F = F1 ∧ L1 = [] ∧ e1.sub [(0, sL Lx s1.length Lp), (1, sL Lu s2.length LC), (12, vI (s1.length : Int)), (13, vI k)]) _ (m0 kr ⟨_, _, rfl, Bl.start _, h5, rfl, rfl, z4⟩) ?_
  rintro aw e1 _ _ ⟨tl, k, bc, ae, r9, rfl, rfl, ah⟩
  refine Az _ ah (AJ (uv (AV rfl rfl) ?_))
  refine Aa (Aq ?_)
  refine cQ (fun ab => ?_) fun ab => ?_
  ·obtain ⟨x, bn, rfl, ai, ax, aj⟩ := Bl.succ ae ab
   rw [Dt] at r9
   refine Ao (Aq ?_)
   refine Ap ?_
   refine AJ (um (ua ?_))
   refine dN ?_
   refine wm (wm ?_)
   obtain ⟨bo, bp, bq, bd, ak, al, ay, rfl, bg, ao⟩ := Ar.ta kI aa ax.1 ai
   refine wv (Cx underlying22 sizeOf3 ak ax) (wv (AG isAgg3 rfl (al _) (ao 0 (by decide))) ?_)
   refine wm (wm ?_)
   obtain ⟨x2, az, aq, bh⟩ := Bi r9
   obtain ⟨br, bu, bw, bj, ar, au, ba, rfl, bk, av⟩ := Ar.ta kI ad az.1 aq
   refine wv (Cx underlying22 sizeOf3 ar az) (wv (AG isAgg3 rfl (au _) (av 0 (by decide))) (wv (Bt rfl rfl) (B1 ?_)))
   obtain ⟨bl, bm⟩ := AB bh
   refine BP rfl (fun bb => absurd bb bl) (fun bb => ?_)
   refine Ao (Ay (id := 1) (An ?_))
   refine uv (A0 rfl rfl (Bl.Cs ae ab (Ar.lt aa))) ?_
   refine um (Aa ?_)
   subst bc; exact le kr ⟨_, _, rfl, aj, bm, rfl, rfl, z4⟩
  obtain rfl := Bl.zero ae ab
  rw [Dt] at r9
  refine AI (Am (Am ?_))
  refine At ?_
  clear r9
  exact mi kr ⟨rfl, rfl, (sn _)⟩
 refine AJ (ua (Aa (AA ?_)))
 refine C3 results81 ?_
 obtain rfl := AP r6
 exact rfl
theorem Fi {Qg : Option Addr} {Qh : Nat} {a : List Int} {Qe : Option Addr} {b : List Int} (aa : Ar 1 eI F Qg Qh a) (ab : Ar 1 eI F Qe FO b) {r : Bool} (hr : D7 a b = some r) :
    Bv Tryz.prog 33 #[sL Qg a.length Qh, sL Qe b.length FO] F (.bool r) := by
 refine sp func33 ntmps33 fun K _ _ => ?_
 rw [D7] at hr
 refine AJ (ua (BL (um (um ?_))))
 obtain ⟨ok, h1, r2⟩ := Av hr
 refine cV call81 (Ig aa ab h1) ?_
 refine ua (Aa (AA ?_))
 refine C3 results33 ?_
 obtain rfl := AP r2
 exact rfl
theorem Hw (_h_walks : Ar 1 eJ F Aj Ai walks) (_h_hears : Ar 1 eJ F Ak Al Af) (_h_notices : Ar 3 eN F Ad Ac Ab) {r : Bool} (hr : FI walks Af Ae start Ab n = some r) :
    Bv Tryz.prog 76 #[.agg #[sL Aj walks.length Ai, sL Ak Af.length Al, vI Ae, vI start, sL Ad Ab.length Ac], vI n] F (.bool r) := by
 refine sp func76 ntmps76 fun K _ _ => ?_
 rw [FI] at hr
 refine AJ ?_
 refine Bx rfl rfl ?_; intro b1 aa
 refine ua (BL (um ?_))
 refine uv (Ah BF rfl) (uv (BM isAgg24 0) (uv (AQ underlying24 rfl) ?_))
 obtain ⟨g2, r3⟩ := AB hr
 refine uv (DP rfl rfl g2) ?_
 obtain ⟨ok, h4, r5⟩ := Av r3
 refine cV call77 (Ed h4) ?_
 refine ua (Aa ?_)
 refine kW kn (AA (C3 results76 ?_))
 obtain rfl := AP r5
 exact rfl
set_option maxHeartbeats 1000000 in
theorem MI (ab : Ar 1 eJ F Aj Ai walks) (ad : Ar 1 eJ F Ak Al Af) (aa : Ar 3 eN F Ad Ac Ab) (ae : Ar 2 eP F Cl Co round) {r : Option ((List (List Int)) × (List (List Int)) × Int × Int × (List ((List Int) × Int × Int)) × (List Int) × (List (Int × Int)) × (List Int))} {r2 : List Int} {r3 : Int} (hr : K2 walks Af Ae start Ab round = some (r, r2, r3)) :
    SH.Spec Tryz.prog 80 #[.agg #[sL Aj walks.length Ai, sL Ak Af.length Al, vI Ae, vI start, sL Ad Ab.length Ac], sL Cl round.length Co] F [] fun F' L' v => ∃ (rv : Value) (ei : Option Addr) (ej : Nat) (en : Nat) (eo : LH), v = .tuple #[rv, sL ei ej en, vI r3] ∧ L' = eo ++ [] ∧ KK 122 (DZ (GM 1 eJ) (DZ (GM 1 eJ) (DZ eI (DZ eI (DZ (GM 3 eN) (DZ (Nf 25 (cI .i64)) (DZ (GM 2 eP) (Nf 15 (cI .i64))))))))) F' rv r ∧ AM 0 3 1 eI F' ei ej en r2 eo := by
 refine sp func80 ntmps80 fun K _ _ => ?_
 rw [K2] at hr
 refine AJ ?_
 refine Bx rfl rfl ?_; intro b1 gr
 refine ua (ua (ua (BL ?_)))
 refine uv (CA isAgg26 sizeOf26 0) ?_
 obtain ⟨d, n, h2, r4⟩ := BT hr
 refine c0 call72 (Cd ab ad aa h2) ?_; rintro _ F5 _ br gu ⟨v9, rfl, rfl, bx⟩
 replace ab := ab.m2 br
 replace ad := ad.m2 br
 replace aa := aa.m3 br
 replace ae := ae.m4 br
 refine Aw (ln rfl) ?_
 refine um (ox rfl rfl rfl (ox rfl rfl rfl (ua (ua (Aa (Aq ?_))))))
 refine Ap ?_
 refine AJ (um ?_)
 refine uv (Bt rfl rfl) ?_
 refine ua (Aa ?_)
 refine cQ (fun bz => ?_) fun bz => ?_
 ·have fi := A5 r4 bz
  refine AJ (um (ua (ua (ua (Aa ?_)))))
  refine kW kn ?_
  refine AA (AK (As ?_))
  refine HW results80 (AH rfl) (AH rfl) (AH rfl) (sr) ?_
  obtain ⟨rfl, rfl, rfl⟩ := Kw fi
  exact ⟨_, _, _, _, [], rfl, rfl, rfl, AM.nil _ _ _ _ _⟩
 have ep := A4 r4 bz
 refine AJ (um ?_)
 refine uv (AQ underlying30 rfl) (uv (CQ rfl rfl) ?_)
 refine ua (Aa ?_)
 refine cQ (fun cb => ?_) fun cb => ?_
 ·have fj := A5 ep cb
  refine AJ (ua (ua (ua (Aa ?_))))
  refine kW kn ?_
  refine AA (AK (As ?_))
  refine HW results80 (AH rfl) (AH rfl) (AH rfl) (sr) ?_
  obtain ⟨rfl, rfl, rfl⟩ := Kw fj
  exact ⟨_, _, _, _, [], rfl, rfl, rfl, AM.nil _ _ _ _ _⟩
 have fk := A4 ep cb
 refine Ao (Ay (id := 0) (AJ ?_))
 refine uv (Ah Jt rfl) (uv (BM isAgg3 0) ?_)
 refine ua (ua (BL (ua (BL ?_))))
 refine uv (CA isAgg26 sizeOf26 0) (uv (Fh rfl rfl) ?_)
 refine ua (Aa ?_)
 refine AU (fun e1 F1 L1 => ∃ (out : List Int) (cc : Value) (cf : Option Addr) (cg : Nat) (cj : Nat) (au : LH), Kl d out = some (r, r2, r3) ∧ F5 = F1 ∧ L1 = (au ++ []) ∧ e1.sub [(7, cc), (11, sL cf cg cj)] ∧ KK 122 (DZ (GM 1 eJ) (DZ (GM 1 eJ) (DZ eI (DZ eI (DZ (GM 3 eN) (DZ (Nf 25 (cI .i64)) (DZ (GM 2 eP) (Nf 15 (cI .i64))))))))) F1 cc d ∧ AM K.w0.heap.size 3 1 eI F1 cf cg cj out au) ?_ ?_
 ·refine AJ (um ?_)
  refine uv (AQ underlying30 rfl) ?_
  refine um (Aa ?_)
  refine Ap ?_
  refine Bb (fun er e1 F1 L1 => LA round er fun tl k => ∃ (at_ : Int) (minute : Int) (ao : List Int) (az : Value) (ba : Option Addr) (bb : Nat) (bc : Nat) (aq : LH), HM walks Af Ae start Ab d tl at_ minute ao = some (r, r2, r3) ∧ F5 = F1 ∧ L1 = ((b1, ce #[sL Aj walks.length Ai, sL Ak Af.length Al, vI Ae, vI start, sL Ad Ab.length Ac] 26) :: (aq ++ [])) ∧ e1.sub [(2, pO b1), (7, az), (9, vI at_), (10, vI minute), (11, sL ba bb bc), (12, .func (.func 62) #[.agg #[sL Aj walks.length Ai, sL Ak Af.length Al, vI Ae, vI start, sL Ad Ab.length Ac]] #[]), (33, sL Cl round.length Co), (34, vI (round.length : Int)), (35, vI k)] ∧ KK 122 (DZ (GM 1 eJ) (DZ (GM 1 eJ) (DZ eI (DZ eI (DZ (GM 3 eN) (DZ (Nf 25 (cI .i64)) (DZ (GM 2 eP) (Nf 15 (cI .i64))))))))) F1 az d ∧ AM K.w0.heap.size 3 1 eI F1 ba bb bc ao aq) _ (m0 (kc (ke kr)) ⟨_, _, rfl, Bl.start _, start, 0, [], v9, none, 0, 0, [], fk, rfl, rfl, (sc rfl z8), bx, AM.nil _ _ _ _ _⟩) ?_
  rintro er e1 _ _ ⟨tl, k, ck, av, at_, minute, ao, az, ba, bb, bc, aq, bu, rfl, rfl, cn, aw, bd⟩
  refine Az _ cn (AJ (uv (AV rfl rfl) ?_))
  refine Aa (Aq ?_)
  refine cQ (fun bw => ?_) fun bw => ?_
  ·obtain ⟨x, gv, rfl, cp, et, cq⟩ := Bl.succ av bw
   rw [HM] at bu
   refine Ao (Aq ?_)
   refine Ap (AJ ?_)
   obtain ⟨gw, gz, ia, fl, cr, ct, ar, ⟨_, _, rfl, rfl, rfl⟩, cu, cv⟩ := Ar.ta kP ae et.1 cp
   refine uv (Cx underlying30 sizeOf29 cr et) (uv (AZ isAgg29 sizeOf29 rfl (ct _) ar (Ba ar cu cv)) ?_)
   refine Bh rfl zeroValue29 ?_; intro eu fm
   refine A8 (i := 0) sizeOf29 rfl rfl rfl (by simp [Value.oneCell']) rfl (B2 rfl) (Aw rfl ?_)
   refine Aa (Aq ?_)
   obtain ⟨k2, fo, cw⟩ := Av bu
   refine jE (((eu, ce #[vI x.1, vI x.2] 29) :: ((b1, ce #[sL Aj walks.length Ai, sL Ak Af.length Al, vI Ae, vI start, sL Ad Ab.length Ac] 26) :: (aq ++ [])))) [(2, pO b1), (7, az), (9, vI at_), (10, vI minute), (11, sL ba bb bc), (12, .func (.func 62) #[.agg #[sL Aj walks.length Ai, sL Ak Af.length Al, vI Ae, vI start, sL Ad Ab.length Ac]] #[]), (14, pO eu), (33, sL Cl round.length Co), (34, vI (round.length : Int)), (35, vI k), (50, .bool k2)] ?_ ?_
   ·clear cw
    refine An (um ?_)
    refine uv (Ah J6 rfl) (uv (BM isAgg3 0) ?_)
    obtain ⟨ok, fp, ew⟩ := Av fo
    refine cV call62 (Gr ab ad aa fp) (uv (Bz rfl) (um ?_))
    rcases EE (!ok) with aj | aj
    ·have fq := bt ew aj
     refine fB aj (fB aj (fB aj (fB aj (fB aj ?_))))
     refine uv (AF (Gl rfl aj) rfl) (Aa ?_)
     obtain rfl := AP fq
     exact mi kr ⟨rfl, rfl, (sc rfl (sc rfl (sc rfl z8)))⟩
    have fs := bf ew aj
    refine nB aj (uv (CA isAgg26 sizeOf26 1) (nB aj (uv (Ah KW rfl) (nB aj (uv (BM isAgg3 0) (nB aj ?_))))))
    obtain ⟨ib, ft, fv⟩ := Av fs
    refine cV call76 (Hw ab ad aa ft) (nB aj (uv (Bz rfl) (uv (AD (Gl rfl aj) rfl) (Aa ?_))))
    obtain rfl := AP fv
    exact mi kr ⟨rfl, rfl, (sc rfl (sc rfl (sc rfl z8)))⟩
   refine AR rfl (fun cx => ?_) (fun cx => ?_)
   ·have fw := bt cw cx
    refine AJ (ua (ua (ua (Aa ?_))))
    refine kW kn ?_
    refine AA (As (AK (As (As (AK (As ?_))))))
    refine HW results80 (AH rfl) (AH rfl) (AH rfl) (sr) ?_
    obtain ⟨rfl, rfl, rfl⟩ := Kw fw
    exact ⟨_, _, _, _, [], rfl, rfl, rfl, AM.nil _ _ _ _ _⟩
   have Cs := bf cw cx
   refine Ao (dW ?_)
   refine wm (wm ?_)
   refine wv (Ah J6 rfl) (wv (BM isAgg3 0) ?_)
   obtain ⟨Ax, ak, ai, al, ah, ax, AE, BH, fx, fy⟩ := J3 Cs
   have ey := aw; rw [fx] at ey; obtain ⟨ez, ic, g0, cy, ay, ⟨_, _, rfl, ⟨cz, da, rfl, ie⟩, ⟨_, _, rfl, ⟨db, dd, rfl, ig⟩, ⟨_, _, rfl, rfl, ⟨_, _, rfl, rfl, ⟨_, _, rfl, ⟨de, df, rfl, ij⟩, ⟨_, _, rfl, ⟨rfl, dg⟩, ⟨_, _, rfl, ⟨dh, di, rfl, ik⟩, ⟨rfl, il⟩⟩⟩⟩⟩⟩⟩⟩⟩ := ey; subst cy
   have ay : F5 ez = some (.cells ((([sL cz Ax.length da] : List Value) ++ (([sL db ak.length dd] : List Value) ++ (([vI ai] : List Value) ++ (([vI al] : List Value) ++ (([sL de ah.length df] : List Value) ++ (ax.flatMap (cI .i64) ++ (([sL dh AE.length di] : List Value) ++ (BH.flatMap (cI .i64))))))))).toArray) 122 g0) := ay
   refine wv (A9 rfl) (wv (Ah Gg rfl) ?_)
   obtain ⟨fa, ga⟩ := AB fy
   refine wv (Bs underlying118 sizeOf116 rfl rfl fa) ?_
   obtain ⟨fb, gb⟩ := AB ga
   obtain ⟨x2, im, dk, fe⟩ := Bi gb
   have dm : (at_ * 5 + x.1 : Int).toNat = (at_ : Int).toNat * 5 + (x.1 : Int).toNat := by have := fa; have := fb; omega
   have dp := H6 (Bj .i64) dg dm dk (HH (Au (A := ([sL cz Ax.length da] : List Value)) (k := 1) (o := 4) rfl (Au (A := ([sL db ak.length dd] : List Value)) (k := 1) (o := 3) rfl (Au (A := ([vI ai] : List Value)) (k := 1) (o := 2) rfl (Au (A := ([vI al] : List Value)) (k := 1) (o := 1) rfl (Au (A := ([sL de ah.length df] : List Value)) (k := 1) (o := 0) rfl (BJ (B := ([sL dh AE.length di] : List Value) ++ (BH.flatMap (cI .i64))) (IG (Bj .i64) dg)))))))) (Iy (Au (A := ([sL cz Ax.length da] : List Value)) (k := 1) (o := 4) rfl (Au (A := ([sL db ak.length dd] : List Value)) (k := 1) (o := 3) rfl (Au (A := ([vI ai] : List Value)) (k := 1) (o := 2) rfl (Au (A := ([vI al] : List Value)) (k := 1) (o := 1) rfl (Au (A := ([sL de ah.length df] : List Value)) (k := 1) (o := 0) rfl (BJ (B := ([sL dh AE.length di] : List Value) ++ (BH.flatMap (cI .i64))) (IG (Bj .i64) dg))))))))
   refine wv (Bs underlying116 sizeOf3 rfl rfl fb) (wv (AG isAgg3 rfl (Has.frozen ay) ((dp).2.2 0 (by decide))) ?_)
   refine wa (B1 (Aq (AJ (um ?_))))
   refine uv (BO rfl rfl) (Aa ?_)
   refine cQ (fun dq => ?_) fun dq => ?_
   ·have gg := A5 fe dq
    refine AJ (ua (ua (ua (Aa ?_))))
    refine kW kn ?_
    refine AA (As (AK (As (As (AK (As ?_))))))
    refine HW results80 (AH rfl) (AH rfl) (AH rfl) (sr) ?_
    obtain ⟨rfl, rfl, rfl⟩ := Kw gg
    exact ⟨_, _, _, _, [], rfl, rfl, rfl, AM.nil _ _ _ _ _⟩
   have gh := A4 fe dq
   refine Ao (dW (wv (Ah J6 rfl) (wv (BM isAgg3 0) ?_)))
   refine wm (wm ?_)
   obtain ⟨gi, dr⟩ := AB gh
   refine wv (A0 rfl rfl gi) (wv (Ah BF rfl) (wv (BM isAgg24 1) (wv (Ah KW rfl) (wv (BM isAgg3 0) ?_))))
   obtain ⟨x3, bg, bh, dt⟩ := Bi dr
   obtain ⟨gj, gk, gl, ff, bj, bk, du, ⟨_, _, rfl, ⟨gm, gn, rfl, gp⟩, ⟨_, _, rfl, rfl, rfl⟩⟩, fg, bl⟩ := Ar.ta kN aa bg.1 bh
   refine wv (Cx underlying24 sizeOf35 bj bg) (wv (Ah KO rfl) (wv (AG isAgg3 rfl (bk _) (bl 1 (by decide))) ?_))
   obtain ⟨dv, dw⟩ := AB dt
   refine wv (A0 rfl rfl dv) ?_
   refine wa (wa (B1 (An (um (um ?_)))))
   refine bA (cs := #[vI ((minute + x2) + x3.2.1)]) Bp [vI ((minute + x2) + x3.2.1)] ?_; intro gq fh
   obtain ⟨bm, dx, dy, dz⟩ := DS dw
   refine Cq (xs := ao) (ys := [(minute + x2) + x3.2.1]) (zs := bm) rfl Bp rfl rfl (Nat.le_refl _) (fun _ => .c (.c (.c .h))) bd (Fg.box (vss := [[vI ((minute + x2) + x3.2.1)]]) (ys := [(minute + x2) + x3.2.1]) 0 rfl kI (.cons rfl .nil) rfl rfl) dx dy (by decide) ?_; intro eb ec ef bn bo
   refine kO (kd kr) ?_
   refine ua (Aa (Ay (id := 2) (An ?_)))
   refine uv (A0 rfl rfl (Bl.Cs av bw (Ar.lt ae))) ?_
   refine um (Aa ?_)
   subst ck; exact le (kd kr) ⟨_, _, rfl, cq, x.1, (minute + x2) + x3.2.1, bm, pO ez, eb, ec, ef, bn, dz, rfl, rfl, (sc rfl z8), aw, bo⟩
  obtain rfl := Bl.zero av bw
  rw [HM] at bu
  refine AI (Am (Am ?_))
  refine At ?_
  exact mi (kd kr) ⟨ao, az, ba, bb, bc, aq, bu, rfl, rfl, z2, aw, bd⟩
 rintro e1 _ _ ⟨out, cc, cf, cg, cj, au, bp, rfl, rfl, bq, eg, eh⟩
 refine Az _ bq ?_
 rw [Kl] at bp
 refine AJ (um (um (ua (ua (ua (Aa (AA ?_)))))))
 refine HW results80 (AH rfl) (AH rfl) (AH rfl) (sr) ?_
 obtain ⟨rfl, rfl, rfl⟩ := Kw bp
 exact ⟨_, _, _, _, _, rfl, rfl, eg, eh.any⟩
theorem MW {x : Int} {r r2 : Int} (hr : I9 x y = some (r, r2)) :
    Bv Tryz.prog 123 #[.int .u64 x, .int .u64 y] F (.tuple #[.int .u64 r, .int .u64 r2]) := by
 refine sp func123 ntmps123 fun K _ _ => ?_
 rw [I9] at hr
 refine AJ (ua (ua (BL (um ?_))))
 refine uv (QS rfl rfl rfl) ?_
 refine ua (BL (um ?_))
 refine uv (Nu rfl rfl (by decide)) ?_
 refine ua (BL (um ?_))
 refine uv (QS rfl rfl rfl) ?_
 refine ua (BL (um ?_))
 refine uv (Nu rfl rfl (by decide)) ?_
 refine ua (BL (um (um ?_)))
 refine uv (Pg rfl rfl rfl) ?_
 obtain ⟨w0, h1, r3⟩ := BC hr
 refine uv ((BB rfl).i h1) ?_
 refine BL (um (um ?_))
 refine uv (Pg rfl rfl rfl) (um (uv (Nu rfl rfl (by decide)) (uv (PG rfl rfl rfl) ?_)))
 obtain ⟨t, h4, r5⟩ := BC r3
 refine uv ((BB rfl).i h4) ?_
 refine BL (um ?_)
 refine uv (QS rfl rfl rfl) ?_
 refine ua (BL (um ?_))
 refine uv (Nu rfl rfl (by decide)) ?_
 refine ua (BL (um (um (um ?_))))
 refine uv (Pg rfl rfl rfl) (uv (PG rfl rfl rfl) ?_)
 obtain ⟨w1, h6, r7⟩ := BC r5
 refine uv ((BB rfl).i h6) ?_
 refine BL (um (um ?_))
 refine uv (Pg rfl rfl rfl) (um (uv (PG rfl rfl rfl) (um (uv (Nu rfl rfl (by decide)) (uv (PG rfl rfl rfl) ?_)))))
 obtain ⟨hi, h8, r9⟩ := BC r7
 refine uv ((BB rfl).i h8) ?_
 refine BL (um (um ?_))
 refine uv (Pg rfl rfl rfl) ?_
 obtain ⟨lo, aa, ab⟩ := BC r9
 refine uv ((BB rfl).i aa) ?_
 refine Aa (AA ?_)
 refine BG results123 (AH rfl) (AH rfl) (sr) ?_
 obtain ⟨rfl, rfl⟩ := B9 ab
 exact rfl
theorem NK {x : Int} {r r2 : Int} (hr : Kg x y = some (r, r2)) :
    Bv Tryz.prog 109 #[.int .u64 x, .int .u64 y] F (.tuple #[.int .u64 r, .int .u64 r2]) := by
 refine sp func109 ntmps109 fun K _ _ => ?_
 rw [Kg] at hr
 refine AJ (ua (ua (Aa (Aq ?_))))
 refine AR rfl (fun c1 => nomatch c1) (fun c1 => ?_)
 refine Ao (AJ (um (um ?_)))
 obtain ⟨n, n2, h2, r3⟩ := BT hr
 refine cV call123 (MW h2) ?_
 refine um (ox rfl rfl rfl (ox rfl rfl rfl (ua (ua (BL (um (um (ua (ua ?_)))))))))
 refine Aa (AA ?_)
 refine BG results109 (AH rfl) (AH rfl) (sr) ?_
 obtain ⟨rfl, rfl⟩ := B9 r3
 exact rfl
set_option maxHeartbeats 1000000 in
theorem KF {x : List Int} {count : Int} (bd : Ar 1 eI F Sx Sz x) {r : List Int} (hr : GO x count = some r) :
    SH.Spec Tryz.prog 82 #[sL Sx x.length Sz, vI count] F [] fun F' L' v => ∃ (ra : Option Addr) (rn : Nat) (rc : Nat) (rL : LH), v = sL ra rn rc ∧ L' = rL ++ [] ∧ AM 0 3 1 eI F' ra rn rc r rL := by
 refine sp func82 ntmps82 fun K _ _ => ?_
 rw [GO] at hr
 refine AJ (ua (Aa (Aq (AJ (um ?_)))))
 refine uv (AV rfl rfl) (Aa ?_)
 obtain ⟨g2, r3⟩ := AB hr
 refine BP rfl (fun c1 => absurd c1 g2) (fun c1 => ?_)
 refine Ao (AJ (um ?_))
 refine uv (AQ underlying22 rfl) (uv (OR rfl underlying3 underlying157 rfl) (um (uv (OR rfl underlying3 underlying157 rfl) ?_)))
 obtain ⟨n, n2, h4, r5⟩ := BT r3
 refine cV call109 (NK h4) ?_
 refine um (ox rfl rfl rfl (ox rfl rfl rfl (ua (ua (Aa (Aq (AJ (um ?_))))))))
 refine uv (CQ rfl rfl) (um ?_)
 obtain ⟨g6, r7⟩ := AB r5
 refine nF g6 (um (nF g6 ?_))
 refine uv (CQ rfl rfl) (uv (AD (AL rfl g6) rfl) (Aa ?_))
 obtain ⟨g9, bg⟩ := AB r7
 refine BP rfl (fun c8 => absurd c8 g9) (fun c8 => ?_)
 refine Ao (AJ (um ?_))
 obtain ⟨bh, bj⟩ := AB bg
 refine uv (QC underlying157 underlying3 rfl bh) ?_
 obtain ⟨bk, bl⟩ := AB bj
 obtain ⟨l, bm, bn⟩ := BC bl
 refine Hs (R := eI) (z0 := 0) (zs := l) rfl Bp (by decide) kI (fun _ => rfl) rfl bk bm (fun _ => .n) ?_; intro ai ab bo aq
 refine ua (BL (um (um ?_)))
 obtain ⟨ae, bp, bq⟩ := BC bn
 refine KX (ys := x) (zs := ae) rfl Bp kI rfl rfl (fun _ => .h) aq (Ar.src bd) bp ?_; intro ar au
 obtain ⟨n3, br, bu⟩ := BC bq
 refine uv ((BB rfl).i br) (Aa ?_)
 obtain ⟨ad, bw, bc⟩ := Av bu
 refine AU (fun e1 F1 L1 => ∃ (ak : LH), F = F1 ∧ L1 = (ak ++ []) ∧ e1.sub [(7, sL ai ab ab)] ∧ AM K.w0.heap.size 3 1 eI F1 ai ab ab ad ak) ?_ ?_
 ·clear bc
  refine Ap ?_
  refine Bb (fun ao e1 F1 L1 => ∃ (aa : List Int) (n4 : Int) (aj : LH), C5 ao aa n4 = some ad ∧ F = F1 ∧ L1 = (aj ++ []) ∧ e1.sub [(7, sL ai ab ab), (8, vI n4)] ∧ AM K.w0.heap.size 3 1 eI F1 ai ab ab aa aj) FU (m0 kr ⟨ae, n3, ar, bw, rfl, rfl, z2, au⟩) ?_
  rintro ao e1 _ _ ⟨aa, n4, aj, al, rfl, rfl, av, ah⟩
  refine Az _ av ?_
  rcases ao with _ | ao
  ·rw [C5] at al; cases al
  rw [C5] at al
  refine Aq (AJ (um (um ?_)))
  refine uv ((AQ underlying22 rfl).i (AM.Gh ah)) (uv (AV rfl rfl) (Aa ?_))
  refine cQ (fun aw => ?_) fun aw => ?_
  ·have bx := A5 al aw
   refine Ao (Ap (Bg [(.still, 0), (.still, 1), (.still, 2), (.still, 3), (.still, 4), (.still, 5), (.still, 6), (.seq, 7), (.still, 8), (.seq, 9)] (by kernel_rfl) (by kernel_rfl) (trivial) (by rfl) (by kernel_rfl) (mS [8] rfl (AO rfl) (mS [7] rfl (AO rfl) (mS [8] rfl (AO rfl) ?_)))))
   obtain ⟨bz, cb⟩ := AB bx
   have ax := AM.gV ah bz
   refine mS (v := sL (R3 ai ab (Int.toNat n4) 1) (ab - Int.toNat n4) (ab - Int.toNat n4)) [39, 40] rfl (Ee.eq (v' := sL (R3 ai ab (Int.toNat n4) 1) (ab - Int.toNat n4) (ab - Int.toNat n4)) (J2 (l := n4) (h := (ab : Nat)) underlying22 sizeOf3 rfl (.inr ⟨_, rfl, rfl⟩) (.inl ⟨rfl, rfl⟩) (AM.SN ah ax)) rfl) (mS [7] rfl (AO rfl) (mS [8] rfl (AO rfl) ?_))
   obtain ⟨cc, cf⟩ := AB cb
   refine mS (v := sL ai (Int.toNat n4) ab) [42, 43] rfl (Pu underlying22 sizeOf3 rfl rfl ah cc) ?_
   refine ⟨_, [(41, sL (R3 ai ab (Int.toNat n4) 1) (ab - Int.toNat n4) (ab - Int.toNat n4)), (44, sL ai (Int.toNat n4) ab)], rfl, rfl, z2, by kernel_rfl, ?_⟩; intro H
   obtain ⟨cg, cj⟩ := AB cf
   obtain ⟨l2, ck, cn⟩ := BC cj
   refine Qt (l := n4) (zs := l2) rfl Bp kI rfl rfl (fun _ => .h) ah cg ck ?_; intro ay az
   refine Aa ⟨_, rfl, AN.refl _, [0], by kernel_rfl, .inl (.inr (fun d h => by cases h; rfl)), (fc sm nm), ?_⟩
   obtain ⟨cp, cq⟩ := AB cn
   refine mL [38, 45] ([]) rfl sm (fun H F' L' cv cw => A0 rfl rfl cp) ?_
   refine ⟨_, [(46, vI (n4 + (((Nat.min (Int.toNat n4) (aa.length - (Int.toNat n4))) : Nat) : Int)))], rfl, rfl, z1, by kernel_rfl, ?_⟩; intro H
   obtain ⟨n5, cr, ct⟩ := BC cq
   refine uv ((BB rfl).i cr) ?_
   refine Aa ⟨_, rfl, AN.refl _, [], by kernel_rfl, .inl (.inl rfl), nm, ?_⟩
   refine Bo (Ay (id := 1) ?_)
   exact le kr ⟨l2, n5, ay, ct, rfl, rfl, z2, az⟩
  have cu := A4 al aw
  refine AI (Am (Am ?_))
  refine At ?_
  obtain rfl := AP cu
  exact mi kr ⟨aj, rfl, rfl, z1, ah⟩
 rintro e1 _ _ ⟨ak, rfl, rfl, ba, bb⟩
 refine Az _ ba ?_
 refine AJ (um (ua (Aa (AA ?_))))
 refine C3 results82 ?_
 obtain rfl := AP bc
 exact ⟨_, _, _, _, rfl, rfl, bb.any⟩
set_option maxHeartbeats 1000000 in
theorem L4 (bk : Ar 1 eJ F Aj Ai walks) (ad : Ar 1 eJ F Ak Al Af) (aa : Ar 3 eN F Ad Ac Ab) (ab : Ar 2 eP F Cl Co round) {r : List (List Int)} {r2 : Int} (hr : J8 walks Af Ae start Ab round = some (r, r2)) :
    SH.Spec Tryz.prog 34 #[.agg #[sL Aj walks.length Ai, sL Ak Af.length Al, vI Ae, vI start, sL Ad Ab.length Ac], sL Cl round.length Co] F [] fun F' L' v => ∃ (ra : Option Addr) (rc : Nat), v = .tuple #[sL ra r.length rc, vI r2] ∧ L' = [] ∧ Ar 1 eJ F' ra rc r := by
 refine sp func34 ntmps34 fun K _ _ => ?_
 rw [J8] at hr
 refine AJ ?_
 refine Bx rfl rfl ?_; intro b1 o3
 refine ua (ua (BL ?_))
 refine uv (CA isAgg26 sizeOf26 0) (um ?_)
 obtain ⟨d, l, n, h2, r3⟩ := Ia hr
 refine c0 call80 (MI bk ad aa ab h2) ?_; rintro _ F4 _ gg lj ⟨v8, cz, da, db, ak, rfl, rfl, o4, ah⟩
 replace ad := ad.m2 gg
 replace aa := aa.m3 gg
 replace ab := ab.m4 gg
 replace ah := ah.new fun p hp => lj p (by simp [hp])
 refine Aw (lp (ln rfl)) (kO (kf (fS fO) kr) ?_)
 refine um (ox rfl rfl rfl (ox rfl rfl rfl (ox rfl rfl rfl (ua (ua (ua (Aa (Aq (AJ ?_)))))))))
 refine um (uv (Bt rfl rfl) (Aa ?_))
 refine cQ (fun gh => ?_) fun gh => ?_
 ·have lk := A5 r3 gh
  refine AJ (um (ua (ua (Aa ?_))))
  refine kW kn ?_
  refine AA (As ?_)
  refine BG results34 (AH rfl) (AH rfl) (sr) ?_
  obtain ⟨rfl, rfl⟩ := B9 lk
  exact ⟨_, _, rfl, rfl, Ar.nil _ _ _⟩
 have ll := A4 r3 gh
 refine Ao (AJ (ua (Aa ?_)))
 obtain ⟨out, lq, jc⟩ := Av ll
 refine AU (fun e1 F1 L1 => ∃ (av : Option Addr) (aw : Nat) (ax : Nat) (bl : LH), AN F4 F1 ∧ L1 = ((b1, ce #[sL Aj walks.length Ai, sL Ak Af.length Al, vI Ae, vI start, sL Ad Ab.length Ac] 26) :: (ak ++ (bl ++ []))) ∧ e1.sub [(1, sL Cl round.length Co), (2, pO b1), (7, sL cz da db), (9, sL av aw ax)] ∧ C0 K.w0.heap.size 22 3 1 eI F1 av aw ax out bl) ?_ ?_
 ·clear jc
  refine AJ (uv (Ah BF rfl) (uv (BM isAgg24 0) (uv (AQ underlying24 rfl) ?_)))
  refine um (Aa ?_)
  refine Ap ?_
  refine Bb (fun jd e1 F1 L1 => LA Ab jd fun tl k => ∃ (cb : List (List Int)) (fv : Option Addr) (fw : Nat) (fx : Nat) (bm : LH), G9 Ae tl cb = some out ∧ AN F4 F1 ∧ L1 = ((b1, ce #[sL Aj walks.length Ai, sL Ak Af.length Al, vI Ae, vI start, sL Ad Ab.length Ac] 26) :: (ak ++ (bm ++ []))) ∧ e1.sub [(1, sL Cl round.length Co), (2, pO b1), (7, sL cz da db), (9, sL fv fw fx), (26, vI (Ab.length : Int)), (27, vI k)] ∧ C0 K.w0.heap.size 22 3 1 eI F1 fv fw fx cb bm) _ (m0 (kc (ka (ke kr))) ⟨_, _, rfl, Bl.start _, [], none, 0, 0, [], lq, AN.refl _, rfl, z6, C0.nil _ _ _ _ _ _⟩) ?_
  rintro jd e1 o6 _ ⟨tl, k, gi, cc, cb, fv, fw, fx, bm, fy, cf, rfl, gj, ar⟩
  refine Az _ gj ?_
  replace aa := aa.m3 cf
  refine AJ (uv (AV rfl rfl) ?_)
  refine Aa (Aq ?_)
  refine cQ (fun g0 => ?_) fun g0 => ?_
  ·obtain ⟨x, o7, rfl, lr, o8, gk⟩ := Bl.succ cc g0
   rw [G9] at fy
   refine Ao (Aq ?_)
   refine Ap ?_
   refine An (um ?_)
   refine bA (cs := #[vI (-1)]) Bp [vI (-1)] ?_; intro lu gl
   refine uv (Ah Ke rfl) (uv (BM isAgg3 1) ?_)
   refine Br 0 rfl gl ?_; intro lv cg gm
   refine Aw rfl ?_
   replace aa := aa.m3 cg
   replace ar := ar.m1 cg
   have lx : Ar 1 eI lv (aD lu) 1 [-1] := Ar.oI gm
   obtain ⟨l2, ly, ma⟩ := Av fy
   refine c0 call82 (KF lx ly) ?_; rintro _ mb _ cj gn ⟨cw, cx, cy, mc, rfl, rfl, ck⟩
   replace aa := aa.m3 cj
   replace ar := ar.m1 cj
   replace ck := ck.new fun p hp => gn p (by simp [hp])
   refine Aw (lp (ln rfl)) (kO (kf (fS fO) kr) ?_)
   refine bA (cs := #[sL cw cx cy]) Fm [sL cw cx cy] ?_; intro o9 me
   obtain ⟨dd, je, mg, Cs⟩ := DS ma
   refine Ku (fC (fC (fS (fS fP)))) ar ?_; intro de mh mj gp df
   refine kO (kf (fS (fS fO)) (kf (fS (fS fO)) kr)) ?_
   refine Cq (xs := de) (ys := [(cw, cx, cy)]) (zs := de ++ [(cw, cx, cy)]) rfl Fm rfl rfl (Nat.le_refl _) (fun _ => .c (.c .h)) gp (Fg.box (vss := [[sL cw cx cy]]) (ys := [(cw, cx, cy)]) 0 rfl Cv (.cons rfl .nil) rfl rfl) rfl (RP df je mg) (by decide) ?_; intro jf jg jh ml gq
   refine kO (kd kr) ?_
   refine Dv (p := fun X => C0 K.w0.heap.size 22 3 1 eI mb jf jg jh dd X) (Jr.push df rfl gq ck je) (pT ((fC fP).trans (pA ((fC (fS fP)).trans (pA ((fC fP).trans (pA pR)))))) (lp (lp (lp (ln rfl))))) ?_; intro gr gu
   refine kO (kf (fS fO) kr) ?_
   refine ua (Aa (Ay (id := 1) (An ?_)))
   refine uv (A0 rfl rfl (Bl.Cs cc g0 (Ar.lt aa))) ?_
   refine um (Aa ?_)
   subst gi; exact le (kc (kg (fS fP) kr)) ⟨_, _, rfl, gk, dd, jf, jg, jh, gr, Cs, ((cf.trans cg).trans cj), rfl, z6, gu⟩
  obtain rfl := Bl.zero cc g0
  rw [G9] at fy
  refine AI (Am (Am ?_))
  refine At ?_
  obtain rfl := AP fy
  exact mi kr ⟨fv, fw, fx, bm, cf, rfl, z4, ar⟩
 rintro e1 ji _ ⟨av, aw, ax, bl, cn, rfl, gv, gw⟩
 refine Az _ gv ?_
 replace ad := ad.m2 cn
 replace ab := ab.m4 cn
 replace ah := ah.m1 cn
 obtain ⟨dg, mn, jj⟩ := Av jc
 refine AU (fun e1 F1 L1 => ∃ (cp : LH), AN ji F1 ∧ L1 = (cp ++ []) ∧ e1.sub [(9, sL av aw ax)] ∧ C0 K.w0.heap.size 22 3 1 eI F1 av aw ax dg cp) ?_ ?_
 ·clear jj
  refine AJ (um ?_)
  refine uv (AQ underlying30 rfl) ?_
  refine um (Aa ?_)
  refine Ap ?_
  refine Bb (fun jk e1 F1 L1 => LA round jk fun jl k2 => ∃ (bn : List (List Int)) (ay : LH), Hh Af l jl k2 bn = some dg ∧ AN ji F1 ∧ L1 = ((b1, ce #[sL Aj walks.length Ai, sL Ak Af.length Al, vI Ae, vI start, sL Ad Ab.length Ac] 26) :: (ak ++ (ay ++ []))) ∧ e1.sub [(2, pO b1), (7, sL cz da db), (9, sL av aw ax), (37, sL Cl round.length Co), (38, vI (round.length : Int)), (39, vI k2)] ∧ C0 K.w0.heap.size 22 3 1 eI F1 av aw ax bn ay) _ (m0 kr ⟨_, _, rfl, Bl.start _, out, bl, mn, AN.refl _, rfl, z6, gw⟩) ?_
  rintro jk e1 jm _ ⟨jl, k2, gz, cq, bn, ay, ga, az, rfl, ia, dh⟩
  refine Az _ ia ?_
  replace ad := ad.m2 az
  replace ab := ab.m4 az
  replace ah := ah.m1 az
  refine AJ (uv (AV rfl rfl) ?_)
  refine Aa (Aq ?_)
  refine cQ (fun gb => ?_) fun gb => ?_
  ·obtain ⟨x2, oc, rfl, ib, jn, ic⟩ := Bl.succ cq gb
   rw [Hh] at ga
   refine Ao ?_
   obtain ⟨cr, ie, di⟩ := Av ga
   refine AU (fun e1 F1 L1 => ∃ (bo : LH), AN jm F1 ∧ L1 = ((b1, ce #[sL Aj walks.length Ai, sL Ak Af.length Al, vI Ae, vI start, sL Ad Ab.length Ac] 26) :: (ak ++ (bo ++ []))) ∧ e1.sub [(2, pO b1), (7, sL cz da db), (9, sL av aw ax), (37, sL Cl round.length Co), (38, vI (round.length : Int)), (39, vI k2)] ∧ C0 K.w0.heap.size 22 3 1 eI F1 av aw ax cr bo) ?_ ?_
   ·clear di
    refine Ap ?_
    refine AJ (um ?_)
    obtain ⟨mo, mq, mr, jo, dk, dm, ba, ⟨_, _, rfl, rfl, rfl⟩, dp, dq⟩ := Ar.ta kP ab jn.1 ib
    refine uv (Cx underlying30 sizeOf29 dk jn) (uv (AZ isAgg29 sizeOf29 rfl (dm _) ba (Ba ba dp dq)) ?_)
    refine Bh rfl zeroValue29 ?_; intro dr jq
    refine ua (A8 (i := 0) sizeOf29 rfl rfl rfl (by simp [Value.oneCell']) rfl (B2 rfl) (Aw rfl (BL (uv (Ah Df rfl) (uv (BM isAgg23 1) (uv (Ah J6 rfl) (uv (BM isAgg3 0) ?_)))))))
    obtain ⟨x3, dt, du, ig⟩ := Bi ie
    obtain ⟨mu, mv, mw, jr, dv, dw, ij, ⟨ik, il, rfl, au⟩, js, dx⟩ := Ar.ta kJ ad dt.1 du
    refine uv (Cx underlying23 sizeOf22 dv dt) (uv (AG isAgg22 rfl (dw _) (dx 0 (by decide))) (uv (AQ underlying22 rfl) ?_))
    refine um (Aa ?_)
    refine Ap ?_
    refine Bb (fun jt e1 F1 L1 => LA x3 jt fun ju k3 => ∃ (ct : List (List Int)) (al : LH), G7 l k2 x2 ju ct = some cr ∧ AN jm F1 ∧ L1 = ((dr, ce #[vI x2.1, vI x2.2] 29) :: ((b1, ce #[sL Aj walks.length Ai, sL Ak Af.length Al, vI Ae, vI start, sL Ad Ab.length Ac] 26) :: (ak ++ (al ++ [])))) ∧ e1.sub [(2, pO b1), (7, sL cz da db), (9, sL av aw ax), (10, vI k2), (11, pO dr), (37, sL Cl round.length Co), (38, vI (round.length : Int)), (39, vI k2), (49, sL ik x3.length il), (50, vI (x3.length : Int)), (51, vI k3)] ∧ C0 K.w0.heap.size 22 3 1 eI F1 av aw ax ct al) _ (m0 kr ⟨_, _, rfl, Bl.start _, bn, ay, ig, AN.refl _, rfl, (sc rfl (sc rfl (sc rfl z8))), dh⟩) ?_
    rintro jt e1 mx _ ⟨ju, k3, dy, bb, ct, al, bp, ao, rfl, dz, bc⟩
    refine Az _ dz ?_
    replace au := au.m1 ao
    replace ah := ah.m1 ao
    refine AJ (uv (AV rfl rfl) ?_)
    refine Aa (Aq ?_)
    refine cQ (fun bq => ?_) fun bq => ?_
    ·obtain ⟨x4, od, rfl, eb, ec, ef⟩ := Bl.succ bb bq
     rw [G7] at bp
     refine Ao (Aq ?_)
     refine Ap (AJ ?_)
     obtain ⟨na, nc, nf, jv, eg, eh, im, rfl, jw, ei⟩ := Ar.ta kI au ec.1 eb
     refine uv (Cx underlying22 sizeOf3 eg ec) (uv (AG isAgg3 rfl (eh _) (ei 0 (by decide))) ?_)
     refine ua (Aa ?_)
     obtain ⟨x5, br, ej, iq⟩ := Bi bp
     have bu := (C0.A6 bc).1
     refine I2 (fC (fC (fS fP))) bc ej ?_; intro jx aq jz ng nh ni bd bg aj ae bh
     refine kW (kf (fS (fS (fS fO))) (kf (fS (fS (fS fO))) kr)) (Bg [(.still, 0), (.still, 1), (.still, 2), (.still, 3), (.still, 4), (.still, 5), (.still, 6), (.still, 7), (.still, 8), (.still, 9), (.still, 10), (.still, 11), (.still, 12), (.still, 13), (.still, 14), (.still, 15), (.still, 16), (.still, 17), (.seq, 18), (.seq, 19), (.still, 20), (.seq, 21)] (by kernel_rfl) (by kernel_rfl) (trivial) (by rfl) (by kernel_rfl) (mS [9] rfl (AO rfl) (mS [11] rfl (Ah KW rfl) (mK [56] isAgg3 0 rfl rfl rfl rfl ?_))))
     obtain ⟨nj, nk, nn, kb, en, eo, ir, rfl, kh, ep⟩ := AM.at Cv aj (L := aq ++ []) fP br.1 bg
     refine mS [55, 57] rfl (BQ underlying23 sizeOf22 rfl en rfl (KV bu br)) (mL [58] (aq ++ []) rfl (s0 (s1 (s1 (s4 (s3 (s3 (s3 sr))))))) (fun H F' L' cu cv => AG isAgg22 rfl (eo.ext cu cv) (ep 0 (by decide))) (mS [13] rfl (AO rfl) (mS [9] rfl (AO rfl) (mS [11] rfl (Ah KW rfl) (mK [62] isAgg3 0 rfl rfl rfl rfl ?_)))))
     obtain ⟨np, nq, nr, kj, er, et, iu, rfl, kl, eu⟩ := AM.at Cv aj (L := aq ++ []) fP br.1 bg
     refine mS [61, 63] rfl (BQ underlying23 sizeOf22 rfl er rfl (KV bu br)) (mL [64] (aq ++ []) rfl (s0 (s1 (s1 (s4 (s3 (s3 (s3 sr))))))) (fun H F' L' cu cv => AG isAgg22 rfl (et.ext cu cv) (eu 0 (by decide))) (mS [13] rfl (AO rfl) ?_))
     obtain ⟨x6, bj, bw, iv⟩ := Bi iq
     obtain ⟨ns, nt, nu, km, ew, ey, iw, rfl, ko, ez⟩ := AM.at kI ae (L := bd ++ []) fP bj.1 bw
     refine mS [65, 66] rfl (BQ underlying22 sizeOf3 rfl ew rfl (AM.idx ae bj)) (mL [67] (bd ++ []) rfl (s0 (s1 (s1 (s3 (s4 (s3 (s3 sr))))))) (fun H F' L' cu cv => AG isAgg3 rfl (ey.ext cu cv) (ez 0 (by decide))) (mS [7] rfl (AO rfl) (mS [10] rfl (AO rfl) ?_)))
     obtain ⟨x7, fa, fb, iy⟩ := Bi iv
     obtain ⟨nv, nw, ny, kt, fe, ff, iz, rfl, ku, fg⟩ := AM.at kI ah (L := ak ++ []) fP fa.1 fb
     refine mS [69, 70] rfl (BQ underlying22 sizeOf3 rfl fe rfl (AM.idx ah fa)) (mL [71] (ak ++ []) rfl (s0 (s1 (s1 (s3 (s3 (s3 (s4 sr))))))) (fun H F' L' cu cv => AG isAgg3 rfl (ff.ext cu cv) (fg 0 (by decide))) ?_)
     refine ⟨_, [(68, vI x6), (72, vI x7)], rfl, rfl, z2, by kernel_rfl, ?_⟩; intro H
     refine bA (cs := #[vI x6, vI x7]) Bp [vI x6, vI x7] ?_; intro fh fi
     refine Aa ⟨_, rfl, AN.refl _, [7, 5, 4, 3, 2, 1, 0], by kernel_rfl, .inl (.inr (fun d h => by cases h; rfl)), (fc sm (fc sm (fc (s0 (s1 (s1 (s1 (s4 (s3 (s3 (s3 sr)))))))) (fc sm (fc (s0 (s1 (s2 (s1 (s3 (s3 (s3 (s3 sr)))))))) (fc sm (fc sm nm))))))), ?_⟩
     refine ⟨_, [(73, sL (aD fh) 2 2)], rfl, rfl, z1, by kernel_rfl, ?_⟩; intro H
     refine Br 0 rfl fi ?_; intro fj ai fk
     refine Aw rfl ?_
     replace au := au.m1 ai
     replace aj := aj.mono Cv ai
     replace bh := bh.m1 ai
     replace ae := ae.m1 ai
     have j0 : Ar 1 eI fj (aD fh) 2 [x6, x7] := Ar.oI fk
     obtain ⟨n2, j1, j2⟩ := Av iy
     refine cV call83 (Jd j0 j1) ?_
     refine Aa ⟨_, rfl, ai, [7, 5, 4, 3, 2, 1, 0], by kernel_rfl, .inl (.inr (fun d h => by cases h; rfl)), (fc sm (fc sm (fc (s0 (s1 (s1 (s4 (s3 (s3 (s3 sr))))))) (fc sm (fc (s0 (s2 (s1 (s3 (s3 (s3 (s3 sr))))))) (fc sm (fc sm nm))))))), ?_⟩
     obtain ⟨j3, j4, nz, kv, bx, kz, j5, rfl, l0, la⟩ := AM.at kI ae (L := bd ++ []) fP bj.1 bw
     refine mS [59, 60] rfl (BQ underlying22 sizeOf3 rfl bx rfl (AM.idx ae bj)) ?_
     refine ⟨_, [(74, vI n2), (75, .pointer (some ⟨j3, j4 + (x4 : Int).toNat * 1, none⟩))], rfl, rfl, z2, by kernel_rfl, ?_⟩; intro H
     obtain ⟨l3, j6, j7⟩ := BC j2
     refine EH (u := n2) sizeOf3 kI rfl bx rfl rfl (fun _ => .c (.c (.s .h))) ae j6 bj ?_; intro ld fl
     refine Aa ⟨undef, rfl, AN.refl _, [], by kernel_rfl, .inl (.inl rfl), nm, ?_⟩
     refine Bo ?_
     refine Ay (id := 5) (An ?_)
     refine uv (A0 rfl rfl (Bl.Cs bb bq (Ar.lt au))) (um ?_)
     obtain ⟨fm, j8, j9⟩ := BC j7
     refine Dv (p := fun X => C0 K.w0.heap.size 22 3 1 eI fj av aw ax fm X) (K3.Ln bh aj bg fl j8) (pT ((fC (fC fP)).trans (pA ((fC (fC fP)).trans (pA ((fC (fC fP)).trans (pA pR)))))) (lp (lp (lp (ln rfl))))) ?_; intro fo fp
     refine kO (kf (fS fO) (kf (fS fO) kr)) (Aa ?_)
     subst dy; exact le (kc (kc (kg (fS fP) kr))) ⟨_, _, rfl, ef, fm, fo, j9, (ao.trans ai), rfl, (sc rfl (sc rfl (sc rfl z8))), fp⟩
    obtain rfl := Bl.zero bb bq
    rw [G7] at bp
    refine AI (Am (Am ?_))
    refine At (Ay (id := 3) ?_)
    obtain rfl := AP bp
    exact mi (kd kr) ⟨al, ao, rfl, z6, bc⟩
   rintro e1 o0 _ ⟨bo, bz, rfl, fq, ja⟩
   refine Az _ fq ?_
   replace ab := ab.m4 bz
   refine An (uv (A0 rfl rfl (Bl.Cs cq gb (Ar.lt ab))) ?_)
   refine um (Aa ?_)
   subst gz; exact le kr ⟨_, _, rfl, ic, cr, bo, di, (az.trans bz), rfl, z6, ja⟩
  obtain rfl := Bl.zero cq gb
  rw [Hh] at ga
  refine AI (Am (Am ?_))
  refine At ?_
  obtain rfl := AP ga
  exact mi (kd (kx kr)) ⟨ay, az, rfl, z1, dh⟩
 rintro e1 o1 _ ⟨cp, lg, rfl, fs, ft⟩
 refine Az _ fs ?_
 refine AJ (um (ua (ua (Aa ?_))))
 obtain rfl := (C0.A6 ft).1
 refine Nt (Nat.le_refl _) kI fP ft ?_; intro o2 lh jb
 refine AA (BG results34 (AH rfl) (AH rfl) (sr) ?_)
 obtain ⟨rfl, rfl⟩ := B9 jj
 exact ⟨_, _, rfl, rfl, jb⟩
set_option maxHeartbeats 1000000 in
theorem Ly (ab : Ar 1 eJ F Aj Ai walks) (ad : Ar 1 eJ F Ak Al Af) (aa : Ar 3 eN F Ad Ac Ab) (aj : Ar 2 eP F Cl Co round) {r : List (Int × Int)} {r2 : Int} (hr : Jp walks Af Ae start Ab round = some (r, r2)) :
    SH.Spec Tryz.prog 37 #[.agg #[sL Aj walks.length Ai, sL Ak Af.length Al, vI Ae, vI start, sL Ad Ab.length Ac], sL Cl round.length Co] F [] fun F' L' v => ∃ (ra : Option Addr) (rn : Nat) (rc : Nat) (rL : LH), v = .tuple #[sL ra rn rc, vI r2] ∧ L' = rL ++ [] ∧ AM 0 32 2 eP F' ra rn rc r rL := by
 refine sp func37 ntmps37 fun K _ _ => ?_
 rw [Jp] at hr
 refine AJ ?_
 refine Bx rfl rfl ?_; intro b1 gk
 refine ua (ua (BL ?_))
 refine uv (CA isAgg26 sizeOf26 0) (um ?_)
 obtain ⟨l, n, h2, r3⟩ := BT hr
 refine c0 call34 (L4 ab ad aa aj h2) ?_; rintro _ F4 _ cb gl ⟨a8, c9, rfl, rfl, cc⟩
 replace ab := ab.m2 cb
 replace ad := ad.m2 cb
 replace aa := aa.m3 cb
 refine Aw (ln rfl) ?_
 refine um (ox rfl rfl rfl (ox rfl rfl rfl (ua (ua (Aa (Aq (AJ (um ?_))))))))
 refine uv (Bt rfl rfl) (Aa ?_)
 refine cQ (fun cf => ?_) fun cf => ?_
 ·have et := A5 r3 cf
  refine AJ (um (ua (ua (Aa ?_))))
  refine kW kn ?_
  refine AA (As ?_)
  refine BG results37 (AH rfl) (AH rfl) (sr) ?_
  obtain ⟨rfl, rfl⟩ := B9 et
  exact ⟨_, _, _, [], rfl, rfl, AM.nil _ _ _ _ _⟩
 have eu := A4 r3 cf
 refine Ao (AJ ?_)
 refine uv (CA isAgg26 sizeOf26 0) ?_
 obtain ⟨d, n2, ew, ey⟩ := BT eu
 refine c0 call72 (Cd ab ad aa ew) ?_; rintro _ cg _ az ez ⟨v20, rfl, rfl, cj⟩
 replace aa := aa.m3 az
 replace cc := cc.m2 az
 refine Aw (ln rfl) ?_
 refine um (ox rfl rfl rfl (ox rfl rfl rfl (ua (ua (BL (ua (Aa ?_)))))))
 obtain ⟨out, fa, dy⟩ := Av ey
 refine AU (fun e1 F1 L1 => ∃ (ck : Option Addr) (cn : Nat) (cp : Nat) (aq : LH), cg = F1 ∧ L1 = (aq ++ []) ∧ e1.sub [(10, sL ck cn cp)] ∧ AM K.w0.heap.size 32 2 eP F1 ck cn cp out aq) ?_ ?_
 ·clear dy
  refine AJ (um ?_)
  obtain ⟨Ax, ar, ak, au, ae, av, AE, BH, fb, fe⟩ := J3 fa
  have dz := cj; rw [fb] at dz; obtain ⟨ff, gm, fg, cq, aw, ⟨_, _, rfl, ⟨fh, fi, rfl, gn⟩, ⟨_, _, rfl, ⟨fj, fk, rfl, gp⟩, ⟨_, _, rfl, rfl, ⟨_, _, rfl, rfl, ⟨_, _, rfl, ⟨fl, fm, rfl, gq⟩, ⟨_, _, rfl, ⟨rfl, fo⟩, ⟨_, _, rfl, ⟨eb, ec, rfl, cr⟩, ⟨rfl, gr⟩⟩⟩⟩⟩⟩⟩⟩⟩ := dz; subst cq
  have aw : cg ff = some (.cells ((([sL fh Ax.length fi] : List Value) ++ (([sL fj ar.length fk] : List Value) ++ (([vI ak] : List Value) ++ (([vI au] : List Value) ++ (([sL fl ae.length fm] : List Value) ++ (av.flatMap (cI .i64) ++ (([sL eb AE.length ec] : List Value) ++ (BH.flatMap (cI .i64))))))))).toArray) 122 fg) := aw
  refine uv (A9 rfl) (uv (Ah GB rfl) (uv (AG isAgg41 rfl (Has.frozen aw) (DN (Au (k := 1) (o := 29) rfl (Au (k := 1) (o := 28) rfl (Au (k := 1) (o := 27) rfl (Au (k := 1) (o := 26) rfl (Au (k := 1) (o := 25) rfl (Au (k := 25) (o := 0) (IG (Bj .i64) fo) (BJ rfl))))))))) (uv (AQ underlying41 rfl) ?_)))
  refine um (Aa ?_)
  refine Ap ?_
  refine Bb (fun ef e1 F1 L1 => LA AE ef fun tl k => ∃ (ah : List (Int × Int)) (ba : Option Addr) (bb : Nat) (bc : Nat) (ai : LH), Fp Ab l tl ah = some out ∧ cg = F1 ∧ L1 = ((b1, ce #[sL Aj walks.length Ai, sL Ak Af.length Al, vI Ae, vI start, sL Ad Ab.length Ac] 26) :: (ai ++ [])) ∧ e1.sub [(2, pO b1), (6, sL a8 l.length c9), (10, sL ba bb bc), (30, sL eb AE.length ec), (31, vI (AE.length : Int)), (32, vI k)] ∧ AM K.w0.heap.size 32 2 eP F1 ba bb bc ah ai) _ (m0 (kc (ke kr)) ⟨_, _, rfl, Bl.start _, [], none, 0, 0, [], fe, rfl, rfl, z6, AM.nil _ _ _ _ _⟩) ?_
  rintro ef e1 _ _ ⟨tl, k, bd, al, ah, ba, bb, bc, ai, bz, rfl, rfl, ct, ax⟩
  refine Az _ ct (AJ (uv (AV rfl rfl) ?_))
  refine Aa (Aq ?_)
  refine cQ (fun bg => ?_) fun bg => ?_
  ·obtain ⟨x, gu, rfl, cu, eg, bh⟩ := Bl.succ al bg
   rw [Fp] at bz
   refine Ao (Aq ?_)
   refine Ap (AJ ?_)
   obtain ⟨gv, gw, gz, fp, cv, cw, ao, ⟨_, _, rfl, rfl, rfl⟩, cx, cy⟩ := Ar.ta kP cr eg.1 cu
   refine uv (Cx underlying41 sizeOf32 cv eg) (uv (AZ isAgg32 sizeOf32 rfl (cw _) ao (Ba ao cx cy)) ?_)
   refine Bh rfl zeroValue32 ?_; intro ia fq
   refine A8 (i := 0) sizeOf32 rfl rfl rfl (by simp [Value.oneCell']) rfl (B2 rfl) (Aw rfl (dN (wm (wv (Ah LG rfl) (wv (BM isAgg3 0) ?_)))))
   obtain ⟨x2, eh, cz, fs⟩ := Bi bz
   obtain ⟨ib, ic, ie, ft, da, db, ei, ⟨ig, ij, rfl, fv⟩, fw, dd⟩ := Ar.ta kJ cc eh.1 cz
   refine wv (Cx underlying23 sizeOf22 da eh) (wv (AG isAgg22 rfl (db _) (dd 0 (by decide))) (wv (Ah OD rfl) (wv (BM isAgg3 0) ?_)))
   obtain ⟨x3, ej, de, fx⟩ := Bi fs
   obtain ⟨ik, il, im, fy, df, bj, dg, rfl, en, bk⟩ := Ar.ta kI fv ej.1 de
   refine wv (Cx underlying22 sizeOf3 df ej) (wv (AG isAgg3 rfl (bj _) (bk 0 (by decide))) (wv (Ah BF rfl) (wv (BM isAgg24 1) (wv (Ah LG rfl) (wv (BM isAgg3 0) ?_)))))
   obtain ⟨x4, bl, bm, dh⟩ := Bi fx
   obtain ⟨g0, ga, gb, eo, bn, bo, di, ⟨_, _, rfl, ⟨gg, gh, rfl, gi⟩, ⟨_, _, rfl, rfl, rfl⟩⟩, ep, bp⟩ := Ar.ta kN aa bl.1 bm
   refine wv (Cx underlying24 sizeOf35 bn bl) (wv (Ah Ic rfl) (wv (AG isAgg3 rfl (bo _) (bp 2 (by decide))) ?_))
   obtain ⟨ok, dk, bq⟩ := Av dh
   refine ES rfl call77 rfl rfl rfl (Ed dk) (wv (Bz rfl) (B1 ?_))
   refine AR rfl (fun ay => ?_) (fun ay => ?_)
   ·have dm := bt bq ay
    refine An (um ?_)
    refine uv (CA isAgg32 sizeOf32 0) ?_
    refine bA (cs := #[vI x.1, vI x.2]) HR [.agg #[vI x.1, vI x.2]] ?_; intro gj er
    obtain ⟨br, dp, dq, dr⟩ := DS dm
    refine Cq (xs := ah) (ys := [(x.1, x.2)]) (zs := br) rfl HR rfl rfl (Nat.le_refl _) (fun _ => .c (.c (.c .h))) ax (Fg.box (vss := [[vI x.1, vI x.2]]) (ys := [(x.1, x.2)]) 0 rfl kP (.cons ⟨_, _, rfl, rfl, rfl⟩ .nil) rfl rfl) dp dq (by decide) ?_; intro dt du dv bu bw
    refine kO (kd kr) ?_
    refine ua (Aa (Ay (id := 1) (An ?_)))
    refine uv (A0 rfl rfl (Bl.Cs al bg (Ar.lt cr))) ?_
    refine um (Aa ?_)
    subst bd; exact le (kd kr) ⟨_, _, rfl, bh, br, dt, du, dv, bu, dr, rfl, rfl, z6, bw⟩
   have dw := bf bq ay
   refine Ao (Ay (id := 1) (An ?_))
   refine uv (A0 rfl rfl (Bl.Cs al bg (Ar.lt cr))) ?_
   refine um (Aa ?_)
   subst bd; exact le (kd kr) ⟨_, _, rfl, bh, ah, ba, bb, bc, ai, dw, rfl, rfl, z6, ax⟩
  obtain rfl := Bl.zero al bg
  rw [Fp] at bz
  refine AI (Am (Am ?_))
  refine At ?_
  obtain rfl := AP bz
  exact mi (kd kr) ⟨ba, bb, bc, ai, rfl, rfl, z1, ax⟩
 rintro e1 _ _ ⟨ck, cn, cp, aq, rfl, rfl, bx, dx⟩
 refine Az _ bx ?_
 refine AJ (um (ua (ua (Aa (AA ?_)))))
 refine BG results37 (AH rfl) (AH rfl) (sr) ?_
 obtain ⟨rfl, rfl⟩ := B9 dy
 exact ⟨_, _, _, _, rfl, rfl, dx.any⟩
set_option maxHeartbeats 1000000 in
theorem Jm (ah : F FO = some (.cells ((([sL Aj walks.length Ai] : List Value) ++ (([sL Ak Af.length Al] : List Value) ++ (([vI Ae] : List Value) ++ (([vI start] : List Value) ++ (([sL Ad Ab.length Ac] : List Value) ++ (Ax.flatMap (cI .i64) ++ (([sL A3 AE.length A2] : List Value) ++ (BH.flatMap (cI .i64))))))))).toArray) 122 I8)) (_au : Ar 1 eJ F Aj Ai walks) (aa : Ar 1 eJ F Ak Al Af) (ab : Ar 3 eN F Ad Ac Ab) (ad : Ax.length = 25) (_av : Ar 2 eP F A3 A2 AE) (_h_hit : BH.length = 15) {r : Int} (hr : GY walks Af Ae start Ab Ax AE BH AW B7 = some r) :
    Bv Tryz.prog 86 #[pO FO, .agg #[vI AW, vI B7]] F (vI r) := by
 refine sp func86 ntmps86 fun K _ _ => ?_
 rw [GY] at hr
 refine AJ ?_
 refine Bx rfl rfl ?_; intro b1 dm
 refine ua (BL (ua (Aa ?_)))
 obtain ⟨out, h2, r3⟩ := Av hr
 refine jF ([]) [(5, vI out)] ?_ fun dp cg => ?_
 ·clear r3
  refine AJ (um ?_)
  refine uv (A9 rfl) (uv (Ah Gv rfl) (uv (Ah Df rfl) (uv (AG isAgg23 rfl (Has.frozen ah) (DN (Au (A := ([sL Aj walks.length Ai] : List Value)) (k := 1) (o := 0) rfl (BJ (B := ([vI Ae] : List Value) ++ (([vI start] : List Value) ++ (([sL Ad Ab.length Ac] : List Value) ++ (Ax.flatMap (cI .i64) ++ (([sL A3 AE.length A2] : List Value) ++ (BH.flatMap (cI .i64))))))) rfl)))) (uv (AQ underlying23 rfl) ?_))))
  refine um (Aa ?_)
  refine Ap ?_
  refine Bb (fun bp e1 F1 L1 => LA Af bp fun tl k => ∃ (ae : Int), Dw start Ab Ax AW B7 tl k ae = some out ∧ AN F F1 ∧ L1 = [(b1, ce #[vI AW, vI B7] 32)] ∧ e1.sub [(0, pO FO), (3, pO b1), (5, vI ae), (13, sL Ak Af.length Al), (14, vI (Af.length : Int)), (15, vI k)]) _ (m0 kr ⟨_, _, rfl, Bl.start _, -1, h2, AN.refl _, rfl, z6⟩) ?_
  rintro bp e1 F8 _ ⟨tl, k, bq, aw, ae, r6, ak, rfl, cj⟩
  refine Az _ cj ?_
  replace aa := aa.m2 ak
  replace ab := ab.m3 ak
  replace ah := ak _ _ ah
  refine AJ (uv (AV rfl rfl) ?_)
  refine Aa (Aq ?_)
  refine cQ (fun al => ?_) fun al => ?_
  ·obtain ⟨x, dq, rfl, ax, br, ao⟩ := Bl.succ aw al
   rw [Dw] at r6
   refine Ao (Aq ?_)
   refine Ap ?_
   refine AJ (um ?_)
   obtain ⟨dr, dt, du, ck, ay, az, bu, ⟨dv, dw, rfl, cn⟩, cp, ba⟩ := Ar.ta kJ aa br.1 ax
   refine uv (Cx underlying23 sizeOf22 ay br) (uv (AG isAgg22 rfl (az _) (ba 0 (by decide))) ?_)
   refine ua (ua ?_)
   refine dN ?_
   refine wm (wm ?_)
   refine wv (A9 rfl) (wv (Ah Gv rfl) (wv (Ah Jt rfl) (wv (AG isAgg3 rfl (Has.frozen ah) (DN (Au (A := ([sL Aj walks.length Ai] : List Value)) (k := 1) (o := 2) rfl (Au (A := ([sL Ak Af.length Al] : List Value)) (k := 1) (o := 1) rfl (Au (A := ([vI Ae] : List Value)) (k := 1) (o := 0) rfl (BJ (B := ([sL Ad Ab.length Ac] : List Value) ++ (Ax.flatMap (cI .i64) ++ (([sL A3 AE.length A2] : List Value) ++ (BH.flatMap (cI .i64))))) rfl)))))) (wm (wv (A9 rfl) (wv (Ah Gg rfl) ?_))))))
   obtain ⟨bw, cq⟩ := AB r6
   refine wv (Bs underlying118 sizeOf116 rfl rfl bw) ?_
   obtain ⟨bx, cr⟩ := AB cq
   obtain ⟨x2, dx, bb, ct⟩ := Bi cr
   have bc : (start * 5 + k : Int).toNat = (start : Int).toNat * 5 + (k : Int).toNat := by have := bw; have := bx; omega
   have bd := H6 (Bj .i64) ad bc bb (HH (Au (A := ([sL Aj walks.length Ai] : List Value)) (k := 1) (o := 4) rfl (Au (A := ([sL Ak Af.length Al] : List Value)) (k := 1) (o := 3) rfl (Au (A := ([vI Ae] : List Value)) (k := 1) (o := 2) rfl (Au (A := ([vI start] : List Value)) (k := 1) (o := 1) rfl (Au (A := ([sL Ad Ab.length Ac] : List Value)) (k := 1) (o := 0) rfl (BJ (B := ([sL A3 AE.length A2] : List Value) ++ (BH.flatMap (cI .i64))) (IG (Bj .i64) ad)))))))) (Iy (Au (A := ([sL Aj walks.length Ai] : List Value)) (k := 1) (o := 4) rfl (Au (A := ([sL Ak Af.length Al] : List Value)) (k := 1) (o := 3) rfl (Au (A := ([vI Ae] : List Value)) (k := 1) (o := 2) rfl (Au (A := ([vI start] : List Value)) (k := 1) (o := 1) rfl (Au (A := ([sL Ad Ab.length Ac] : List Value)) (k := 1) (o := 0) rfl (BJ (B := ([sL A3 AE.length A2] : List Value) ++ (BH.flatMap (cI .i64))) (IG (Bj .i64) ad))))))))
   refine wv (Bs underlying116 sizeOf3 rfl rfl bx) (wv (AG isAgg3 rfl (Has.frozen ah) ((bd).2.2 0 (by decide))) ?_)
   refine wa (B1 ?_)
   obtain ⟨k2, bz, bg⟩ := Av ct
   refine jE ([(b1, ce #[vI AW, vI B7] 32)]) [(0, pO FO), (3, pO b1), (5, vI ae), (8, vI x2), (13, sL Ak Af.length Al), (14, vI (Af.length : Int)), (15, vI k), (39, .bool k2)] ?_ ?_
   ·clear bg
    refine An (um ?_)
    refine uv (Bt rfl rfl) (um ?_)
    by_cases ai : x2 ≠ (-1)
    ·have cu := A5 bz ai
     refine nT ai (um (nT ai ?_))
     refine uv (Ah OD rfl) (nT ai (uv (BM isAgg3 0) (nT ai ?_)))
     obtain ⟨ok, cv, cw⟩ := Av cu
     refine cV call105 (D2 cn cv) (uv (AF (AX rfl ai) rfl) (Aa ?_))
     obtain rfl := AP cw
     exact mi kr ⟨rfl, rfl, z8⟩
    have cx := A4 bz ai
    refine fF ai (fF ai (fF ai (fF ai ?_)))
    refine uv (AD (AL rfl ai) rfl) (Aa ?_)
    obtain rfl := AP cx
    exact mi kr ⟨rfl, rfl, z8⟩
   refine AR rfl (fun bh => ?_) (fun bh => ?_)
   ·have cy := bt bg bh
    refine Bg [(.still, 0), (.still, 1), (.still, 2), (.still, 3), (.still, 4), (.still, 5), (.still, 6), (.still, 7), (.still, 8), (.still, 9), (.still, 10), (.still, 11), (.still, 12), (.seq, 13), (.seq, 14), (.seq, 15)] (by kernel_rfl) (by kernel_rfl) (trivial) (by rfl) (by kernel_rfl) (mS [5] rfl (AO rfl) (mS [8] rfl (AO rfl) (mS [0] rfl (AO rfl) (mS [42] rfl (A9 rfl) (mS [43] rfl (Ah Gv rfl) (mS [44] rfl (Ah BF rfl) (mL [45] ([]) rfl sm (fun H F' L' aq ar => AG isAgg24 rfl ((Has.frozen ah).ext aq ar) (DN (Au (A := ([sL Aj walks.length Ai] : List Value)) (k := 1) (o := 3) rfl (Au (A := ([sL Ak Af.length Al] : List Value)) (k := 1) (o := 2) rfl (Au (A := ([vI Ae] : List Value)) (k := 1) (o := 1) rfl (Au (A := ([vI start] : List Value)) (k := 1) (o := 0) rfl (BJ (B := Ax.flatMap (cI .i64) ++ (([sL A3 AE.length A2] : List Value) ++ (BH.flatMap (cI .i64)))) rfl))))))) ?_)))))))
    refine mS [3] rfl (Ah LG rfl) (mL [47] ([(b1, ce #[vI AW, vI B7] 32)]) rfl (s0 sr) (fun H F' L' aq ar => AG isAgg3 rfl ((Has.own 0 rfl).ext aq ar) rfl) ?_)
    obtain ⟨x3, cb, bj, cz⟩ := Bi cy
    obtain ⟨dy, dz, eb, da, bk, bl, cc, ⟨_, _, rfl, ⟨ec, ef, rfl, eg⟩, ⟨_, _, rfl, rfl, rfl⟩⟩, db, bm⟩ := Ar.ta kN ab cb.1 bj
    refine mS [46, 48] rfl (BQ underlying24 sizeOf35 rfl bk rfl cb) (mS [49] rfl (Ah KO rfl) (mL [50] ([]) rfl sm (fun H F' L' aq ar => AG isAgg3 rfl ((bl _).ext aq ar) (bm 1 (by decide))) ?_))
    obtain ⟨dd, de⟩ := AB cz
    refine mS (v := vI (x2 + x3.2.1)) [41, 51] rfl (A0 rfl rfl dd) ?_
    refine ⟨_, [(40, vI ae), (52, vI (x2 + x3.2.1))], rfl, rfl, z2, by kernel_rfl, ?_⟩; intro H
    refine bA (cs := #[vI ae, vI (x2 + x3.2.1)]) Bp [vI ae, vI (x2 + x3.2.1)] ?_; intro cf bn
    refine Aa ⟨_, rfl, AN.refl _, [7, 5, 4, 3, 2], by kernel_rfl, .inl (.inr (fun d h => by cases h; rfl)), (fc sm (fc sm (fc sm (fc sm (fc sm nm))))), ?_⟩
    refine ⟨_, [(53, sL (aD cf) 2 2)], rfl, rfl, z1, by kernel_rfl, ?_⟩; intro H
    refine Br 0 rfl bn ?_; intro df aj bo
    refine Aw rfl ?_
    replace aa := aa.m2 aj
    have dg : Ar 1 eI df (aD cf) 2 [ae, x2 + x3.2.1] := Ar.oI bo
    obtain ⟨n, dh, di⟩ := Av de
    refine cV call83 (Jd dg dh) ?_
    refine Aa ⟨_, rfl, aj, [7, 5, 4, 3, 2], by kernel_rfl, .inl (.inr (fun d h => by cases h; rfl)), (fc sm (fc sm (fc sm (fc sm (fc sm nm))))), ?_⟩
    refine ⟨_, [(54, vI n)], rfl, rfl, z1, by kernel_rfl, ?_⟩; intro H
    refine ua ?_
    refine Aa ⟨_, rfl, AN.refl _, [], by kernel_rfl, .inl (.inl rfl), nm, ?_⟩
    refine Bo ?_
    refine Ay (id := 1) (An ?_)
    refine uv (A0 rfl rfl (Bl.Cs aw al (Ar.lt aa))) ?_
    refine um (Aa ?_)
    subst bq; exact le kr ⟨_, _, rfl, ao, n, di, (ak.trans aj), rfl, z6⟩
   have dk := bf bg bh
   refine Ao (Ay (id := 1) (An ?_))
   refine uv (A0 rfl rfl (Bl.Cs aw al (Ar.lt aa))) ?_
   refine um (Aa ?_)
   subst bq; exact le kr ⟨_, _, rfl, ao, ae, dk, ak, rfl, z6⟩
  obtain rfl := Bl.zero aw al
  rw [Dw] at r6
  refine AI (Am (Am ?_))
  refine At ?_
  obtain rfl := AP r6
  exact mi kn ⟨ak, rfl, z1⟩
 refine AJ (um (ua (Aa (AA ?_))))
 refine C3 results86 ?_
 obtain rfl := AP r3
 exact rfl
set_option maxHeartbeats 1000000 in
theorem GN {s_ : List (Int × Int)} {f : (Int × Int) → Option Bool} (ab : Ar 2 eP F D3 D4 s_) (ao : Oa Tryz.prog F RB Ru RD (SO eP) Value.bool f) {r : Int} (hr : CM s_ f = some r) :
    Bv Tryz.prog 110 #[sL D3 s_.length D4, .func (.func RB) Ru RD] F (vI r) := by
 refine sp func110 ntmps110 fun K _ _ => ?_
 rw [CM] at hr
 refine AJ (ua (Aa ?_))
 refine AU (fun e1 F1 L1 => Ct = some r ∧ F = F1 ∧ L1 = [] ∧ e1.sub []) ?_ ?_
 ·refine AJ (um ?_)
  refine uv (AQ underlying41 rfl) ?_
  refine um (Aa ?_)
  refine Ap ?_
  refine Bb (fun aq e1 F1 L1 => LA s_ aq fun tl k => BE f tl k = some r ∧ F = F1 ∧ L1 = [] ∧ e1.sub [(0, sL D3 s_.length D4), (1, .func (.func RB) Ru RD), (7, vI (s_.length : Int)), (8, vI k)]) _ (m0 kr ⟨_, _, rfl, Bl.start _, hr, rfl, rfl, z4⟩) ?_
  rintro aq e1 _ _ ⟨tl, k, av, ad, r3, rfl, rfl, aw⟩
  refine Az _ aw (AJ (uv (AV rfl rfl) ?_))
  refine Aa (Aq ?_)
  refine cQ (fun c6 => ?_) fun c6 => ?_
  ·obtain ⟨x, bd, rfl, ax, g9, ay⟩ := Bl.succ ad c6
   rw [BE] at r3
   refine Ao (Aq ?_)
   refine Ap ?_
   refine AJ (um (ua (BL (um (um (um ?_))))))
   obtain ⟨NF, bg, bh, az, ae, ah, aa, ⟨_, _, rfl, rfl, rfl⟩, ai, aj⟩ := Ar.ta kP ab g9.1 ax
   refine uv (Cx underlying41 sizeOf32 ae g9) (uv (AZ isAgg32 sizeOf32 rfl (ah _) aa (Ba aa ai aj)) ?_)
   obtain ⟨ok, ba, ar⟩ := Av r3
   refine I0 rfl ao.1 rfl rfl rfl (ao.2 _ (AN.refl _) _ _ _ ⟨_, rfl, ⟨_, _, rfl, rfl, rfl⟩⟩ ba) (Aa ?_)
   refine AR rfl (fun ak => ?_) (fun ak => ?_)
   ·have bb := bt ar ak
    refine AJ (um (ua (Aa (AA (AK (As (As (AK (As ?_)))))))))
    refine C3 results110 ?_
    obtain rfl := AP bb
    exact rfl
   have bc := bf ar ak
   refine Ao (Ay (id := 1) (An ?_))
   refine uv (A0 rfl rfl (Bl.Cs ad c6 (Ar.lt ab))) ?_
   refine um (Aa ?_)
   subst av; exact le kr ⟨_, _, rfl, ay, bc, rfl, rfl, z4⟩
  obtain rfl := Bl.zero ad c6
  rw [BE] at r3
  refine AI (Am (Am ?_))
  refine At ?_
  exact mi kr ⟨r3, rfl, rfl, (sn _)⟩
 rintro e1 _ _ ⟨au, rfl, rfl, al⟩
 refine Az _ al ?_
 rw [Ct] at au
 refine AJ (ua (Aa (AA ?_)))
 refine C3 results110 ?_
 obtain rfl := AP au
 exact rfl
theorem K8 {ah : Nat} {aa ab : Int} {ad : Nat × Nat} (ae : F ah = some (.cells #[vI aa, vI ab] 32 ad)) {r : Bool} (hr : FQ AW B7 aa ab = some r) :
    Bv Tryz.prog 111 #[.agg #[vI AW, vI B7], pO ah] F (.bool r) := by
 refine sp func111 ntmps111 fun K _ _ => ?_
 rw [FQ] at hr
 refine AJ ?_
 refine Bx rfl rfl ?_; intro b1 ai
 refine ua (BL ?_)
 refine uv (CA isAgg32 sizeOf32 0) (uv (AZ isAgg32 sizeOf32 rfl (Has.frozen ae) (B2 rfl) rfl) (uv (QJ (QK _ _ _ _) (eq_32 _ _ _ _) rfl rfl) ?_))
 refine ua (Aa ?_)
 refine kW kn (AA (C3 results111 ?_))
 obtain rfl := AP hr
 exact rfl
theorem Jl (ai : F FO = some (.cells ((([sL Aj walks.length Ai] : List Value) ++ (([sL Ak Af.length Al] : List Value) ++ (([vI Ae] : List Value) ++ (([vI start] : List Value) ++ (([sL Ad Ab.length Ac] : List Value) ++ (Ax.flatMap (cI .i64) ++ (([sL A3 AE.length A2] : List Value) ++ (BH.flatMap (cI .i64))))))))).toArray) 122 I8)) (_ae : Ar 1 eJ F Aj Ai walks) (_ah : Ar 1 eJ F Ak Al Af) (_ad : Ar 3 eN F Ad Ac Ab) (ab : Ax.length = 25) (aa : Ar 2 eP F A3 A2 AE) (_h_hit : BH.length = 15) {r : Int} (hr : GW walks Af Ae start Ab Ax AE BH AW B7 = some r) :
    Bv Tryz.prog 87 #[pO FO, .agg #[vI AW, vI B7]] F (vI r) := by
 refine sp func87 ntmps87 fun K _ _ => ?_
 rw [GW] at hr
 refine AJ ?_
 refine Bx rfl rfl ?_; intro b1 ak
 refine ua (BL (um ?_))
 refine uv (A9 rfl) (uv (Ah GB rfl) (uv (AG isAgg41 rfl (Has.frozen ai) (DN (Au (k := 1) (o := 29) rfl (Au (k := 1) (o := 28) rfl (Au (k := 1) (o := 27) rfl (Au (k := 1) (o := 26) rfl (Au (k := 1) (o := 25) rfl (Au (k := 25) (o := 0) (IG (Bj .i64) ab) (BJ rfl))))))))) (uv (Fh rfl rfl) ?_)))
 refine Br 0 rfl ak ?_; intro F2 al ao
 refine Aw rfl ?_
 replace aa := aa.m4 al
 have aq : Oa Tryz.prog F2 111 #[] #[pO b1] (SO eP) Value.bool (fun aj : (Int × Int) => FQ aj.1 aj.2 AW B7) := ⟨call111, fun F2 h2 vs aj r ha hr => by obtain ⟨_, rfl, ⟨_, _, rfl, rfl, rfl⟩⟩ := ha; exact K8 (h2 _ _ ao) hr⟩
 obtain ⟨n, h6, r7⟩ := Av hr
 refine cV call110 (GN aa aq h6) ?_
 refine ua (Aa (AA ?_))
 refine C3 results87 ?_
 obtain rfl := AP r7
 exact rfl
set_option maxHeartbeats 1000000 in
theorem K4 (ad : Ar 1 eJ F Aj Ai walks) (ae : Ar 1 eJ F Ak Al Af) (aa : Ar 3 eN F Ad Ac Ab) {r r2 : Int} (hr : IY walks Af Ae start Ab AW B7 = some (r, r2)) :
    Bv Tryz.prog 42 #[.agg #[sL Aj walks.length Ai, sL Ak Af.length Al, vI Ae, vI start, sL Ad Ab.length Ac], .agg #[vI AW, vI B7]] F (.tuple #[vI r, vI r2]) := by
 refine sp func42 ntmps42 fun K _ _ => ?_
 rw [IY] at hr
 refine AJ ?_
 refine Bx rfl rfl ?_; intro b1 cn
 refine Bx rfl rfl ?_; intro b2 cp
 refine ua (ua (BL ?_))
 refine uv (CA isAgg26 sizeOf26 1) ?_
 obtain ⟨d, n, h3, r4⟩ := BT hr
 refine c0 call72 (Cd ad ae aa h3) ?_; rintro _ F5 _ cq cr ⟨v9, rfl, rfl, ao⟩
 refine Aw (ln rfl) ?_
 refine um (ox rfl rfl rfl (ox rfl rfl rfl (ua (ua (Aa (Aq ?_))))))
 refine Ap ?_
 refine AJ (um ?_)
 refine uv (Bt rfl rfl) ?_
 refine ua (Aa ?_)
 refine cQ (fun aq => ?_) fun aq => ?_
 ·have bh := A5 r4 aq
  refine AJ (um (ua (ua (Aa ?_))))
  refine kW kn ?_
  refine AA (AK (As ?_))
  refine BG results42 (AH rfl) (AH rfl) (sr) ?_
  obtain ⟨rfl, rfl⟩ := B9 bh
  exact rfl
 have bj := A4 r4 aq
 refine AJ (um ?_)
 refine uv (CA isAgg32 sizeOf32 0) ?_
 obtain ⟨Ax, aj, ah, ak, ab, al, AE, BH, bk, bl⟩ := J3 bj
 have aw := ao; rw [bk] at aw; obtain ⟨bm, ct, bn, ar, ai, ⟨_, _, rfl, ⟨bo, bp, rfl, ax⟩, ⟨_, _, rfl, ⟨bq, br, rfl, ay⟩, ⟨_, _, rfl, rfl, ⟨_, _, rfl, rfl, ⟨_, _, rfl, ⟨bu, bw, rfl, az⟩, ⟨_, _, rfl, ⟨rfl, ba⟩, ⟨_, _, rfl, ⟨bx, bz, rfl, bb⟩, ⟨rfl, bc⟩⟩⟩⟩⟩⟩⟩⟩⟩ := aw; subst ar
 have ai : F5 bm = some (.cells ((([sL bo Ax.length bp] : List Value) ++ (([sL bq aj.length br] : List Value) ++ (([vI ah] : List Value) ++ (([vI ak] : List Value) ++ (([sL bu ab.length bw] : List Value) ++ (al.flatMap (cI .i64) ++ (([sL bx AE.length bz] : List Value) ++ (BH.flatMap (cI .i64))))))))).toArray) 122 bn) := ai
 obtain ⟨n2, cb, bd⟩ := Av bl
 refine cV call87 (Jl ai ax ay az ba bb bc cb) (uv (AV rfl rfl) ?_)
 refine ua (Aa ?_)
 refine cQ (fun au => ?_) fun au => ?_
 ·have cc := A5 bd au
  refine AJ (ua (ua (Aa ?_)))
  refine kW kn ?_
  refine AA (AK (As ?_))
  refine BG results42 (AH rfl) (AH rfl) (sr) ?_
  obtain ⟨rfl, rfl⟩ := B9 cc
  exact rfl
 have cf := A4 bd au
 refine Ao (Ay (id := 0) (AJ (um ?_)))
 refine uv (CA isAgg32 sizeOf32 0) ?_
 obtain ⟨n3, cg, bg⟩ := Av cf
 refine cV call86 (Jm ai ax ay az ba bb bc cg) ?_
 refine ua (Aa (Aq (AJ (um ?_))))
 refine uv (BO rfl rfl) (Aa ?_)
 refine cQ (fun av => ?_) fun av => ?_
 ·have cj := A5 bg av
  refine AJ (ua (ua (Aa ?_)))
  refine kW kn ?_
  refine AA (As ?_)
  refine BG results42 (AH rfl) (AH rfl) (sr) ?_
  obtain ⟨rfl, rfl⟩ := B9 cj
  exact rfl
 have ck := A4 bg av
 refine Ao (AJ (um (ua (ua (Aa ?_)))))
 refine kW kn (AA (BG results42 (AH rfl) (AH rfl) (sr) ?_))
 obtain ⟨rfl, rfl⟩ := B9 ck
 exact rfl
set_option maxHeartbeats 1000000 in
theorem KQ {Is : Nat} {Jz : Nat × Nat} {ah : Nat} {ba : Nat × Nat} (ak : F FO = some (.cells #[pO Is] 113 I8)) (ae : F Is = some (.cells ((([sL Aj walks.length Ai] : List Value) ++ (([sL Ak Af.length Al] : List Value) ++ (([vI Ae] : List Value) ++ (([vI start] : List Value) ++ (([sL Ad Ab.length Ac] : List Value) ++ (Ax.flatMap (cI .i64) ++ (([sL A3 AE.length A2] : List Value) ++ (BH.flatMap (cI .i64))))))))).toArray) 122 Jz)) (_cb : Ar 1 eJ F Aj Ai walks) (ad : Ar 1 eJ F Ak Al Af) (aa : Ar 3 eN F Ad Ac Ab) (ao : Ax.length = 25) (_cc : Ar 2 eP F A3 A2 AE) (ay : BH.length = 15) (ab : F ah = some (.cells #[vI BX] 3 ba)) {xs : List ((Int × Int) × Int)} (hr : G6 walks Af Ae start Ab Ax AE BH BX = some xs) :
    IS Tryz.prog 124 #[] #[pO FO, pO ah] F (fun x : (Int × Int) × Int => #[.agg ((cP (cI .i64) (cI .i64)) x.1).toArray, vI x.2]) xs := by
 intro G0 bo yv J Jx eg dr hy Fc L0 hG dt
 replace ak := (bo.trans hG) _ _ ak
 replace ae := (bo.trans hG) _ _ ae
 replace ad := ad.m2 (bo.trans hG)
 replace aa := aa.m3 (bo.trans hG)
 replace ab := (bo.trans hG) _ _ ab
 have bk : xs = [] ++ xs := rfl
 show SH.Spec Tryz.prog 124 #[yv, pO FO, pO ah] Fc L0 _
 refine sp func124 ntmps124 fun K _ _ => ?_
 rw [G6] at hr; refine CU (L' := L0 ++ []) (by simp) ?_
 refine AJ (uv (AG isAgg113 rfl (Has.frozen ak) rfl) (uv (A9 rfl) (uv (Ah Gv rfl) (uv (Ah Df rfl) (uv (AG isAgg23 rfl (Has.frozen ae) (DN (Au (A := ([sL Aj walks.length Ai] : List Value)) (k := 1) (o := 0) rfl (BJ rfl)))) (uv (AQ underlying23 rfl) ?_))))))
 refine um (Aa ?_)
 refine Ap ?_
 refine Bb (fun db e1 F1 L1 => LA Af db fun tl k => ∃ (bb : List ((Int × Int) × Int)) (bc : List ((Int × Int) × Int)) (cf : LH), Ce Ab BH BX tl k = some bc ∧ AN Fc F1 ∧ L1 = (cf ++ []) ∧ e1.sub [(0, yv), (1, pO FO), (2, pO ah), (12, vI (Af.length : Int)), (13, vI k)] ∧ xs = bb ++ bc ∧ J bb F1 cf ∧ AN G0 F1) _ (m0 kr ⟨_, _, rfl, Bl.start _, [], xs, L0, hr, AN.refl _, rfl, z5, bk, dt, hG⟩) ?_
 rintro db e1 dd _ ⟨tl, k, du, ck, bb, bc, cf, r8, aw, rfl, dv, az, de, hG⟩
 refine Az _ dv ?_
 replace ad := ad.m2 aw
 replace aa := aa.m3 aw
 replace ae := aw _ _ ae
 replace ak := aw _ _ ak
 replace ab := aw _ _ ab
 refine AJ (uv (AV rfl rfl) ?_)
 refine Aa (Aq ?_)
 refine cQ (fun cg => ?_) fun cg => ?_
 ·obtain ⟨x, df, rfl, dw, eh, cn⟩ := Bl.succ ck cg
  rw [Ce] at r8
  refine Ao ?_
  refine AU (fun e1 F1 L1 => ∃ (au : List ((Int × Int) × Int)) (av : List ((Int × Int) × Int)) (bd : LH), Gf k (Ce Ab BH BX df) = some av ∧ AN dd F1 ∧ L1 = (bd ++ []) ∧ e1.sub [(0, yv), (1, pO FO), (2, pO ah), (12, vI (Af.length : Int)), (13, vI k)] ∧ xs = au ++ av ∧ J au F1 bd ∧ AN G0 F1) ?_ ?_
  ·refine Ap ?_
   refine AJ (um (ua (BL ?_)))
   refine uv (AG isAgg113 rfl (Has.frozen ak) rfl) (uv (A9 rfl) (uv (Ah Gv rfl) (uv (Ah BF rfl) (uv (AG isAgg24 rfl (Has.frozen ae) (DN (Au (A := ([sL Aj walks.length Ai] : List Value)) (k := 1) (o := 3) rfl (Au (A := ([sL Ak Af.length Al] : List Value)) (k := 1) (o := 2) rfl (Au (A := ([vI Ae] : List Value)) (k := 1) (o := 1) rfl (Au (A := ([vI start] : List Value)) (k := 1) (o := 0) rfl (BJ rfl))))))) (uv (AQ underlying24 rfl) ?_)))))
   refine um (Aa ?_)
   refine Ap ?_
   refine Bb (fun dg e1 F1 L1 => LA Ab dg fun dh k2 => ∃ (ai : List ((Int × Int) × Int)) (aq : List ((Int × Int) × Int)) (ax : LH), CH BH BX k (Ce Ab BH BX df) dh k2 = some aq ∧ AN dd F1 ∧ L1 = (ax ++ []) ∧ e1.sub [(0, yv), (1, pO FO), (2, pO ah), (4, vI k), (12, vI (Af.length : Int)), (13, vI k), (21, vI (Ab.length : Int)), (22, vI k2)] ∧ xs = ai ++ aq ∧ J ai F1 ax ∧ AN G0 F1) _ (m0 kr ⟨_, _, rfl, Bl.start _, bb, bc, cf, r8, AN.refl _, rfl, z8, az, de, hG⟩) ?_
   rintro dg e1 ei _ ⟨dh, k2, bp, bg, ai, aq, ax, cj, ar, rfl, cp, aj, bl, hG⟩
   refine Az _ cp ?_
   replace aa := aa.m3 ar
   replace ae := ar _ _ ae
   replace ak := ar _ _ ak
   replace ab := ar _ _ ab
   refine AJ (uv (AV rfl rfl) ?_)
   refine Aa (Aq ?_)
   refine cQ (fun bq => ?_) fun bq => ?_
   ·obtain ⟨x2, ej, rfl, dx, en, br⟩ := Bl.succ bg bq
    rw [CH] at cj
    refine Ao (Aq ?_)
    refine Ap ?_
    refine AJ (um (ua ?_))
    refine dN (wv (AG isAgg3 rfl (Has.frozen ab) rfl) (wv (AG isAgg113 rfl (Has.frozen ak) rfl) ?_))
    refine wm (wm ?_)
    refine wv (A9 rfl) (wv (Ah N0 rfl) ?_)
    obtain ⟨di, dy⟩ := AB cj
    refine wv (Bs underlying120 sizeOf119 rfl rfl di) ?_
    obtain ⟨dk, dz⟩ := AB dy
    obtain ⟨x3, eo, cq, dm⟩ := Bi dz
    have cr : (k * 3 + k2 : Int).toNat = (k : Int).toNat * 3 + (k2 : Int).toNat := by have := di; have := dk; omega
    have ct := H6 (Bj .i64) ay cr cq (HH (Au (A := ([sL Aj walks.length Ai] : List Value)) (k := 1) (o := 30) rfl (Au (A := ([sL Ak Af.length Al] : List Value)) (k := 1) (o := 29) rfl (Au (A := ([vI Ae] : List Value)) (k := 1) (o := 28) rfl (Au (A := ([vI start] : List Value)) (k := 1) (o := 27) rfl (Au (A := ([sL Ad Ab.length Ac] : List Value)) (k := 1) (o := 26) rfl (Au (A := Ax.flatMap (cI .i64)) (k := 25) (o := 1) (IG (Bj .i64) ao) (Au (A := ([sL A3 AE.length A2] : List Value)) (k := 1) (o := 0) rfl (HE (IG (Bj .i64) ay)))))))))) (Iy (Au (A := ([sL Aj walks.length Ai] : List Value)) (k := 1) (o := 30) rfl (Au (A := ([sL Ak Af.length Al] : List Value)) (k := 1) (o := 29) rfl (Au (A := ([vI Ae] : List Value)) (k := 1) (o := 28) rfl (Au (A := ([vI start] : List Value)) (k := 1) (o := 27) rfl (Au (A := ([sL Ad Ab.length Ac] : List Value)) (k := 1) (o := 26) rfl (Au (A := Ax.flatMap (cI .i64)) (k := 25) (o := 1) (IG (Bj .i64) ao) (Au (A := ([sL A3 AE.length A2] : List Value)) (k := 1) (o := 0) rfl (HE (IG (Bj .i64) ay))))))))))
    refine wv (Bs underlying119 sizeOf3 rfl rfl dk) (wv (AG isAgg3 rfl (Has.frozen ae) ((ct).2.2 0 (by decide))) (wv (Pc rfl rfl) ?_))
    refine wa (Sn (um ?_))
    refine uv (AG isAgg3 rfl (Has.frozen ab) rfl) (uv (Bt rfl rfl) (um ?_))
    by_cases al : (Mb BX x3) ≠ BX
    ·have eb := A5 dm al
     refine nT al (um (nT al (um (nT al (um (nT al ?_))))))
     refine uv (BI (v := .agg #[vI k, vI k2]) rfl (by intro w; kernel_rfl)) ?_
     refine nT al (um (nT al ?_))
     obtain ⟨bm, ec, bu⟩ := RE eb
     refine PK (Lb := ax) (Lr := []) (vs := [.agg #[vI k, vI k2], vI (Mb BX x3)]) rfl rfl rfl fP (hy ai ((k, k2), Mb BX x3) bm (by rw [aj, bu]) _ _ hG bl) ?_
     rintro ep er cu bn cv; obtain ⟨ef, rfl, bw, bx⟩ := N6 cv
     replace aa := aa.m3 bn
     replace hG := hG.trans bn
     refine nT al (uv (Bz rfl) (uv (AF (AX rfl al) rfl) (Aa ?_)))
     refine AR rfl (fun cw => ?_) (fun cw => ?_)
     ·have cx := bx (by simpa using cw)
      refine AA (AK (As (As (AK (AK (As (As (AK ?_))))))))
      refine NM (.inl rfl) results124 (sr) ?_
      exact .inr (by rw [List.append_nil]; exact cx)
     have cy := bw (by simpa using cw)
     have bh : xs = (ai ++ [((k, k2), Mb BX x3)]) ++ bm := by rw [aj, bu]; simp
     refine Ao (Ay (id := 3) (An ?_))
     refine uv (A0 rfl rfl (Bl.Cs bg bq (Ar.lt aa))) ?_
     refine um (Aa ?_)
     subst bp; exact le kr ⟨_, _, rfl, br, ai ++ [((k, k2), Mb BX x3)], bm, cu, ec, (ar.trans bn), rfl, z8, bh, cy, hG⟩
    have Cs := A4 dm al
    refine fF al (fF al (fF al (fF al (fF al (fF al (fF al ?_))))))
    refine uv (AD (AL rfl al) rfl) (Aa ?_)
    refine AR rfl (fun dp => nomatch dp) (fun dp => ?_)
    refine Ao (Ay (id := 3) (An ?_))
    refine uv (A0 rfl rfl (Bl.Cs bg bq (Ar.lt aa))) ?_
    refine um (Aa ?_)
    subst bp; exact le kr ⟨_, _, rfl, br, ai, aq, ax, Cs, ar, rfl, z8, aj, bl, hG⟩
   obtain rfl := Bl.zero bg bq
   rw [CH] at cj
   refine AI (Am (Am ?_))
   refine At (Ay (id := 1) ?_)
   exact mi kr ⟨ai, aq, ax, cj, ar, rfl, z5, aj, bl, hG⟩
  rintro e1 et _ ⟨au, av, bd, dq, bz, rfl, cz, bj, da, hG⟩
  refine Az _ cz ?_
  replace ad := ad.m2 bz
  rw [Gf] at dq
  refine An (uv (A0 rfl rfl (Bl.Cs ck cg (Ar.lt ad))) ?_)
  refine um (Aa ?_)
  subst du; exact le kr ⟨_, _, rfl, cn, au, av, bd, dq, (aw.trans bz), rfl, z5, bj, da, hG⟩
 obtain rfl := Bl.zero ck cg
 rw [Ce] at r8
 refine AI (Am (Am ?_))
 refine At (NM (.inr rfl) results124 (sr) ?_)
 obtain rfl := AP r8
 exact .inl (by have e1 := az; rw [List.append_nil] at e1; rw [List.append_nil, e1]; exact de)
theorem Lz (ah : F FO = some (.cells ((([sL Aj walks.length Ai] : List Value) ++ (([sL Ak Af.length Al] : List Value) ++ (([vI Ae] : List Value) ++ (([vI start] : List Value) ++ (([sL Ad Ab.length Ac] : List Value) ++ (Ax.flatMap (cI .i64) ++ (([sL A3 AE.length A2] : List Value) ++ (BH.flatMap (cI .i64))))))))).toArray) 122 I8)) (ab : Ar 1 eJ F Aj Ai walks) (ad : Ar 1 eJ F Ak Al Af) (aa : Ar 3 eN F Ad Ac Ab) (ai : Ax.length = 25) (ae : Ar 2 eP F A3 A2 AE) (ak : BH.length = 15) {r : List ((Int × Int) × Int)} (hr : H7 walks Af Ae start Ab Ax AE BH BX = some r) :
    SH.Spec Tryz.prog 112 #[pO FO, vI BX] F [] fun F' L' v => ∃ (ar : Array Value), v = .func (.func 124) #[] ar ∧ L' = [] ∧ IS Tryz.prog 124 #[] ar F' (fun x : (Int × Int) × Int => #[.agg ((cP (cI .i64) (cI .i64)) x.1).toArray, vI x.2]) r := by
 refine sp func112 ntmps112 fun K _ _ => ?_
 rw [H7] at hr
 refine AJ ?_
 refine Bx rfl rfl ?_; intro b1 au
 refine Bx rfl rfl ?_; intro b2 av
 refine ua (BL ?_)
 refine uv (Fh rfl rfl) ?_
 refine ua (Aa ?_)
 refine Bk 1 rfl au ?_; intro F3 al aq
 refine CU rfl ?_
 replace ab := ab.m2 al
 replace ad := ad.m2 al
 replace aa := aa.m3 al
 replace ae := ae.m4 al
 replace ah := al _ _ ah
 refine Bk 0 rfl av ?_; intro F6 aj aw
 refine CU rfl ?_
 replace ab := ab.m2 aj
 replace ad := ad.m2 aj
 replace aa := aa.m3 aj
 replace ae := ae.m4 aj
 replace ah := aj _ _ ah
 replace aq := aj _ _ aq
 obtain ⟨l, h9, ax⟩ := Av hr
 have ao : IS Tryz.prog 124 #[] #[pO b1, pO b2] F6 (fun x : (Int × Int) × Int => #[.agg ((cP (cI .i64) (cI .i64)) x.1).toArray, vI x.2]) l := KQ aq ah ab ad aa ai ae ak aw h9
 refine AA (C3 results112 ?_)
 obtain rfl := AP ax
 exact ⟨_, rfl, rfl, ao⟩
set_option maxHeartbeats 1000000 in
theorem Hx {s_ : List (Int × Int)} (ai : AM II 29 2 eP F D3 HG D4 s_ IQ) {r : List (Int × Int)} (hr : Dk s_ = some r) :
    SH.Spec Tryz.prog 113 #[sL D3 HG D4] F (IQ ++ []) fun F' L' v => ∃ (rL : LH), v = .tuple #[] ∧ L' = rL ++ [] ∧ AM II 29 2 eP F' D3 HG D4 r rL := by
 refine sp func113 ntmps113 fun K _ _ => ?_
 rw [Dk] at hr
 refine CU (L' := IQ ++ []) (by simp) ?_
 refine AJ (um ?_)
 refine uv ((AQ underlying30 rfl).i (AM.Gh ai)) ?_
 obtain ⟨g1, r2⟩ := AB hr
 refine uv (DP rfl rfl g1) ?_
 refine ua (ua (Aa ?_))
 refine Ap ?_
 refine Bb (fun aq e1 F1 L1 => ∃ (ar : List (Int × Int)) (i : Int) (j : Int) (aa : LH), BR aq ar i j = some r ∧ F = F1 ∧ L1 = (aa ++ []) ∧ e1.sub [(0, sL D3 HG D4), (2, vI i), (3, vI j)] ∧ AM II 29 2 eP F1 D3 HG D4 ar aa) FU (m0 kr ⟨s_, 0, (s_.length : Int) - 1, IQ, r2, rfl, rfl, z3, ai⟩) ?_
 rintro aq e1 _ _ ⟨ar, i, j, aa, r7, rfl, rfl, bq, ab⟩
 refine Az _ bq ?_
 rcases aq with _ | aq
 ·rw [BR] at r7; cases r7
 rw [BR] at r7
 refine Aq (AJ (um (um ?_)))
 refine uv (AV rfl rfl) (Aa ?_)
 refine cQ (fun c9 => ?_) fun c9 => ?_
 ·have br := A5 r7 c9
  refine Ao (Aq ?_)
  refine Ap (Bg [(.still, 0), (.still, 1), (.still, 2), (.still, 3), (.still, 4), (.still, 5), (.still, 6), (.still, 7), (.still, 8), (.still, 9), (.still, 10), (.still, 11), (.still, 12), (.seq, 13), (.still, 14), (.seq, 15)] (by kernel_rfl) (by kernel_rfl) (trivial) (by rfl) (by kernel_rfl) (mS [0] rfl (AO rfl) (mS [2] rfl (AO rfl) (mS [0] rfl (AO rfl) (mS [3] rfl (AO rfl) (mS [0] rfl (AO rfl) (mS [3] rfl (AO rfl) ?_)))))))
  obtain ⟨x, bn, au, bu⟩ := Bi br
  obtain ⟨dg, dh, di, bw, av, aw, ad, ⟨_, _, rfl, rfl, rfl⟩, ax, ay⟩ := AM.at kP ab (L := aa ++ []) fP bn.1 au
  refine mS [18, 19] rfl (BQ underlying30 sizeOf29 rfl av rfl (AM.idx ab bn)) (mL [20] (aa ++ []) rfl (s0 sr) (fun H F' L' az ba => AZ isAgg29 sizeOf29 rfl (aw.ext az ba) ad (Ba ad ax ay)) (mS [0] rfl (AO rfl) (mS [2] rfl (AO rfl) ?_)))
  obtain ⟨x2, aj, ak, bx⟩ := Bi bu
  obtain ⟨dk, dm, dp, bz, bb, bc, ae, ⟨_, _, rfl, rfl, rfl⟩, bd, bg⟩ := AM.at kP ab (L := aa ++ []) fP aj.1 ak
  refine mS [22, 23] rfl (BQ underlying30 sizeOf29 rfl bb rfl (AM.idx ab aj)) (mL [24] (aa ++ []) rfl (s0 sr) (fun H F' L' az ba => AZ isAgg29 sizeOf29 rfl (bc.ext az ba) ae (Ba ae bd bg)) ?_)
  obtain ⟨cb, cc, dq, cf, al, cg, bo, ⟨_, _, rfl, rfl, rfl⟩, cj, ck⟩ := AM.at kP ab (L := aa ++ []) fP aj.1 ak
  refine mS [14, 15] rfl (BQ underlying30 sizeOf29 rfl al rfl (AM.idx ab aj)) ?_
  refine ⟨_, [(21, .agg #[vI x.1, vI x.2]), (26, .pointer (some ⟨cb, cc + (i : Int).toNat * 2, none⟩))], rfl, rfl, z2, by kernel_rfl, ?_⟩; intro H
  obtain ⟨l, cn, cp⟩ := BC bx
  refine EH (u := (x.1, x.2)) sizeOf29 kP rfl al rfl ⟨_, _, rfl, rfl, rfl⟩ (fun _ => .h) ab cn aj ?_; intro bh ah
  refine Aa ⟨undef, rfl, AN.refl _, [3, 2], by kernel_rfl, .inl (.inr (fun d h => by cases h)), (fc sm (fc sm nm)), ?_⟩
  obtain ⟨x3, bj, bk, cq⟩ := Bi cp
  obtain ⟨cr, ct, dr, cu, ao, cv, bp, ⟨_, _, rfl, rfl, rfl⟩, cw, cx⟩ := AM.at kP ah (L := bh ++ []) fP bj.1 bk
  refine mS [16, 17] rfl (BQ underlying30 sizeOf29 rfl ao rfl (AM.idx ah bj)) ?_
  refine ⟨_, [(25, .agg #[vI x2.1, vI x2.2]), (27, .pointer (some ⟨cr, ct + (j : Int).toNat * 2, none⟩))], rfl, rfl, z2, by kernel_rfl, ?_⟩; intro H
  obtain ⟨l2, cy, cz⟩ := BC cq
  refine EH (u := (x2.1, x2.2)) sizeOf29 kP rfl ao rfl ⟨_, _, rfl, rfl, rfl⟩ (fun _ => .h) ah cy bj ?_; intro bl bm
  refine Aa ⟨undef, rfl, AN.refl _, [], by kernel_rfl, .inl (.inl rfl), nm, ?_⟩
  refine Bo ?_
  refine Ay (id := 1) (An (um ?_))
  obtain ⟨da, db⟩ := AB cz
  refine uv (A0 rfl rfl da) (um ?_)
  obtain ⟨dd, de⟩ := AB db
  refine uv (DP rfl rfl dd) ?_
  refine ua (ua (Aa ?_))
  exact le kr ⟨l2, i + 1, j - 1, bl, de, rfl, rfl, z3, bm⟩
 have df := A4 r7 c9
 refine AI (Am (Am ?_))
 refine At (M8 (.inr rfl) results113 ?_)
 obtain rfl := AP df
 exact ⟨_, rfl, rfl, ab⟩
set_option maxHeartbeats 1000000 in
theorem Cz {JB : FuncId} {Jy JT : Array Value} {ok : (Int × Int) → Option Bool} (aq : F FO = some (.cells ((([sL Aj walks.length Ai] : List Value) ++ (([sL Ak Af.length Al] : List Value) ++ (([vI Ae] : List Value) ++ (([vI start] : List Value) ++ (([sL Ad Ab.length Ac] : List Value) ++ (Ax.flatMap (cI .i64) ++ (([sL A3 AE.length A2] : List Value) ++ (BH.flatMap (cI .i64))))))))).toArray) 122 I8)) (aw : Ar 1 eJ F Aj Ai walks) (aj : Ar 1 eJ F Ak Al Af) (ai : Ar 3 eN F Ad Ac Ab) (ax : Ax.length = 25) (ay : Ar 2 eP F A3 A2 AE) (ej : BH.length = 15) (bd : Oa Tryz.prog F JB Jy JT eP Value.bool ok) {r : List (Int × Int)} {r2 : Int} {r3 : Bool} (hr : Ch walks Af Ae start Ab Ax AE BH BX ok = some (r, r2, r3)) :
    SH.Spec Tryz.prog 88 #[pO FO, vI BX, .agg #[.func (.func JB) Jy JT]] F [] fun F' L' v => ∃ (ra : Option Addr) (rn : Nat) (rc : Nat) (rL : LH), v = .tuple #[sL ra rn rc, vI r2, .bool r3] ∧ L' = rL ++ [] ∧ AM 0 29 2 eP F' ra rn rc r rL := by
 refine sp func88 ntmps88 fun K _ _ => ?_
 rw [Ch] at hr
 refine AJ ?_
 refine Bx rfl rfl ?_; intro b1 o6
 refine Bx rfl rfl ?_; intro b2 o7
 refine ua (ua (ua (BL ?_)))
 refine P3 rfl ?_; intro b3 o8
 refine uv (BM isAgg113 2) (uv (A9 rfl) (uv (Ah Gv rfl) (uv (Ah Jt rfl) (uv (AG isAgg3 rfl (Has.frozen aq) (DN (Au (A := ([sL Aj walks.length Ai] : List Value)) (k := 1) (o := 2) rfl (Au (A := ([sL Ak Af.length Al] : List Value)) (k := 1) (o := 1) rfl (Au (A := ([vI Ae] : List Value)) (k := 1) (o := 0) rfl (BJ (B := ([sL Ad Ab.length Ac] : List Value) ++ (Ax.flatMap (cI .i64) ++ (([sL A3 AE.length A2] : List Value) ++ (BH.flatMap (cI .i64))))) rfl)))))) (um ?_)))))
 refine uv (BI (v := .agg #[vI start, vI BX]) rfl (by intro w; kernel_rfl)) ?_
 refine uv (BI (v := .agg #[vI 0, vI 0, vI 0, vI 0, vI 0]) rfl (by intro w; kernel_rfl)) ?_
 refine QU (i := 0) (k := (start, BX)) (v := (0, 0, 0, 0, 0)) underlying166 LM rfl rfl rfl rfl (show IH (vA (cP (cI .i64) (cI .i64))) (vA (cP (cI .i64) (cP (cI .i64) (cP (cI .i64) (cP (cI .i64) (cI .i64)))))) #[] ([] : List ((Int × Int) × (Int × Int × Int × Int × Int))) from IH.nil) ?_; intro lq lr jn
 obtain ⟨met, h7, r8⟩ := BC hr
 rw [← h7] at jn
 refine Aw rfl (um ?_)
 refine Bh rfl zeroValue166 ?_; intro b9 o9
 refine By (i := 0) sizeOf166 rfl rfl rfl rfl (B2 rfl) (Aw rfl (Aa ?_))
 obtain ⟨ah, lu, jo⟩ := Av r8
 refine AU (fun e1 F1 L1 => ∃ (bg : Array MapEntry) (br : Nat), AN F F1 ∧ L1 = [(b9, ce #[.map (some b3)] 166), (b3, .map bg br), (b1, ce #[pO FO] 113)] ∧ e1.sub [(1, vI BX), (3, pO b1), (9, pO b9)] ∧ IH (vA (cP (cI .i64) (cI .i64))) (vA (cP (cI .i64) (cP (cI .i64) (cP (cI .i64) (cP (cI .i64) (cI .i64)))))) bg ah) ?_ ?_
 ·clear jo
  refine AJ (um (ua (Aa ?_)))
  refine Ap ?_
  refine Bb (fun fy e1 F1 L1 => ∃ (cf : List ((Int × Int) × (Int × Int × Int × Int × Int))) (ab : Int) (bu : Array MapEntry) (bw : Nat), Er walks Af Ae start Ab Ax AE BH BX ok fy cf ab = some ah ∧ AN F F1 ∧ L1 = [(b9, ce #[.map (some b3)] 166), (b3, .map bu bw), (b2, ce #[.func (.func JB) Jy JT] 137), (b1, ce #[pO FO] 113)] ∧ e1.sub [(1, vI BX), (3, pO b1), (5, pO b2), (9, pO b9), (10, vI ab)] ∧ IH (vA (cP (cI .i64) (cI .i64))) (vA (cP (cI .i64) (cP (cI .i64) (cP (cI .i64) (cP (cI .i64) (cI .i64)))))) bu cf) FU (m0 kr ⟨met, BX, lq, lr, lu, AN.refl _, rfl, z5, jn⟩) ?_
  rintro fy e1 jq _ ⟨cf, ab, bu, bw, en, bj, rfl, gg, di⟩
  refine Az _ gg ?_
  replace aw := aw.m2 bj
  replace aj := aj.m2 bj
  replace ai := ai.m3 bj
  replace ay := ay.m4 bj
  replace bd := bd.mono bj
  replace aq := bj _ _ aq
  rcases fy with _ | fy
  ·rw [Er] at en; cases en
  rw [Er] at en
  refine Aq (AJ (um ?_))
  refine uv (CQ rfl rfl) (Aa ?_)
  refine cQ (fun gh => ?_) fun gh => ?_
  ·have lv := A5 en gh
   refine Ao ?_
   obtain ⟨dk, jr, js⟩ := Av lv
   refine AU (fun e1 F1 L1 => ∃ (cg : Array MapEntry) (dm : Nat), AN jq F1 ∧ L1 = [(b9, ce #[.map (some b3)] 166), (b3, .map cg dm), (b2, ce #[.func (.func JB) Jy JT] 137), (b1, ce #[pO FO] 113)] ∧ e1.sub [(1, vI BX), (3, pO b1), (5, pO b2), (9, pO b9), (10, vI ab)] ∧ IH (vA (cP (cI .i64) (cI .i64))) (vA (cP (cI .i64) (cP (cI .i64) (cP (cI .i64) (cP (cI .i64) (cI .i64)))))) cg dk) ?_ ?_
   ·clear js
    refine Ap ?_
    refine Aq (AJ (um (um ?_)))
    refine uv (Pc rfl rfl) (uv (Bt rfl rfl) (Aa ?_))
    refine cQ (fun gi => ?_) fun gi => ?_
    ·have lx := A5 jr gi
     refine AI (Am ?_)
     refine At ?_
     obtain rfl := AP lx
     exact mi kr ⟨bu, bw, AN.refl _, rfl, z5, di⟩
    have ly := A4 jr gi
    refine Ao (AJ ?_)
    refine uv (BM isAgg113 3) (uv (A9 rfl) (uv (Ah Gv rfl) (uv (Ah Df rfl) (uv (AG isAgg23 rfl (Has.frozen aq) (DN (Au (A := ([sL Aj walks.length Ai] : List Value)) (k := 1) (o := 0) rfl (BJ (B := ([vI Ae] : List Value) ++ (([vI start] : List Value) ++ (([sL Ad Ab.length Ac] : List Value) ++ (Ax.flatMap (cI .i64) ++ (([sL A3 AE.length A2] : List Value) ++ (BH.flatMap (cI .i64))))))) rfl)))) (uv (AQ underlying23 rfl) ?_)))))
    refine um (Aa ?_)
    refine Ap ?_
    refine Bb (fun jt e1 F1 L1 => LA Af jt fun tl k => ∃ (ae : List ((Int × Int) × (Int × Int × Int × Int × Int))) (bm : Array MapEntry) (bx : Nat), Es walks Af Ae start Ab Ax AE BH ok ab tl k ae = some dk ∧ AN jq F1 ∧ L1 = [(b9, ce #[.map (some b3)] 166), (b3, .map bm bx), (b2, ce #[.func (.func JB) Jy JT] 137), (b1, ce #[pO FO] 113)] ∧ e1.sub [(1, vI BX), (3, pO b1), (5, pO b2), (9, pO b9), (10, vI ab), (53, vI (Af.length : Int)), (54, vI k)] ∧ IH (vA (cP (cI .i64) (cI .i64))) (vA (cP (cI .i64) (cP (cI .i64) (cP (cI .i64) (cP (cI .i64) (cI .i64)))))) bm ae) _ (m0 kr ⟨_, _, rfl, Bl.start _, cf, bu, bw, ly, AN.refl _, rfl, z7, di⟩) ?_
    rintro jt e1 ma _ ⟨tl, k, gj, dp, ae, bm, bx, g0, bk, rfl, gk, cj⟩
    refine Az _ gk ?_
    replace aw := aw.m2 bk
    replace aj := aj.m2 bk
    replace ai := ai.m3 bk
    replace ay := ay.m4 bk
    replace bd := bd.mono bk
    replace aq := bk _ _ aq
    refine AJ (uv (AV rfl rfl) ?_)
    refine Aa (Aq ?_)
    refine cQ (fun ga => ?_) fun ga => ?_
    ·obtain ⟨x, oc, rfl, mb, od, gl⟩ := Bl.succ dp ga
     rw [Es] at g0
     refine Ao ?_
     obtain ⟨dq, ju, jv⟩ := Av g0
     refine AU (fun e1 F1 L1 => ∃ (ck : Array MapEntry) (dr : Nat), AN ma F1 ∧ L1 = [(b9, ce #[.map (some b3)] 166), (b3, .map ck dr), (b2, ce #[.func (.func JB) Jy JT] 137), (b1, ce #[pO FO] 113)] ∧ e1.sub [(1, vI BX), (3, pO b1), (5, pO b2), (9, pO b9), (10, vI ab), (53, vI (Af.length : Int)), (54, vI k)] ∧ IH (vA (cP (cI .i64) (cI .i64))) (vA (cP (cI .i64) (cP (cI .i64) (cP (cI .i64) (cP (cI .i64) (cI .i64)))))) ck dq) ?_ ?_
     ·clear jv
      refine Ap ?_
      refine AJ (um ?_)
      refine Bh rfl zeroValue3 ?_; intro cw mc
      refine By (i := 0) sizeOf3 rfl rfl rfl rfl (B2 rfl) (Aw rfl (BL (uv (BM isAgg3 0) (um ?_))))
      refine uv (BI (v := .agg #[vI k, vI ab]) rfl (by intro w; kernel_rfl)) ?_
      refine Bh rfl zeroValue163 ?_; intro cx me
      refine A8 (i := 0) sizeOf163 rfl rfl rfl (by simp [Value.oneCell']) rfl (B2 rfl) (Aw rfl (BL (uv (BM isAgg166 2) (uv (AZ (cs := #[vI k, vI ab]) isAgg163 sizeOf163 rfl (Has.own 0 rfl) (B2 rfl) rfl) (uv (Ee.eq (v' := .tuple #[.agg #[vI (((BK ae (k, ab)).getD (0, 0, 0, 0, 0)).1), vI (((BK ae (k, ab)).getD (0, 0, 0, 0, 0)).2.1), vI (((BK ae (k, ab)).getD (0, 0, 0, 0, 0)).2.2.1), vI (((BK ae (k, ab)).getD (0, 0, 0, 0, 0)).2.2.2.1), vI (((BK ae (k, ab)).getD (0, 0, 0, 0, 0)).2.2.2.2)], .bool ((BK ae (k, ab)).isSome)]) (N5 (k := (k, ab)) (z0 := (0, 0, 0, 0, 0)) rfl underlying166 LM zeroValue165 rfl rfl (MF.own 3 rfl) (show IH (vA (cP (cI .i64) (cI .i64))) (vA (cP (cI .i64) (cP (cI .i64) (cP (cI .i64) (cP (cI .i64) (cI .i64)))))) bm (ae : List ((Int × Int) × (Int × Int × Int × Int × Int))) from cj)) rfl) ?_)))))
      refine um (ox rfl rfl rfl (ox rfl rfl rfl ?_))
      refine Bh rfl zeroValue165 ?_; intro cy mg
      refine A8 (i := 0) sizeOf165 rfl rfl rfl (by simp [Value.oneCell']) rfl (B2 rfl) (Aw rfl ?_)
      refine ua (Aa (Aq (AJ (um ?_))))
      refine uv (Bz rfl) (Aa ?_)
      refine AR rfl (fun gm => ?_) (fun gm => ?_)
      ·have mh := bt ju gm
       refine AI (Am ?_)
       refine At ?_
       obtain rfl := AP mh
       exact mi (kd (kd (kd kr))) ⟨bm, bx, AN.refl _, rfl, z7, cj⟩
      have mj := bf ju gm
      refine Ao (AJ ?_)
      refine uv (BM isAgg113 6) (um ?_)
      obtain ⟨y, ml, mn⟩ := Av mj
      refine c0 call112 (Lz aq aw aj ai ax ay ej ml) ?_; rintro _ oe _ cn mo ⟨mq, rfl, rfl, eo⟩
      replace ai := ai.m3 cn
      replace bd := bd.mono cn
      replace aq := cn _ _ aq
      refine Aw (ln rfl) (Aa (Ap ?_))
      refine L8 (encs := (fun x : (Int × Int) × Int => #[.agg ((cP (cI .i64) (cI .i64)) x.1).toArray, vI x.2])) (xs := y) rfl call124 rfl (fun _ => rfl) eo (fun pre F1 L1 => ∃ (ei : List ((Int × Int) × Int)) (al : List ((Int × Int) × (Int × Int × Int × Int × Int))) (ar : Array MapEntry) (bb : Nat), y = pre ++ ei ∧ CK Ab Ax ok ab ae k ei al = some dq ∧ L1 = [(cy, ce #[vI (((BK ae (k, ab)).getD (0, 0, 0, 0, 0)).1), vI (((BK ae (k, ab)).getD (0, 0, 0, 0, 0)).2.1), vI (((BK ae (k, ab)).getD (0, 0, 0, 0, 0)).2.2.1), vI (((BK ae (k, ab)).getD (0, 0, 0, 0, 0)).2.2.2.1), vI (((BK ae (k, ab)).getD (0, 0, 0, 0, 0)).2.2.2.2)] 165), (cx, ce #[vI k, vI ab] 163), (cw, ce #[vI k] 3), (b9, ce #[.map (some b3)] 166), (b3, .map ar bb), (b2, ce #[.func (.func JB) Jy JT] 137), (b1, ce #[pO FO] 113)] ∧ IH (vA (cP (cI .i64) (cI .i64))) (vA (cP (cI .i64) (cP (cI .i64) (cP (cI .i64) (cP (cI .i64) (cI .i64)))))) ar al) (fun _ _ _ => False) ?_ ?_ ?_ ?_ ?_ ?_
      ·rintro pre F1 F2 L1 ⟨ei, al, ar, bb, bz, mr, rfl, bl⟩ hx; exact ⟨ei, al, ar, bb, bz, mr, rfl, bl⟩
      ·intro c F1 F2 L1 h hx; exact h
      ·exact ⟨_, ae, bm, bx, rfl, mn, rfl, cj⟩
      ·rintro og mu mv mw mx na jw nc pre x2 oh bn oi _ dt ⟨ei, al, ar, bb, bz, jx, rfl, bl⟩
       obtain rfl := Oi bz bn
       rw [CK] at jx
       replace ai := ai.m3 dt
       replace bd := bd.mono dt
       replace aq := dt _ _ aq
       refine Az [(1, vI BX), (3, pO b1), (5, pO b2), (9, pO b9), (10, vI ab), (11, pO cw), (12, pO cx), (13, pO cy), (53, vI (Af.length : Int)), (54, vI k), (71, .agg #[vI x2.1.1, vI x2.1.2]), (72, vI x2.2)] (by exact (sc rfl (sc rfl (sc rfl (sc rfl z8))))) (AJ ?_)
       refine Bh rfl zeroValue29 ?_; intro gn nf
       refine A8 (i := 0) sizeOf29 rfl rfl rfl (by simp [Value.oneCell']) rfl (B2 rfl) (Aw rfl ?_)
       refine Aa (An (ua (Aa ?_)))
       refine ⟨rfl, ?_⟩
       refine Ap (dW (wv (BM isAgg113 7) (wv (BM isAgg3 3) (wv (Ah J6 rfl) (wv (BM isAgg3 0) (wv (A9 rfl) (wv (Ah Gg rfl) ?_)))))))
       obtain ⟨jz, ng⟩ := AB jx
       refine wv (Bs underlying118 sizeOf116 rfl rfl jz) ?_
       obtain ⟨kb, nh⟩ := AB ng
       obtain ⟨x3, oj, gp, kh⟩ := Bi nh
       have gq : (k * 5 + x2.1.1 : Int).toNat = (k : Int).toNat * 5 + (x2.1.1 : Int).toNat := by have := jz; have := kb; omega
       have gr := H6 (Bj .i64) ax gq gp (HH (Au (A := ([sL Aj walks.length Ai] : List Value)) (k := 1) (o := 4) rfl (Au (A := ([sL Ak Af.length Al] : List Value)) (k := 1) (o := 3) rfl (Au (A := ([vI Ae] : List Value)) (k := 1) (o := 2) rfl (Au (A := ([vI start] : List Value)) (k := 1) (o := 1) rfl (Au (A := ([sL Ad Ab.length Ac] : List Value)) (k := 1) (o := 0) rfl (BJ (B := ([sL A3 AE.length A2] : List Value) ++ (BH.flatMap (cI .i64))) (IG (Bj .i64) ax)))))))) (Iy (Au (A := ([sL Aj walks.length Ai] : List Value)) (k := 1) (o := 4) rfl (Au (A := ([sL Ak Af.length Al] : List Value)) (k := 1) (o := 3) rfl (Au (A := ([vI Ae] : List Value)) (k := 1) (o := 2) rfl (Au (A := ([vI start] : List Value)) (k := 1) (o := 1) rfl (Au (A := ([sL Ad Ab.length Ac] : List Value)) (k := 1) (o := 0) rfl (BJ (B := ([sL A3 AE.length A2] : List Value) ++ (BH.flatMap (cI .i64))) (IG (Bj .i64) ax))))))))
       refine wv (Bs underlying116 sizeOf3 rfl rfl kb) (wv (AG isAgg3 rfl (Has.frozen aq) ((gr).2.2 0 (by decide))) ?_)
       refine wa (B1 (Aq (AJ (um ?_))))
       refine uv (BO rfl rfl) (Aa ?_)
       refine cQ (fun gu => ?_) fun gu => ?_
       ·have ni := A5 kh gu
        refine AI (Am ?_)
        refine At ?_
        refine ⟨[(cy, ce #[vI (((BK ae (k, ab)).getD (0, 0, 0, 0, 0)).1), vI (((BK ae (k, ab)).getD (0, 0, 0, 0, 0)).2.1), vI (((BK ae (k, ab)).getD (0, 0, 0, 0, 0)).2.2.1), vI (((BK ae (k, ab)).getD (0, 0, 0, 0, 0)).2.2.2.1), vI (((BK ae (k, ab)).getD (0, 0, 0, 0, 0)).2.2.2.2)] 165), (cx, ce #[vI k, vI ab] 163), (cw, ce #[vI k] 3), (b9, ce #[.map (some b3)] 166), (b3, .map ar bb), (b2, ce #[.func (.func JB) Jy JT] 137), (b1, ce #[pO FO] 113)], ⟨_, .refl _, s1 (s2 (s2 (s2 (s2 (s2 (s2 (s2 sr)))))))⟩, ?_⟩; exact ⟨_, al, ar, bb, (by rw [bn]; simp), ni, rfl, bl⟩
       have nj := A4 kh gu
       refine Ao (dW (wv (Ah MU rfl) (wv (BM isAgg3 1) (wm ?_))))
       obtain ⟨nk, nn⟩ := AB nj
       refine wv (A0 rfl rfl nk) (wv (BM isAgg113 7) (wv (A9 rfl) (wv (Ah Gv rfl) (wv (Ah BF rfl) (wv (AG isAgg24 rfl (Has.frozen aq) (DN (Au (A := ([sL Aj walks.length Ai] : List Value)) (k := 1) (o := 3) rfl (Au (A := ([sL Ak Af.length Al] : List Value)) (k := 1) (o := 2) rfl (Au (A := ([vI Ae] : List Value)) (k := 1) (o := 1) rfl (Au (A := ([vI start] : List Value)) (k := 1) (o := 0) rfl (BJ (B := Ax.flatMap (cI .i64) ++ (([sL A3 AE.length A2] : List Value) ++ (BH.flatMap (cI .i64)))) rfl))))))) (wv (Ah KW rfl) (wv (BM isAgg3 0) ?_)))))))
       obtain ⟨x4, kj, ep, gv⟩ := Bi nn
       obtain ⟨np, nq, nr, kl, er, et, gw, ⟨_, _, rfl, ⟨ns, nt, rfl, nu⟩, ⟨_, _, rfl, rfl, rfl⟩⟩, km, eu⟩ := Ar.at kN ai ([(gn, ce #[vI x2.1.1, vI x2.1.2] 29), (cy, ce #[vI (((BK ae (k, ab)).getD (0, 0, 0, 0, 0)).1), vI (((BK ae (k, ab)).getD (0, 0, 0, 0, 0)).2.1), vI (((BK ae (k, ab)).getD (0, 0, 0, 0, 0)).2.2.1), vI (((BK ae (k, ab)).getD (0, 0, 0, 0, 0)).2.2.2.1), vI (((BK ae (k, ab)).getD (0, 0, 0, 0, 0)).2.2.2.2)] 165), (cx, ce #[vI k, vI ab] 163), (cw, ce #[vI k] 3), (b9, ce #[.map (some b3)] 166), (b3, .map ar bb), (b2, ce #[.func (.func JB) Jy JT] 137), (b1, ce #[pO FO] 113)]) kj.1 ep
       refine wv (Cx underlying24 sizeOf35 er kj) (wv (Ah KO rfl) (wv (AG isAgg3 rfl et (eu 1 (by decide))) ?_))
       obtain ⟨gz, ia⟩ := AB gv
       refine wv (A0 rfl rfl gz) ?_
       obtain ⟨end_, ib, ic⟩ := BC ia
       refine wv ((BB rfl).i ib) (Sn (uv (Ah J6 rfl) (uv (BM isAgg3 0) (um ?_))))
       refine uv (BI (v := .agg #[vI x2.1.1, vI x2.2]) rfl (by intro w; kernel_rfl)) ?_
       refine Bh rfl zeroValue163 ?_; intro ew ko
       refine A8 (i := 0) sizeOf163 rfl rfl rfl (by simp [Value.oneCell']) rfl (B2 rfl) (Aw rfl (BL (uv (BM isAgg166 5) (uv (AZ (cs := #[vI x2.1.1, vI x2.2]) isAgg163 sizeOf163 rfl (Has.own 0 rfl) (B2 rfl) rfl) (uv (Ee.eq (v' := .tuple #[.agg #[vI (((BK al (x2.1.1, x2.2)).getD (0, 0, 0, 0, 0)).1), vI (((BK al (x2.1.1, x2.2)).getD (0, 0, 0, 0, 0)).2.1), vI (((BK al (x2.1.1, x2.2)).getD (0, 0, 0, 0, 0)).2.2.1), vI (((BK al (x2.1.1, x2.2)).getD (0, 0, 0, 0, 0)).2.2.2.1), vI (((BK al (x2.1.1, x2.2)).getD (0, 0, 0, 0, 0)).2.2.2.2)], .bool ((BK al (x2.1.1, x2.2)).isSome)]) (N5 (k := (x2.1.1, x2.2)) (z0 := (0, 0, 0, 0, 0)) rfl underlying166 LM zeroValue165 rfl rfl (MF.own 6 rfl) (show IH (vA (cP (cI .i64) (cI .i64))) (vA (cP (cI .i64) (cP (cI .i64) (cP (cI .i64) (cP (cI .i64) (cI .i64)))))) ar (al : List ((Int × Int) × (Int × Int × Int × Int × Int))) from bl)) rfl) ?_)))))
       refine um (ox rfl rfl rfl (ox rfl rfl rfl ?_))
       refine Bh rfl zeroValue165 ?_; intro nv kt
       refine A8 (i := 0) sizeOf165 rfl rfl rfl (by simp [Value.oneCell']) rfl (B2 rfl) (Aw rfl ?_)
       refine ua (Aa ?_)
       obtain ⟨k2, ie, du⟩ := Av ic
       refine jE ([(ew, ce #[vI x2.1.1, vI x2.2] 163), (gn, ce #[vI x2.1.1, vI x2.1.2] 29), (cy, ce #[vI (((BK ae (k, ab)).getD (0, 0, 0, 0, 0)).1), vI (((BK ae (k, ab)).getD (0, 0, 0, 0, 0)).2.1), vI (((BK ae (k, ab)).getD (0, 0, 0, 0, 0)).2.2.1), vI (((BK ae (k, ab)).getD (0, 0, 0, 0, 0)).2.2.2.1), vI (((BK ae (k, ab)).getD (0, 0, 0, 0, 0)).2.2.2.2)] 165), (cx, ce #[vI k, vI ab] 163), (cw, ce #[vI k] 3), (b9, ce #[.map (some b3)] 166), (b3, .map ar bb), (b2, ce #[.func (.func JB) Jy JT] 137), (b1, ce #[pO FO] 113)]) [(1, vI BX), (3, pO b1), (5, pO b2), (9, pO b9), (10, vI ab), (11, pO cw), (12, pO cx), (13, pO cy), (15, pO gn), (18, vI end_), (19, pO ew), (53, vI (Af.length : Int)), (54, vI k), (71, .agg #[vI x2.1.1, vI x2.1.2]), (72, vI x2.2), (124, .bool k2)] ?_ ?_
       ·clear du
        refine An (uv (Ah Qr rfl) (uv (BM isAgg135 8) (uv (Ah KW rfl) (uv (BM isAgg3 2) (um ?_)))))
        obtain ⟨nw, ig, ey⟩ := Av ie
        refine I0 rfl bd.1 rfl rfl rfl (bd.2 _ (AN.refl _) _ _ _ ⟨_, _, rfl, rfl, rfl⟩ ig) (um ?_)
        rcases EE nw with au | au
        ·have ez := bt ey au
         refine nB au (um (nB au ?_))
         refine uv (Bz rfl) ?_
         refine nB au (um ?_)
         rcases EE (!((BK al (x2.1.1, x2.2)).isSome)) with az | az
         ·have ij := bt ez az
          refine fB az (fB az (fB az (fB az (nB au ?_))))
          refine uv (AF (Gl rfl az) rfl) (uv (AF (Gl rfl au) rfl) (Aa ?_))
          obtain rfl := AP ij
          exact mi (kd kr) ⟨rfl, rfl, (sc rfl (sc rfl (sc rfl (sc rfl (sc rfl (sc rfl (sc rfl (sc rfl z8))))))))⟩
         have ik := bf ez az
         refine nB az (um (nB az ?_))
         refine uv (Ah MU rfl) (nB az (uv (BM isAgg3 0) (nB az (uv (AV rfl rfl) (nB au (uv (AD (Gl rfl az) rfl) (uv (AF (Gl rfl au) rfl) ?_)))))))
         refine Aa ?_
         obtain rfl := AP ik
         exact mi (kd kr) ⟨rfl, rfl, (sc rfl (sc rfl (sc rfl (sc rfl (sc rfl (sc rfl (sc rfl (sc rfl z8))))))))⟩
        have il := bf ey au
        refine fB au (fB au (fB au (fU (fU (fU (fU (fB au ?_)))))))
        refine uv (AD (Gl rfl au) rfl) (Aa ?_)
        obtain rfl := AP il
        exact mi (kd kr) ⟨rfl, rfl, (sc rfl (sc rfl (sc rfl (sc rfl (sc rfl (sc rfl (sc rfl (sc rfl z8))))))))⟩
       refine AR rfl (fun dv => ?_) (fun dv => ?_)
       ·have im := bt du dv
        refine An (uv (BM isAgg166 5) (uv (AZ (cs := #[vI x2.1.1, vI x2.2]) isAgg163 sizeOf163 rfl (Has.own 0 rfl) (B2 rfl) rfl) (um (uv (AZ (cs := #[vI x2.1.1, vI x2.1.2]) isAgg29 sizeOf29 rfl (Has.own 1 rfl) (B2 rfl) rfl) (uv (AZ (cs := #[vI k, vI ab]) isAgg163 sizeOf163 rfl (Has.own 3 rfl) (B2 rfl) rfl) ?_)))))
        refine uv (BI (v := .agg #[vI end_, vI x2.1.1, vI x2.1.2, vI k, vI ab]) rfl (by intro w; kernel_rfl)) ?_
        refine Ph (i := 6) (k := (x2.1.1, x2.2)) (v := (end_, x2.1.1, x2.1.2, k, ab)) underlying166 LM rfl rfl rfl rfl (show IH (vA (cP (cI .i64) (cI .i64))) (vA (cP (cI .i64) (cP (cI .i64) (cP (cI .i64) (cP (cI .i64) (cI .i64)))))) ar (al : List ((Int × Int) × (Int × Int × Int × Int × Int))) from bl) ?_; intro cz da db
        obtain ⟨iq, ir, iu⟩ := BC im
        rw [← ir] at db
        refine Aw rfl ?_
        refine Aa (Ay (id := 5) ?_)
        refine ⟨[(cy, ce #[vI (((BK ae (k, ab)).getD (0, 0, 0, 0, 0)).1), vI (((BK ae (k, ab)).getD (0, 0, 0, 0, 0)).2.1), vI (((BK ae (k, ab)).getD (0, 0, 0, 0, 0)).2.2.1), vI (((BK ae (k, ab)).getD (0, 0, 0, 0, 0)).2.2.2.1), vI (((BK ae (k, ab)).getD (0, 0, 0, 0, 0)).2.2.2.2)] 165), (cx, ce #[vI k, vI ab] 163), (cw, ce #[vI k] 3), (b9, ce #[.map (some b3)] 166), (b3, .map cz da), (b2, ce #[.func (.func JB) Jy JT] 137), (b1, ce #[pO FO] 113)], ⟨_, .refl _, s1 (s1 (s2 (s2 (s2 (s2 (s2 (s2 (s2 sr))))))))⟩, ?_⟩; exact ⟨_, iq, cz, da, (by rw [bn]; simp), iu, rfl, db⟩
       have iv := bf du dv
       refine Ao (Ay (id := 5) ?_)
       refine ⟨[(cy, ce #[vI (((BK ae (k, ab)).getD (0, 0, 0, 0, 0)).1), vI (((BK ae (k, ab)).getD (0, 0, 0, 0, 0)).2.1), vI (((BK ae (k, ab)).getD (0, 0, 0, 0, 0)).2.2.1), vI (((BK ae (k, ab)).getD (0, 0, 0, 0, 0)).2.2.2.1), vI (((BK ae (k, ab)).getD (0, 0, 0, 0, 0)).2.2.2.2)] 165), (cx, ce #[vI k, vI ab] 163), (cw, ce #[vI k] 3), (b9, ce #[.map (some b3)] 166), (b3, .map ar bb), (b2, ce #[.func (.func JB) Jy JT] 137), (b1, ce #[pO FO] 113)], ⟨_, .refl _, s1 (s1 (s2 (s2 (s2 (s2 (s2 (s2 (s2 sr))))))))⟩, ?_⟩; exact ⟨_, al, ar, bb, (by rw [bn]; simp), iv, rfl, bl⟩
      ·rintro ny _ fa ⟨ei, al, ar, bb, bz, fb, rfl, bl⟩
       obtain rfl := O2 bz; rw [CK] at fb
       refine Ay (id := 4) (Ay (id := 3) ?_)
       obtain rfl := AP fb
       exact mi (kd (kd (kd kr))) ⟨ar, bb, (cn.trans fa), rfl, z7, bl⟩
      intro c F1 L1 hx h; exact h.elim
     rintro e1 nz _ ⟨ck, dr, dd, rfl, fe, iw⟩
     refine Az _ fe ?_
     replace aj := aj.m2 dd
     refine An (uv (A0 rfl rfl (Bl.Cs dp ga (Ar.lt aj))) ?_)
     refine um (Aa ?_)
     subst gj; exact le kr ⟨_, _, rfl, gl, dq, ck, dr, jv, (bk.trans dd), rfl, z7, iw⟩
    obtain rfl := Bl.zero dp ga
    rw [Es] at g0
    refine AI (Am (Am ?_))
    refine At (Ay (id := 1) ?_)
    obtain rfl := AP g0
    exact mi kr ⟨bm, bx, bk, rfl, z5, cj⟩
   rintro e1 o0 _ ⟨cg, dm, ff, rfl, fg, iy⟩
   refine Az _ fg ?_
   refine An (um ?_)
   obtain ⟨iz, j0⟩ := AB js
   refine uv (DP rfl rfl iz) ?_
   refine ua (Aa ?_)
   exact le kr ⟨dk, ab - 1, cg, dm, j0, (bj.trans ff), rfl, z5, iy⟩
  have j1 := A4 en gh
  refine AI (Am (Am ?_))
  refine At ?_
  obtain rfl := AP j1
  exact mi (kc (kc (kd kr))) ⟨bu, bw, bj, rfl, z3, di⟩
 rintro e1 dw _ ⟨bg, br, de, rfl, fh, fi⟩
 refine Az _ fh ?_
 replace aj := aj.m2 de
 replace aq := de _ _ aq
 refine AJ ?_
 refine uv (BI (v := .agg #[vI (-1), vI 0]) rfl (by intro w; kernel_rfl)) ?_
 refine Bh rfl zeroValue163 ?_; intro bh ku
 refine A8 (i := 0) sizeOf163 rfl rfl rfl (by simp [Value.oneCell']) rfl (B2 rfl) (Aw rfl ?_)
 refine ua (Aa ?_)
 obtain ⟨ba, minute, j2, dx⟩ := BT jo
 refine jE ([(bh, ce #[vI ba, vI 0] 163), (b9, ce #[.map (some b3)] 166), (b3, .map bg br)]) [(1, vI BX), (9, pO b9), (22, pO bh), (23, vI minute)] ?_ ?_
 ·clear dx
  refine AJ (uv (BM isAgg113 3) (uv (A9 rfl) (uv (Ah Gv rfl) (uv (Ah Df rfl) (uv (AG isAgg23 rfl (Has.frozen aq) (DN (Au (A := ([sL Aj walks.length Ai] : List Value)) (k := 1) (o := 0) rfl (BJ (B := ([vI Ae] : List Value) ++ (([vI start] : List Value) ++ (([sL Ad Ab.length Ac] : List Value) ++ (Ax.flatMap (cI .i64) ++ (([sL A3 AE.length A2] : List Value) ++ (BH.flatMap (cI .i64))))))) rfl)))) (uv (AQ underlying23 rfl) ?_))))))
  refine um (Aa ?_)
  refine Ap (kW (kc (kc (kc kn))) ?_)
  refine Bb (fun kv e1 F1 L1 => LA Af kv fun kz k3 => ∃ (ak : Int) (ao : Int), Dn ah kz k3 ak ao = some (ba, minute) ∧ dw = F1 ∧ L1 = [(bh, ce #[vI ak, vI 0] 163), (b9, ce #[.map (some b3)] 166), (b3, .map bg br)] ∧ e1.sub [(1, vI BX), (9, pO b9), (22, pO bh), (23, vI ao), (138, vI (Af.length : Int)), (139, vI k3)]) _ (m0 kr ⟨_, _, rfl, Bl.start _, -1, -1, j2, rfl, rfl, z6⟩) ?_
  rintro kv e1 _ _ ⟨kz, k3, df, bo, ak, ao, cp, rfl, rfl, fj⟩
  refine Az _ fj (AJ (uv (AV rfl rfl) ?_))
  refine Aa (Aq ?_)
  refine cQ (fun cb => ?_) fun cb => ?_
  ·obtain ⟨x5, oo, rfl, l0, o1, dg⟩ := Bl.succ bo cb
   rw [Dn] at cp
   refine Ao (Aq ?_)
   refine Ap ?_
   refine AJ (um (ua (BL ?_)))
   refine uv (BM isAgg166 1) (um ?_)
   refine uv (BI (v := .agg #[vI k3, vI 0]) rfl (by intro w; kernel_rfl)) ?_
   refine uv (Ee.eq (v' := .tuple #[.agg #[vI (((BK ah (k3, 0)).getD (0, 0, 0, 0, 0)).1), vI (((BK ah (k3, 0)).getD (0, 0, 0, 0, 0)).2.1), vI (((BK ah (k3, 0)).getD (0, 0, 0, 0, 0)).2.2.1), vI (((BK ah (k3, 0)).getD (0, 0, 0, 0, 0)).2.2.2.1), vI (((BK ah (k3, 0)).getD (0, 0, 0, 0, 0)).2.2.2.2)], .bool ((BK ah (k3, 0)).isSome)]) (N5 (k := (k3, 0)) (z0 := (0, 0, 0, 0, 0)) rfl underlying166 LM zeroValue165 rfl rfl (MF.own 2 rfl) (show IH (vA (cP (cI .i64) (cI .i64))) (vA (cP (cI .i64) (cP (cI .i64) (cP (cI .i64) (cP (cI .i64) (cI .i64)))))) bg (ah : List ((Int × Int) × (Int × Int × Int × Int × Int))) from fi)) rfl) ?_
   refine um (ox rfl rfl rfl (ox rfl rfl rfl ?_))
   refine Bh rfl zeroValue165 ?_; intro fk la
   refine A8 (i := 0) sizeOf165 rfl rfl rfl (by simp [Value.oneCell']) rfl (B2 rfl) (Aw rfl ?_)
   refine ua (Aa ?_)
   obtain ⟨k4, fl, dy⟩ := Av cp
   refine jE ([(fk, ce #[vI (((BK ah (k3, 0)).getD (0, 0, 0, 0, 0)).1), vI (((BK ah (k3, 0)).getD (0, 0, 0, 0, 0)).2.1), vI (((BK ah (k3, 0)).getD (0, 0, 0, 0, 0)).2.2.1), vI (((BK ah (k3, 0)).getD (0, 0, 0, 0, 0)).2.2.2.1), vI (((BK ah (k3, 0)).getD (0, 0, 0, 0, 0)).2.2.2.2)] 165), (bh, ce #[vI ak, vI 0] 163), (b9, ce #[.map (some b3)] 166), (b3, .map bg br)]) [(1, vI BX), (9, pO b9), (22, pO bh), (23, vI ao), (24, vI k3), (25, pO fk), (138, vI (Af.length : Int)), (139, vI k3), (159, .bool k4)] ?_ ?_
   ·clear dy
    refine An (um (um ?_))
    rcases EE ((BK ah (k3, 0)).isSome) with av | av
    ·have fm := bt fl av
     refine nB av (um (nB av ?_))
     refine uv (BO rfl rfl) ?_
     refine nB av (um ?_)
     by_cases bc : ao = (-1)
     ·have j3 := A5 fm bc
      refine fT bc (fT bc (fT bc (fT bc (nB av ?_))))
      refine uv (AF (AX rfl bc) rfl) (uv (AF (Gl rfl av) rfl) (Aa ?_))
      obtain rfl := AP j3
      exact mi kr ⟨rfl, rfl, (sc rfl z8)⟩
     have j4 := A4 fm bc
     refine nF bc (uv (Ah MU rfl) (nF bc (uv (BM isAgg3 0) ?_)))
     refine nF bc (um (nF bc ?_))
     refine uv (AV rfl rfl) (nB av (uv (AD (AL rfl bc) rfl) (uv (AF (Gl rfl av) rfl) (Aa ?_))))
     obtain rfl := AP j4
     exact mi kr ⟨rfl, rfl, (sc rfl z8)⟩
    have j5 := bf fl av
    refine fB av (fB av (fB av (fU (fU (fU (fU (fB av ?_)))))))
    refine uv (AD (Gl rfl av) rfl) (Aa ?_)
    obtain rfl := AP j5
    exact mi kr ⟨rfl, rfl, (sc rfl z8)⟩
   refine AR rfl (fun dz => ?_) (fun dz => ?_)
   ·have j6 := bt dy dz
    refine Bg [(.still, 0), (.still, 1), (.still, 2), (.still, 3), (.seq, 4), (.seq, 5)] (by kernel_rfl) (by kernel_rfl) (trivial) (by rfl) (by kernel_rfl) (mS [24] rfl (AO rfl) ?_)
    refine mS (v := .agg #[vI k3, vI 0]) [160] rfl (BI (v := .agg #[vI k3, vI 0]) rfl (by intro w; kernel_rfl)) ?_
    refine mS [25] rfl (Ah MU rfl) (mK [162] isAgg3 0 rfl rfl rfl rfl ?_)
    refine ⟨_, [(22, pO bh), (161, .agg #[vI k3, vI 0])], rfl, rfl, z2, by kernel_rfl, ?_⟩; intro H
    refine A8 (i := 1) sizeOf163 rfl rfl rfl (by simp [Value.oneCell']) rfl (B2 rfl) (Aw rfl ?_)
    refine Aa ⟨undef, rfl, AN.refl _, [3, 2], by kernel_rfl, .inl (.inr (fun d h => by cases h)), (fc (s0 (s2 (s1 (s1 (s1 sr))))) (fc sm nm)), ?_⟩
    refine ⟨_, [(163, vI (((BK ah (k3, 0)).getD (0, 0, 0, 0, 0)).1))], rfl, rfl, z1, by kernel_rfl, ?_⟩; intro H
    obtain ⟨cq, j7, j8⟩ := BC j6
    refine uv ((BB rfl).i j7) ?_
    refine Aa ⟨_, rfl, AN.refl _, [], by kernel_rfl, .inl (.inl rfl), nm, ?_⟩
    refine Bo ?_
    refine Ay (id := 7) (An ?_)
    refine uv (A0 rfl rfl (Bl.Cs bo cb (Ar.lt aj))) ?_
    refine um (Aa ?_)
    subst df; exact le (kd kr) ⟨_, _, rfl, dg, k3, cq, j8, rfl, rfl, z6⟩
   have j9 := bf dy dz
   refine Ao (Ay (id := 7) (An ?_))
   refine uv (A0 rfl rfl (Bl.Cs bo cb (Ar.lt aj))) ?_
   refine um (Aa ?_)
   subst df; exact le (kd kr) ⟨_, _, rfl, dg, ak, ao, j9, rfl, rfl, z6⟩
  obtain rfl := Bl.zero bo cb
  rw [Dn] at cp
  refine AI (Am (Am ?_))
  refine At ?_
  obtain ⟨rfl, rfl⟩ := B9 cp
  exact mi kr ⟨rfl, rfl, z4⟩
 refine Aq (AJ (um ?_))
 refine uv (BO rfl rfl) (Aa ?_)
 refine cQ (fun eb => ?_) fun eb => ?_
 ·have ja := A5 dx eb
  refine AJ (ua (ua (ua (Aa ?_))))
  refine kW kn ?_
  refine AA (As ?_)
  refine HW results88 (AH rfl) (AH rfl) (AH rfl) (sr) ?_
  obtain ⟨rfl, rfl, rfl⟩ := Kw ja
  exact ⟨_, _, _, [], rfl, rfl, AM.nil _ _ _ _ _⟩
 have jb := A4 dx eb
 refine Ao (AJ (ua (Aa ?_)))
 obtain ⟨out, jc, fo⟩ := Av jb
 refine AU (fun e1 F1 L1 => ∃ (ec : Option Addr) (ef : Nat) (eg : Nat) (bp : LH), dw = F1 ∧ L1 = (bp ++ []) ∧ e1.sub [(23, vI minute), (27, sL ec ef eg)] ∧ AM K.w0.heap.size 29 2 eP F1 ec ef eg out bp) ?_ ?_
 ·clear fo
  refine Ap ?_
  refine Bb (fun gb e1 F1 L1 => ∃ (aa : Int) (ad : Int) (cr : List (Int × Int)) (ct : Option Addr) (cu : Nat) (cv : Nat) (bq : LH), Em BX ah gb aa ad cr = some out ∧ dw = F1 ∧ L1 = ((bh, ce #[vI aa, vI ad] 163) :: ((b9, ce #[.map (some b3)] 166) :: ((b3, .map bg br) :: (bq ++ [])))) ∧ e1.sub [(1, vI BX), (9, pO b9), (22, pO bh), (23, vI minute), (27, sL ct cu cv)] ∧ AM K.w0.heap.size 29 2 eP F1 ct cu cv cr bq) FU (m0 (kc (kc (kc (ke kr)))) ⟨ba, 0, [], none, 0, 0, [], jc, rfl, rfl, z5, AM.nil _ _ _ _ _⟩) ?_
  rintro gb e1 _ _ ⟨aa, ad, cr, ct, cu, cv, bq, cc, rfl, rfl, fp, dh⟩
  refine Az _ fp ?_
  rcases gb with _ | gb
  ·rw [Em] at cc; cases cc
  rw [Em] at cc
  refine Aq (AJ ?_)
  refine uv (Ah QI rfl) (uv (BM isAgg3 0) (um (uv (Bt rfl rfl) (Aa ?_))))
  refine cQ (fun eh => ?_) fun eh => ?_
  ·have jd := A5 cc eh
   refine Ao (Ap (AJ (uv (BM isAgg166 1) (uv (AZ (cs := #[vI aa, vI ad]) isAgg163 sizeOf163 rfl (Has.own 0 rfl) (B2 rfl) rfl) (uv (Ee.eq (v' := .agg #[vI (((BK ah (aa, ad)).getD (0, 0, 0, 0, 0)).1), vI (((BK ah (aa, ad)).getD (0, 0, 0, 0, 0)).2.1), vI (((BK ah (aa, ad)).getD (0, 0, 0, 0, 0)).2.2.1), vI (((BK ah (aa, ad)).getD (0, 0, 0, 0, 0)).2.2.2.1), vI (((BK ah (aa, ad)).getD (0, 0, 0, 0, 0)).2.2.2.2)]) (QR (k := (aa, ad)) (z0 := (0, 0, 0, 0, 0)) rfl underlying166 LM zeroValue165 rfl rfl (MF.own 2 rfl) (show IH (vA (cP (cI .i64) (cI .i64))) (vA (cP (cI .i64) (cP (cI .i64) (cP (cI .i64) (cP (cI .i64) (cI .i64)))))) bg (ah : List ((Int × Int) × (Int × Int × Int × Int × Int))) from fi)) rfl) ?_)))))
   refine Bh rfl zeroValue165 ?_; intro o2 ld
   refine A8 (i := 0) sizeOf165 rfl rfl rfl (by simp [Value.oneCell']) rfl (B2 rfl) (Aw rfl ?_)
   refine BL (um ?_)
   refine uv (Ah QT rfl) (uv (AZ (cs := #[vI (((BK ah (aa, ad)).getD (0, 0, 0, 0, 0)).2.1), vI (((BK ah (aa, ad)).getD (0, 0, 0, 0, 0)).2.2.1)]) isAgg29 sizeOf29 rfl (Has.own 0 rfl) (B2 rfl) rfl) ?_)
   refine bA (cs := #[vI (((BK ah (aa, ad)).getD (0, 0, 0, 0, 0)).2.1), vI (((BK ah (aa, ad)).getD (0, 0, 0, 0, 0)).2.2.1)]) Nj [.agg #[vI (((BK ah (aa, ad)).getD (0, 0, 0, 0, 0)).2.1), vI (((BK ah (aa, ad)).getD (0, 0, 0, 0, 0)).2.2.1)]] ?_; intro o3 lg
   obtain ⟨fq, je, jf, jg⟩ := DS jd
   refine Cq (xs := cr) (ys := [(((BK ah (aa, ad)).getD (0, 0, 0, 0, 0)).2.1, ((BK ah (aa, ad)).getD (0, 0, 0, 0, 0)).2.2.1)]) (zs := fq) rfl Nj rfl rfl (Nat.le_refl _) (fun _ => .c (.c (.c (.c (.c .h))))) dh (Fg.box (vss := [[vI (((BK ah (aa, ad)).getD (0, 0, 0, 0, 0)).2.1), vI (((BK ah (aa, ad)).getD (0, 0, 0, 0, 0)).2.2.1)]]) (ys := [(((BK ah (aa, ad)).getD (0, 0, 0, 0, 0)).2.1, ((BK ah (aa, ad)).getD (0, 0, 0, 0, 0)).2.2.1)]) 0 rfl kP (.cons ⟨_, _, rfl, rfl, rfl⟩ .nil) rfl rfl) je jf (by decide) ?_; intro jh ji jj fs ft
   refine kO (kd kr) ?_
   refine ua (Aa (An ?_))
   refine uv (Ah QQ rfl) (uv (AZ (cs := #[vI (((BK ah (aa, ad)).getD (0, 0, 0, 0, 0)).2.2.2.1), vI (((BK ah (aa, ad)).getD (0, 0, 0, 0, 0)).2.2.2.2)]) isAgg163 sizeOf163 rfl (Has.own 0 rfl) (B2 rfl) rfl) (A8 (i := 1) sizeOf163 rfl rfl rfl (by simp [Value.oneCell']) rfl (B2 rfl) (Aw rfl ?_)))
   refine Aa (Ay (id := 9) ?_)
   exact le (kd kr) ⟨((BK ah (aa, ad)).getD (0, 0, 0, 0, 0)).2.2.2.1, ((BK ah (aa, ad)).getD (0, 0, 0, 0, 0)).2.2.2.2, fq, jh, ji, jj, fs, jg, rfl, rfl, z5, ft⟩
  have jk := A4 cc eh
  refine AI (Am (Am ?_))
  refine At ?_
  obtain rfl := AP jk
  exact mi (kd (kd (kd kr))) ⟨ct, cu, cv, bq, rfl, rfl, z2, dh⟩
 rintro e1 _ _ ⟨ec, ef, eg, bp, rfl, rfl, fv, fw⟩
 refine Az _ fv ?_
 refine AJ (um ?_)
 obtain ⟨s_, jl, jm⟩ := Av fo
 refine Mx (Lb := bp ++ []) (Lr := []) rfl call113 rfl rfl rfl (pT pR (lp (ln rfl))) (Hx fw jl) ?_; rintro _ o4 _ lh lj lk ⟨ll, rfl, rfl, fx⟩
 refine Aw (lp (ln rfl)) ?_
 refine BL (um (um (ua (ua (ua (Aa (AA ?_)))))))
 refine HW results88 (AH rfl) (AH rfl) (AH rfl) (sr) ?_
 obtain ⟨rfl, rfl, rfl⟩ := Kw jm
 exact ⟨_, _, _, _, rfl, rfl, fx.any⟩
end Go.Proofs.YtbeeigejcihadaaGreat
