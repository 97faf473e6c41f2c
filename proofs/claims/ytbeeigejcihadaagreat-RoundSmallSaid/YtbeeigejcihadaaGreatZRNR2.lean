/- The walks that this claim needs, printed by a program of mine; part 2. -/
import Derived.Test.YtbeeigejcihadaaGreatZRNR1
namespace Go.Proofs.YtbeeigejcihadaaGreat
open Go.SH Go.PL
open Tryz 
variable {ok : (Int × Int) → Option Bool} {Jy JT : Array Value} {F : FS} {JB : FuncId} {hour Ae last minute n AW r3 r4 BX start : Int} {Ab r5 : List ((List Int) × Int × Int)} {AE : List (Int × Int)} {Af walks : List (List Int)} {BH : List Int} {Qh FO Is Al Hj Dg Ac A2 Lp LC D4 Ai : Nat} {I8 Jz : Nat × Nat} {Qg Qe Ak Hg Di Ad A3 Lx Lu D3 Aj : Option Addr}
theorem Io {Ax : List Int} (ab : F FO = some (.cells ((([sL Aj walks.length Ai] : List Value) ++ (([sL Ak Af.length Al] : List Value) ++ (([vI Ae] : List Value) ++ (([vI start] : List Value) ++ (([sL Ad Ab.length Ac] : List Value) ++ (Ax.flatMap (cI .i64) ++ (([sL A3 AE.length A2] : List Value) ++ (BH.flatMap (cI .i64))))))))).toArray) 122 I8)) (_h_walks : Ar 1 eJ F Aj Ai walks) (_h_hears : Ar 1 eJ F Ak Al Af) (_h_notices : Ar 3 eN F Ad Ac Ab) (aa : Ax.length = 25) (_h_pairs : Ar 2 eP F A3 A2 AE) (_h_hit : BH.length = 15) {r : Int} (hr : Gw walks Af Ae start Ab Ax AE BH = some r) :
    Bv Tryz.prog 89 #[pO FO] F (vI r) := by
 refine sp func89 ntmps89 fun K _ _ => ?_
 rw [Gw] at hr
 refine AJ (ua (BL (um ?_)))
 refine uv (A9 rfl) (uv (Ah GB rfl) (uv (AG isAgg41 rfl (Has.frozen ab) (DN (Au (k := 1) (o := 29) rfl (Au (k := 1) (o := 28) rfl (Au (k := 1) (o := 27) rfl (Au (k := 1) (o := 26) rfl (Au (k := 1) (o := 25) rfl (Au (k := 25) (o := 0) (IG (Bj .i64) aa) (BJ rfl))))))))) (uv (AQ underlying41 rfl) ?_)))
 obtain ⟨g1, r2⟩ := AB hr
 refine uv (Ns rfl rfl g1) ?_
 obtain ⟨g3, r4⟩ := AB r2
 refine uv (DP rfl rfl g3) ?_
 refine ua (Aa (AA ?_))
 refine C3 results89 ?_
 obtain rfl := AP r4
 exact rfl
theorem Mj {ab : Nat} {ad : Nat × Nat} {Ax : List Int} (ae : F ab = some (.cells #[vI last] 3 ad)) (ai : F FO = some (.cells #[pO Is] 113 I8)) (ah : F Is = some (.cells ((([sL Aj walks.length Ai] : List Value) ++ (([sL Ak Af.length Al] : List Value) ++ (([vI Ae] : List Value) ++ (([vI start] : List Value) ++ (([sL Ad Ab.length Ac] : List Value) ++ (Ax.flatMap (cI .i64) ++ (([sL A3 AE.length A2] : List Value) ++ (BH.flatMap (cI .i64))))))))).toArray) 122 Jz)) (_h_walks : Ar 1 eJ F Aj Ai walks) (_h_hears : Ar 1 eJ F Ak Al Af) (aa : Ar 3 eN F Ad Ac Ab) (_h_walks2 : Ax.length = 25) (_h_pairs : Ar 2 eP F A3 A2 AE) (_h_hit : BH.length = 15) {r : Bool} (hr : Hr AW minute last walks Af Ae start Ab Ax AE BH = some r) :
    Bv Tryz.prog 114 #[vI AW, vI minute, pO ab, pO FO] F (.bool r) := by
 refine sp func114 ntmps114 fun K _ _ => ?_
 rw [Hr] at hr
 refine AJ (ua ?_)
 refine dN (wm (wv (AG isAgg3 rfl (Has.frozen ae) rfl) (wv (AG isAgg113 rfl (Has.frozen ai) rfl) (wv (A9 rfl) (wv (Ah Gv rfl) (wv (Ah BF rfl) (wv (AG isAgg24 rfl (Has.frozen ah) (DN (Au (k := 1) (o := 3) rfl (Au (k := 1) (o := 2) rfl (Au (k := 1) (o := 1) rfl (Au (k := 1) (o := 0) rfl (BJ rfl))))))) ?_)))))))
 refine wm ?_
 obtain ⟨x, g1, al, r3⟩ := Bi hr
 obtain ⟨b4, o5, c6, au, ao, aq, ak, ⟨_, _, rfl, ⟨av, aw, rfl, ax⟩, ⟨_, _, rfl, rfl, rfl⟩⟩, ar, aj⟩ := Ar.ta kN aa g1.1 al
 refine wv (Cx underlying24 sizeOf35 ao g1) (wv (Ah Ic rfl) (wv (AG isAgg3 rfl (aq _) (aj 2 (by decide))) (wv (PA rfl rfl) (wv (KM rfl rfl) ?_))))
 refine wa (B1 (AA ?_))
 refine C3 results114 ?_
 obtain rfl := AP r3
 exact rfl
set_option maxHeartbeats 1000000 in
theorem KB {Ax : List Int} (ah : F FO = some (.cells ((([sL Aj walks.length Ai] : List Value) ++ (([sL Ak Af.length Al] : List Value) ++ (([vI Ae] : List Value) ++ (([vI start] : List Value) ++ (([sL Ad Ab.length Ac] : List Value) ++ (Ax.flatMap (cI .i64) ++ (([sL A3 AE.length A2] : List Value) ++ (BH.flatMap (cI .i64))))))))).toArray) 122 I8)) (ab : Ar 1 eJ F Aj Ai walks) (ad : Ar 1 eJ F Ak Al Af) (aa : Ar 3 eN F Ad Ac Ab) (ai : Ax.length = 25) (ae : Ar 2 eP F A3 A2 AE) (ak : BH.length = 15) {r : (Int × Int) → Option Bool} (hr : IC walks Af Ae start Ab Ax AE BH last = some r) :
    SH.Spec Tryz.prog 94 #[pO FO, vI last] F [] fun F' L' v => ∃ (au : FuncId) (av : Array Value) (aw : Array Value), v = .agg #[.func (.func au) av aw] ∧ L' = [] ∧ Oa Tryz.prog F' au av aw eP Value.bool r := by
 refine sp func94 ntmps94 fun K _ _ => ?_
 rw [IC] at hr
 refine AJ ?_
 refine Bx rfl rfl ?_; intro b1 ax
 refine Bx rfl rfl ?_; intro b2 ay
 refine Bh rfl zeroValue137 ?_; intro b3 ba
 refine BL (uv (Fh rfl rfl) ?_)
 refine uv (BI (v := .agg (#[.func (.func 114) #[] #[pO b2, pO b1]])) rfl (by intro w; kernel_rfl)) ?_
 refine A8 (i := 0) sizeOf137 rfl rfl rfl (by simp [Value.oneCell']) rfl (B2 rfl) (Aw rfl (Aa ?_))
 refine Bk 1 rfl ay ?_; intro F4 al ao
 refine CU rfl ?_
 replace ab := ab.m2 al
 replace ad := ad.m2 al
 replace aa := aa.m3 al
 replace ae := ae.m4 al
 replace ah := al _ _ ah
 refine Bk 1 rfl ax ?_; intro F7 aj az
 refine CU rfl ?_
 replace ab := ab.m2 aj
 replace ad := ad.m2 aj
 replace aa := aa.m3 aj
 replace ae := ae.m4 aj
 replace ah := aj _ _ ah
 replace ao := aj _ _ ao
 have aq : Oa Tryz.prog F7 114 #[] #[pO b2, pO b1] eP Value.bool (fun ar : Int × Int => Hr ar.1 ar.2 last walks Af Ae start Ab Ax AE BH) := ⟨call114, fun F2 h2 vs ar r ha hr => by obtain ⟨_, _, rfl, rfl, rfl⟩ := ha; exact Mj (h2 _ _ ao) (h2 _ _ az) (h2 _ _ ah) (ab.mono kJ h2) (ad.mono kJ h2) (aa.mono kN h2) ai (ae.mono kP h2) ak hr⟩
 refine AA (KY results94 (Fq (cs := #[.func (.func 114) #[] #[pO b2, pO b1]]) isAgg137 sizeOf137 rfl (Has.own 0 rfl) (B2 rfl) rfl) (s1 sr) ?_)
 obtain rfl := AP hr
 exact ⟨_, _, _, rfl, rfl, aq⟩
theorem EL {Ax : List Int} (ak : F FO = some (.cells ((([sL Aj walks.length Ai] : List Value) ++ (([sL Ak Af.length Al] : List Value) ++ (([vI Ae] : List Value) ++ (([vI start] : List Value) ++ (([sL Ad Ab.length Ac] : List Value) ++ (Ax.flatMap (cI .i64) ++ (([sL A3 AE.length A2] : List Value) ++ (BH.flatMap (cI .i64))))))))).toArray) 122 I8)) (ad : Ar 1 eJ F Aj Ai walks) (ae : Ar 1 eJ F Ak Al Af) (aa : Ar 3 eN F Ad Ac Ab) (ab : Ax.length = 25) (ah : Ar 2 eP F A3 A2 AE) (ai : BH.length = 15) {r : (Int × Int) → Option Bool} (hr : DO walks Af Ae start Ab Ax AE BH = some r) :
    SH.Spec Tryz.prog 90 #[pO FO] F [] fun F' L' v => ∃ (ao : FuncId) (aq : Array Value) (ar : Array Value), v = .agg #[.func (.func ao) aq ar] ∧ L' = [] ∧ Oa Tryz.prog F' ao aq ar eP Value.bool r := by
 refine sp func90 ntmps90 fun K _ _ => ?_
 rw [DO] at hr
 refine AJ ?_
 refine Bh rfl zeroValue137 ?_; intro b1 aw
 refine BL (um ?_)
 obtain ⟨y, h2, r3⟩ := Av hr
 refine c0 call94 (KB ak ad ae aa ab ah ai h2) ?_; rintro _ F4 _ ax ay ⟨au, av, al, rfl, rfl, aj⟩
 refine Aw (ln rfl) (A8 (i := 0) sizeOf137 rfl rfl rfl (by simp [Value.oneCell']) rfl (B2 rfl) (Aw rfl ?_))
 refine Aa (AA ?_)
 refine KY results90 (Fq (cs := #[.func (.func au) av al]) isAgg137 sizeOf137 rfl (Has.own 0 rfl) (B2 rfl) rfl) (s1 sr) ?_
 obtain rfl := AP r3
 exact ⟨_, _, _, rfl, rfl, aj⟩
set_option maxHeartbeats 1000000 in
theorem KZ (ah : Ar 1 eJ F Aj Ai walks) (ai : Ar 1 eJ F Ak Al Af) (ab : Ar 3 eN F Ad Ac Ab) {r : List (Int × Int)} {r2 : Int} (hr : JY walks Af Ae start Ab = some (r, r2, r3)) :
    SH.Spec Tryz.prog 47 #[.agg #[sL Aj walks.length Ai, sL Ak Af.length Al, vI Ae, vI start, sL Ad Ab.length Ac]] F [] fun F' L' v => ∃ (ra : Option Addr) (rn : Nat) (rc : Nat) (rL : LH), v = .tuple #[sL ra rn rc, vI r2, vI r3] ∧ L' = rL ++ [] ∧ AM 0 29 2 eP F' ra rn rc r rL := by
 refine sp func47 ntmps47 fun K _ _ => ?_
 rw [JY] at hr
 refine AJ ?_
 refine Bx rfl rfl ?_; intro b1 cy
 refine ua (ua (ua (BL ?_)))
 refine uv (CA isAgg26 sizeOf26 0) ?_
 obtain ⟨d, n, h2, r4⟩ := BT hr
 refine c0 call72 (Cd ah ai ab h2) ?_; rintro _ F5 _ cz da ⟨v9, rfl, rfl, ay⟩
 refine Aw (ln rfl) ?_
 refine um (ox rfl rfl rfl (ox rfl rfl rfl (ua (ua (Aa (Aq (AJ (um ?_))))))))
 refine uv (Bt rfl rfl) (Aa ?_)
 refine cQ (fun az => ?_) fun az => ?_
 ·have bk := A5 r4 az
  refine AJ (um (ua (ua (ua (Aa ?_)))))
  refine kW kn ?_
  refine AA (As ?_)
  refine HW results47 (AH rfl) (AH rfl) (AH rfl) (sr) ?_
  obtain ⟨rfl, rfl, rfl⟩ := Kw bk
  exact ⟨_, _, _, [], rfl, rfl, AM.nil _ _ _ _ _⟩
 have bl := A4 r4 az
 refine Ao (AJ (um (um ?_)))
 obtain ⟨Ax, ak, aj, al, ad, ao, AE, BH, bm, bn⟩ := J3 bl
 have bh := ay; rw [bm] at bh; obtain ⟨bo, db, bp, ba, aa, ⟨_, _, rfl, ⟨bq, br, rfl, ar⟩, ⟨_, _, rfl, ⟨bu, bw, rfl, au⟩, ⟨_, _, rfl, rfl, ⟨_, _, rfl, rfl, ⟨_, _, rfl, ⟨bx, bz, rfl, av⟩, ⟨_, _, rfl, ⟨rfl, bb⟩, ⟨_, _, rfl, ⟨cb, cc, rfl, aw⟩, ⟨rfl, bc⟩⟩⟩⟩⟩⟩⟩⟩⟩ := bh; subst ba
 have aa : F5 bo = some (.cells ((([sL bq Ax.length br] : List Value) ++ (([sL bu ak.length bw] : List Value) ++ (([vI aj] : List Value) ++ (([vI al] : List Value) ++ (([sL bx ad.length bz] : List Value) ++ (ao.flatMap (cI .i64) ++ (([sL cb AE.length cc] : List Value) ++ (BH.flatMap (cI .i64))))))))).toArray) 122 bp) := aa
 obtain ⟨n2, cf, cg⟩ := Av bn
 refine cV call89 (Io aa ar au av bb aw bc cf) (um ?_)
 obtain ⟨y, cj, ck⟩ := Av cg
 refine c0 call90 (EL aa ar au av bb aw bc cj) ?_; rintro _ dd _ ae cn ⟨cp, cq, cr, rfl, rfl, ax⟩
 replace ar := ar.m2 ae
 replace au := au.m2 ae
 replace av := av.m3 ae
 replace aw := aw.m4 ae
 replace aa := ae _ _ aa
 refine Aw (ln rfl) ?_
 obtain ⟨l, n3, ok, ct, bj⟩ := Ia ck
 refine c0 call88 (Cz aa ar au av bb aw bc ax ct) ?_; rintro _ de _ cu bd ⟨df, dg, dh, cv, rfl, rfl, aq⟩
 replace aq := aq.new fun p hp => bd p (by simp [hp])
 refine Aw (lp (ln rfl)) (kO (kf (fS fO) kr) ?_)
 refine um (ox rfl rfl rfl (ox rfl rfl rfl (ox rfl rfl rfl (ua (ua (ua (Aa (Aq (AJ ?_)))))))))
 refine um (uv (Bz rfl) (Aa ?_))
 refine AR rfl (fun bg => ?_) (fun bg => ?_)
 ·have cw := bt bj bg
  refine AJ (ua (ua (ua (Aa ?_))))
  refine kW kn ?_
  refine AA (As ?_)
  refine HW results47 (AH rfl) (AH rfl) (AH rfl) (sr) ?_
  obtain ⟨rfl, rfl, rfl⟩ := Kw cw
  exact ⟨_, _, _, [], rfl, rfl, AM.nil _ _ _ _ _⟩
 have cx := bf bj bg
 refine Ao (AJ (um (um (ua (ua (ua (Aa ?_)))))))
 refine kW (kd kr) (AA (HW results47 (AH rfl) (AH rfl) (AH rfl) (sr) ?_))
 obtain ⟨rfl, rfl, rfl⟩ := Kw cx
 exact ⟨_, _, _, _, rfl, rfl, aq.any⟩
set_option maxHeartbeats 1000000 in
theorem Hy {s1 s2 : List (Int × Int)} (ad : Ar 2 eP F Lx Lp s1) (ah : Ar 2 eP F Lu LC s2) {r : Bool} (hr : Dl s1 s2 = some r) :
    Bv Tryz.prog 92 #[sL Lx s1.length Lp, sL Lu s2.length LC] F (.bool r) := by
 refine sp func92 ntmps92 fun K _ _ => ?_
 rw [Dl] at hr
 refine AJ (ua (Aa (Aq (AJ (um ?_)))))
 refine uv (AQ underlying41 rfl) (um (uv (AQ underlying41 rfl) (uv (Bt rfl rfl) (Aa ?_))))
 obtain ⟨g2, r3⟩ := AB hr
 refine BP rfl (fun c4 => absurd c4 g2) (fun c4 => ?_)
 refine Ao ?_
 obtain ⟨h5, r6⟩ := Ij r3
 refine jE ([]) [] ?_ ?_
 ·clear r6
  refine AJ (um ?_)
  refine uv (AQ underlying41 rfl) ?_
  refine um (Aa ?_)
  refine Ap ?_
  refine Bb (fun ba e1 F1 L1 => LA s1 ba fun tl k => BN s2 tl k = some () ∧ F = F1 ∧ L1 = [] ∧ e1.sub [(0, sL Lx s1.length Lp), (1, sL Lu s2.length LC), (12, vI (s1.length : Int)), (13, vI k)]) _ (m0 kr ⟨_, _, rfl, Bl.start _, h5, rfl, rfl, z4⟩) ?_
  rintro ba e1 _ _ ⟨tl, k, bg, ai, r9, rfl, rfl, aj⟩
  refine Az _ aj (AJ (uv (AV rfl rfl) ?_))
  refine Aa (Aq ?_)
  refine cQ (fun ae => ?_) fun ae => ?_
  ·obtain ⟨x, bn, rfl, ak, bb, al⟩ := Bl.succ ai ae
   rw [BN] at r9
   refine Ao (Aq ?_)
   refine Ap ?_
   refine AJ (um (ua ?_))
   refine dN ?_
   refine wm (wm ?_)
   obtain ⟨bo, bp, bq, bh, ao, aq, aa, ⟨_, _, rfl, rfl, rfl⟩, ar, au⟩ := Ar.ta kP ad bb.1 ak
   refine wv (Cx underlying41 sizeOf32 ao bb) (wv (AZ isAgg32 sizeOf32 rfl (aq _) aa (Ba aa ar au)) ?_)
   refine wm (wm ?_)
   obtain ⟨x2, bc, av, bj⟩ := Bi r9
   obtain ⟨br, bu, bw, bk, aw, ax, ab, ⟨_, _, rfl, rfl, rfl⟩, ay, az⟩ := Ar.ta kP ah bc.1 av
   refine wv (Cx underlying41 sizeOf32 aw bc) (wv (AZ isAgg32 sizeOf32 rfl (ax _) ab (Ba ab ay az)) (wv (PM (Rh _ _ _ _) (fun w => NW (eq_32 _ _ _ _ w)) rfl rfl) (B1 ?_)))
   obtain ⟨bl, bm⟩ := AB bj
   refine BP rfl (fun bd => absurd bd bl) (fun bd => ?_)
   refine Ao (Ay (id := 1) (An ?_))
   refine uv (A0 rfl rfl (Bl.Cs ai ae (Ar.lt ad))) ?_
   refine um (Aa ?_)
   subst bg; exact le kr ⟨_, _, rfl, al, bm, rfl, rfl, z4⟩
  obtain rfl := Bl.zero ai ae
  rw [BN] at r9
  refine AI (Am (Am ?_))
  refine At ?_
  clear r9
  exact mi kr ⟨rfl, rfl, (sn _)⟩
 refine AJ (ua (Aa (AA ?_)))
 refine C3 results92 ?_
 obtain rfl := AP r6
 exact rfl
theorem HC {a b : List (Int × Int)} (aa : Ar 2 eP F Qg Qh a) (ab : Ar 2 eP F Qe FO b) {r : Bool} (hr : FH a b = some r) :
    Bv Tryz.prog 50 #[sL Qg a.length Qh, sL Qe b.length FO] F (.bool r) := by
 refine sp func50 ntmps50 fun K _ _ => ?_
 rw [FH] at hr
 refine AJ (ua (BL (um (um ?_))))
 obtain ⟨ok, h1, r2⟩ := Av hr
 refine cV call92 (Hy aa ab h1) ?_
 refine ua (Aa (AA ?_))
 refine C3 results50 ?_
 obtain rfl := AP r2
 exact rfl
set_option maxHeartbeats 1000000 in
theorem Lg {Ax : List Int} (aw : F FO = some (.cells ((([sL Aj walks.length Ai] : List Value) ++ (([sL Ak Af.length Al] : List Value) ++ (([vI Ae] : List Value) ++ (([vI start] : List Value) ++ (([sL Ad Ab.length Ac] : List Value) ++ (Ax.flatMap (cI .i64) ++ (([sL A3 AE.length A2] : List Value) ++ (BH.flatMap (cI .i64))))))))).toArray) 122 I8)) (_h_walks : Ar 1 eJ F Aj Ai walks) (_h_hears : Ar 1 eJ F Ak Al Af) (_h_notices : Ar 3 eN F Ad Ac Ab) (ab : Ax.length = 25) (aa : Ar 2 eP F A3 A2 AE) (_h_hit : BH.length = 15) {r : List (Int × Int)} (hr : HT walks Af Ae start Ab Ax AE BH BX = some r) :
    SH.Spec Tryz.prog 95 #[pO FO, vI BX] F [] fun F' L' v => ∃ (ra : Option Addr) (rn : Nat) (rc : Nat) (rL : LH), v = sL ra rn rc ∧ L' = rL ++ [] ∧ AM 0 32 2 eP F' ra rn rc r rL := by
 refine sp func95 ntmps95 fun K _ _ => ?_
 rw [HT] at hr
 refine AJ (ua (BL (ua (Aa ?_))))
 obtain ⟨out, h7, r8⟩ := Av hr
 refine AU (fun e1 F1 L1 => ∃ (a1 : Option Addr) (n5 : Nat) (c2 : Nat) (ax : LH), F = F1 ∧ L1 = (ax ++ []) ∧ e1.sub [(5, sL a1 n5 c2)] ∧ AM K.w0.heap.size 32 2 eP F1 a1 n5 c2 out ax) ?_ ?_
 ·clear r8
  refine AJ (um ?_)
  refine uv (A9 rfl) (uv (Ah GB rfl) (uv (AG isAgg41 rfl (Has.frozen aw) (DN (Au (k := 1) (o := 29) rfl (Au (k := 1) (o := 28) rfl (Au (k := 1) (o := 27) rfl (Au (k := 1) (o := 26) rfl (Au (k := 1) (o := 25) rfl (Au (k := 25) (o := 0) (IG (Bj .i64) ab) (BJ rfl))))))))) (uv (AQ underlying41 rfl) ?_)))
  refine um (Aa ?_)
  refine Ap ?_
  refine Bb (fun bl e1 F1 L1 => LA AE bl fun tl k => ∃ (ad : List (Int × Int)) (a9 : Option Addr) (ak : Nat) (al : Nat) (ae : LH), C4 BX tl k ad = some out ∧ F = F1 ∧ L1 = (ae ++ []) ∧ e1.sub [(1, vI BX), (5, sL a9 ak al), (11, sL A3 AE.length A2), (12, vI (AE.length : Int)), (13, vI k)] ∧ AM K.w0.heap.size 32 2 eP F1 a9 ak al ad ae) _ (m0 (ke kr) ⟨_, _, rfl, Bl.start _, [], none, 0, 0, [], h7, rfl, rfl, z5, AM.nil _ _ _ _ _⟩) ?_
  rintro bl e1 _ _ ⟨tl, k, ao, ah, ad, a9, ak, al, ae, av, rfl, rfl, ay, aj⟩
  refine Az _ ay (AJ (uv (AV rfl rfl) ?_))
  refine Aa (Aq ?_)
  refine cQ (fun aq => ?_) fun aq => ?_
  ·obtain ⟨x, ck, rfl, az, bm, ar⟩ := Bl.succ ah aq
   rw [C4] at av
   refine Ao (Aq ?_)
   refine Ap ?_
   refine AJ (um ?_)
   obtain ⟨cn, cp, cq, bo, ba, bb, ai, ⟨_, _, rfl, rfl, rfl⟩, bc, bd⟩ := Ar.ta kP aa bm.1 az
   refine uv (Cx underlying41 sizeOf32 ba bm) (uv (AZ isAgg32 sizeOf32 rfl (bb _) ai (Ba ai bc bd)) ?_)
   refine Bh rfl zeroValue32 ?_; intro cr bp
   refine ua (A8 (i := 0) sizeOf32 rfl rfl rfl (by simp [Value.oneCell']) rfl (B2 rfl) (Aw rfl ?_))
   refine BL (um (um ?_))
   obtain ⟨bq, bn⟩ := AB av
   refine uv (Nu rfl rfl bq) (uv (QY rfl rfl) (uv (BO rfl rfl) (Aa ?_)))
   refine cQ (fun bg => ?_) fun bg => ?_
   ·have br := A5 bn bg
    refine An (um ?_)
    refine uv (CA isAgg32 sizeOf32 0) ?_
    refine bA (cs := #[vI x.1, vI x.2]) HR [.agg #[vI x.1, vI x.2]] ?_; intro ct bu
    obtain ⟨au, bw, bx, bz⟩ := DS br
    refine Cq (xs := ad) (ys := [(x.1, x.2)]) (zs := au) rfl HR rfl rfl (Nat.le_refl _) (fun _ => .c (.c .h)) aj (Fg.box (vss := [[vI x.1, vI x.2]]) (ys := [(x.1, x.2)]) 0 rfl kP (.cons ⟨_, _, rfl, rfl, rfl⟩ .nil) rfl rfl) bw bx (by decide) ?_; intro cb cc cf bh bj
    refine kO (kd kr) ?_
    refine ua (Aa (Ay (id := 1) (An ?_)))
    refine uv (A0 rfl rfl (Bl.Cs ah aq (Ar.lt aa))) ?_
    refine um (Aa ?_)
    subst ao; exact le (kd kr) ⟨_, _, rfl, ar, au, cb, cc, cf, bh, bz, rfl, rfl, z5, bj⟩
   have cg := A4 bn bg
   refine Ao (Ay (id := 1) (An ?_))
   refine uv (A0 rfl rfl (Bl.Cs ah aq (Ar.lt aa))) ?_
   refine um (Aa ?_)
   subst ao; exact le (kd kr) ⟨_, _, rfl, ar, ad, a9, ak, al, ae, cg, rfl, rfl, z5, aj⟩
  obtain rfl := Bl.zero ah aq
  rw [C4] at av
  refine AI (Am (Am ?_))
  refine At ?_
  obtain rfl := AP av
  exact mi kr ⟨a9, ak, al, ae, rfl, rfl, z1, aj⟩
 rintro e1 _ _ ⟨a1, n5, c2, ax, rfl, rfl, bk, cj⟩
 refine Az _ bk ?_
 refine AJ (um (ua (Aa (AA ?_))))
 refine C3 results95 ?_
 obtain rfl := AP r8
 exact ⟨_, _, _, _, rfl, rfl, cj.any⟩
set_option maxHeartbeats 1000000 in
theorem J0 {bb : Int → Int → Int → (List (List Int)) → (List (List Int)) → Int → Int → (List ((List Int) × Int × Int)) → (List Int) → (List (Int × Int)) → (List Int) → ((Int × Int) → Option Bool) → Int → Option (Bool × Int)} (bl : ∀ {BX from_ many : Int} {FO Is : Nat} {Aj : Option Addr} {Ai : Nat} {walks : List (List Int)} {Ak : Option Addr} {Al : Nat} {Af : List (List Int)} {Ae start : Int} {Ad : Option Addr} {Ac : Nat} {Ab : List ((List Int) × Int × Int)} {Ax : List Int} {A3 : Option Addr} {A2 : Nat} {AE : List (Int × Int)} {BH : List Int} {Jz I8 : Nat × Nat} {az : Nat} {JB : FuncId} {Jy JT : Array Value} {ok : (Int × Int) → Option Bool} {bc : Nat × Nat} {aa : Nat} {found : Int} {ab : Nat} {ao : Nat × Nat} {F : FS} (_ : F FO = some (.cells #[pO Is] 113 I8)) (_ : F Is = some (.cells ((([sL Aj walks.length Ai] : List Value) ++ (([sL Ak Af.length Al] : List Value) ++ (([vI Ae] : List Value) ++ (([vI start] : List Value) ++ (([sL Ad Ab.length Ac] : List Value) ++ (Ax.flatMap (cI .i64) ++ (([sL A3 AE.length A2] : List Value) ++ (BH.flatMap (cI .i64))))))))).toArray) 122 Jz)) (_ : Ar 1 eJ F Aj Ai walks) (_ : Ar 1 eJ F Ak Al Af) (_ : Ar 3 eN F Ad Ac Ab) (_ : Ax.length = 25) (_ : Ar 2 eP F A3 A2 AE) (_ : BH.length = 15) (_ : F az = some (.cells #[.func (.func JB) Jy JT] 137 bc)) (_ : Oa Tryz.prog F JB Jy JT eP Value.bool ok) (_ : F ab = some (.cells (#[.func (.func 115) #[] #[pO FO, pO az, pO aa, pO ab]]) 111 ao)) {r : Bool} {r2 : Int} , bb BX from_ many walks Af Ae start Ab Ax AE BH ok found = some (r, r2) → SH.Spec Tryz.prog 115 #[vI BX, vI from_, vI many, pO FO, pO az, pO aa, pO ab] F [(aa, ce #[vI found] 3)] fun _ L' v => v = .bool r ∧ L' = [(aa, ce #[vI r2] 3)]) {from_ many : Int} {Ax : List Int} {az : Nat} {bc : Nat × Nat} {aa : Nat} {found : Int} {ab : Nat} {ao : Nat × Nat} (av : F FO = some (.cells #[pO Is] 113 I8)) (ar : F Is = some (.cells ((([sL Aj walks.length Ai] : List Value) ++ (([sL Ak Af.length Al] : List Value) ++ (([vI Ae] : List Value) ++ (([vI start] : List Value) ++ (([sL Ad Ab.length Ac] : List Value) ++ (Ax.flatMap (cI .i64) ++ (([sL A3 AE.length A2] : List Value) ++ (BH.flatMap (cI .i64))))))))).toArray) 122 Jz)) (ae : Ar 1 eJ F Aj Ai walks) (ah : Ar 1 eJ F Ak Al Af) (ad : Ar 3 eN F Ad Ac Ab) (ak : Ax.length = 25) (ai : Ar 2 eP F A3 A2 AE) (ba : BH.length = 15) (aw : F az = some (.cells #[.func (.func JB) Jy JT] 137 bc)) (ax : Oa Tryz.prog F JB Jy JT eP Value.bool ok) (aj : F ab = some (.cells (#[.func (.func 115) #[] #[pO FO, pO az, pO aa, pO ab]]) 111 ao)) {r : Bool} {r2 : Int} (hr : Ge bb BX from_ many walks Af Ae start Ab Ax AE BH ok found = some (r, r2)) :
    SH.Spec Tryz.prog 115 #[vI BX, vI from_, vI many, pO FO, pO az, pO aa, pO ab] F [(aa, ce #[vI found] 3)] fun _ L' v => v = .bool r ∧ L' = [(aa, ce #[vI r2] 3)] := by
 refine sp func115 ntmps115 fun K _ _ => ?_
 rw [Ge] at hr
 refine AJ (ua (Aa (Aq (AJ (um ?_)))))
 refine uv (BO rfl rfl) (Aa ?_)
 refine cQ (fun c1 => ?_) fun c1 => ?_
 ·have r3 := A5 hr c1
  refine AJ (uv (AG isAgg113 rfl (Has.frozen av) rfl) (um (uv (AZ isAgg137 sizeOf137 rfl (Has.frozen aw) (B2 rfl) rfl) ?_)))
  obtain ⟨l, n, cz, h4, r5⟩ := Ia r3
  refine c0 call88 (Cz ar ae ah ad ak ai ba ax h4) ?_; rintro _ F6 _ da db ⟨dd, de, df, bx, rfl, rfl, bz⟩
  refine Aw (lp (ln rfl)) (kO (kf (fS fO) kr) ?_)
  refine um (ox rfl rfl rfl (ox rfl rfl rfl (ox rfl rfl rfl (ua (ua (ua (Aa (Aq (AJ ?_)))))))))
  refine um (uv (Bz rfl) (Aa ?_))
  refine AR rfl (fun bm => ?_) (fun bm => ?_)
  ·have cb := bt r5 bm
   refine An (um ?_)
   refine By (i := 0) sizeOf3 rfl rfl rfl rfl (B2 rfl) (Aw rfl ?_)
   refine BL (um ?_)
   refine uv (Bz rfl) ?_
   refine ua (Aa ?_)
   refine kW (kc kn) ?_
   refine AA (As ?_)
   refine C3 results115 ?_
   obtain ⟨rfl, rfl⟩ := B9 cb
   exact ⟨rfl, rfl⟩
  have cc := bf r5 bm
  refine Ao (AJ (um ?_))
  refine uv (Bz rfl) ?_
  refine ua (Aa ?_)
  refine kW (kc kn) ?_
  refine AA (As ?_)
  refine C3 results115 ?_
  obtain ⟨rfl, rfl⟩ := B9 cc
  exact ⟨rfl, rfl⟩
 have cf := A4 hr c1
 refine Ao ?_
 refine AU (fun e1 F1 L1 => ∃ (au : Int), Fk au = some (r, r2) ∧ AN F F1 ∧ L1 = [(aa, ce #[vI au] 3)] ∧ e1.sub []) ?_ ?_
 ·refine AJ (um (ua (Aa ?_)))
  refine Ap ?_
  obtain ⟨br, cg⟩ := AB cf
  refine Bb (fun bj e1 F1 L1 => ∃ (i : Int), CC from_ (AE.length : Int) i bj ∧ ∃ (aq : Int), CR BX many walks Af Ae start Ab Ax AE BH ok bb bj i aq = some (r, r2) ∧ AN F F1 ∧ L1 = [(aa, ce #[vI aq] 3)] ∧ e1.sub [(0, vI BX), (2, vI many), (3, pO FO), (6, pO ab), (14, vI i)]) _ (m0 kr ⟨_, CC.start _ _, found, cg, AN.refl _, rfl, z5⟩) ?_
  rintro bj e1 dg _ ⟨i, ay, aq, bk, al, rfl, bn⟩
  refine Az _ bn ?_
  replace ae := ae.m2 al
  replace ah := ah.m2 al
  replace ad := ad.m3 al
  replace ai := ai.m4 al
  replace ax := ax.mono al
  replace ar := al _ _ ar
  replace av := al _ _ av
  replace aw := al _ _ aw
  replace aj := al _ _ aj
  refine Aq (AJ (um ?_))
  refine uv (AG isAgg113 rfl (Has.frozen av) rfl) (uv (A9 rfl) (uv (Ah GB rfl) (uv (AG isAgg41 rfl (Has.frozen ar) (DN (Au (k := 1) (o := 29) rfl (Au (k := 1) (o := 28) rfl (Au (k := 1) (o := 27) rfl (Au (k := 1) (o := 26) rfl (Au (k := 1) (o := 25) rfl (Au (k := 25) (o := 0) (IG (Bj .i64) ak) (BJ rfl))))))))) (uv (AQ underlying41 rfl) (uv (AV rfl rfl) (Aa ?_))))))
  refine cQ (fun bg => ?_) fun bg => ?_
  ·obtain ⟨bj, rfl, bo⟩ := CC.succ ay bg
   rw [CR] at bk
   refine Ao (Aq ?_)
   refine Ap (Aq (Bg [(.still, 0), (.still, 1), (.still, 2), (.still, 3), (.still, 4), (.still, 5), (.still, 6), (.still, 7), (.still, 8), (.seq, 9)] (by kernel_rfl) (by kernel_rfl) (trivial) (by rfl) (by kernel_rfl) (mL [6] ([]) rfl sm (fun H F' L' cj ck => AG isAgg111 rfl ((Has.frozen aj).ext cj ck) rfl) (mS [0] rfl (AO rfl) (mS [14] rfl (AO rfl) ?_)))))
   obtain ⟨cn, cp⟩ := AB bk
   refine mS (v := vI (shl 1 i)) [42] rfl (Ns rfl rfl cn) (mS (v := vI (PS BX (shl 1 i))) [41, 43] rfl (Rm rfl rfl) (mS [14] rfl (AO rfl) (mS (v := vI (i + 1)) [45] rfl (A0 rfl rfl (CC.Cs ay bg br)) (mS [2] rfl (AO rfl) ?_))))
   obtain ⟨cq, cr⟩ := AB cp
   refine mS (v := vI (many - 1)) [47] rfl (DP rfl rfl cq) ?_
   refine ⟨_, [(40, .func (.func 115) #[] #[pO FO, pO az, pO aa, pO ab]), (44, vI (PS BX (shl 1 i))), (46, vI (i + 1)), (48, vI (many - 1))], rfl, rfl, z4, by kernel_rfl, ?_⟩; intro H
   obtain ⟨dh, bd, ct, bu⟩ := BT cr
   refine cG call115 (bl av ar ae ah ad ak ai ba aw ax aj ct) ?_; rintro _ di _ bh cu cv ⟨rfl, rfl⟩
   refine Aw (lb (ln rfl)) ?_
   refine Aa ⟨_, rfl, bh, [], by kernel_rfl, .inl (.inl rfl), nm, ?_⟩
   refine Bo ?_
   refine AR rfl (fun bp => ?_) (fun bp => ?_)
   ·have cw := bt bu bp
    refine AJ (ua (Aa (AA (AK (As (As (AK (As ?_))))))))
    refine C3 results115 ?_
    obtain ⟨rfl, rfl⟩ := B9 cw
    exact ⟨rfl, rfl⟩
   have cx := bf bu bp
   refine Ao (Ay (id := 1) (An (um ?_)))
   refine uv (A0 rfl rfl (CC.Cs ay bg br)) ?_
   refine ua (Aa ?_)
   exact le kr ⟨_, bo, bd, cx, (al.trans bh), rfl, z5⟩
  obtain rfl := CC.zero ay bg
  rw [CR] at bk
  refine AI (Am (Am ?_))
  refine At ?_
  exact mi kr ⟨aq, bk, al, rfl, (sn _)⟩
 rintro e1 dk _ ⟨au, bw, cy, rfl, bq⟩
 refine Az _ bq ?_
 rw [Fk] at bw
 refine AJ (ua (Aa (AA ?_)))
 refine C3 results115 ?_
 obtain ⟨rfl, rfl⟩ := B9 bw
 exact ⟨rfl, rfl⟩
theorem Kk : ∀ (fu : Nat) {BX from_ many : Int} {FO Is : Nat} {Aj : Option Addr} {Ai : Nat} {walks : List (List Int)} {Ak : Option Addr} {Al : Nat} {Af : List (List Int)} {Ae start : Int} {Ad : Option Addr} {Ac : Nat} {Ab : List ((List Int) × Int × Int)} {Ax : List Int} {A3 : Option Addr} {A2 : Nat} {AE : List (Int × Int)} {BH : List Int} {Jz I8 : Nat × Nat} {ae : Nat} {JB : FuncId} {Jy JT : Array Value} {ok : (Int × Int) → Option Bool} {ah : Nat × Nat} {aa : Nat} {found : Int} {ab : Nat} {ad : Nat × Nat} {F : FS} (_ : F FO = some (.cells #[pO Is] 113 I8)) (_ : F Is = some (.cells ((([sL Aj walks.length Ai] : List Value) ++ (([sL Ak Af.length Al] : List Value) ++ (([vI Ae] : List Value) ++ (([vI start] : List Value) ++ (([sL Ad Ab.length Ac] : List Value) ++ (Ax.flatMap (cI .i64) ++ (([sL A3 AE.length A2] : List Value) ++ (BH.flatMap (cI .i64))))))))).toArray) 122 Jz)) (_ : Ar 1 eJ F Aj Ai walks) (_ : Ar 1 eJ F Ak Al Af) (_ : Ar 3 eN F Ad Ac Ab) (_ : Ax.length = 25) (_ : Ar 2 eP F A3 A2 AE) (_ : BH.length = 15) (_ : F ae = some (.cells #[.func (.func JB) Jy JT] 137 ah)) (_ : Oa Tryz.prog F JB Jy JT eP Value.bool ok) (_ : F ab = some (.cells (#[.func (.func 115) #[] #[pO FO, pO ae, pO aa, pO ab]]) 111 ad)) {r : Bool} {r2 : Int} , DJ fu BX from_ many walks Af Ae start Ab Ax AE BH ok found = some (r, r2) → SH.Spec Tryz.prog 115 #[vI BX, vI from_, vI many, pO FO, pO ae, pO aa, pO ab] F [(aa, ce #[vI found] 3)] fun _ L' v => v = .bool r ∧ L' = [(aa, ce #[vI r2] 3)] := by
  intro fu
  induction fu with
  | zero => intros; rename_i hr; rw [DJ] at hr; cases hr
  | succ fu ih => intros; rename_i hr; rw [DJ] at hr; exact J0 ih (by assumption) (by assumption) (by assumption) (by assumption) (by assumption) (by assumption) (by assumption) (by assumption) (by assumption) (by assumption) (by assumption) hr
set_option maxHeartbeats 1000000 in
theorem KG {Ax : List Int} (ai : F FO = some (.cells ((([sL Aj walks.length Ai] : List Value) ++ (([sL Ak Af.length Al] : List Value) ++ (([vI Ae] : List Value) ++ (([vI start] : List Value) ++ (([sL Ad Ab.length Ac] : List Value) ++ (Ax.flatMap (cI .i64) ++ (([sL A3 AE.length A2] : List Value) ++ (BH.flatMap (cI .i64))))))))).toArray) 122 I8)) (ab : Ar 1 eJ F Aj Ai walks) (ad : Ar 1 eJ F Ak Al Af) (aa : Ar 3 eN F Ad Ac Ab) (ao : Ax.length = 25) (ae : Ar 2 eP F A3 A2 AE) (ay : BH.length = 15) (ak : Oa Tryz.prog F JB Jy JT eP Value.bool ok) {r : Int} (hr : G4 walks Af Ae start Ab Ax AE BH ok = some r) :
    Bv Tryz.prog 96 #[pO FO, .agg #[.func (.func JB) Jy JT]] F (vI r) := by
 refine sp func96 ntmps96 fun K _ _ => ?_
 rw [G4] at hr
 refine AJ ?_
 refine Bx rfl rfl ?_; intro b1 bm
 refine Bx rfl rfl ?_; intro b2 bn
 refine ua (Aa ?_)
 refine Qd (AJ ?_)
 refine Bh rfl zeroValue3 ?_; intro b3 cc
 refine By (i := 0) sizeOf3 rfl rfl rfl rfl (B2 rfl) (Aw rfl ?_)
 refine Aa (Aq ?_)
 refine P8 ?_
 obtain ⟨found, h4, r5⟩ := Av hr
 refine jF ([(b3, ce #[vI found] 3)]) [(5, pO b3)] ?_ fun cf bo => ?_
 ·clear r5
  refine AJ (uv (BM isAgg113 2) (uv (A9 rfl) (uv (Ah GB rfl) (uv (AG isAgg41 rfl (Has.frozen ai) (DN (Au (k := 1) (o := 29) rfl (Au (k := 1) (o := 28) rfl (Au (k := 1) (o := 27) rfl (Au (k := 1) (o := 26) rfl (Au (k := 1) (o := 25) rfl (Au (k := 25) (o := 0) (IG (Bj .i64) ao) (BJ rfl))))))))) (uv (AQ underlying41 rfl) ?_)))))
  obtain ⟨g6, r7⟩ := AB h4
  refine uv (A0 rfl rfl g6) ?_
  refine um (Aa ?_)
  refine Ap ?_
  refine Bk 2 rfl bm ?_; intro F8 av aq
  refine CU rfl ?_
  replace ab := ab.m2 av
  replace ad := ad.m2 av
  replace aa := aa.m3 av
  replace ae := ae.m4 av
  replace ak := ak.mono av
  replace ai := av _ _ ai
  refine Bk 1 rfl bn ?_; intro bp al au
  refine CU rfl ?_
  replace ab := ab.m2 al
  replace ad := ad.m2 al
  replace aa := aa.m3 al
  replace ae := ae.m4 al
  replace ak := ak.mono al
  replace ai := al _ _ ai
  replace aq := al _ _ aq
  obtain ⟨bq, br⟩ := AB r7
  refine NL (fun ba e1 F1 L1 => ∃ (k : Int), CC 0 ((AE.length : Int) + 1) k ba ∧ ∃ (ar : Int), Ds walks Af Ae start Ab Ax AE BH ok ba k ar = some found ∧ AN bp F1 ∧ L1 = [(b3, ce #[vI ar] 3)] ∧ e1.sub [(2, pO b1), (3, pO b2), (5, pO b3), (13, vI ((AE.length : Int) + 1)), (14, vI k)]) _ (m0 kr ⟨_, CC.start _ _, 0, br, AN.refl _, rfl, z5⟩) ?_
  rintro ba e1 cg _ ⟨k, aw, ar, bb, ah, rfl, bd⟩
  refine Az _ bd ?_
  replace ab := ab.m2 ah
  replace ad := ad.m2 ah
  replace aa := aa.m3 ah
  replace ae := ae.m4 ah
  replace ak := ak.mono ah
  replace ai := ah _ _ ai
  replace aq := ah _ _ aq
  replace au := ah _ _ au
  refine AJ (uv (AV rfl rfl) ?_)
  refine Aa (Aq ?_)
  refine cQ (fun bc => ?_) fun bc => ?_
  ·obtain ⟨ba, rfl, bg⟩ := CC.succ aw bc
   rw [Ds] at bb
   refine Ao (Aq ?_)
   refine Ap ?_
   refine AJ (um (ua (BL ?_)))
   refine Bh rfl zeroValue111 ?_; intro cj bh
   refine BL (uv (Fh rfl rfl) (By (i := 0) sizeOf111 rfl rfl rfl rfl (B2 rfl) (Aw rfl (BL (uv (BM isAgg111 0) (um ?_))))))
   refine Br 0 rfl bh ?_; intro ck aj bj
   refine Aw rfl ?_
   replace ab := ab.m2 aj
   replace ad := ad.m2 aj
   replace aa := aa.m3 aj
   replace ae := ae.m4 aj
   replace ak := ak.mono aj
   replace ai := aj _ _ ai
   replace aq := aj _ _ aq
   replace au := aj _ _ au
   obtain ⟨cn, ax, bu, bl⟩ := BT bb
   refine cG call115 ((Kk FU) aq ai ab ad aa ao ae ay au ak bj bu) ?_; rintro _ cp _ az bw bx ⟨rfl, rfl⟩
   refine Aw (lb (ln rfl)) (Aa ?_)
   refine AR rfl (fun bk => ?_) (fun bk => ?_)
   ·have bz := bt bl bk
    refine AI (Ki rfl ?_)
    refine Am (Am ?_)
    refine At ?_
    obtain rfl := AP bz
    exact mi kr ⟨((((av.trans al).trans ah).trans aj).trans az), rfl, z1⟩
   have cb := bf bl bk
   refine Ao (Ay (id := 1) (An ?_))
   refine uv (A0 rfl rfl (CC.Cs aw bc bq)) ?_
   refine um (Aa ?_)
   refine lf ?_
   exact mf kr ⟨_, bg, ax, cb, ((ah.trans aj).trans az), rfl, z5⟩
  obtain rfl := CC.zero aw bc
  rw [Ds] at bb
  refine AI (Am (Am ?_))
  refine At ?_
  obtain rfl := AP bb
  exact mi kr ⟨((av.trans al).trans ah), rfl, z1⟩
 refine AJ (uv (BM isAgg3 0) ?_)
 refine ua (Aa ?_)
 refine kW kn ?_
 refine AA (noGoto_ret ?_)
 refine C3 results96 ?_
 obtain rfl := AP r5
 exact rfl
set_option maxHeartbeats 1000000 in
theorem JG (aj : Ar 1 eJ F Aj Ai walks) (ak : Ar 1 eJ F Ak Al Af) (ae : Ar 3 eN F Ad Ac Ab) {r : List (Int × Int)} {r2 : Int} (hr : Ii walks Af Ae start Ab minute = some (r, r2)) :
    SH.Spec Tryz.prog 54 #[.agg #[sL Aj walks.length Ai, sL Ak Af.length Al, vI Ae, vI start, sL Ad Ab.length Ac], vI minute] F [] fun F' L' v => ∃ (ra : Option Addr) (rn : Nat) (rc : Nat) (rL : LH), v = .tuple #[sL ra rn rc, vI r2] ∧ L' = rL ++ [] ∧ AM 0 32 2 eP F' ra rn rc r rL := by
 refine sp func54 ntmps54 fun K _ _ => ?_
 rw [Ii] at hr
 refine AJ ?_
 refine Bx rfl rfl ?_; intro b1 dw
 refine ua (ua (BL ?_))
 refine uv (CA isAgg26 sizeOf26 0) ?_
 obtain ⟨d, n, h2, r3⟩ := BT hr
 refine c0 call72 (Cd aj ak ae h2) ?_; rintro _ F4 _ dx dy ⟨v8, rfl, rfl, bq⟩
 refine Aw (ln rfl) ?_
 refine um (ox rfl rfl rfl (ox rfl rfl rfl (ua (ua (Aa (Aq ?_))))))
 refine Ap ?_
 refine AJ (um ?_)
 refine uv (Bt rfl rfl) ?_
 refine ua (Aa ?_)
 refine cQ (fun bb => ?_) fun bb => ?_
 ·have br := A5 r3 bb
  refine AJ (um (ua (ua (Aa ?_))))
  refine kW kn ?_
  refine AA (AK (As ?_))
  refine BG results54 (AH rfl) (AH rfl) (sr) ?_
  obtain ⟨rfl, rfl⟩ := B9 br
  exact ⟨_, _, _, [], rfl, rfl, AM.nil _ _ _ _ _⟩
 have bu := A4 r3 bb
 refine AJ (um ?_)
 obtain ⟨ok, bw, bn⟩ := Av bu
 refine cV call77 (Ed bw) (uv (Bz rfl) ?_)
 refine ua (Aa ?_)
 refine AR rfl (fun bc => ?_) (fun bc => ?_)
 ·have bx := bt bn bc
  refine AJ (ua (ua (Aa ?_)))
  refine kW kn ?_
  refine AA (AK (As ?_))
  refine BG results54 (AH rfl) (AH rfl) (sr) ?_
  obtain ⟨rfl, rfl⟩ := B9 bx
  exact ⟨_, _, _, [], rfl, rfl, AM.nil _ _ _ _ _⟩
 have bz := bf bn bc
 refine Ao (Ay (id := 0) (AJ (um (um ?_))))
 obtain ⟨Ax, av, al, aw, ah, ax, AE, BH, cb, cc⟩ := J3 bz
 have bo := bq; rw [cb] at bo; obtain ⟨bd, dz, cf, bg, aa, ⟨_, _, rfl, ⟨cg, cj, rfl, ao⟩, ⟨_, _, rfl, ⟨ck, cn, rfl, aq⟩, ⟨_, _, rfl, rfl, ⟨_, _, rfl, rfl, ⟨_, _, rfl, ⟨cp, cq, rfl, ar⟩, ⟨_, _, rfl, ⟨rfl, az⟩, ⟨_, _, rfl, ⟨cr, ct, rfl, au⟩, ⟨rfl, ba⟩⟩⟩⟩⟩⟩⟩⟩⟩ := bo; subst bg
 have aa : F4 bd = some (.cells ((([sL cg Ax.length cj] : List Value) ++ (([sL ck av.length cn] : List Value) ++ (([vI al] : List Value) ++ (([vI aw] : List Value) ++ (([sL cp ah.length cq] : List Value) ++ (ax.flatMap (cI .i64) ++ (([sL cr AE.length ct] : List Value) ++ (BH.flatMap (cI .i64))))))))).toArray) 122 cf) := aa
 obtain ⟨y, cu, cv⟩ := Av cc
 refine c0 call94 (KB aa ao aq ar az au ba cu) ?_; rintro _ eb _ ai cw ⟨bh, bj, bk, rfl, rfl, ad⟩
 replace ao := ao.m2 ai
 replace aq := aq.m2 ai
 replace ar := ar.m3 ai
 replace au := au.m4 ai
 replace aa := ai _ _ aa
 refine Aw (ln rfl) ?_
 refine Bh rfl zeroValue137 ?_; intro ec cx
 refine A8 (i := 0) sizeOf137 rfl rfl rfl (by simp [Value.oneCell']) rfl (B2 rfl) (Aw rfl ?_)
 refine Aa (Aq (Aq ?_))
 refine Bg [(.still, 0), (.still, 1), (.still, 3), (.seq, 2), (.seq, 4), (.still, 5), (.still, 6), (.still, 7), (.still, 8), (.still, 9), (.still, 10), (.still, 11)] (by kernel_rfl) (by kernel_rfl) (trivial) (by rfl) (by kernel_rfl) (mS [6] rfl (AO rfl) (mS [6] rfl (AO rfl) (mA [8] isAgg137 sizeOf137 0 rfl rfl rfl rfl ?_)))
 refine ⟨_, [(30, pO bd)], rfl, rfl, z1, by kernel_rfl, ?_⟩; intro H
 obtain ⟨n2, cy, cz⟩ := Av cv
 refine cV call89 (Io aa ao aq ar az au ba cy) ?_
 refine Aa ⟨_, rfl, AN.refl _, [3, 0], by kernel_rfl, .inl (.inr (fun d h => by cases h; rfl)), (fc (s0 (s2 (s1 sr))) (fc sm nm)), ?_⟩
 refine ⟨_, [(29, pO bd), (31, vI n2), (32, .agg #[.func (.func bh) bj bk])], rfl, rfl, z3, by kernel_rfl, ?_⟩; intro H
 obtain ⟨l, n3, da, db, bp⟩ := Ia cz
 refine c0 call88 (Cz aa ao aq ar az au ba ad db) ?_; rintro _ ef _ ab dd ⟨de, df, dg, dh, rfl, rfl, di⟩
 replace ao := ao.m2 ab
 replace aq := aq.m2 ab
 replace ar := ar.m3 ab
 replace au := au.m4 ab
 replace ad := ad.mono ab
 replace aa := ab _ _ aa
 refine Aw (lp (ln rfl)) (kO (kf (fS fO) (kf (fS fO) kr)) ?_)
 refine Aa ⟨_, rfl, ab, [], by kernel_rfl, .inl (.inl rfl), nm, ?_⟩
 refine mS [33] rfl (AO rfl) (mS (v := sL de df dg) [28] rfl (CF rfl rfl) (mS (v := vI n3) [28] rfl (CF rfl rfl) (mS (v := .bool da) [28] rfl (CF rfl rfl) (mS [34] rfl (BB rfl) (mS [35] rfl (BB rfl) (mS [36] rfl (BB rfl) (Bo ?_)))))))
 refine AJ (um (Aa ?_))
 refine AR rfl (fun bl => ?_) (fun bl => ?_)
 ·have dk := bt bp bl
  refine AJ (ua (ua (Aa ?_)))
  refine kW kn ?_
  refine AA (As ?_)
  refine BG results54 (AH rfl) (AH rfl) (sr) ?_
  obtain ⟨rfl, rfl⟩ := B9 dk
  exact ⟨_, _, _, [], rfl, rfl, AM.nil _ _ _ _ _⟩
 have dm := bf bp bl
 refine Ao (AJ (um (um ?_)))
 refine uv (CA isAgg137 sizeOf137 0) ?_
 obtain ⟨n4, dp, dq⟩ := Av dm
 refine cV call96 (KG aa ao aq ar az au ba ad dp) ?_
 obtain ⟨l2, dr, dt⟩ := Av dq
 refine c0 call95 (Lg aa ao aq ar az au ba dr) ?_; rintro _ eg _ du bm ⟨eh, ei, ej, dv, rfl, rfl, ay⟩
 replace ay := ay.new fun p hp => bm p (by simp [hp])
 refine Aw (lp (ln rfl)) (kO (kf (fS fO) (kf (fS fO) kr)) ?_)
 refine ua (ua (Aa ?_))
 refine kW (kd (kd (ka kn))) (AA (BG results54 (AH rfl) (AH rfl) (sr) ?_))
 obtain ⟨rfl, rfl⟩ := B9 dt
 exact ⟨_, _, _, _, rfl, rfl, ay.any⟩
set_option maxHeartbeats 1000000 in
theorem MD {bc : Nat} {x : Int} {au : Nat × Nat} {ao : Nat} {x2 : Int} {aq : Nat × Nat} {aj ae : Nat} {Ax : List Int} {ai ak : Nat × Nat} (al : F bc = some (.cells #[vI x] 3 au)) (ar : F ao = some (.cells #[vI x2] 3 aq)) (ah : F aj = some (.cells #[pO ae] 113 ak)) (ad : F ae = some (.cells ((([sL Aj walks.length Ai] : List Value) ++ (([sL Ak Af.length Al] : List Value) ++ (([vI Ae] : List Value) ++ (([vI start] : List Value) ++ (([sL Ad Ab.length Ac] : List Value) ++ (Ax.flatMap (cI .i64) ++ (([sL A3 AE.length A2] : List Value) ++ (BH.flatMap (cI .i64))))))))).toArray) 122 ai)) (_h_walks : Ar 1 eJ F Aj Ai walks) (_h_hears : Ar 1 eJ F Ak Al Af) (ab : Ar 3 eN F Ad Ac Ab) (_h_walks2 : Ax.length = 25) (_h_pairs : Ar 2 eP F A3 A2 AE) (_h_hit : BH.length = 15) {r : Bool} (hr : HQ n minute x x2 walks Af Ae start Ab Ax AE BH = some r) :
    Bv Tryz.prog 102 #[vI n, vI minute, pO bc, pO ao, pO aj] F (.bool r) := by
 refine sp func102 ntmps102 fun K _ _ => ?_
 rw [HQ] at hr
 refine AJ (ua (BL (um ?_)))
 refine uv (AG isAgg3 rfl (Has.frozen al) rfl) (uv (BO rfl rfl) (um ?_))
 by_cases c1 : n = x
 ·have r2 := A5 hr c1
  refine nT c1 (um (nT c1 ?_))
  refine uv (AG isAgg3 rfl (Has.frozen ar) rfl) (nT c1 (uv (KM rfl rfl) (uv (AF (AX rfl c1) rfl) (um ?_))))
  by_cases c3 : minute ≤ x2
  ·have r4 := A5 r2 c3
   refine fT c3 (fT c3 (fT c3 (fT c3 (fU (fU (fU (fU (fU (fU ?_)))))))))
   refine fU (fU (fU (fU (fU (fT c3 ?_)))))
   refine uv (AF (AX rfl c3) rfl) ?_
   refine ua (Aa (AA ?_))
   refine C3 results102 ?_
   obtain rfl := AP r4
   exact rfl
  have r5 := A4 r2 c3
  refine nF c3 (um (nF c3 ?_))
  refine uv (AG isAgg3 rfl (Has.frozen al) rfl) (nF c3 (uv (Bt rfl rfl) ?_))
  refine nF c3 (um ?_)
  by_cases c6 : n ≠ x
  ·have r7 := A5 r5 c6
   refine nT c6 (um (nT c6 ?_))
   refine uv (AG isAgg113 rfl (Has.frozen ah) rfl) (nT c6 (uv (A9 rfl) (nT c6 (uv (Ah Gv rfl) (nT c6 (uv (Ah BF rfl) (nT c6 ?_)))))))
   refine uv (AG isAgg24 rfl (Has.frozen ad) (DN (Au (k := 1) (o := 3) rfl (Au (k := 1) (o := 2) rfl (Au (k := 1) (o := 1) rfl (Au (k := 1) (o := 0) rfl (BJ rfl))))))) ?_
   refine nT c6 (um (nT c6 ?_))
   obtain ⟨x3, g8, bk, bl⟩ := Bi r7
   obtain ⟨Nb, bx, bz, bm, av, aw, bd, ⟨_, _, rfl, ⟨cb, cc, rfl, cf⟩, ⟨_, _, rfl, rfl, rfl⟩⟩, bn, ax⟩ := Ar.ta kN ab g8.1 bk
   refine uv (Cx underlying24 sizeOf35 av g8) (nT c6 (uv (Ah Ic rfl) (nT c6 (uv (AG isAgg3 rfl (aw _) (ax 2 (by decide))) (nT c6 (uv (KM rfl rfl) (nF c3 ?_)))))))
   refine uv (AF (AX rfl c6) rfl) (uv (AD (AL rfl c3) rfl) ?_)
   refine ua (Aa (AA ?_))
   refine C3 results102 ?_
   obtain rfl := AP bl
   exact rfl
  have bo := A4 r5 c6
  refine fF c6 (fF c6 (fF c6 (fF c6 (fF c6 (fF c6 (fF c6 (fF c6 (fF c6 (fF c6 ?_)))))))))
  refine fF c6 (nF c3 ?_)
  refine uv (AD (AL rfl c6) rfl) (uv (AD (AL rfl c3) rfl) ?_)
  refine ua (Aa (AA ?_))
  refine C3 results102 ?_
  obtain rfl := AP bo
  exact rfl
 have bg := A4 hr c1
 refine fF c1 (fF c1 (fF c1 ?_))
 refine uv (AD (AL rfl c1) rfl) ?_
 refine um (BV (b := false) 16 rfl rfl (um (BV (b := false) 16 rfl rfl ?_)))
 refine uv (AG isAgg3 rfl (Has.frozen al) rfl) (BV (b := false) 16 rfl rfl (uv (Bt rfl rfl) ?_))
 refine BV (b := false) 16 rfl rfl (um ?_)
 by_cases aa : n ≠ x
 ·have bp := A5 bg aa
  refine nT aa (um (nT aa ?_))
  refine uv (AG isAgg113 rfl (Has.frozen ah) rfl) (nT aa (uv (A9 rfl) (nT aa (uv (Ah Gv rfl) (nT aa (uv (Ah BF rfl) (nT aa ?_)))))))
  refine uv (AG isAgg24 rfl (Has.frozen ad) (DN (Au (k := 1) (o := 3) rfl (Au (k := 1) (o := 2) rfl (Au (k := 1) (o := 1) rfl (Au (k := 1) (o := 0) rfl (BJ rfl))))))) ?_
  refine nT aa (um (nT aa ?_))
  obtain ⟨x4, bh, ay, bq⟩ := Bi bp
  obtain ⟨cg, cj, ck, br, az, ba, bj, ⟨_, _, rfl, ⟨cn, cp, rfl, cq⟩, ⟨_, _, rfl, rfl, rfl⟩⟩, bu, bb⟩ := Ar.ta kN ab bh.1 ay
  refine uv (Cx underlying24 sizeOf35 az bh) (nT aa (uv (Ah Ic rfl) (nT aa (uv (AG isAgg3 rfl (ba _) (bb 2 (by decide))) (nT aa (uv (KM rfl rfl) (BV (b := false) 16 rfl rfl ?_)))))))
  refine uv (AF (AX rfl aa) rfl) (uv (AD rfl rfl) ?_)
  refine ua (Aa (AA ?_))
  refine C3 results102 ?_
  obtain rfl := AP bq
  exact rfl
 have bw := A4 bg aa
 refine fF aa (fF aa (fF aa (fF aa (fF aa (fF aa (fF aa (fF aa (fF aa (fF aa ?_)))))))))
 refine fF aa (BV (b := false) 16 rfl rfl ?_)
 refine uv (AD (AL rfl aa) rfl) (uv (AD rfl rfl) ?_)
 refine ua (Aa (AA ?_))
 refine C3 results102 ?_
 obtain rfl := AP bw
 exact rfl
set_option maxHeartbeats 1000000 in
theorem K5 {Ax : List Int} {aa : Nat} {al : Nat × Nat} (ao : F FO = some (.cells #[pO Is] 113 I8)) (ak : F Is = some (.cells ((([sL Aj walks.length Ai] : List Value) ++ (([sL Ak Af.length Al] : List Value) ++ (([vI Ae] : List Value) ++ (([vI start] : List Value) ++ (([sL Ad Ab.length Ac] : List Value) ++ (Ax.flatMap (cI .i64) ++ (([sL A3 AE.length A2] : List Value) ++ (BH.flatMap (cI .i64))))))))).toArray) 122 Jz)) (ad : Ar 1 eJ F Aj Ai walks) (ae : Ar 1 eJ F Ak Al Af) (ab : Ar 3 eN F Ad Ac Ab) (aj : Ax.length = 25) (ah : Ar 2 eP F A3 A2 AE) (aq : BH.length = 15) (ai : F aa = some (.cells #[vI AW] 3 al)) {r : Bool} (hr : IX hour walks Af Ae start Ab Ax AE BH AW = some r) :
    Bv Tryz.prog 101 #[vI hour, pO FO, pO aa] F (.bool r) := by
 refine sp func101 ntmps101 fun K _ _ => ?_
 rw [IX] at hr
 refine AJ ?_
 refine Bx rfl rfl ?_; intro b1 ay
 refine ua (Aa (Aq ?_))
 refine Bg [(.still, 0), (.still, 1), (.still, 3), (.still, 4), (.seq, 2), (.seq, 5), (.still, 6), (.still, 7), (.still, 8), (.still, 9), (.still, 10), (.still, 11), (.still, 12)] (by kernel_rfl) (by kernel_rfl) (trivial) (by rfl) (by kernel_rfl) (mL [1] ([]) rfl sm (fun H F' L' au av => AG isAgg113 rfl ((Has.frozen ao).ext au av) rfl) (mL [1] ([]) rfl sm (fun H F' L' au av => AG isAgg113 rfl ((Has.frozen ao).ext au av) rfl) (mS (v := .func (.func 102) #[] #[pO aa, pO b1, pO FO]) [1, 2, 3] rfl (Fh rfl rfl) ?_)))
 refine mS (v := .agg (#[.func (.func 102) #[] #[pO aa, pO b1, pO FO]])) [12] rfl (BI (v := .agg (#[.func (.func 102) #[] #[pO aa, pO b1, pO FO]])) rfl (by intro w; kernel_rfl)) ?_
 refine ⟨_, [(10, pO Is)], rfl, rfl, z1, by kernel_rfl, ?_⟩; intro H
 obtain ⟨n, h2, r3⟩ := Av hr
 refine cV call89 (Io ak ad ae ab aj ah aq h2) ?_
 refine Aa ⟨_, rfl, AN.refl _, [4, 3, 0], by kernel_rfl, .inl (.inr (fun d h => by cases h; rfl)), (fc sm (fc sm (fc sm nm))), ?_⟩
 refine ⟨_, [(9, pO Is), (11, vI n), (13, .agg (#[.func (.func 102) #[] #[pO aa, pO b1, pO FO]]))], rfl, rfl, z3, by kernel_rfl, ?_⟩; intro H
 refine Br 0 rfl ay ?_; intro F4 ar az
 refine Aw rfl ?_
 replace ad := ad.m2 ar
 replace ae := ae.m2 ar
 replace ab := ab.m3 ar
 replace ah := ah.m4 ar
 replace ak := ar _ _ ak
 replace ao := ar _ _ ao
 replace ai := ar _ _ ai
 have ba : Oa Tryz.prog F4 102 #[] #[pO aa, pO b1, pO FO] eP Value.bool (fun aw : Int × Int => HQ aw.1 aw.2 AW hour walks Af Ae start Ab Ax AE BH) := ⟨call102, fun F2 h2 vs aw r ha hr => by obtain ⟨_, _, rfl, rfl, rfl⟩ := ha; exact MD (h2 _ _ ai) (h2 _ _ az) (h2 _ _ ao) (h2 _ _ ak) (ad.mono kJ h2) (ae.mono kJ h2) (ab.mono kN h2) aj (ah.mono kP h2) aq hr⟩
 obtain ⟨l, n2, ok, h8, r9⟩ := Ia r3
 refine c0 call88 (Cz ak ad ae ab aj ah aq ba h8) ?_; rintro _ bk _ ax bb ⟨bc, bd, bg, bh, rfl, rfl, bj⟩
 refine Aw (lp (ln rfl)) ?_
 refine Aa ⟨_, rfl, (ar.trans ax), [], by kernel_rfl, .inl (.inl rfl), nm, ?_⟩
 refine mS [14] rfl (AO rfl) (mS (v := sL bc bd bg) [8] rfl (CF rfl rfl) (mS (v := vI n2) [8] rfl (CF rfl rfl) (mS (v := .bool ok) [8] rfl (CF rfl rfl) (mS [15] rfl (BB rfl) (mS [16] rfl (BB rfl) (mS [17] rfl (BB rfl) (Bo ?_)))))))
 refine AJ (um (ua (Aa ?_)))
 refine kW kn (AA (C3 results101 ?_))
 obtain rfl := AP r9
 exact rfl
set_option maxHeartbeats 1000000 in
theorem LZ (ab : Ar 1 eJ F Aj Ai walks) (ad : Ar 1 eJ F Ak Al Af) (aa : Ar 3 eN F Ad Ac Ab) {r r2 : Int} (hr : Kf walks Af Ae start Ab AW = some (r, r2)) :
    Bv Tryz.prog 59 #[.agg #[sL Aj walks.length Ai, sL Ak Af.length Al, vI Ae, vI start, sL Ad Ab.length Ac], vI AW] F (.tuple #[vI r, vI r2]) := by
 refine sp func59 ntmps59 fun K _ _ => ?_
 rw [Kf] at hr
 refine AJ ?_
 refine Bx rfl rfl ?_; intro b1 dx
 refine Bx rfl rfl ?_; intro b2 cb
 refine ua (ua (BL ?_))
 refine uv (CA isAgg26 sizeOf26 1) ?_
 obtain ⟨d, n, h3, r4⟩ := BT hr
 refine c0 call72 (Cd ab ad aa h3) ?_; rintro _ F5 _ bc dy ⟨v9, rfl, rfl, aq⟩
 replace ab := ab.m2 bc
 replace ad := ad.m2 bc
 replace aa := aa.m3 bc
 refine Aw (ln rfl) ?_
 refine um (ox rfl rfl rfl (ox rfl rfl rfl ?_))
 refine Bh rfl zeroValue113 ?_; intro Nb bd
 refine By (i := 0) sizeOf113 rfl rfl (KK.one aq) rfl (B2 rfl) (Aw rfl ?_)
 refine ua (Aa (Aq ?_))
 refine Ap ?_
 refine AJ (um ?_)
 refine uv (Bt rfl rfl) ?_
 refine ua (Aa ?_)
 refine cQ (fun bg => ?_) fun bg => ?_
 ·have cc := A5 r4 bg
  refine AJ (um (ua (ua (Aa ?_))))
  refine kW kn ?_
  refine AA (AK (As ?_))
  refine BG results59 (AH rfl) (AH rfl) (sr) ?_
  obtain ⟨rfl, rfl⟩ := B9 cc
  exact rfl
 have cf := A4 r4 bg
 refine AJ (uv (CA isAgg26 sizeOf26 2) (uv (BM isAgg3 1) ?_))
 obtain ⟨ok, cg, bp⟩ := Av cf
 refine cV call76 (Hw ab ad aa cg) (uv (Bz rfl) ?_)
 refine ua (Aa ?_)
 refine AR rfl (fun bh => ?_) (fun bh => ?_)
 ·have cj := bt bp bh
  refine AJ (ua (ua (Aa ?_)))
  refine kW kn ?_
  refine AA (AK (As ?_))
  refine BG results59 (AH rfl) (AH rfl) (sr) ?_
  obtain ⟨rfl, rfl⟩ := B9 cj
  exact rfl
 have ck := bf bp bh
 refine Ao (Ay (id := 0) (AJ ?_))
 refine uv (Fh rfl rfl) ?_
 refine ua (Aa (Aq (AJ (um ?_))))
 refine Br 0 rfl bd ?_; intro cn bj ar
 refine Aw rfl ?_
 replace aq := aq.mono (BW (AT kJ) (BW (AT kJ) (BW kI (BW kI (BW (AT kN) (BW (Jh (n := 25) (sz := 1) (Bj .i64)) (BW (AT kP) (Jh (n := 15) (sz := 1) (Bj .i64))))))))) bj
 obtain ⟨Ax, ak, ah, al, ae, ao, AE, BH, cp, cq⟩ := J3 ck
 have bq := aq; rw [cp] at bq; obtain ⟨cr, dz, ct, bk, ai, ⟨_, _, rfl, ⟨cu, cv, rfl, ax⟩, ⟨_, _, rfl, ⟨cw, cx, rfl, ay⟩, ⟨_, _, rfl, rfl, ⟨_, _, rfl, rfl, ⟨_, _, rfl, ⟨cy, cz, rfl, az⟩, ⟨_, _, rfl, ⟨rfl, br⟩, ⟨_, _, rfl, ⟨da, db, rfl, ba⟩, ⟨rfl, bu⟩⟩⟩⟩⟩⟩⟩⟩⟩ := bq; subst bk
 have ai : cn cr = some (.cells ((([sL cu Ax.length cv] : List Value) ++ (([sL cw ak.length cx] : List Value) ++ (([vI ah] : List Value) ++ (([vI al] : List Value) ++ (([sL cy ae.length cz] : List Value) ++ (ao.flatMap (cI .i64) ++ (([sL da AE.length db] : List Value) ++ (BH.flatMap (cI .i64))))))))).toArray) 122 ct) := ai
 refine Br 0 rfl cb ?_; intro dd aj av
 refine Aw rfl ?_
 replace ax := ax.m2 aj
 replace ay := ay.m2 aj
 replace az := az.m3 aj
 replace ba := ba.m4 aj
 replace ar := aj _ _ ar
 replace ai := aj _ _ ai
 obtain ⟨eb, de, bw⟩ := Av cq
 refine cV call101 (K5 ar ai ax ay az br ba bu av de) (uv (Bz rfl) (Aa ?_))
 refine AR rfl (fun bl => ?_) (fun bl => ?_)
 ·have df := bt bw bl
  refine AJ (ua (ua (Aa ?_)))
  refine kW kn ?_
  refine AA (As ?_)
  refine BG results59 (AH rfl) (AH rfl) (sr) ?_
  obtain ⟨rfl, rfl⟩ := B9 df
  exact rfl
 have dg := bf bw bl
 refine Ao (AJ (ua (ua (Aa ?_))))
 obtain ⟨lo, dh, bx⟩ := Av dg
 refine jE ([]) [(9, vI lo)] ?_ ?_
 ·clear bx
  refine Ap (kW kn ?_)
  refine Bb (fun bb e1 F1 L1 => ∃ (au : Int) (hi : Int), FX AW Ax ak ah al ae ao AE BH bb au hi = some lo ∧ dd = F1 ∧ L1 = [] ∧ e1.sub [(8, .func (.func 101) #[] #[pO Nb, pO b2]), (9, vI au), (10, vI hi)]) FU (m0 kr ⟨0, 200, dh, rfl, rfl, z3⟩) ?_
  rintro bb e1 _ _ ⟨au, hi, aw, rfl, rfl, bm⟩
  refine Az _ bm ?_
  rcases bb with _ | bb
  ·rw [FX] at aw; cases aw
  rw [FX] at aw
  refine Aq (AJ (um (um ?_)))
  refine uv (AV rfl rfl) (Aa ?_)
  refine cQ (fun bn => ?_) fun bn => ?_
  ·have di := A5 aw bn
   refine Ao (Ap ?_)
   refine AJ (um (um ?_))
   obtain ⟨dk, dm⟩ := AB di
   refine uv (A0 rfl rfl dk) ?_
   obtain ⟨dp, Cs⟩ := AB dm
   refine uv (Mp rfl rfl dp) ?_
   refine ua (BL (um (um ?_)))
   obtain ⟨ec, dq, bz⟩ := Av Cs
   refine cV call101 (K5 ar ai ax ay az br ba bu av dq) (Aa ?_)
   refine AR rfl (fun bo => ?_) (fun bo => ?_)
   ·have dr := bt bz bo
    refine An (um (ua (Aa (Ay (id := 2) ?_))))
    exact le kr ⟨au, Int.tdiv (au + hi) 2, dr, rfl, rfl, z3⟩
   have dt := bf bz bo
   refine An (um ?_)
   obtain ⟨du, dv⟩ := AB dt
   refine uv (A0 rfl rfl du) ?_
   refine ua (Aa (Ay (id := 2) ?_))
   exact le kr ⟨(Int.tdiv (au + hi) 2) + 1, hi, dv, rfl, rfl, z3⟩
  have dw := A4 aw bn
  refine AI (Am (Am ?_))
  refine At ?_
  obtain rfl := AP dw
  exact mi kr ⟨rfl, rfl, z1⟩
 refine AJ (um (ua (ua (Aa (AA ?_)))))
 refine BG results59 (AH rfl) (AH rfl) (sr) ?_
 obtain ⟨rfl, rfl⟩ := B9 bx
 exact rfl
set_option maxHeartbeats 1000000 in
theorem IW {Ax aa : List Int} (ak : F FO = some (.cells ((([sL Aj walks.length Ai] : List Value) ++ (([sL Ak Af.length Al] : List Value) ++ (([vI Ae] : List Value) ++ (([vI start] : List Value) ++ (([sL Ad Ab.length Ac] : List Value) ++ (Ax.flatMap (cI .i64) ++ (([sL A3 AE.length A2] : List Value) ++ (BH.flatMap (cI .i64))))))))).toArray) 122 I8)) (_h_walks : Ar 1 eJ F Aj Ai walks) (_h_hears : Ar 1 eJ F Ak Al Af) (_h_notices : Ar 3 eN F Ad Ac Ab) (ah : Ax.length = 25) (ab : Ar 2 eP F A3 A2 AE) (_h_hit : BH.length = 15) (ae : Ar 1 eI F Di Dg aa) {r : Int} (hr : Hi walks Af Ae start Ab Ax AE BH aa = some r) :
    Bv Tryz.prog 100 #[pO FO, sL Di aa.length Dg] F (vI r) := by
 refine sp func100 ntmps100 fun K _ _ => ?_
 rw [Hi] at hr
 refine AJ (ua (BL (ua (Aa ?_))))
 obtain ⟨BX, h1, r2⟩ := Av hr
 refine jE ([]) [(5, vI BX)] ?_ ?_
 ·clear r2
  refine AJ (um ?_)
  refine uv (A9 rfl) (uv (Ah GB rfl) (uv (AG isAgg41 rfl (Has.frozen ak) (DN (Au (k := 1) (o := 29) rfl (Au (k := 1) (o := 28) rfl (Au (k := 1) (o := 27) rfl (Au (k := 1) (o := 26) rfl (Au (k := 1) (o := 25) rfl (Au (k := 25) (o := 0) (IG (Bj .i64) ah) (BJ rfl))))))))) (uv (AQ underlying41 rfl) ?_)))
  refine um (Aa ?_)
  refine Ap ?_
  refine Bb (fun aw e1 F1 L1 => LA AE aw fun tl k => ∃ (ad : Int), Ey aa tl k ad = some BX ∧ F = F1 ∧ L1 = [] ∧ e1.sub [(1, sL Di aa.length Dg), (5, vI ad), (11, sL A3 AE.length A2), (12, vI (AE.length : Int)), (13, vI k)]) _ (m0 kr ⟨_, _, rfl, Bl.start _, 0, h1, rfl, rfl, z5⟩) ?_
  rintro aw e1 _ _ ⟨tl, k, ax, aj, ad, r5, rfl, rfl, bb⟩
  refine Az _ bb (AJ (uv (AV rfl rfl) ?_))
  refine Aa (Aq ?_)
  refine cQ (fun c8 => ?_) fun c8 => ?_
  ·obtain ⟨x, bm, rfl, al, ay, az⟩ := Bl.succ aj c8
   rw [Ey] at r5
   refine Ao (Aq ?_)
   refine Ap ?_
   refine AJ (um ?_)
   obtain ⟨OY, bn, bo, bc, ao, aq, ai, ⟨_, _, rfl, rfl, rfl⟩, ar, au⟩ := Ar.ta kP ab ay.1 al
   refine uv (Cx underlying41 sizeOf32 ao ay) (uv (AZ isAgg32 sizeOf32 rfl (aq _) ai (Ba ai ar au)) ?_)
   refine Bh rfl zeroValue32 ?_; intro bp bd
   refine ua (A8 (i := 0) sizeOf32 rfl rfl rfl (by simp [Value.oneCell']) rfl (B2 rfl) (Aw rfl ?_))
   refine BL (um ?_)
   refine uv (Ah LG rfl) (uv (BM isAgg3 0) ?_)
   obtain ⟨ok, bg, ba⟩ := Av r5
   refine cV call105 (D2 ae bg) (Aa ?_)
   refine AR rfl (fun av => ?_) (fun av => ?_)
   ·have bh := bt ba av
    refine An (um (um ?_))
    obtain ⟨bj, bk⟩ := AB bh
    refine uv (Ns rfl rfl bj) (uv (Rm rfl rfl) ?_)
    refine ua (Aa (Ay (id := 1) (An ?_)))
    refine uv (A0 rfl rfl (Bl.Cs aj c8 (Ar.lt ab))) ?_
    refine um (Aa ?_)
    subst ax; exact le kn ⟨_, _, rfl, az, PS ad (shl 1 k), bk, rfl, rfl, z5⟩
   have bl := bf ba av
   refine Ao (Ay (id := 1) (An ?_))
   refine uv (A0 rfl rfl (Bl.Cs aj c8 (Ar.lt ab))) ?_
   refine um (Aa ?_)
   subst ax; exact le kn ⟨_, _, rfl, az, ad, bl, rfl, rfl, z5⟩
  obtain rfl := Bl.zero aj c8
  rw [Ey] at r5
  refine AI (Am (Am ?_))
  refine At ?_
  obtain rfl := AP r5
  exact mi kr ⟨rfl, rfl, z1⟩
 refine AJ (um (ua (Aa (AA ?_))))
 refine C3 results100 ?_
 obtain rfl := AP r2
 exact rfl
set_option maxHeartbeats 1000000 in
theorem Nv (bx : Ar 1 eJ F Aj Ai walks) (bz : Ar 1 eJ F Ak Al Af) (bc : Ar 3 eN F Ad Ac Ab) {r : List Int} {r2 : Int} (hr : LL walks Af Ae start Ab = some (r, r2, r3)) :
    SH.Spec Tryz.prog 60 #[.agg #[sL Aj walks.length Ai, sL Ak Af.length Al, vI Ae, vI start, sL Ad Ab.length Ac]] F [] fun F' L' v => ∃ (ra : Option Addr) (rn : Nat) (rc : Nat) (rL : LH), v = .tuple #[sL ra rn rc, vI r2, vI r3] ∧ L' = rL ++ [] ∧ AM 0 3 1 eI F' ra rn rc r rL := by
 refine sp func60 ntmps60 fun K _ _ => ?_
 rw [LL] at hr
 refine AJ ?_
 refine Bx rfl rfl ?_; intro b1 p6
 refine ua (ua (ua (BL ?_)))
 refine uv (CA isAgg26 sizeOf26 0) ?_
 obtain ⟨d, n, h2, r4⟩ := BT hr
 refine c0 call72 (Cd bx bz bc h2) ?_; rintro _ F5 _ p7 p8 ⟨v9, rfl, rfl, gn⟩
 refine Aw (ln rfl) ?_
 refine um (ox rfl rfl rfl (ox rfl rfl rfl (ua (ua (Aa (Aq (AJ (um ?_))))))))
 refine uv (Bt rfl rfl) (Aa ?_)
 refine cQ (fun gp => ?_) fun gp => ?_
 ·have nn := A5 r4 gp
  refine AJ (um (ua (ua (ua (Aa ?_)))))
  refine kW kn ?_
  refine AA (As ?_)
  refine HW results60 (AH rfl) (AH rfl) (AH rfl) (sr) ?_
  obtain ⟨rfl, rfl, rfl⟩ := Kw nn
  exact ⟨_, _, _, [], rfl, rfl, AM.nil _ _ _ _ _⟩
 have np := A4 r4 gp
 refine Ao (AJ (ua (BL (ua (Aa ?_)))))
 obtain ⟨out, dz, nq, gq⟩ := BT np
 refine AU (fun e1 F1 L1 => ∃ (gr : Option Addr) (gu : Nat) (gv : Nat) (cw : LH), AN F5 F1 ∧ L1 = (cw ++ []) ∧ e1.sub [(7, sL gr gu gv), (8, vI dz)] ∧ AM K.w0.heap.size 3 1 eI F1 gr gu gv out cw) ?_ ?_
 ·clear gq
  refine AJ (uv (Ah BF rfl) (uv (BM isAgg24 0) (uv (AQ underlying24 rfl) ?_)))
  obtain ⟨nr, ns⟩ := AB nq
  refine uv (Ns rfl rfl nr) ?_
  refine um (Aa ?_)
  refine Ap ?_
  obtain ⟨nt, nu⟩ := AB ns
  refine Bb (fun g0 e1 F1 L1 => ∃ (k : Int), CC 0 (shl 1 (Ab.length : Int)) k g0 ∧ ∃ (cx : List Int) (ao : Int) (eb : Value) (cn : Option Addr) (cp : Nat) (cq : Nat) (ax : LH), IE Ab d g0 k cx ao = some (out, dz) ∧ AN F5 F1 ∧ L1 = ((b1, ce #[sL Aj walks.length Ai, sL Ak Af.length Al, vI Ae, vI start, sL Ad Ab.length Ac] 26) :: (ax ++ [])) ∧ e1.sub [(1, pO b1), (5, eb), (7, sL cn cp cq), (8, vI ao), (31, vI (shl 1 (Ab.length : Int))), (32, vI k)] ∧ KK 122 (DZ (GM 1 eJ) (DZ (GM 1 eJ) (DZ eI (DZ eI (DZ (GM 3 eN) (DZ (Nf 25 (cI .i64)) (DZ (GM 2 eP) (Nf 15 (cI .i64))))))))) F1 eb d ∧ AM K.w0.heap.size 3 1 eI F1 cn cp cq cx ax) _ (m0 (kc (ke kr)) ⟨_, CC.start _ _, [], -1, v9, none, 0, 0, [], nu, AN.refl _, rfl, z6, gn, AM.nil _ _ _ _ _⟩) ?_
  rintro g0 e1 ga _ ⟨k, cy, cx, ao, eb, cn, cp, cq, ax, gb, ec, rfl, gw, aq, ar⟩
  refine Az _ gw (AJ (uv (AV rfl rfl) ?_))
  refine Aa (Aq ?_)
  refine cQ (fun gg => ?_) fun gg => ?_
  ·obtain ⟨g0, rfl, gz⟩ := CC.succ cy gg
   rw [IE] at gb
   refine Ao ?_
   obtain ⟨ef, cr, nv, lq⟩ := BT gb
   refine AU (fun e1 F1 L1 => ∃ (gh : Value) (gi : Option Addr) (gj : Nat) (gk : Nat) (cb : LH), AN ga F1 ∧ L1 = ((b1, ce #[sL Aj walks.length Ai, sL Ak Af.length Al, vI Ae, vI start, sL Ad Ab.length Ac] 26) :: (cb ++ [])) ∧ e1.sub [(1, pO b1), (5, gh), (7, sL gi gj gk), (8, vI cr), (31, vI (shl 1 (Ab.length : Int))), (32, vI k)] ∧ KK 122 (DZ (GM 1 eJ) (DZ (GM 1 eJ) (DZ eI (DZ eI (DZ (GM 3 eN) (DZ (Nf 25 (cI .i64)) (DZ (GM 2 eP) (Nf 15 (cI .i64))))))))) F1 gh d ∧ AM K.w0.heap.size 3 1 eI F1 gi gj gk ef cb) ?_ ?_
   ·clear lq
    refine Ap ?_
    refine AJ (um (ua (BL ?_)))
    refine uv (Ah BF rfl) (uv (BM isAgg24 0) (uv (AQ underlying24 rfl) ?_))
    obtain ⟨nw, ny⟩ := AB nv
    obtain ⟨l, nz, o0⟩ := BC ny
    refine Hs (R := eI) (z0 := 0) (zs := l) rfl Bp (by decide) kI (fun _ => rfl) rfl nw nz (fun _ => .c .n) ?_; intro dy bm ia eg
    refine ua (BL ?_)
    refine Bh rfl zeroValue149 ?_; intro az o1
    refine Aa ?_
    obtain ⟨lr, lu, eh, o2, lv⟩ := Ia o0
    refine AU (fun e1 F1 L1 => ∃ (bn : LH) (ib : Option Addr) (ic : Nat) (ie : Nat) (cz : LH) (ig : Option Addr) (ij : Nat) (ik : Nat) (da : LH), ga = F1 ∧ L1 = ((az, ce #[sL ib ic ie, sL ig ij ik] 149) :: ((b1, ce #[sL Aj walks.length Ai, sL Ak Af.length Al, vI Ae, vI start, sL Ad Ab.length Ac] 26) :: (ax ++ (bn ++ (cz ++ (da ++ [])))))) ∧ e1.sub [(1, pO b1), (5, eb), (7, sL cn cp cq), (8, vI ao), (10, sL dy bm bm), (11, pO az), (31, vI (shl 1 (Ab.length : Int))), (32, vI k)] ∧ AM K.w0.heap.size 3 1 eI F1 dy bm bm lr bn ∧ AM K.w0.heap.size 3 1 eI F1 ib ic ie lu cz ∧ AM K.w0.heap.size 3 1 eI F1 ig ij ik eh da) ?_ ?_
    ·clear lv
     refine AJ (um ?_)
     refine uv ((AQ underlying22 rfl).i (AM.Gh eg)) ?_
     refine um (Aa ?_)
     refine Ap ?_
     obtain ⟨lx, o3⟩ := AB o2
     refine Bb (fun gl e1 F1 L1 => ∃ (k2 : Int), CC 0 (l.length : Int) k2 gl ∧ ∃ (cc : List Int) (bo : List Int) (bp : List Int) (bq : LH) (db : Option Addr) (dd : Nat) (de : Nat) (bd : LH) (df : Option Addr) (dg : Nat) (dh : Nat) (bg : LH), Ht k gl k2 cc bo bp = some (lr, lu, eh) ∧ ga = F1 ∧ L1 = ((az, ce #[sL db dd de, sL df dg dh] 149) :: ((b1, ce #[sL Aj walks.length Ai, sL Ak Af.length Al, vI Ae, vI start, sL Ad Ab.length Ac] 26) :: (ax ++ (bq ++ (bd ++ (bg ++ [])))))) ∧ e1.sub [(1, pO b1), (5, eb), (7, sL cn cp cq), (8, vI ao), (9, vI k), (10, sL dy bm bm), (11, pO az), (31, vI (shl 1 (Ab.length : Int))), (32, vI k), (40, vI (l.length : Int)), (41, vI k2)] ∧ AM K.w0.heap.size 3 1 eI F1 dy bm bm cc bq ∧ AM K.w0.heap.size 3 1 eI F1 db dd de bo bd ∧ AM K.w0.heap.size 3 1 eI F1 df dg dh bp bg) _ (m0 (kc (kc (kg (fS fP) (ka (ke (ke kr)))))) ⟨_, CC.start _ _, l, [], [], ia, none, 0, 0, [], none, 0, 0, [], o3, rfl, rfl, (sc rfl (sc rfl (sc rfl z8))), eg, AM.nil _ _ _ _ _, AM.nil _ _ _ _ _⟩) ?_
     rintro gl e1 _ _ ⟨k2, cf, cc, bo, bp, bq, db, dd, de, bd, df, dg, dh, bg, gm, rfl, rfl, il, br, di, dk⟩
     refine Az _ il (AJ (uv (AV rfl rfl) ?_))
     refine Aa (Aq ?_)
     refine cQ (fun bu => ?_) fun bu => ?_
     ·obtain ⟨gl, rfl, ct⟩ := CC.succ cf bu
      rw [Ht] at gm
      refine Ao (Aq ?_)
      refine Ap ?_
      refine AJ (um (ua (BL (um (um (um (um ?_)))))))
      refine uv ((AQ underlying22 rfl).i (AM.Gh br)) ?_
      obtain ⟨im, iq⟩ := AB gm
      refine uv (DP rfl rfl im) (um ?_)
      obtain ⟨ir, iu⟩ := AB iq
      refine uv (DP rfl rfl ir) ?_
      obtain ⟨iv, iw⟩ := AB iu
      refine uv (Nu rfl rfl iv) (uv (QY rfl rfl) ?_)
      obtain ⟨x, dm, ei, iy⟩ := Bi iw
      obtain ⟨o4, o6, o7, ly, cu, ma, iz, rfl, mb, mc⟩ := AM.at kI br (L := (az, ce #[sL db dd de, sL df dg dh] 149) :: ((b1, ce #[sL Aj walks.length Ai, sL Ak Af.length Al, vI Ae, vI start, sL Ad Ab.length Ac] 26) :: (ax ++ (bq ++ (bd ++ (bg ++ [])))))) (fC (fC (fS fP))) dm.1 ei
      refine uv (Cx underlying22 sizeOf3 cu (AM.idx br dm)) ?_
      obtain ⟨ej, j0, j1⟩ := BC iy
      refine EH (u := PU (shr k (((cc.length : Int) - 1) - k2)) 1) sizeOf3 kI rfl cu rfl rfl (fun _ => .c (.c (.s .h))) br j0 dm ?_; intro av aw
      refine Aa (Bg [(.still, 0), (.still, 1), (.still, 2), (.still, 3), (.still, 4), (.still, 5), (.still, 6), (.still, 7), (.still, 8), (.still, 9), (.still, 10), (.seq, 11), (.seq, 12), (.still, 13), (.seq, 14)] (by kernel_rfl) (by kernel_rfl) (trivial) (by rfl) (by kernel_rfl) (mS [10] rfl (AO rfl) (mS [12] rfl (AO rfl) ?_)))
      obtain ⟨x2, cg, cv, en⟩ := Bi j1
      obtain ⟨o8, o9, oc, me, eo, ep, j2, rfl, mg, er⟩ := AM.at kI aw (L := av ++ []) fP cg.1 cv
      refine mS [55, 56] rfl (BQ underlying22 sizeOf3 rfl eo rfl (AM.idx aw cg)) (mL [57] (av ++ []) rfl (s0 (s1 (s1 (s3 (s4 (s3 (s3 sr))))))) (fun H F' L' j3 j4 => AG isAgg3 rfl (ep.ext j3 j4) (er 0 (by decide))) (mS [10] rfl (AO rfl) (mS [12] rfl (AO rfl) ?_)))
      obtain ⟨od, oe, og, mh, et, eu, j5, rfl, mj, ew⟩ := AM.at kI aw (L := av ++ []) fP cg.1 cv
      refine mS [59, 60] rfl (BQ underlying22 sizeOf3 rfl et rfl (AM.idx aw cg)) (mL [61] (av ++ []) rfl (s0 (s1 (s1 (s3 (s4 (s3 (s3 sr))))))) (fun H F' L' j3 j4 => AG isAgg3 rfl (eu.ext j3 j4) (ew 0 (by decide))) ?_)
      by_cases bh : x2 = 0
      ·have j6 := A5 en bh
       refine mS (v := pO az) [11, 62] rfl (Ee.eq (v' := pO az) (Bs underlying149 sizeOf22 rfl rfl (by have := bh; omega)) (by rw [bh]; rfl)) ?_
       refine mK [63] isAgg22 0 rfl rfl rfl rfl (mS [12] rfl (AO rfl) ?_)
       refine ⟨_, [(65, vI k2)], rfl, rfl, z1, by kernel_rfl, ?_⟩; intro H
       refine bA (cs := #[vI k2]) Bp [vI k2] ?_; intro j7 ml
       refine Aa ⟨_, rfl, AN.refl _, [9, 8, 7, 6, 5, 4, 3, 2, 1, 0], by kernel_rfl, .inl (.inr (fun d h => by cases h; rfl)), (fc (s0 (s1 (s2 (s1 (s3 (s3 (s3 (s3 sr)))))))) (fc sm (fc (s0 (s1 (s1 (s1 (s3 (s4 (s3 (s3 sr)))))))) (fc sm (fc sm (fc sm (fc (s0 (s1 (s1 (s1 (s3 (s4 (s3 (s3 sr)))))))) (fc sm (fc sm (fc sm nm)))))))))), ?_⟩
       refine ⟨_, [(64, sL db dd de), (66, sL (aD j7) 1 1)], rfl, rfl, z2, by kernel_rfl, ?_⟩; intro H
       obtain ⟨l2, j8, j9, ja⟩ := DS j6
       refine Cq (xs := bo) (ys := [k2]) (zs := l2) rfl Bp rfl rfl (Nat.le_refl _) (fun _ => .c (.c (.c (.s (.s .h))))) di (Fg.box (vss := [[vI k2]]) (ys := [k2]) 0 rfl kI (.cons rfl .nil) rfl rfl) j8 j9 (by decide) ?_; intro ey ez fa fb fe
       refine kO (kd kr) ?_
       refine Aa ⟨_, rfl, AN.refl _, [3, 2, 1, 0], by kernel_rfl, .inl (.inr (fun d h => by cases h; rfl)), (fc (s0 (s1 (s1 (s3 (s4 (s3 (s3 sr))))))) (fc sm (fc sm (fc sm nm)))), ?_⟩
       refine mS (v := pO az) [11, 58] rfl (Ee.eq (v' := pO az) (Bs underlying149 sizeOf22 rfl rfl (by have := bh; omega)) (by rw [bh]; rfl)) ?_
       refine ⟨_, [(67, sL ey ez fa), (68, pO az)], rfl, rfl, z2, by kernel_rfl, ?_⟩; intro H
       refine By (i := 0) sizeOf22 rfl rfl rfl rfl (B2 rfl) (Aw rfl ?_)
       refine Aa ⟨undef, rfl, AN.refl _, [], by kernel_rfl, .inl (.inl rfl), nm, ?_⟩
       refine Bo ?_
       refine Ay (id := 3) (An ?_)
       refine uv (A0 rfl rfl (CC.Cs cf bu lx)) ?_
       refine um (Aa ?_)
       exact le kr ⟨_, ct, ej, l2, bp, av, ey, ez, fa, fb, df, dg, dh, bg, ja, rfl, rfl, (sc rfl (sc rfl (sc rfl z8))), aw, fe, dk⟩
      have jb := A4 en bh
      obtain ⟨ff, jc⟩ := AB jb
      refine mS (v := .pointer (some ⟨az, 1, none⟩)) [11, 62] rfl (Ee.eq (v' := .pointer (some ⟨az, 1, none⟩)) (Bs underlying149 sizeOf22 rfl rfl (by have := ff; omega)) (by rw [ff]; rfl)) ?_
      refine mK [63] isAgg22 0 rfl rfl rfl rfl (mS [12] rfl (AO rfl) ?_)
      refine ⟨_, [(65, vI k2)], rfl, rfl, z1, by kernel_rfl, ?_⟩; intro H
      refine bA (cs := #[vI k2]) Bp [vI k2] ?_; intro jd mn
      refine Aa ⟨_, rfl, AN.refl _, [9, 8, 7, 6, 5, 4, 3, 2, 1, 0], by kernel_rfl, .inl (.inr (fun d h => by cases h; rfl)), (fc (s0 (s1 (s2 (s1 (s3 (s3 (s3 (s3 sr)))))))) (fc sm (fc (s0 (s1 (s1 (s1 (s3 (s4 (s3 (s3 sr)))))))) (fc sm (fc sm (fc sm (fc (s0 (s1 (s1 (s1 (s3 (s4 (s3 (s3 sr)))))))) (fc sm (fc sm (fc sm nm)))))))))), ?_⟩
      refine ⟨_, [(64, sL df dg dh), (66, sL (aD jd) 1 1)], rfl, rfl, z2, by kernel_rfl, ?_⟩; intro H
      obtain ⟨l3, je, jf, jg⟩ := DS jc
      refine Cq (xs := bp) (ys := [k2]) (zs := l3) rfl Bp rfl rfl (Nat.le_refl _) (fun _ => .c (.c (.c (.s (.s (.s .h)))))) dk (Fg.box (vss := [[vI k2]]) (ys := [k2]) 0 rfl kI (.cons rfl .nil) rfl rfl) je jf (by decide) ?_; intro fg fh fi fj fk
      refine kO (kd kr) ?_
      refine Aa ⟨_, rfl, AN.refl _, [3, 2, 1, 0], by kernel_rfl, .inl (.inr (fun d h => by cases h; rfl)), (fc (s0 (s1 (s1 (s3 (s4 (s3 (s3 sr))))))) (fc sm (fc sm (fc sm nm)))), ?_⟩
      obtain ⟨fl, jh⟩ := AB jg
      refine mS (v := .pointer (some ⟨az, 1, none⟩)) [11, 58] rfl (Ee.eq (v' := .pointer (some ⟨az, 1, none⟩)) (Bs underlying149 sizeOf22 rfl rfl (by have := fl; omega)) (by rw [fl]; rfl)) ?_
      refine ⟨_, [(67, sL fg fh fi), (68, .pointer (some ⟨az, 1, none⟩))], rfl, rfl, z2, by kernel_rfl, ?_⟩; intro H
      refine By (i := 0) sizeOf22 rfl rfl rfl rfl (B2 rfl) (Aw rfl ?_)
      refine Aa ⟨undef, rfl, AN.refl _, [], by kernel_rfl, .inl (.inl rfl), nm, ?_⟩
      refine Bo ?_
      refine Ay (id := 3) (An ?_)
      refine uv (A0 rfl rfl (CC.Cs cf bu lx)) ?_
      refine um (Aa ?_)
      exact le kr ⟨_, ct, ej, bo, l3, av, db, dd, de, bd, fg, fh, fi, fj, jh, rfl, rfl, (sc rfl (sc rfl (sc rfl z8))), aw, di, fk⟩
     obtain rfl := CC.zero cf bu
     rw [Ht] at gm
     refine AI (Am (Am ?_))
     refine At ?_
     obtain ⟨rfl, rfl, rfl⟩ := Kw gm
     exact mi kr ⟨bq, db, dd, de, bd, df, dg, dh, bg, rfl, rfl, z8, br, di, dk⟩
    rintro e1 _ _ ⟨bn, ib, ic, ie, cz, ig, ij, ik, da, rfl, rfl, fm, ay, fo, bj⟩
    refine Az _ fm ?_
    refine AJ (um (um ?_))
    refine uv (Ee.eq (v' := pO az) (Bs underlying149 sizeOf22 rfl rfl (by decide)) rfl) (uv (BM isAgg22 0) ?_)
    obtain ⟨Ax, dp, cj, dq, bw, dr, AE, BH, ji, jj⟩ := J3 lv
    have fp := aq; rw [ji] at fp; obtain ⟨ck, oh, jk, fq, aa, ⟨_, _, rfl, ⟨jl, jm, rfl, ai⟩, ⟨_, _, rfl, ⟨jn, jo, rfl, aj⟩, ⟨_, _, rfl, rfl, ⟨_, _, rfl, rfl, ⟨_, _, rfl, ⟨jq, jr, rfl, ak⟩, ⟨_, _, rfl, ⟨rfl, bk⟩, ⟨_, _, rfl, ⟨js, jt, rfl, al⟩, ⟨rfl, bl⟩⟩⟩⟩⟩⟩⟩⟩⟩ := fp; subst fq
    have aa : ga ck = some (.cells ((([sL jl Ax.length jm] : List Value) ++ (([sL jn dp.length jo] : List Value) ++ (([vI cj] : List Value) ++ (([vI dq] : List Value) ++ (([sL jq bw.length jr] : List Value) ++ (dr.flatMap (cI .i64) ++ (([sL js AE.length jt] : List Value) ++ (BH.flatMap (cI .i64))))))))).toArray) 122 jk) := aa
    obtain ⟨n2, ju, jv⟩ := Av jj
    refine Bn rfl call100 rfl rfl rfl (pT ((fC (fC (fS (fS fP)))).trans (pA pR)) (lp (ln rfl))) (fun F2 h2 h3 => by rw [(AM.A6 fo).1]; exact IW (h2 _ _ aa) (ai.mono kJ h2) (aj.mono kJ h2) (ak.mono kN h2) bk (al.mono kP h2) bl (fo.row kI h2 (aL h3)) ju) ?_
    refine um ?_
    obtain ⟨y, jw, jx⟩ := Av jv
    refine c0 call90 (EL aa ai aj ak bk al bl jw) ?_; rintro _ oi _ ab mo ⟨mq, mr, mu, rfl, rfl, dt⟩
    replace aq := aq.mono (BW (AT kJ) (BW (AT kJ) (BW kI (BW kI (BW (AT kN) (BW (Jh (n := 25) (sz := 1) (Bj .i64)) (BW (AT kP) (Jh (n := 15) (sz := 1) (Bj .i64))))))))) ab
    replace ai := ai.m2 ab
    replace aj := aj.m2 ab
    replace ak := ak.m3 ab
    replace al := al.m4 ab
    replace ar := ar.m1 ab
    replace ay := ay.m1 ab
    replace bj := bj.m1 ab
    replace aa := ab _ _ aa
    refine Aw (ln rfl) ?_
    obtain ⟨l4, n3, ok, jz, kb⟩ := Ia jx
    refine c0 call88 (Cz aa ai aj ak bk al bl dt jz) ?_; rintro _ oj _ ad mv ⟨oo, oq, ot, mw, rfl, rfl, mx⟩
    replace aq := aq.mono (BW (AT kJ) (BW (AT kJ) (BW kI (BW kI (BW (AT kN) (BW (Jh (n := 25) (sz := 1) (Bj .i64)) (BW (AT kP) (Jh (n := 15) (sz := 1) (Bj .i64))))))))) ad
    replace ai := ai.m2 ad
    replace aj := aj.m2 ad
    replace ak := ak.m3 ad
    replace al := al.m4 ad
    replace ar := ar.m1 ad
    replace ay := ay.m1 ad
    replace bj := bj.m1 ad
    replace aa := ad _ _ aa
    refine Aw (lp (ln rfl)) (kO (kf (fS fO) (kf (fS fO) kr)) ?_)
    refine um (ox rfl rfl rfl (ox rfl rfl rfl (ox rfl rfl rfl (ua (ua (ua (BL (um (um ?_)))))))))
    refine uv (Ee.eq (v' := .pointer (some ⟨az, 1, none⟩)) (Bs underlying149 sizeOf22 rfl rfl (by decide)) rfl) (uv (BM isAgg22 0) ?_)
    obtain ⟨n4, kh, kj⟩ := Av kb
    refine Bn rfl call100 rfl rfl rfl (pT ((fC (fC (fS (fS (fS (fS fP)))))).trans (pA pR)) (lp (ln rfl))) (fun F2 h2 h3 => by rw [(AM.A6 bj).1]; exact IW (h2 _ _ aa) (ai.mono kJ h2) (aj.mono kJ h2) (ak.mono kN h2) bk (al.mono kP h2) bl (bj.row kI h2 (aL h3)) kh) ?_
    refine um ?_
    obtain ⟨y2, kl, km⟩ := Av kj
    refine c0 call90 (EL aa ai aj ak bk al bl kl) ?_; rintro _ ou _ ae na ⟨nc, nf, ng, rfl, rfl, du⟩
    replace aq := aq.mono (BW (AT kJ) (BW (AT kJ) (BW kI (BW kI (BW (AT kN) (BW (Jh (n := 25) (sz := 1) (Bj .i64)) (BW (AT kP) (Jh (n := 15) (sz := 1) (Bj .i64))))))))) ae
    replace ai := ai.m2 ae
    replace aj := aj.m2 ae
    replace ak := ak.m3 ae
    replace al := al.m4 ae
    replace ar := ar.m1 ae
    replace ay := ay.m1 ae
    replace aa := ae _ _ aa
    refine Aw (ln rfl) ?_
    obtain ⟨l5, n5, ow, ko, kt⟩ := Ia km
    refine c0 call88 (Cz aa ai aj ak bk al bl du ko) ?_; rintro _ oy _ ba nh ⟨oz, p0, p3, ni, rfl, rfl, nj⟩
    replace aq := aq.mono (BW (AT kJ) (BW (AT kJ) (BW kI (BW kI (BW (AT kN) (BW (Jh (n := 25) (sz := 1) (Bj .i64)) (BW (AT kP) (Jh (n := 15) (sz := 1) (Bj .i64))))))))) ba
    replace ar := ar.m1 ba
    replace ay := ay.m1 ba
    refine Aw (lp (ln rfl)) (kO (kf (fS fO) (kf (fS fO) kr)) ?_)
    refine um (ox rfl rfl rfl (ox rfl rfl rfl (ox rfl rfl rfl (ua (ua (ua (BL (um (um ?_)))))))))
    refine uv (OK rfl rfl) ?_
    refine ua (Aa ?_)
    obtain ⟨k3, fs, dv⟩ := Av kt
    refine jE (((b1, ce #[sL Aj walks.length Ai, sL Ak Af.length Al, vI Ae, vI start, sL Ad Ab.length Ac] 26) :: (ax ++ (bn ++ [])))) [(1, pO b1), (5, pO ck), (7, sL cn cp cq), (8, vI ao), (10, sL dy bm bm), (19, vI (if n5 > n3 then n5 else n3)), (31, vI (shl 1 (Ab.length : Int))), (32, vI k), (109, .bool k3)] ?_ ?_
    ·clear dv
     refine An (um (um ?_))
     rcases EE ok with bb | bb
     ·have ft := bt fs bb
      refine nB bb (um ?_)
      refine uv (AF (Gl rfl bb) rfl) (um ?_)
      rcases EE ow with ah | ah
      ·have fv := bt ft ah
       refine nB ah (um (nB ah ?_))
       refine uv (BO rfl rfl) ?_
       refine nB ah (um ?_)
       by_cases au : ao = (-1)
       ·have ku := A5 fv au
        refine fT au (fT au (fT au (nB ah ?_)))
        refine uv (AF (AX rfl au) rfl) (uv (AF (Gl rfl ah) rfl) (Aa ?_))
        obtain rfl := AP ku
        exact mi (kd (kc (kx (kx (ka (ka kn)))))) ⟨rfl, rfl, (sc rfl z8)⟩
       have kv := A4 fv au
       refine nF au (um (nF au (um (nF au ?_))))
       refine uv (AV rfl rfl) (nB ah (uv (AD (AL rfl au) rfl) (uv (AF (Gl rfl ah) rfl) (Aa ?_))))
       obtain rfl := AP kv
       exact mi (kd (kc (kx (kx (ka (ka kn)))))) ⟨rfl, rfl, (sc rfl z8)⟩
      have kz := bf ft ah
      refine fB ah (fB ah (fB ah (fU (fU (fU (fB ah ?_))))))
      refine uv (AD (Gl rfl ah) rfl) (Aa ?_)
      obtain rfl := AP kz
      exact mi (kd (kc (kx (kx (ka (ka kn)))))) ⟨rfl, rfl, (sc rfl z8)⟩
     have l0 := bf fs bb
     refine fB bb (uv (AD (Gl rfl bb) rfl) ?_)
     refine um (Bm (b' := false) 101 rfl rfl rfl rfl (Bm (b' := false) 101 rfl rfl rfl rfl (Bm (b' := false) 101 rfl rfl rfl rfl (fU (fU (fU (Bm (b' := false) 101 rfl rfl rfl rfl ?_)))))))
     refine uv (AD rfl rfl) (Aa ?_)
     obtain rfl := AP l0
     exact mi (kd (kc (kx (kx (ka (ka kn)))))) ⟨rfl, rfl, (sc rfl z8)⟩
    refine AR rfl (fun dw => ?_) (fun dw => ?_)
    ·have la := bt dv dw
     refine An (um (um (ua (ua (Aa (Ay (id := 1) ?_))))))
     obtain ⟨rfl, rfl⟩ := B9 la
     exact mi (kc (kx kr)) ⟨pO ck, dy, bm, bm, bn, (((ab.trans ad).trans ae).trans ba), rfl, z6, aq, ay⟩
    have ld := bf dv dw
    refine Ao (Ay (id := 1) ?_)
    obtain ⟨rfl, rfl⟩ := B9 ld
    exact mi (kc (ka kn)) ⟨pO ck, cn, cp, cq, ax, (((ab.trans ad).trans ae).trans ba), rfl, z6, aq, ar⟩
   rintro e1 p4 _ ⟨gh, gi, gj, gk, cb, fw, rfl, fx, lg, lh⟩
   refine Az _ fx (An (uv (A0 rfl rfl (CC.Cs cy gg nt)) ?_))
   refine um (Aa ?_)
   exact le kr ⟨_, gz, ef, cr, gh, gi, gj, gk, cb, lq, (ec.trans fw), rfl, z6, lg, lh⟩
  obtain rfl := CC.zero cy gg
  rw [IE] at gb
  refine AI (Am (Am ?_))
  refine At ?_
  obtain ⟨rfl, rfl⟩ := B9 gb
  exact mi (kd kr) ⟨cn, cp, cq, ax, ec, rfl, z2, ar⟩
 rintro e1 p5 _ ⟨gr, gu, gv, cw, nk, rfl, fy, lj⟩
 refine Az _ fy ?_
 refine Aq (AJ (um ?_))
 refine uv (BO rfl rfl) (Aa ?_)
 refine cQ (fun dx => ?_) fun dx => ?_
 ·have lk := A5 gq dx
  refine AJ (ua (ua (ua (Aa ?_))))
  refine kW kn ?_
  refine AA (As ?_)
  refine HW results60 (AH rfl) (AH rfl) (AH rfl) (sr) ?_
  obtain ⟨rfl, rfl, rfl⟩ := Kw lk
  exact ⟨_, _, _, [], rfl, rfl, AM.nil _ _ _ _ _⟩
 have ll := A4 gq dx
 refine Ao (AJ (um (um (ua (ua (ua (Aa (AA ?_))))))))
 refine HW results60 (AH rfl) (AH rfl) (AH rfl) (sr) ?_
 obtain ⟨rfl, rfl, rfl⟩ := Kw ll
 exact ⟨_, _, _, _, rfl, rfl, lj.any⟩
set_option maxHeartbeats 1000000 in
theorem B0 {r : Bool} (hr : BS = some r) :
    Bv Tryz.prog 14 #[] F (.bool r) := by
 refine sp func14 ntmps14 fun K _ _ => ?_
 rw [BS] at hr
 refine AJ (ua (BL ?_))
 obtain ⟨l, l2, n, n2, l3, h1, r2⟩ := Fx hr
 refine c0 call4 (DM h1) ?_; rintro _ F3 _ mg di ⟨a7, im, c8, mh, mj, iq, ml, ir, mn, iu, mo, iv, rfl, rfl, bd, bg, bh⟩
 replace bd := bd.new fun p hp => di p (by simp [hp])
 replace bg := bg.new fun p hp => di p (by simp [hp])
 replace bh := bh.new fun p hp => di p (by simp [hp])
 refine Aw (lp (lp (lp (ln rfl)))) ?_
 obtain ⟨l4, n3, n4, iw, iy⟩ := Ia r2
 refine BU rfl call47 rfl rfl rfl (pT pR (ln (lp (lp (lp (ln rfl)))))) (fun F2 h2 h3 => by rw [(AM.A6 bd).1]; rw [(AM.A6 bg).1]; rw [(AM.A6 bh).1]; exact KZ (bd.row kJ h2 (aL h3)) (bg.row kJ h2 (aL (aR h3))) (bh.row kN h2 (aL (aR (aR h3)))) iw) (fun _ _ _ _ hq => by obtain ⟨iz, j0, j1, dk, rfl, rfl, ae⟩ := hq; exact ⟨_, _, _, _, rfl, rfl, ae.flat (fun _ _ h => h)⟩) ?_; rintro _ mq _ j2 dm dp ⟨iz, j0, j1, dk, rfl, rfl, ae⟩
 have dq := HD (Lb' := []) (by rfl) dm dp
 replace ae := ae.new fun p hp => dq p (by simp [hp])
 refine Aw (lp (ln (lp (lp (lp (ln rfl)))))) ?_
 refine um (ox rfl rfl rfl (ox rfl rfl rfl (ox rfl rfl rfl (ua (ua (ua (BL ?_)))))))
 obtain ⟨l5, l6, n5, n6, l7, j3, j4⟩ := Fx iy
 refine c0 call4 (DM j3) ?_; rintro _ mr _ dr br ⟨mu, mv, mw, j5, mx, na, nc, j6, nf, ng, nh, j7, rfl, rfl, bj, bk, bl⟩
 replace ae := ae.m4 dr
 replace bj := bj.new fun p hp => br p (by simp [hp])
 replace bk := bk.new fun p hp => br p (by simp [hp])
 replace bl := bl.new fun p hp => br p (by simp [hp])
 refine Aw (lp (lp (lp (ln rfl)))) (um ?_)
 obtain ⟨l8, n7, j8, j9⟩ := BT j4
 refine BU rfl call37 rfl rfl rfl (pT pR (ln (lp (lp (lp (lp (ln rfl))))))) (fun F2 h2 h3 => by rw [(AM.A6 bj).1]; rw [(AM.A6 bk).1]; rw [(AM.A6 bl).1]; rw [(AM.A6 ae).1]; exact Ly (bj.row kJ h2 (aL h3)) (bk.row kJ h2 (aL (aR h3))) (bl.row kN h2 (aL (aR (aR h3)))) (ae.row kP h2 (aL (aR (aR (aR h3))))) j8) (fun _ _ _ _ hq => by obtain ⟨ja, jb, jc, dt, rfl, rfl, ad⟩ := hq; exact ⟨_, _, _, _, rfl, rfl, ad.flat (fun _ _ h => h)⟩) ?_; rintro _ ni _ jd du dv ⟨ja, jb, jc, dt, rfl, rfl, ad⟩
 have dw := HD (Lb' := []) (by rfl) du dv
 replace ad := ad.new fun p hp => dw p (by simp [hp])
 refine Aw (lp (ln (lp (lp (lp (lp (ln rfl))))))) ?_
 refine um (ox rfl rfl rfl (ox rfl rfl rfl (ua (ua (BL ?_)))))
 obtain ⟨l9, nj, n8, n9, nk, je, jf⟩ := Fx j9
 refine c0 call4 (DM je) ?_; rintro _ nn _ dx bu ⟨np, nq, nr, jg, ns, nt, nu, jh, nv, nw, ny, ji, rfl, rfl, bm, bn, bo⟩
 replace ad := ad.m4 dx
 replace bm := bm.new fun p hp => bu p (by simp [hp])
 replace bn := bn.new fun p hp => bu p (by simp [hp])
 replace bo := bo.new fun p hp => bu p (by simp [hp])
 refine Aw (lp (lp (lp (ln rfl)))) ?_
 obtain ⟨nz, im, jj, dy⟩ := BT jf
 refine Bn rfl call25 rfl rfl rfl (pT pR (lp (lp (lp (ln rfl))))) (fun F2 h2 h3 => by rw [(AM.A6 bm).1]; rw [(AM.A6 bn).1]; rw [(AM.A6 bo).1]; exact KH (bm.row kJ h2 (aL h3)) (bn.row kJ h2 (aL (aR h3))) (bo.row kN h2 (aL (aR (aR h3)))) jj) ?_
 refine um (ox rfl rfl rfl (ox rfl rfl rfl (ua (ua (BL ?_)))))
 obtain ⟨o0, o1, o2, o3, o4, dz, eb⟩ := Fx dy
 refine c0 call4 (DM dz) ?_; rintro _ jk _ cp az ⟨jl, jm, jn, gn, jo, jq, jr, gp, js, jt, ju, gq, rfl, rfl, ai, aj, ak⟩
 replace ad := ad.m4 cp
 replace ai := ai.new fun p hp => az p (by simp [hp])
 replace aj := aj.new fun p hp => az p (by simp [hp])
 replace ak := ak.new fun p hp => az p (by simp [hp])
 refine Aw (lp (lp (lp (ln rfl)))) ?_
 obtain ⟨o6, o7, ec, ef⟩ := BT eb
 refine BU rfl call54 rfl rfl rfl (pT pR (ln (lp (lp (lp (ln rfl)))))) (fun F2 h2 h3 => by rw [(AM.A6 ai).1]; rw [(AM.A6 aj).1]; rw [(AM.A6 ak).1]; exact JG (ai.row kJ h2 (aL h3)) (aj.row kJ h2 (aL (aR h3))) (ak.row kN h2 (aL (aR (aR h3)))) ec) (fun _ _ _ _ hq => by obtain ⟨eg, eh, ei, cq, rfl, rfl, aa⟩ := hq; exact ⟨_, _, _, _, rfl, rfl, aa.flat (fun _ _ h => h)⟩) ?_; rintro _ jv _ cr ct cu ⟨eg, eh, ei, cq, rfl, rfl, aa⟩
 replace ad := ad.m4 cr
 have cv := HD (Lb' := []) (by rfl) ct cu
 replace aa := aa.new fun p hp => cv p (by simp [hp])
 refine Aw (lp (ln (lp (lp (lp (ln rfl)))))) ?_
 refine um (ox rfl rfl rfl (ox rfl rfl rfl (ua (ua (Aa (Aq (AJ (um ?_))))))))
 refine uv (Bt rfl rfl) (um ?_)
 obtain ⟨bw, ej⟩ := AB ef
 refine nF bw (um (nF bw ?_))
 refine uv (Bt rfl rfl) (uv (AD (AL rfl bw) rfl) (um ?_))
 obtain ⟨bx, en⟩ := AB ej
 refine nF bx (um (nF bx ?_))
 refine uv (Bt rfl rfl) (uv (AD (AL rfl bx) rfl) (um ?_))
 obtain ⟨bz, eo⟩ := AB en
 refine nF bz (um (nF bz ?_))
 refine uv (Bt rfl rfl) (uv (AD (AL rfl bz) rfl) (um ?_))
 obtain ⟨cb, ep⟩ := AB eo
 refine nF cb (um (nF cb ?_))
 refine uv (Bt rfl rfl) (uv (AD (AL rfl cb) rfl) (um ?_))
 obtain ⟨bp, er⟩ := AB ep
 refine nF bp (um (nF bp ?_))
 refine uv ((AQ underlying41 rfl).i (AM.Gh ad)) (nF bp (uv (CQ rfl rfl) (uv (AD (AL rfl bp) rfl) (um ?_))))
 obtain ⟨cc, et⟩ := AB er
 refine nF cc (um (nF cc ?_))
 refine uv (Bt rfl rfl) (uv (AD (AL rfl cc) rfl) (um ?_))
 obtain ⟨ah, eu⟩ := AB et
 refine nF ah (um (nF ah ?_))
 refine uv (BI (v := .agg #[vI 0, vI 0]) rfl (by intro w; kernel_rfl)) ?_
 refine nF ah ?_
 refine uv (BI (v := .agg #[vI 0, vI 2]) rfl (by intro w; kernel_rfl)) ?_
 refine nF ah ?_
 refine uv (BI (v := .agg #[vI 1, vI 1]) rfl (by intro w; kernel_rfl)) ?_
 refine nF ah ?_
 refine bA (cs := #[vI 0, vI 0, vI 0, vI 2, vI 1, vI 1]) HR [.agg #[vI 0, vI 0], .agg #[vI 0, vI 2], .agg #[vI 1, vI 1]] ?_; intro ew cw
 refine nF ah ?_
 refine Br 0 rfl cw ?_; intro ey cx cy
 refine Aw rfl ?_
 replace aa := aa.m4 cx
 have ez : Ar 2 eP ey (aD ew) 3 [(0, 0), (0, 2), (1, 1)] := Ar.BD kP (vss := [[vI 0, vI 0], [vI 0, vI 2], [vI 1, vI 1]]) (xs := [(0, 0), (0, 2), (1, 1)]) cy (.cons ⟨_, _, rfl, rfl, rfl⟩ (.cons ⟨_, _, rfl, rfl, rfl⟩ (.cons ⟨_, _, rfl, rfl, rfl⟩ .nil))) rfl (by simp [maxLen])
 obtain ⟨ok, fa, fb⟩ := Av eu
 refine Bn rfl call50 rfl rfl rfl (pT pR (lp (ln rfl))) (fun F2 h2 h3 => by rw [(AM.A6 aa).1]; exact HC (aa.row kP h2 (aL h3)) (ez.mono kP h2) fa) ?_
 refine nF ah (uv (Bz rfl) (uv (AD (AL rfl ah) rfl) (Aa ?_)))
 obtain ⟨fe, ff⟩ := AB fb
 refine AR rfl (fun cz => absurd (fe.symm.trans cz) (by decide)) (fun cz => ?_)
 refine Ao (AJ ?_)
 obtain ⟨o8, o9, oc, od, oe, fg, fh⟩ := Fx ff
 refine c0 call4 (DM fg) ?_; rintro _ jw _ gr ba ⟨jx, jz, kb, gu, kh, kj, kl, gv, km, ko, kt, gw, rfl, rfl, al, ao, aq⟩
 replace al := al.new fun p hp => ba p (by simp [hp])
 replace ao := ao.new fun p hp => ba p (by simp [hp])
 replace aq := aq.new fun p hp => ba p (by simp [hp])
 refine Aw (lp (lp (lp (ln rfl)))) ?_
 obtain ⟨iq, og, fi, fj⟩ := BT fh
 refine Bn rfl call59 rfl rfl rfl (pT pR (lp (lp (lp (ln rfl))))) (fun F2 h2 h3 => by rw [(AM.A6 al).1]; rw [(AM.A6 ao).1]; rw [(AM.A6 aq).1]; exact LZ (al.row kJ h2 (aL h3)) (ao.row kJ h2 (aL (aR h3))) (aq.row kN h2 (aL (aR (aR h3)))) fi) ?_
 refine um (ox rfl rfl rfl (ox rfl rfl rfl (ua (ua (BL ?_)))))
 obtain ⟨oh, oi, oj, oo, oq, fk, fl⟩ := Fx fj
 refine c0 call4 (DM fk) ?_; rintro _ ku _ gz bb ⟨kv, kz, l0, ia, la, ld, lg, ib, lh, lj, lk, ic, rfl, rfl, ar, au, av⟩
 replace ar := ar.new fun p hp => bb p (by simp [hp])
 replace au := au.new fun p hp => bb p (by simp [hp])
 replace av := av.new fun p hp => bb p (by simp [hp])
 refine Aw (lp (lp (lp (ln rfl)))) ?_
 refine uv (BI (v := .agg #[vI 0, vI 2]) rfl (by intro w; kernel_rfl)) ?_
 obtain ⟨ot, ou, fm, fo⟩ := BT fl
 refine Bn rfl call42 rfl rfl rfl (pT pR (lp (lp (lp (ln rfl))))) (fun F2 h2 h3 => by rw [(AM.A6 ar).1]; rw [(AM.A6 au).1]; rw [(AM.A6 av).1]; exact K4 (ar.row kJ h2 (aL h3)) (au.row kJ h2 (aL (aR h3))) (av.row kN h2 (aL (aR (aR h3)))) fm) ?_
 refine um (ox rfl rfl rfl (ox rfl rfl rfl (ua (ua (BL ?_)))))
 obtain ⟨ow, oy, iu, oz, p0, fp, fq⟩ := Fx fo
 refine c0 call4 (DM fp) ?_; rintro _ ll _ ie bc ⟨lq, lr, lu, ig, lv, lx, ly, ij, ma, mb, mc, ik, rfl, rfl, aw, ax, ay⟩
 replace aw := aw.new fun p hp => bc p (by simp [hp])
 replace ax := ax.new fun p hp => bc p (by simp [hp])
 replace ay := ay.new fun p hp => bc p (by simp [hp])
 refine Aw (lp (lp (lp (ln rfl)))) ?_
 obtain ⟨p3, p4, p5, fs, ft⟩ := Ia fq
 refine BU rfl call60 rfl rfl rfl (pT pR (ln (lp (lp (lp (ln rfl)))))) (fun F2 h2 h3 => by rw [(AM.A6 aw).1]; rw [(AM.A6 ax).1]; rw [(AM.A6 ay).1]; exact Nv (aw.row kJ h2 (aL h3)) (ax.row kJ h2 (aL (aR h3))) (ay.row kN h2 (aL (aR (aR h3)))) fs) (fun _ _ _ _ hq => by obtain ⟨fv, fw, fx, da, rfl, rfl, ab⟩ := hq; exact ⟨_, _, _, _, rfl, rfl, ab.flat (fun _ _ h => h)⟩) ?_; rintro _ me _ il db dd ⟨fv, fw, fx, da, rfl, rfl, ab⟩
 have de := HD (Lb' := []) (by rfl) db dd
 replace ab := ab.new fun p hp => de p (by simp [hp])
 refine Aw (lp (ln (lp (lp (lp (ln rfl)))))) ?_
 refine um (ox rfl rfl rfl (ox rfl rfl rfl (ox rfl rfl rfl (ua (ua (ua (BL (um ?_))))))))
 refine uv (BO rfl rfl) (um ?_)
 obtain ⟨cf, fy⟩ := AB ft
 refine nT cf (um (nT cf ?_))
 refine uv (BO rfl rfl) (uv (AF (AX rfl cf) rfl) (um ?_))
 obtain ⟨cg, g0⟩ := AB fy
 refine nT cg (um (nT cg ?_))
 refine uv (BO rfl rfl) (uv (AF (AX rfl cg) rfl) (um ?_))
 obtain ⟨cj, ga⟩ := AB g0
 refine nT cj (um (nT cj ?_))
 refine uv (BO rfl rfl) (uv (AF (AX rfl cj) rfl) (um ?_))
 obtain ⟨ck, gb⟩ := AB ga
 refine nT ck (um (nT ck ?_))
 refine uv (BO rfl rfl) (uv (AF (AX rfl ck) rfl) (um ?_))
 obtain ⟨cn, gg⟩ := AB gb
 refine nT cn (um (nT cn ?_))
 refine uv (BO rfl rfl) (uv (AF (AX rfl cn) rfl) (um ?_))
 obtain ⟨bq, gh⟩ := AB gg
 refine nT bq (um (nT bq ?_))
 refine bA (cs := #[vI 0, vI 1]) Bp [vI 0, vI 1] ?_; intro gi df
 refine nT bq ?_
 refine Br 0 rfl df ?_; intro gj dg dh
 refine Aw rfl ?_
 replace ab := ab.m1 dg
 have gk : Ar 1 eI gj (aD gi) 2 [0, 1] := Ar.oI dh
 obtain ⟨p6, gl, gm⟩ := Av gh
 refine Bn rfl call33 rfl rfl rfl (pT pR (lp (ln rfl))) (fun F2 h2 h3 => by rw [(AM.A6 ab).1]; exact Fi (ab.row kI h2 (aL h3)) (gk.mono kI h2) gl) ?_
 refine uv (AF (AX rfl bq) rfl) ?_
 refine ua (Aa ?_)
 refine kW kn (AA (C3 results14 ?_))
 obtain rfl := AP gm
 exact rfl
theorem Kx {l : List (List Int)} (ai : Ar 1 eJ F Hg Hj l) {r : Bool} (hr : It l = some r) :
    Bv Tryz.prog 66 #[sL Hg l.length Hj] F (.bool r) := by
 refine sp func66 ntmps66 fun K _ _ => ?_
 rw [It] at hr
 refine AJ (ua (Aa ?_))
 obtain ⟨h1, r2⟩ := Ij hr
 refine jE ([]) [(0, sL Hg l.length Hj)] ?_ ?_
 ·clear r2
  refine AJ (um ?_)
  refine uv (AQ underlying23 rfl) ?_
  refine um (Aa ?_)
  refine Ap ?_
  refine Bb (fun aj e1 F1 L1 => LA l aj fun tl k => FE tl = some () ∧ F = F1 ∧ L1 = [] ∧ e1.sub [(0, sL Hg l.length Hj), (5, sL Hg l.length Hj), (6, vI (l.length : Int)), (7, vI k)]) _ (m0 kr ⟨_, _, rfl, Bl.start _, h1, rfl, rfl, z4⟩) ?_
  rintro aj e1 _ _ ⟨tl, k, aq, aa, r5, rfl, rfl, ar⟩
  refine Az _ ar (AJ (uv (AV rfl rfl) ?_))
  refine Aa (Aq ?_)
  refine cQ (fun c8 => ?_) fun c8 => ?_
  ·obtain ⟨x, az, rfl, ab, ak, au⟩ := Bl.succ aa c8
   rw [FE] at r5
   refine Ao (Aq ?_)
   refine Ap (AJ ?_)
   obtain ⟨OY, ba, bb, av, ad, ae, al, ⟨bc, bd, rfl, bg⟩, aw, ah⟩ := Ar.ta kJ ai ak.1 ab
   refine uv (Cx underlying23 sizeOf22 ad ak) (uv (AG isAgg22 rfl (ae _) (ah 0 (by decide))) ?_)
   refine ua (BL (um ?_))
   refine uv (AQ underlying22 rfl) (uv (CQ rfl rfl) (Aa ?_))
   obtain ⟨ax, ay⟩ := AB r5
   refine BP rfl (fun ao => absurd ao ax) (fun ao => ?_)
   refine Ao (Ay (id := 1) (An ?_))
   refine uv (A0 rfl rfl (Bl.Cs aa c8 (Ar.lt ai))) ?_
   refine um (Aa ?_)
   subst aq; exact le kr ⟨_, _, rfl, au, ay, rfl, rfl, z4⟩
  obtain rfl := Bl.zero aa c8
  rw [FE] at r5
  refine AI (Am (Am ?_))
  refine At ?_
  clear r5
  exact mi kr ⟨rfl, rfl, z1⟩
 refine AJ (um ?_)
 refine uv (AQ underlying23 rfl) (uv (CQ rfl rfl) ?_)
 refine ua (Aa (AA ?_))
 refine C3 results66 ?_
 obtain rfl := AP r2
 exact rfl
set_option maxHeartbeats 1000000 in
theorem DQ (ab : Ar 1 eJ F Aj Ai walks) (ad : Ar 1 eJ F Ak Al Af) (aa : Ar 3 eN F Ad Ac Ab) {r : Bool} (hr : Dd walks Af Ae start Ab = some r) :
    Bv Tryz.prog 15 #[.agg #[sL Aj walks.length Ai, sL Ak Af.length Al, vI Ae, vI start, sL Ad Ab.length Ac]] F (.bool r) := by
 refine sp func15 ntmps15 fun K _ _ => ?_
 rw [Dd] at hr
 refine AJ ?_
 refine Bx rfl rfl ?_; intro b1 bn
 refine ua (Aa ?_)
 obtain ⟨h2, r3⟩ := Ij hr
 refine jE ([(b1, ce #[sL Aj walks.length Ai, sL Ak Af.length Al, vI Ae, vI start, sL Ad Ab.length Ac] 26)]) [(1, pO b1)] ?_ ?_
 ·clear r3
  refine AJ (uv (Ah BF rfl) (uv (BM isAgg24 0) (uv (AQ underlying24 rfl) ?_)))
  refine um (Aa ?_)
  refine Ap ?_
  refine Bb (fun av e1 F1 L1 => LA Ab av fun tl k => Ff tl = some () ∧ F = F1 ∧ L1 = [(b1, ce #[sL Aj walks.length Ai, sL Ak Af.length Al, vI Ae, vI start, sL Ad Ab.length Ac] 26)] ∧ e1.sub [(1, pO b1), (6, sL Ad Ab.length Ac), (7, vI (Ab.length : Int)), (8, vI k)]) _ (m0 kr ⟨_, _, rfl, Bl.start _, h2, rfl, rfl, z4⟩) ?_
  rintro av e1 _ _ ⟨tl, k, ay, aj, r6, rfl, rfl, az⟩
  refine Az _ az (AJ (uv (AV rfl rfl) ?_))
  refine Aa (Aq ?_)
  refine cQ (fun c9 => ?_) fun c9 => ?_
  ·obtain ⟨x, bo, rfl, ak, aw, al⟩ := Bl.succ aj c9
   rw [Ff] at r6
   refine Ao (Aq ?_)
   refine Ap (AJ ?_)
   obtain ⟨bp, bq, br, ba, ao, aq, ae, ⟨_, _, rfl, ⟨bu, bw, rfl, bx⟩, ⟨_, _, rfl, rfl, rfl⟩⟩, ar, au⟩ := Ar.ta kN aa aw.1 ak
   refine uv (Cx underlying24 sizeOf35 ao aw) (uv (AZ isAgg35 sizeOf35 rfl (aq _) ae (Ba ae ar au)) ?_)
   refine Bh rfl zeroValue35 ?_; intro bz bb
   refine A8 (i := 0) sizeOf35 rfl rfl rfl (by simp [Value.oneCell']) rfl (B2 rfl) (Aw rfl (BL (uv (Ah GX rfl) (uv (BM isAgg22 0) (uv (AQ underlying22 rfl) (uv (CQ rfl rfl) (Aa ?_)))))))
   obtain ⟨bc, bd⟩ := AB r6
   refine BP rfl (fun ax => absurd ax bc) (fun ax => ?_)
   refine Ao (Ay (id := 1) (An ?_))
   refine uv (A0 rfl rfl (Bl.Cs aj c9 (Ar.lt aa))) ?_
   refine um (Aa ?_)
   subst ay; exact le (kd kr) ⟨_, _, rfl, al, bd, rfl, rfl, z4⟩
  obtain rfl := Bl.zero aj c9
  rw [Ff] at r6
  refine AI (Am (Am ?_))
  refine At ?_
  clear r6
  exact mi kr ⟨rfl, rfl, z1⟩
 refine AJ (uv (Ah CI rfl) (uv (BM isAgg23 0) ?_))
 obtain ⟨ok, bg, bh⟩ := Av r3
 refine cV call66 (Kx ab bg) (um ?_)
 obtain ⟨ai, bj⟩ := AB bh
 refine nB ai (uv (Ah Df rfl) (nB ai (uv (BM isAgg23 0) (nB ai ?_))))
 obtain ⟨cb, bk, bl⟩ := Av bj
 refine cV call66 (Kx ad bk) (uv (AD (Gl rfl ai) rfl) (um ?_))
 obtain ⟨ah, bm⟩ := AB bl
 refine nB ah (uv (Ah BF rfl) (nB ah (uv (BM isAgg24 0) (nB ah (uv (AQ underlying24 rfl) (nB ah (uv (CQ rfl rfl) ?_)))))))
 refine uv (AD (Gl rfl ah) rfl) ?_
 refine ua (Aa ?_)
 refine kW kn (AA (C3 results15 ?_))
 obtain rfl := AP bm
 exact rfl
theorem JR {l : List Int} (ab : Ar 1 eI F Hg Hj l) {r : List Int} (hr : Hq l = some r) :
    SH.Spec Tryz.prog 69 #[sL Hg l.length Hj] F [] fun F' L' v => ∃ (ra : Option Addr) (rn : Nat) (rc : Nat) (rL : LH), v = sL ra rn rc ∧ L' = rL ++ [] ∧ AM 0 3 1 eI F' ra rn rc r rL := by
 refine sp func69 ntmps69 fun K _ _ => ?_
 rw [Hq] at hr
 refine AJ (ua (BL (um ?_)))
 refine uv (AQ underlying22 rfl) ?_
 obtain ⟨g1, r2⟩ := AB hr
 obtain ⟨l2, h3, r4⟩ := BC r2
 refine Hs (R := eI) (z0 := 0) (zs := l2) rfl Bp (by decide) kI (fun _ => rfl) rfl g1 h3 (fun _ => .n) ?_; intro a5 n8 aj ad
 refine ua (BL (um (um ?_)))
 obtain ⟨out, ae, ah⟩ := BC r4
 refine KX (ys := l) (zs := out) rfl Bp kI rfl rfl (fun _ => .h) ad (Ar.src ab) ae ?_; intro ai aa
 refine BL (um (ua (Aa (AA ?_))))
 refine C3 results69 ?_
 obtain rfl := AP ah
 exact ⟨_, _, _, _, rfl, rfl, aa.any⟩
set_option maxHeartbeats 1000000 in
theorem IA {l : List (List Int)} (ae : Ar 1 eJ F Hg Hj l) {r : List (List Int)} (hr : FC l = some r) :
    SH.Spec Tryz.prog 67 #[sL Hg l.length Hj] F [] fun F' L' v => ∃ (ra : Option Addr) (rn : Nat) (rc : Nat) (rL : LH), v = sL ra rn rc ∧ L' = rL ++ [] ∧ AM 0 22 1 eJ F' ra rn rc r rL := by
 refine sp func67 ntmps67 fun K _ _ => ?_
 rw [FC] at hr
 refine AJ (ua (BL (um ?_)))
 refine uv (AQ underlying23 rfl) ?_
 obtain ⟨g1, r2⟩ := AB hr
 obtain ⟨l2, h3, r4⟩ := BC r2
 refine Hs (R := eJ) (z0 := []) (zs := l2) rfl Fm (by decide) kJ (fun _ => ⟨_, _, rfl, Ar.nil _ _ _⟩) rfl g1 h3 (fun _ => .n) ?_; intro a5 n8 bw bx
 refine ua (Aa ?_)
 obtain ⟨out, bz, bo⟩ := Av r4
 refine AU (fun e1 F1 L1 => ∃ (ah : LH), AN F F1 ∧ L1 = (ah ++ []) ∧ e1.sub [(3, sL a5 n8 n8)] ∧ AM K.w0.heap.size 22 1 eJ F1 a5 n8 n8 out ah) ?_ ?_
 ·clear bo
  refine AJ (um ?_)
  refine uv (AQ underlying23 rfl) ?_
  refine um (Aa ?_)
  refine Ap ?_
  refine Bb (fun bp e1 F1 L1 => LA l bp fun tl k => ∃ (ai : List (List Int)) (ab : LH), Dp tl k ai = some out ∧ AN F F1 ∧ L1 = (ab ++ []) ∧ e1.sub [(3, sL a5 n8 n8), (9, sL Hg l.length Hj), (10, vI (l.length : Int)), (11, vI k)] ∧ AM K.w0.heap.size 22 1 eJ F1 a5 n8 n8 ai ab) _ (m0 kr ⟨_, _, rfl, Bl.start _, l2, bw, bz, AN.refl _, rfl, z4, bx⟩) ?_
  rintro bp e1 cx _ ⟨tl, k, av, aj, ai, ab, ar, ak, rfl, aw, aa⟩
  refine Az _ aw ?_
  replace ae := ae.m2 ak
  refine AJ (uv (AV rfl rfl) ?_)
  refine Aa (Aq ?_)
  refine cQ (fun au => ?_) fun au => ?_
  ·obtain ⟨x, cy, rfl, ax, bq, ay⟩ := Bl.succ aj au
   rw [Dp] at ar
   refine Ao (Aq ?_)
   refine Ap ?_
   refine AJ (um ?_)
   obtain ⟨cz, da, db, cb, az, ba, br, ⟨dd, de, rfl, cc⟩, cf, bb⟩ := Ar.ta kJ ae bq.1 ax
   refine uv (Cx underlying23 sizeOf22 az bq) (uv (AG isAgg22 rfl (ba _) (bb 0 (by decide))) ?_)
   refine ua (ua (Aa (An (um (um (um ?_))))))
   obtain ⟨l3, cg, cj⟩ := Av ar
   refine c0 call69 (JR cc cg) ?_; rintro _ df _ al bc ⟨dg, dh, di, bd, rfl, rfl, ad⟩
   replace ae := ae.m2 al
   replace aa := aa.m2 al
   replace ad := ad.new fun p hp => bc p (by simp [hp])
   refine Aw (lp (ln rfl)) ?_
   obtain ⟨x2, bg, bh, ck⟩ := Bi cj
   obtain ⟨dk, dm, dp, cn, aq, cp, bu, ⟨dq, dr, rfl, dt⟩, cq, cr⟩ := AM.at kJ aa (L := bd ++ (ab ++ [])) (fS fP) bg.1 bh
   refine uv (Cx underlying23 sizeOf22 aq (AM.idx aa bg)) ?_
   obtain rfl := (AM.A6 ad).1
   refine B6 (Nat.le_refl _) kI fP ad ?_; intro du ao ct
   replace ae := ae.m2 ao
   replace aa := aa.m2 ao
   obtain ⟨bj, cu, cv⟩ := BC ck
   refine EH (u := l3) sizeOf22 kJ rfl aq rfl ⟨_, _, rfl, ct⟩ (fun _ => .h) aa cu bg ?_; intro bk bl
   refine Aa (Ay (id := 1) (An ?_))
   refine uv (A0 rfl rfl (Bl.Cs aj au (Ar.lt ae))) ?_
   refine um (Aa ?_)
   subst av; exact le kr ⟨_, _, rfl, ay, bj, bk, cv, ((ak.trans al).trans ao), rfl, z4, bl⟩
  obtain rfl := Bl.zero aj au
  rw [Dp] at ar
  refine AI (Am (Am ?_))
  refine At ?_
  obtain rfl := AP ar
  exact mi kr ⟨ab, ak, rfl, z1, aa⟩
 rintro e1 dv _ ⟨ah, cw, rfl, bm, bn⟩
 refine Az _ bm ?_
 refine AJ (um (ua (Aa (AA ?_))))
 refine C3 results67 ?_
 obtain rfl := AP bo
 exact ⟨_, _, _, _, rfl, rfl, bn.any⟩
theorem K7 {l : List ((List Int) × Int × Int)} (ab : Ar 3 eN F Hg Hj l) {r : List ((List Int) × Int × Int)} (hr : HB l = some r) :
    SH.Spec Tryz.prog 68 #[sL Hg l.length Hj] F [] fun F' L' v => ∃ (ra : Option Addr) (rn : Nat) (rc : Nat) (rL : LH), v = sL ra rn rc ∧ L' = rL ++ [] ∧ AM 0 35 3 eN F' ra rn rc r rL := by
 refine sp func68 ntmps68 fun K _ _ => ?_
 rw [HB] at hr
 refine AJ (ua (BL (um ?_)))
 refine uv (AQ underlying24 rfl) ?_
 obtain ⟨g1, r2⟩ := AB hr
 obtain ⟨l2, h3, r4⟩ := BC r2
 refine Hs (R := eN) (z0 := ([], 0, 0)) (zs := l2) rfl Kj (by decide) kN (fun _ => ⟨_, _, rfl, ⟨_, _, rfl, Ar.nil _ _ _⟩, ⟨_, _, rfl, rfl, rfl⟩⟩) rfl g1 h3 (fun _ => .n) ?_; intro a5 n8 aj ad
 refine ua (BL (um (um ?_)))
 obtain ⟨out, ae, ah⟩ := BC r4
 refine KX (ys := l) (zs := out) rfl Kj kN rfl rfl (fun _ => .h) ad (Ar.src ab) ae ?_; intro ai aa
 refine BL (um (ua (Aa (AA ?_))))
 refine C3 results68 ?_
 obtain rfl := AP ah
 exact ⟨_, _, _, _, rfl, rfl, aa.any⟩
set_option maxHeartbeats 1000000 in
theorem DX (al : Ar 1 eJ F Aj Ai walks) (ah : Ar 1 eJ F Ak Al Af) (aa : Ar 3 eN F Ad Ac Ab) {r r2 : List (List Int)} (hr : DC walks Af Ae start Ab = some (r, r2, r3, r4, r5)) :
    SH.Spec Tryz.prog 16 #[.agg #[sL Aj walks.length Ai, sL Ak Af.length Al, vI Ae, vI start, sL Ad Ab.length Ac]] F [] fun F' L' v => ∃ (ra : Option Addr) (rn : Nat) (rc : Nat) (rL : LH) (db : Option Addr) (dd : Nat) (de : Nat) (df : LH) (dg : Option Addr) (dh : Nat) (di : Nat) (dk : LH), v = .agg #[sL ra rn rc, sL db dd de, vI r3, vI r4, sL dg dh di] ∧ L' = rL ++ (df ++ (dk ++ [])) ∧ AM 0 22 1 eJ F' ra rn rc r rL ∧ AM 0 22 1 eJ F' db dd de r2 df ∧ AM 0 35 3 eN F' dg dh di r5 dk := by
 refine sp func16 ntmps16 fun K _ _ => ?_
 rw [DC] at hr
 refine AJ ?_
 refine Bx rfl rfl ?_; intro b1 fi
 refine Bh rfl zeroValue26 ?_; intro b2 fj
 refine Aa (Aq ?_)
 refine Bg [(.still, 0), (.still, 1), (.still, 3), (.still, 4), (.still, 6), (.still, 7), (.seq, 2), (.still, 9), (.seq, 5), (.seq, 8), (.seq, 10), (.still, 11), (.seq, 12), (.still, 13), (.seq, 14)] (by kernel_rfl) (by kernel_rfl) (trivial) (by rfl) (by kernel_rfl) (mS [1] rfl (Ah CI rfl) (mK [5] isAgg23 1 rfl rfl rfl rfl (mS [1] rfl (Ah Df rfl) (mK [8] isAgg23 1 rfl rfl rfl rfl (mS [1] rfl (Ah BF rfl) (mK [11] isAgg24 1 rfl rfl rfl rfl ?_))))))
 refine ⟨_, [(6, sL Aj walks.length Ai)], rfl, rfl, z1, by kernel_rfl, ?_⟩; intro H
 obtain ⟨l, h3, r6⟩ := Av hr
 refine c0 call67 (IA al h3) ?_; rintro _ F7 _ cg du ⟨bk, bl, bm, ay, rfl, rfl, ai⟩
 replace ah := ah.m2 cg
 replace aa := aa.m3 cg
 replace ai := ai.new fun p hp => du p (by simp [hp])
 refine Aw (lp (ln rfl)) (kO (kf (fS fO) (kf (fS fO) kr)) ?_)
 refine Aa ⟨_, rfl, cg, [7, 6, 4, 3], by kernel_rfl, .inl (.inr (fun d h => by cases h; rfl)), (fc (s0 (s1 (s2 (s3 sr)))) (fc sm (fc (s0 (s1 (s2 (s3 sr)))) (fc sm nm)))), ?_⟩
 refine mS [1] rfl (Ah CI rfl) ?_
 refine ⟨_, [(9, sL Ak Af.length Al)], rfl, rfl, z1, by kernel_rfl, ?_⟩; intro H
 obtain ⟨l2, dv, dw⟩ := Av r6
 refine c0 call67 (IA ah dv) ?_; rintro _ fk _ az cj ⟨bn, bo, bp, ba, rfl, rfl, aj⟩
 replace aa := aa.m3 az
 replace ai := ai.m2 az
 replace aj := aj.new fun p hp => cj p (by simp [hp])
 refine Aw (lp (ln rfl)) (kO (kf (fS fO) (kf (fS fO) kr)) ?_)
 refine Aa ⟨_, rfl, az, [9, 7, 6], by kernel_rfl, .inl (.inr (fun d h => by cases h; rfl)), (fc sm (fc (s0 (s1 (s2 (s3 (s3 sr))))) (fc sm nm))), ?_⟩
 refine ⟨_, [(12, sL Ad Ab.length Ac)], rfl, rfl, z1, by kernel_rfl, ?_⟩; intro H
 obtain ⟨l3, dx, dy⟩ := Av dw
 refine c0 call68 (K7 aa dx) ?_; rintro _ dm _ bb ck ⟨ar, au, av, cn, rfl, rfl, ao⟩
 replace ai := ai.m2 bb
 replace aj := aj.m2 bb
 replace ao := ao.new fun p hp => ck p (by simp [hp])
 refine Aw (lp (ln rfl)) (kO (kf (fS fO) (kf (fS fO) kr)) ?_)
 refine Aa ⟨_, rfl, bb, [9], by kernel_rfl, .inl (.inr (fun d h => by cases h; rfl)), (fc sm nm), ?_⟩
 refine ⟨_, [(7, sL bk bl bm), (14, pO b1)], rfl, rfl, z2, by kernel_rfl, ?_⟩; intro H
 refine By (i := 1) sizeOf23 rfl rfl rfl rfl (B2 rfl) (Aw rfl ?_)
 refine Aa ⟨undef, rfl, AN.refl _, [], by kernel_rfl, .inl (.inl rfl), nm, ?_⟩
 refine mS [1] rfl (Ah Df rfl) ?_
 refine ⟨_, [(10, sL bn bo bp), (15, .pointer (some ⟨b1, 1, none⟩))], rfl, rfl, z2, by kernel_rfl, ?_⟩; intro H
 refine By (i := 1) sizeOf23 rfl rfl rfl rfl (B2 rfl) (Aw rfl ?_)
 refine Aa ⟨undef, rfl, AN.refl _, [], by kernel_rfl, .inl (.inl rfl), nm, ?_⟩
 refine mS [1] rfl (Ah BF rfl) ?_
 refine ⟨_, [(13, sL ar au av), (16, .pointer (some ⟨b1, 4, none⟩))], rfl, rfl, z2, by kernel_rfl, ?_⟩; intro H
 refine By (i := 1) sizeOf24 rfl rfl rfl rfl (B2 rfl) (Aw rfl ?_)
 refine Aa ⟨undef, rfl, AN.refl _, [], by kernel_rfl, .inl (.inl rfl), nm, ?_⟩
 refine Bo ?_
 obtain ⟨ae, dz, dp⟩ := Av dy
 refine AU (fun e1 F1 L1 => ∃ (bc : LH), AN dm F1 ∧ L1 = ((b2, ce #[sL none 0 0, sL none 0 0, vI 0, vI 0, sL none 0 0] 26) :: ((b1, ce #[sL bk bl bm, sL bn bo bp, vI Ae, vI start, sL ar au av] 26) :: (ay ++ (ba ++ (bc ++ []))))) ∧ e1.sub [(1, pO b1), (2, pO b2)] ∧ AM K.w0.heap.size 35 3 eN F1 ar au av ae bc) ?_ ?_
 ·clear dp
  refine AJ (uv (Ah BF rfl) (uv (BM isAgg24 1) (uv ((AQ underlying24 rfl).i (AM.Gh ao)) ?_)))
  refine um (Aa ?_)
  refine Ap ?_
  obtain ⟨eb, ec⟩ := AB dz
  refine Bb (fun cb e1 F1 L1 => ∃ (k : Int), CC 0 (l3.length : Int) k cb ∧ ∃ (ab : List ((List Int) × Int × Int)) (ak : LH), Ga cb k ab = some ae ∧ AN dm F1 ∧ L1 = ((b2, ce #[sL none 0 0, sL none 0 0, vI 0, vI 0, sL none 0 0] 26) :: ((b1, ce #[sL bk bl bm, sL bn bo bp, vI Ae, vI start, sL ar au av] 26) :: (ay ++ (ba ++ (ak ++ []))))) ∧ e1.sub [(1, pO b1), (2, pO b2), (18, sL ar au av), (19, vI (l3.length : Int)), (20, vI k)] ∧ AM K.w0.heap.size 35 3 eN F1 ar au av ab ak) _ (m0 (kc (kc (kg (fS (fS fP)) (kg (fS fP) kr)))) ⟨_, CC.start _ _, l3, cn, ec, AN.refl _, rfl, z5, ao⟩) ?_
  rintro cb e1 fl _ ⟨k, bd, ab, ak, cc, bq, rfl, cp, ad⟩
  refine Az _ cp (AJ (uv (AV rfl rfl) ?_))
  refine Aa (Aq ?_)
  refine cQ (fun cf => ?_) fun cf => ?_
  ·obtain ⟨cb, rfl, cq⟩ := CC.succ bd cf
   rw [Ga] at cc
   refine Ao (Aq ?_)
   refine Ap ?_
   refine AJ (um ?_)
   obtain ⟨x, br, bg, ef⟩ := Bi cc
   obtain ⟨fm, fo, fp, eg, cr, ct, aw, ⟨_, _, rfl, ⟨eh, ei, rfl, ej⟩, ⟨_, _, rfl, rfl, rfl⟩⟩, cu, cv⟩ := AM.at kN ad (L := (b2, ce #[sL none 0 0, sL none 0 0, vI 0, vI 0, sL none 0 0] 26) :: ((b1, ce #[sL bk bl bm, sL bn bo bp, vI Ae, vI start, sL ar au av] 26) :: (ay ++ (ba ++ (ak ++ []))))) (fC (fC (fS (fS fP)))) br.1 bg
   refine uv (Cx underlying24 sizeOf35 cr (AM.idx ad br)) (uv (AZ isAgg35 sizeOf35 rfl ct aw (Ba aw cu cv)) ?_)
   refine Bh rfl zeroValue35 ?_; intro fq en
   refine ua (A8 (i := 0) sizeOf35 rfl rfl rfl (by simp [Value.oneCell']) rfl (B2 rfl) (Aw rfl (Aa (Bg [(.still, 0), (.still, 1), (.still, 2), (.still, 3), (.still, 4), (.seq, 5), (.still, 6), (.still, 7), (.seq, 8)] (by kernel_rfl) (by kernel_rfl) (trivial) (by rfl) (by kernel_rfl) (mS [1] rfl (Ah BF rfl) (mK [25] isAgg24 2 rfl rfl rfl rfl (mS [3] rfl (AO rfl) ?_)))))))
   refine mS [4] rfl (Ah GX rfl) (mK [28] isAgg22 0 rfl rfl rfl rfl ?_)
   refine ⟨_, [(29, sL eh x.1.length ei)], rfl, rfl, z1, by kernel_rfl, ?_⟩; intro H
   obtain ⟨l4, eo, ep⟩ := Av ef
   refine c0 call69 (JR ej eo) ?_; rintro _ fs _ bh cw ⟨er, et, eu, ew, rfl, rfl, aq⟩
   replace ad := ad.m3 bh
   replace aq := aq.new fun p hp => cw p (by simp [hp])
   refine Aw (lp (ln rfl)) (kO (kf (fS fO) (kf (fS fO) (kf (fS fO) kr))) ?_)
   refine Aa ⟨_, rfl, bh, [2, 1, 0], by kernel_rfl, .inl (.inr (fun d h => by cases h; rfl)), (fc sm (fc (s0 (s1 (s1 (s2 (s3 (s3 (s3 (s3 sr)))))))) (fc sm nm))), ?_⟩
   obtain ⟨dq, dr, ft, ey, bu, ez, dt, ⟨_, _, rfl, ⟨fv, fw, rfl, fx⟩, ⟨_, _, rfl, rfl, rfl⟩⟩, fa, fb⟩ := AM.at kN ad (L := ak ++ []) fP br.1 bg
   refine mS [26, 27] rfl (BQ underlying24 sizeOf35 rfl bu rfl (AM.idx ad br)) (mS (v := .pointer (some ⟨dq, dr + (k : Int).toNat * 3, none⟩)) [31] rfl (Ee.eq (Ah GX rfl) rfl) ?_)
   refine ⟨_, [(30, sL er et eu), (32, .pointer (some ⟨dq, dr + (k : Int).toNat * 3, none⟩))], rfl, rfl, z2, by kernel_rfl, ?_⟩; intro H
   obtain rfl := (AM.A6 aq).1
   refine B6 (Nat.le_refl _) kI (fC (fC (fC fP))) aq ?_; intro fy bj cx
   replace ad := ad.m3 bj
   obtain ⟨l5, cy, cz⟩ := BC ep
   refine KA (zs := l5) (off := 0) (x0 := x) (u := (l4, x.2.1, x.2.2)) sizeOf22 kN rfl bu rfl rfl (by decide) bg (fun vs h => by obtain ⟨_, _, rfl, ⟨fe, ff, rfl, fg⟩, ⟨_, _, rfl, rfl, rfl⟩⟩ := h; exact ⟨_, _, rfl, ⟨_, _, rfl, cx⟩, ⟨_, _, rfl, rfl, rfl⟩⟩) (fun _ => .c (.c (.c (.s (.s .h))))) ad cy br ?_; intro bw bx
   refine Aa ⟨undef, rfl, bj, [], by kernel_rfl, .inl (.inl rfl), nm, ?_⟩
   refine Bo ?_
   refine Ay (id := 1) (An ?_)
   refine uv (A0 rfl rfl (CC.Cs bd cf eb)) ?_
   refine um (Aa ?_)
   exact le (kd kr) ⟨_, cq, l5, bw, cz, ((bq.trans bh).trans bj), rfl, z5, bx⟩
  obtain rfl := CC.zero bd cf
  rw [Ga] at cc
  refine AI (Am (Am ?_))
  refine At ?_
  obtain rfl := AP cc
  exact mi kr ⟨ak, bq, rfl, z2, ad⟩
 rintro e1 fh _ ⟨bc, ax, rfl, bz, da⟩
 refine Az _ bz ?_
 replace ai := ai.m2 ax
 replace aj := aj.m2 ax
 refine AJ (uv (CA isAgg26 sizeOf26 1) (A8 (i := 0) sizeOf26 rfl rfl rfl (by simp [Value.oneCell']) rfl (B2 rfl) (Aw rfl (Aa (kW (kc (kd kr)) (AA (KY results16 (Fq (cs := #[sL bk bl bm, sL bn bo bp, vI Ae, vI start, sL ar au av]) isAgg26 sizeOf26 rfl (Has.own 0 rfl) (B2 rfl) rfl) (s1 (s4 (s4 (s4 sr)))) ?_)))))))
 obtain ⟨rfl, rfl, rfl, rfl, rfl⟩ := QN dp
 exact ⟨_, _, _, _, _, _, _, _, _, _, _, _, rfl, rfl, ai.any, aj.any, da.any⟩
set_option maxHeartbeats 1000000 in
theorem CP (ae : Ar 1 eJ F Aj Ai walks) (ah : Ar 1 eJ F Ak Al Af) (ad : Ar 3 eN F Ad Ac Ab) {r r2 : List (List Int)} (hr : Cy walks Af Ae start Ab = some (r, r2, r3, r4, r5)) :
    SH.Spec Tryz.prog 17 #[.agg #[sL Aj walks.length Ai, sL Ak Af.length Al, vI Ae, vI start, sL Ad Ab.length Ac]] F [] fun F' L' v => ∃ (ra : Option Addr) (rc : Nat) (bn : Option Addr) (bo : Nat) (bp : Option Addr) (bq : Nat) (br : Nat) (bu : LH), v = .agg #[sL ra r.length rc, sL bn r2.length bo, vI r3, vI r4, sL bp bq br] ∧ L' = bu ++ [] ∧ Ar 1 eJ F' ra rc r ∧ Ar 1 eJ F' bn bo r2 ∧ AM 0 110 3 eN F' bp bq br r5 bu := by
 refine sp func17 ntmps17 fun K _ _ => ?_
 rw [Cy] at hr
 refine AJ ?_
 refine Bx rfl rfl ?_; intro b1 cv
 refine Bh rfl zeroValue50 ?_; intro b2 cw
 refine BL (uv (Ah CI rfl) (uv (BM isAgg23 1) (uv (Ah Df rfl) (uv (BM isAgg23 1) (uv (Ah Ke rfl) (uv (BM isAgg3 1) (uv (Ah Jt rfl) ?_)))))))
 refine uv (BM isAgg3 1) ?_
 refine uv (BI (v := .agg #[sL Aj walks.length Ai, sL Ak Af.length Al, vI Ae, vI start, sL none 0 0]) rfl (by intro w; kernel_rfl)) ?_
 refine Bh rfl zeroValue50 ?_; intro b3 cx
 refine A8 (i := 0) sizeOf50 rfl rfl rfl (by simp [Value.oneCell']) rfl (B2 rfl) (Aw rfl (Aa ?_))
 obtain ⟨ab, cb, bw⟩ := Av hr
 refine AU (fun e1 F1 L1 => ∃ (a4 : Option Addr) (n8 : Nat) (c5 : Nat) (aw : LH), F = F1 ∧ L1 = ((b3, ce #[sL Aj walks.length Ai, sL Ak Af.length Al, vI Ae, vI start, sL a4 n8 c5] 50) :: ((b2, ce #[sL none 0 0, sL none 0 0, vI 0, vI 0, sL none 0 0] 50) :: (aw ++ []))) ∧ e1.sub [(2, pO b2), (3, pO b3)] ∧ AM K.w0.heap.size 110 3 eN F1 a4 n8 c5 ab aw) ?_ ?_
 ·clear bw
  refine AJ (uv (Ah BF rfl) (uv (BM isAgg24 2) (uv (AQ underlying24 rfl) ?_)))
  refine um (Aa ?_)
  refine Ap (kW (kc (kc kn)) ?_)
  refine Bb (fun bx e1 F1 L1 => LA Ab bx fun tl k => ∃ (aa : List ((List Int) × Int × Int)) (ao : Option Addr) (aq : Nat) (ar : Nat) (ai : LH), EJ tl aa = some ab ∧ F = F1 ∧ L1 = ((b3, ce #[sL Aj walks.length Ai, sL Ak Af.length Al, vI Ae, vI start, sL ao aq ar] 50) :: ((b2, ce #[sL none 0 0, sL none 0 0, vI 0, vI 0, sL none 0 0] 50) :: (ai ++ []))) ∧ e1.sub [(2, pO b2), (3, pO b3), (16, sL Ad Ab.length Ac), (17, vI (Ab.length : Int)), (18, vI k)] ∧ AM K.w0.heap.size 110 3 eN F1 ao aq ar aa ai) _ (m0 (kc (kc (ke kr))) ⟨_, _, rfl, Bl.start _, [], none, 0, 0, [], cb, rfl, rfl, z5, AM.nil _ _ _ _ _⟩) ?_
  rintro bx e1 _ _ ⟨tl, k, ax, ak, aa, ao, aq, ar, ai, au, rfl, rfl, ay, al⟩
  refine Az _ ay (AJ (uv (AV rfl rfl) ?_))
  refine Aa (Aq ?_)
  refine cQ (fun av => ?_) fun av => ?_
  ·obtain ⟨x, cy, rfl, az, bz, ba⟩ := Bl.succ ak av
   rw [EJ] at au
   refine Ao (Aq ?_)
   refine Ap (AJ ?_)
   obtain ⟨cz, da, db, cc, bb, bc, aj, ⟨_, _, rfl, ⟨bd, bg, rfl, cf⟩, ⟨_, _, rfl, rfl, rfl⟩⟩, bh, bj⟩ := Ar.ta kN ad bz.1 az
   refine uv (Cx underlying24 sizeOf35 bb bz) (uv (AZ isAgg35 sizeOf35 rfl (bc _) aj (Ba aj bh bj)) ?_)
   refine Bh rfl zeroValue35 ?_; intro dd cg
   refine A8 (i := 0) sizeOf35 rfl rfl rfl (by simp [Value.oneCell']) rfl (B2 rfl) (Aw rfl ?_)
   refine Aa (An ?_)
   refine uv (Ah C9 rfl) (uv (BM isAgg48 1) (uv (CA isAgg35 sizeOf35 0) ?_))
   refine bA (cs := #[sL bd x.1.length bg, vI x.2.1, vI x.2.2]) OV [.agg #[sL bd x.1.length bg, vI x.2.1, vI x.2.2]] ?_; intro de cj
   obtain ⟨out, ck, cn, cp⟩ := DS au
   refine Cq (xs := aa) (ys := [(x.1, x.2.1, x.2.2)]) (zs := out) rfl OV rfl rfl (Nat.le_refl _) (fun _ => .c (.c (.c (.c .h)))) al (Fg.box (vss := [[sL bd x.1.length bg, vI x.2.1, vI x.2.2]]) (ys := [(x.1, x.2.1, x.2.2)]) 0 rfl kN (.cons ⟨_, _, rfl, ⟨_, _, rfl, cf⟩, ⟨_, _, rfl, rfl, rfl⟩⟩ .nil) rfl rfl) ck cn (by decide) ?_; intro cq cr ct bk bl
   refine kO (kd kr) (uv (Ah C9 rfl) (By (i := 1) sizeOf48 rfl rfl rfl rfl (B2 rfl) (Aw rfl ?_)))
   refine Aa (Ay (id := 1) (An ?_))
   refine uv (A0 rfl rfl (Bl.Cs ak av (Ar.lt ad))) ?_
   refine um (Aa ?_)
   subst ax; exact le (kd kr) ⟨_, _, rfl, ba, out, cq, cr, ct, bk, cp, rfl, rfl, z5, bl⟩
  obtain rfl := Bl.zero ak av
  rw [EJ] at au
  refine AI (Am (Am ?_))
  refine At ?_
  obtain rfl := AP au
  exact mi kr ⟨ao, aq, ar, ai, rfl, rfl, z2, al⟩
 rintro e1 _ _ ⟨a4, n8, c5, aw, rfl, rfl, bm, cu⟩
 refine Az _ bm (AJ (uv (CA isAgg50 sizeOf50 0) (A8 (i := 1) sizeOf50 rfl rfl rfl (by simp [Value.oneCell']) rfl (B2 rfl) (Aw rfl (Aa (kW (kd kr) (AA ?_)))))))
 refine KY results17 (Fq (cs := #[sL Aj walks.length Ai, sL Ak Af.length Al, vI Ae, vI start, sL a4 n8 c5]) isAgg50 sizeOf50 rfl (Has.own 0 rfl) (B2 rfl) rfl) (s1 (s4 sr)) ?_
 obtain ⟨rfl, rfl, rfl, rfl, rfl⟩ := QN bw
 exact ⟨_, _, _, _, _, _, _, _, rfl, rfl, ae, ah, cu.any⟩
theorem Cb {lo hi : Int} {r : Bool} (hr : Cf n lo hi = some r) :
    Bv Tryz.prog 70 #[vI n, vI lo, vI hi] F (.bool r) := by
 refine sp func70 ntmps70 fun K _ _ => ?_
 rw [Cf] at hr
 refine AJ (ua (BL (um (um ?_))))
 refine uv (AV rfl rfl) (um ?_)
 by_cases c1 : n < lo
 ·have r2 := A5 hr c1
  refine fT c1 (fT c1 (fT c1 ?_))
  refine uv (AF (AX rfl c1) rfl) ?_
  refine ua (Aa (AA ?_))
  refine C3 results70 ?_
  obtain rfl := AP r2
  exact rfl
 have r3 := A4 hr c1
 refine nF c1 (um (nF c1 (um (nF c1 ?_))))
 refine uv (CQ rfl rfl) (uv (AD (AL rfl c1) rfl) ?_)
 refine ua (Aa (AA ?_))
 refine C3 results70 ?_
 obtain rfl := AP r3
 exact rfl
theorem GJ {l : List Int} (aj : Ar 1 eI F Hg Hj l) {r : Bool} (hr : FM l n = some r) :
    Bv Tryz.prog 75 #[sL Hg l.length Hj, vI n] F (.bool r) := by
 refine sp func75 ntmps75 fun K _ _ => ?_
 rw [FM] at hr
 refine AJ (ua (Aa ?_))
 refine AU (fun e1 F1 L1 => IK = some r ∧ F = F1 ∧ L1 = [] ∧ e1.sub []) ?_ ?_
 ·refine AJ (ua (Aa ?_))
  refine Ap ?_
  refine Bb (fun ak e1 F1 L1 => LA l ak fun tl i => Gd n tl = some r ∧ F = F1 ∧ L1 = [] ∧ e1.sub [(0, sL Hg l.length Hj), (1, vI n), (5, vI i)]) _ (m0 kr ⟨_, _, rfl, Bl.start _, hr, rfl, rfl, z3⟩) ?_
  rintro ak e1 _ _ ⟨tl, i, aq, aa, r3, rfl, rfl, ar⟩
  refine Az _ ar ?_
  refine Aq (AJ (um (um ?_)))
  refine uv (AQ underlying22 rfl) (uv (AV rfl rfl) (Aa ?_))
  refine cQ (fun c6 => ?_) fun c6 => ?_
  ·obtain ⟨x, ba, rfl, au, g9, av⟩ := Bl.succ aa c6
   rw [Gd] at r3
   refine Ao (Aq ?_)
   refine Ap ?_
   refine AJ (um (um ?_))
   obtain ⟨NF, bb, bc, aw, ab, ad, al, rfl, ax, ae⟩ := Ar.ta kI aj g9.1 au
   refine uv (Cx underlying22 sizeOf3 ab g9) (uv (AG isAgg3 rfl (ad _) (ae 0 (by decide))) (um (uv (BO rfl rfl) (Aa ?_))))
   refine cQ (fun ah => ?_) fun ah => ?_
   ·have ay := A5 r3 ah
    refine AJ (ua (Aa (AA (AK (As (As (AK (As ?_))))))))
    refine C3 results75 ?_
    obtain rfl := AP ay
    exact rfl
   have az := A4 r3 ah
   refine Ao (Ay (id := 1) (An (um ?_)))
   refine uv (A0 rfl rfl (Bl.Cs aa c6 (Ar.lt aj))) ?_
   refine ua (Aa ?_)
   subst aq; exact le kr ⟨_, _, rfl, av, az, rfl, rfl, z3⟩
  obtain rfl := Bl.zero aa c6
  rw [Gd] at r3
  refine AI (Am (Am ?_))
  refine At ?_
  exact mi kr ⟨r3, rfl, rfl, (sn _)⟩
 rintro e1 _ _ ⟨ao, rfl, rfl, ai⟩
 refine Az _ ai ?_
 rw [IK] at ao
 refine AJ (ua (Aa (AA ?_)))
 refine C3 results75 ?_
 obtain rfl := AP ao
 exact rfl
set_option maxHeartbeats 1000000 in
theorem JS {l : List Int} (_h_walks : Ar 1 eJ F Aj Ai walks) (_h_hears : Ar 1 eJ F Ak Al Af) (_h_notices : Ar 3 eN F Ad Ac Ab) (ab : Ar 1 eI F Hg Hj l) {r : Int} (hr : Ho walks Af Ae start Ab l = some r) :
    Bv Tryz.prog 71 #[.agg #[sL Aj walks.length Ai, sL Ak Af.length Al, vI Ae, vI start, sL Ad Ab.length Ac], sL Hg l.length Hj] F (vI r) := by
 refine sp func71 ntmps71 fun K _ _ => ?_
 rw [Ho] at hr
 refine AJ ?_
 refine Bx rfl rfl ?_; intro b1 cg
 refine ua (Aa ?_)
 refine AU (fun e1 F1 L1 => HF = some r ∧ F = F1 ∧ L1 = [] ∧ e1.sub []) ?_ ?_
 ·refine AJ (ua (Aa ?_))
  refine Ap ?_
  refine Bb (fun av e1 F1 L1 => LA l av fun tl i => EG Ae l tl i = some r ∧ F = F1 ∧ L1 = [(b1, ce #[sL Aj walks.length Ai, sL Ak Af.length Al, vI Ae, vI start, sL Ad Ab.length Ac] 50)] ∧ e1.sub [(1, sL Hg l.length Hj), (2, pO b1), (5, vI i)]) _ (m0 kr ⟨_, _, rfl, Bl.start _, hr, rfl, rfl, z3⟩) ?_
  rintro av e1 _ _ ⟨tl, i, bc, ae, r4, rfl, rfl, bd⟩
  refine Az _ bd ?_
  refine Aq (AJ (um (um ?_)))
  refine uv (AQ underlying22 rfl) (uv (AV rfl rfl) (Aa ?_))
  refine cQ (fun c7 => ?_) fun c7 => ?_
  ·obtain ⟨x, cj, rfl, aw, ad, bg⟩ := Bl.succ ae c7
   rw [EG] at r4
   refine Ao (Aq ?_)
   refine Ap (Aq (dW ?_))
   refine wm (wm ?_)
   obtain ⟨Nb, ck, cn, bh, ah, ai, ax, rfl, bj, aj⟩ := Ar.ta kI ab ad.1 aw
   refine wv (Cx underlying22 sizeOf3 ah ad) (wv (AG isAgg3 rfl (ai _) (aj 0 (by decide))) (wv (Ah LK rfl) (wv (BM isAgg3 0) ?_)))
   obtain ⟨bk, bl⟩ := AB r4
   refine wv (DP rfl rfl bk) ?_
   obtain ⟨ok, bm, ay⟩ := Av bl
   refine ES rfl call70 rfl rfl rfl (Cb bm) (B1 ?_)
   refine AR rfl (fun ak => ?_) (fun ak => ?_)
   ·have bn := bt ay ak
    refine AJ (ua (Aa ?_))
    refine kW kn ?_
    refine AA (As (AK (As (As (AK (As ?_))))))
    refine C3 results71 ?_
    obtain rfl := AP bn
    exact rfl
   have bo := bf ay ak
   refine Ao (dW ?_)
   refine wm (wm ?_)
   obtain ⟨bp, bq⟩ := AB bo
   obtain ⟨l2, br, bu⟩ := BC bq
   obtain ⟨cp, cq, bw, aa⟩ := Ar.slice kI ab bp br
   refine wv ((J2 (l := 0) (h := i) underlying22 sizeOf3 rfl (.inl ⟨rfl, rfl⟩) (.inr ⟨_, rfl, rfl⟩) aa.1).eq aa.2) ?_
   refine wm (wm ?_)
   obtain ⟨cr, ct, cu, bx, al, ao, az, rfl, bz, aq⟩ := Ar.ta kI ab ad.1 aw
   refine wv (Cx underlying22 sizeOf3 al ad) (wv (AG isAgg3 rfl (ao _) (aq 0 (by decide))) ?_)
   obtain ⟨cv, cb, ba⟩ := Av bu
   refine ES rfl call75 rfl rfl rfl (GJ bw cb) (B1 ?_)
   refine AR rfl (fun ar => ?_) (fun ar => ?_)
   ·have cc := bt ba ar
    refine AJ (ua (Aa ?_))
    refine kW kn ?_
    refine AA (AK (As (As (AK (As ?_)))))
    refine C3 results71 ?_
    obtain rfl := AP cc
    exact rfl
   have cf := bf ba ar
   refine Ao (Ay (id := 1) (An (um ?_)))
   refine uv (A0 rfl rfl (Bl.Cs ae c7 (Ar.lt ab))) ?_
   refine ua (Aa ?_)
   subst bc; exact le kr ⟨_, _, rfl, bg, cf, rfl, rfl, z3⟩
  obtain rfl := Bl.zero ae c7
  rw [EG] at r4
  refine AI (Am (Am ?_))
  refine At ?_
  exact mi kn ⟨r4, rfl, rfl, (sn _)⟩
 rintro e1 _ _ ⟨bb, rfl, rfl, au⟩
 refine Az _ au ?_
 rw [HF] at bb
 refine AJ (ua (Aa (AA ?_)))
 refine C3 results71 ?_
 obtain rfl := AP bb
 exact rfl
set_option maxHeartbeats 1000000 in
theorem C1 (ae : Ar 1 eJ F Aj Ai walks) (ad : Ar 1 eJ F Ak Al Af) (ah : Ar 3 eN F Ad Ac Ab) {r : Int} (hr : CT walks Af Ae start Ab = some r) :
    Bv Tryz.prog 18 #[.agg #[sL Aj walks.length Ai, sL Ak Af.length Al, vI Ae, vI start, sL Ad Ab.length Ac]] F (vI r) := by
 refine sp func18 ntmps18 fun K _ _ => ?_
 rw [CT] at hr
 refine AJ ?_
 refine Bx rfl rfl ?_; intro b1 o7
 refine ua (BL ?_)
 refine uv (Ah Hn rfl) (uv (BM isAgg23 0) (uv (AQ underlying23 rfl) ?_))
 refine ua (Aa (Aq ?_))
 obtain ⟨k, h2, r3⟩ := Av hr
 refine jE ([(b1, ce #[sL Aj walks.length Ai, sL Ak Af.length Al, vI Ae, vI start, sL Ad Ab.length Ac] 50)]) [(1, pO b1), (3, vI (Af.length : Int)), (35, .bool k)] ?_ ?_
 ·clear r3
  refine An (um ?_)
  obtain ⟨ok, h4, r5⟩ := Av h2
  refine cV call70 (Cb h4) (um ?_)
  rcases EE ok with c6 | c6
  ·have r7 := bt r5 c6
   refine fB c6 (fB c6 (fB c6 ?_))
   refine uv (AF (Gl rfl c6) rfl) ?_
   refine um (Bm (b' := true) 23 rfl rfl rfl rfl (Bm (b' := true) 23 rfl rfl rfl rfl (Bm (b' := true) 23 rfl rfl rfl rfl (Bm (b' := true) 23 rfl rfl rfl rfl ?_))))
   refine uv (AF rfl rfl) ?_
   refine um (Bm (b' := true) 29 rfl rfl rfl rfl (Bm (b' := true) 29 rfl rfl rfl rfl (Bm (b' := true) 29 rfl rfl rfl rfl (Bm (b' := true) 29 rfl rfl rfl rfl (Bm (b' := true) 29 rfl rfl rfl rfl ?_)))))
   refine uv (AF rfl rfl) (Aa ?_)
   obtain rfl := AP r7
   exact mi kr ⟨rfl, rfl, z3⟩
  have r8 := bf r5 c6
  refine nB c6 (uv (Ah LK rfl) (nB c6 (uv (BM isAgg3 0) (nB c6 ?_))))
  obtain ⟨la, h9, ja⟩ := Av r8
  refine cV call70 (Cb h9) (uv (AD (Gl rfl c6) rfl) (um ?_))
  rcases EE la with ao | ao
  ·have ld := bt ja ao
   refine fB ao (fB ao (fB ao (fB ao ?_)))
   refine uv (AF (Gl rfl ao) rfl) ?_
   refine um (Bm (b' := true) 29 rfl rfl rfl rfl (Bm (b' := true) 29 rfl rfl rfl rfl (Bm (b' := true) 29 rfl rfl rfl rfl (Bm (b' := true) 29 rfl rfl rfl rfl (Bm (b' := true) 29 rfl rfl rfl rfl ?_)))))
   refine uv (AF rfl rfl) (Aa ?_)
   obtain rfl := AP ld
   exact mi kr ⟨rfl, rfl, z3⟩
  have jb := bf ja ao
  refine nB ao (uv (Ah C9 rfl) (nB ao (uv (BM isAgg48 0) (nB ao (uv (AQ underlying48 rfl) (nB ao (uv (CQ rfl rfl) ?_)))))))
  refine uv (AD (Gl rfl ao) rfl) (um ?_)
  by_cases al : 3 < (Ab.length : Int)
  ·have lg := A5 jb al
   refine fT al (fT al (fT al (fT al (fT al ?_))))
   refine uv (AF (AX rfl al) rfl) (Aa ?_)
   obtain rfl := AP lg
   exact mi kr ⟨rfl, rfl, z3⟩
  have lh := A4 jb al
  refine nF al (uv (Ah IZ rfl) (nF al (uv (BM isAgg23 0) (nF al (uv (AQ underlying23 rfl) ?_)))))
  refine nF al (um (nF al ?_))
  refine uv (Bt rfl rfl) (uv (AD (AL rfl al) rfl) (Aa ?_))
  obtain rfl := AP lh
  exact mi kr ⟨rfl, rfl, z3⟩
 refine AR rfl (fun eu => ?_) (fun eu => ?_)
 ·have lj := bt r3 eu
  refine AJ (ua (Aa ?_))
  refine kW kn ?_
  refine AA (As ?_)
  refine C3 results18 ?_
  obtain rfl := AP lj
  exact rfl
 have lk := bf r3 eu
 refine Ao ?_
 obtain ⟨ll, jc⟩ := Ij lk
 refine jE ([(b1, ce #[sL Aj walks.length Ai, sL Ak Af.length Al, vI Ae, vI start, sL Ad Ab.length Ac] 50)]) [(1, pO b1), (3, vI (Af.length : Int))] ?_ ?_
 ·clear jc
  refine AJ (ua (Aa ?_))
  refine Ap ?_
  refine Bb (fun jd e1 F1 L1 => LA Af jd fun tl i => EX walks Af tl i = some () ∧ F = F1 ∧ L1 = [(b1, ce #[sL Aj walks.length Ai, sL Ak Af.length Al, vI Ae, vI start, sL Ad Ab.length Ac] 50)] ∧ e1.sub [(1, pO b1), (3, vI (Af.length : Int)), (4, vI i)]) _ (m0 kr ⟨_, _, rfl, Bl.start _, ll, rfl, rfl, z3⟩) ?_
  rintro jd e1 _ _ ⟨tl, i, ew, bd, ej, rfl, rfl, ey⟩
  refine Az _ ey ?_
  refine Aq (AJ (um (um ?_)))
  refine uv (AV rfl rfl) (Aa ?_)
  refine cQ (fun en => ?_) fun en => ?_
  ·obtain ⟨x, o8, rfl, lq, o9, ez⟩ := Bl.succ bd en
   rw [EX] at ej
   refine Ao (Aq ?_)
   refine Ap (AJ (uv (Ah IZ rfl) (uv (BM isAgg23 0) (um ?_))))
   obtain ⟨x2, je, fa, lr⟩ := Bi ej
   obtain ⟨oc, od, oe, lu, fb, fe, jf, ⟨og, oh, rfl, oi⟩, lv, ff⟩ := Ar.ta kJ ae je.1 fa
   refine uv (Cx underlying23 sizeOf22 fb je) (uv (AG isAgg22 rfl (fe _) (ff 0 (by decide))) (uv (AQ underlying22 rfl) (um (uv (Bt rfl rfl) (Aa ?_)))))
   obtain ⟨lx, ly⟩ := AB lr
   refine BP rfl (fun jg => absurd jg lx) (fun jg => ?_)
   refine Ao (Ay (id := 1) (An (um ?_)))
   refine uv (A0 rfl rfl (Bl.Cs bd en (Ar.lt ad))) ?_
   refine ua (Aa ?_)
   subst ew; exact le kr ⟨_, _, rfl, ez, ly, rfl, rfl, z3⟩
  obtain rfl := Bl.zero bd en
  rw [EX] at ej
  refine AI (Am (Am ?_))
  refine At ?_
  clear ej
  exact mi kr ⟨rfl, rfl, z2⟩
 refine Aq (AJ ?_)
 refine uv (Ah MH rfl) (uv (BM isAgg3 0) (um ?_))
 obtain ⟨ma, mb⟩ := AB jc
 refine uv (DP rfl rfl ma) ?_
 obtain ⟨oj, mc, jh⟩ := Av mb
 refine cV call70 (Cb mc) (Aa ?_)
 refine AR rfl (fun fg => ?_) (fun fg => ?_)
 ·have me := bt jh fg
  refine AJ (ua (Aa ?_))
  refine kW kn ?_
  refine AA (As ?_)
  refine C3 results18 ?_
  obtain rfl := AP me
  exact rfl
 have mg := bf jh fg
 refine Ao ?_
 refine AU (fun e1 F1 L1 => HX walks Af Ae start Ab = some r ∧ F = F1 ∧ L1 = [(b1, ce #[sL Aj walks.length Ai, sL Ak Af.length Al, vI Ae, vI start, sL Ad Ab.length Ac] 50)] ∧ e1.sub [(1, pO b1), (3, vI (Af.length : Int))]) ?_ ?_
 ·refine AJ (ua (Aa ?_))
  refine Ap ?_
  refine Bb (fun ji e1 F1 L1 => LA Af ji fun jj i2 => Dh walks Af Ae start Ab jj i2 = some r ∧ F = F1 ∧ L1 = [(b1, ce #[sL Aj walks.length Ai, sL Ak Af.length Al, vI Ae, vI start, sL Ad Ab.length Ac] 50)] ∧ e1.sub [(1, pO b1), (3, vI (Af.length : Int)), (5, vI i2)]) _ (m0 kr ⟨_, _, rfl, Bl.start _, mg, rfl, rfl, z3⟩) ?_
  rintro ji e1 _ _ ⟨jj, i2, fh, bg, eo, rfl, rfl, fi⟩
  refine Az _ fi ?_
  refine Aq (AJ (um (um ?_)))
  refine uv (AV rfl rfl) (Aa ?_)
  refine cQ (fun ep => ?_) fun ep => ?_
  ·obtain ⟨x3, jk, rfl, mh, oo, fj⟩ := Bl.succ bg ep
   rw [Dh] at eo
   refine Ao ?_
   refine AU (fun e1 F1 L1 => HZ i2 (Dh walks Af Ae start Ab jk) = some r ∧ F = F1 ∧ L1 = [(b1, ce #[sL Aj walks.length Ai, sL Ak Af.length Al, vI Ae, vI start, sL Ad Ab.length Ac] 50)] ∧ e1.sub [(1, pO b1), (3, vI (Af.length : Int)), (5, vI i2)]) ?_ ?_
   ·refine Ap ?_
    refine AJ (ua (Aa ?_))
    refine Ap ?_
    refine Bb (fun jl e1 F1 L1 => LA Af jl fun jm k2 => EW walks i2 (Dh walks Af Ae start Ab jk) jm k2 = some r ∧ F = F1 ∧ L1 = [(b1, ce #[sL Aj walks.length Ai, sL Ak Af.length Al, vI Ae, vI start, sL Ad Ab.length Ac] 50)] ∧ e1.sub [(1, pO b1), (3, vI (Af.length : Int)), (5, vI i2), (6, vI k2)]) _ (m0 kr ⟨_, _, rfl, Bl.start _, eo, rfl, rfl, z4⟩) ?_
    rintro jl e1 _ _ ⟨jm, k2, fk, bh, er, rfl, rfl, fl⟩
    refine Az _ fl ?_
    refine Aq (AJ (um (um ?_)))
    refine uv (AV rfl rfl) (Aa ?_)
    refine cQ (fun et => ?_) fun et => ?_
    ·obtain ⟨x4, oq, rfl, mj, ot, fm⟩ := Bl.succ bh et
     rw [EW] at er
     refine Ao (Aq ?_)
     refine Ap (Aq ?_)
     obtain ⟨k3, jn, fo⟩ := Av er
     refine jE ([(b1, ce #[sL Aj walks.length Ai, sL Ak Af.length Al, vI Ae, vI start, sL Ad Ab.length Ac] 50)]) [(1, pO b1), (3, vI (Af.length : Int)), (5, vI i2), (6, vI k2), (77, .bool k3)] ?_ ?_
     ·clear fo
      refine An (um (um ?_))
      refine uv (BO rfl rfl) (um ?_)
      by_cases ak : i2 = k2
      ·have ml := A5 jn ak
       refine nT ak (uv (Ah IZ rfl) (nT ak (uv (BM isAgg23 0) ?_)))
       refine nT ak (um (nT ak ?_))
       obtain ⟨x5, jo, fp, mn⟩ := Bi ml
       obtain ⟨ou, ow, oy, mo, fq, fs, jq, ⟨oz, p0, rfl, mq⟩, mr, ft⟩ := Ar.ta kJ ae jo.1 fp
       refine uv (Cx underlying23 sizeOf22 fq jo) (nT ak (uv (AG isAgg22 rfl (fs _) (ft 0 (by decide))) ?_))
       refine nT ak (um (nT ak ?_))
       obtain ⟨x6, jr, fv, mu⟩ := Bi mn
       obtain ⟨p3, mv, mw, js, br, bu, fw, rfl, jt, bw⟩ := Ar.ta kI mq jr.1 fv
       refine uv (Cx underlying22 sizeOf3 br jr) (nT ak (uv (AG isAgg3 rfl (bu _) (bw 0 (by decide))) (nT ak (uv (Bt rfl rfl) (uv (AF (AX rfl ak) rfl) (Aa ?_))))))
       obtain rfl := AP mu
       exact mi kr ⟨rfl, rfl, z5⟩
      have fx := A4 jn ak
      refine fF ak (fF ak (fF ak (fF ak (fF ak (fF ak (fF ak (fF ak (fF ak ?_))))))))
      refine uv (AD (AL rfl ak) rfl) (Aa ?_)
      obtain rfl := AP fx
      exact mi kr ⟨rfl, rfl, z5⟩
     refine AR rfl (fun bj => ?_) (fun bj => ?_)
     ·have fy := bt fo bj
      refine AJ (ua (Aa ?_))
      refine kW kn ?_
      refine AA (As (AK (As (As (AK (AK (As (As (AK ?_)))))))))
      refine As (C3 results18 ?_)
      obtain rfl := AP fy
      exact rfl
     have g0 := bf fo bj
     refine Ao ?_
     obtain ⟨k4, bx, bk⟩ := Av g0
     refine jE ([(b1, ce #[sL Aj walks.length Ai, sL Ak Af.length Al, vI Ae, vI start, sL Ad Ab.length Ac] 50)]) [(1, pO b1), (3, vI (Af.length : Int)), (5, vI i2), (6, vI k2), (102, .bool k4)] ?_ ?_
     ·clear bk
      refine An (um (um ?_))
      refine uv (Bt rfl rfl) (um ?_)
      by_cases aa : i2 ≠ k2
      ·have ga := A5 bx aa
       refine nT aa (uv (Ah IZ rfl) (nT aa (uv (BM isAgg23 0) ?_)))
       refine nT aa (um (nT aa ?_))
       obtain ⟨x7, av, bb, gb⟩ := Bi ga
       obtain ⟨mx, na, nc, ju, bz, cb, gg, ⟨nf, ng, rfl, gh⟩, jv, cc⟩ := Ar.ta kJ ae av.1 bb
       refine uv (Cx underlying23 sizeOf22 bz av) (nT aa (uv (AG isAgg22 rfl (cb _) (cc 0 (by decide))) ?_))
       refine nT aa (um (nT aa ?_))
       obtain ⟨x8, aw, bc, cf⟩ := Bi gb
       obtain ⟨nh, ni, nj, jw, cg, cj, gi, rfl, jx, ck⟩ := Ar.ta kI gh aw.1 bc
       refine uv (Cx underlying22 sizeOf3 cg aw) (nT aa (uv (AG isAgg3 rfl (cj _) (ck 0 (by decide))) (nT aa (uv (Bt rfl rfl) (uv (AF (AX rfl aa) rfl) (um ?_))))))
       by_cases ab : x8 ≠ (-1)
       ·have gj := A5 cf ab
        refine nT ab (uv (Ah IZ rfl) (nT ab (uv (BM isAgg23 0) ?_)))
        refine nT ab (um (nT ab ?_))
        obtain ⟨nk, nn, np, jz, cn, cp, gk, ⟨nq, nr, rfl, gl⟩, kb, cq⟩ := Ar.ta kJ ae av.1 bb
        refine uv (Cx underlying23 sizeOf22 cn av) (nT ab (uv (AG isAgg22 rfl (cp _) (cq 0 (by decide))) ?_))
        refine nT ab (um (nT ab ?_))
        obtain ⟨ns, nt, nu, kh, cr, ct, gm, rfl, kj, cu⟩ := Ar.ta kI gl aw.1 bc
        refine uv (Cx underlying22 sizeOf3 cr aw) (nT ab (uv (AG isAgg3 rfl (ct _) (cu 0 (by decide))) (nT ab ?_)))
        obtain ⟨p4, gn, gp⟩ := Av gj
        refine cV call70 (Cb gn) (uv (AF (AX rfl ab) rfl) (Aa ?_))
        obtain rfl := AP gp
        exact mi kr ⟨rfl, rfl, z5⟩
       have gq := A4 cf ab
       refine fF ab (fF ab (fF ab (fF ab (fF ab (fF ab (fF ab (fF ab (fF ab ?_))))))))
       refine uv (AD (AL rfl ab) rfl) (Aa ?_)
       obtain rfl := AP gq
       exact mi kr ⟨rfl, rfl, z5⟩
      have gr := A4 bx aa
      refine fF aa (fF aa (fF aa (fF aa (fF aa (fF aa (fF aa (fF aa (fF aa ?_))))))))
      refine uv (AD (AL rfl aa) rfl) ?_
      refine um (Bm (b' := false) 92 rfl rfl rfl rfl (Bm (b' := false) 92 rfl rfl rfl rfl (Bm (b' := false) 92 rfl rfl rfl rfl (Bm (b' := false) 92 rfl rfl rfl rfl (Bm (b' := false) 92 rfl rfl rfl rfl (Bm (b' := false) 92 rfl rfl rfl rfl (Bm (b' := false) 92 rfl rfl rfl rfl (Bm (b' := false) 92 rfl rfl rfl rfl (Bm (b' := false) 92 rfl rfl rfl rfl ?_)))))))))
      refine uv (AD rfl rfl) (Aa ?_)
      obtain rfl := AP gr
      exact mi kr ⟨rfl, rfl, z5⟩
     refine AR rfl (fun bl => ?_) (fun bl => ?_)
     ·have gu := bt bk bl
      refine AJ (ua (Aa ?_))
      refine kW kn ?_
      refine AA (AK (As (As (AK (AK (As (As (AK (As ?_)))))))))
      refine C3 results18 ?_
      obtain rfl := AP gu
      exact rfl
     have gv := bf bk bl
     refine Ao (Ay (id := 5) (An (um ?_)))
     refine uv (A0 rfl rfl (Bl.Cs bh et (Ar.lt ad))) ?_
     refine ua (Aa ?_)
     subst fk; exact le kr ⟨_, _, rfl, fm, gv, rfl, rfl, z4⟩
    obtain rfl := Bl.zero bh et
    rw [EW] at er
    refine AI (Am (Am ?_))
    refine At (Ay (id := 3) ?_)
    exact mi kr ⟨er, rfl, rfl, z3⟩
   rintro e1 _ _ ⟨cv, rfl, rfl, cw⟩
   refine Az _ cw ?_
   rw [HZ] at cv
   refine An (um ?_)
   refine uv (A0 rfl rfl (Bl.Cs bg ep (Ar.lt ad))) ?_
   refine ua (Aa ?_)
   subst fh; exact le kr ⟨_, _, rfl, fj, cv, rfl, rfl, z3⟩
  obtain rfl := Bl.zero bg ep
  rw [Dh] at eo
  refine AI (Am (Am ?_))
  refine At ?_
  exact mi kr ⟨eo, rfl, rfl, z2⟩
 rintro e1 _ _ ⟨cx, rfl, rfl, cy⟩
 refine Az _ cy ?_
 rw [HX] at cx
 refine AU (fun e1 F1 L1 => HS walks Af Ae start Ab = some r ∧ F = F1 ∧ L1 = [(b1, ce #[sL Aj walks.length Ai, sL Ak Af.length Al, vI Ae, vI start, sL Ad Ab.length Ac] 50)] ∧ e1.sub [(1, pO b1)]) ?_ ?_
 ·refine AJ (ua (Aa ?_))
  refine Ap ?_
  refine Bb (fun kl e1 F1 L1 => LA Af kl fun km i3 => Fa walks Af Ae start Ab km = some r ∧ F = F1 ∧ L1 = [(b1, ce #[sL Aj walks.length Ai, sL Ak Af.length Al, vI Ae, vI start, sL Ad Ab.length Ac] 50)] ∧ e1.sub [(1, pO b1), (3, vI (Af.length : Int)), (7, vI i3)]) _ (m0 kr ⟨_, _, rfl, Bl.start _, cx, rfl, rfl, z3⟩) ?_
  rintro kl e1 _ _ ⟨km, i3, cz, aq, ax, rfl, rfl, da⟩
  refine Az _ da ?_
  refine Aq (AJ (um (um ?_)))
  refine uv (AV rfl rfl) (Aa ?_)
  refine cQ (fun ay => ?_) fun ay => ?_
  ·obtain ⟨x9, p5, rfl, db, dd, de⟩ := Bl.succ aq ay
   rw [Fa] at ax
   refine Ao (Aq ?_)
   refine Ap (dW (wv (CA isAgg50 sizeOf50 0) (wv (Ah Hn rfl) (wv (BM isAgg23 0) (wm ?_)))))
   obtain ⟨nv, nw, ny, ko, df, dg, gw, ⟨nz, o0, rfl, gz⟩, kt, dh⟩ := Ar.ta kJ ad dd.1 db
   refine wv (Cx underlying23 sizeOf22 df dd) (wv (AG isAgg22 rfl (dg _) (dh 0 (by decide))) ?_)
   obtain ⟨n, ia, di⟩ := Av ax
   refine ES rfl call71 rfl rfl rfl (JS ae ad ah gz ia) ?_
   refine wa (Sn (um ?_))
   refine uv (Bt rfl rfl) (Aa ?_)
   refine cQ (fun bm => ?_) fun bm => ?_
   ·have ib := A5 di bm
    refine AJ (um (ua (Aa ?_)))
    refine kW kn ?_
    refine AA (AK (As (As (AK (As ?_)))))
    refine C3 results18 ?_
    obtain rfl := AP ib
    exact rfl
   have ic := A4 di bm
   refine Ao (Ay (id := 7) (An (um ?_)))
   refine uv (A0 rfl rfl (Bl.Cs aq ay (Ar.lt ad))) ?_
   refine ua (Aa ?_)
   subst cz; exact le kr ⟨_, _, rfl, de, ic, rfl, rfl, z3⟩
  obtain rfl := Bl.zero aq ay
  rw [Fa] at ax
  refine AI (Am (Am ?_))
  refine At ?_
  exact mi kr ⟨ax, rfl, rfl, z1⟩
 rintro e1 _ _ ⟨dk, rfl, rfl, dm⟩
 refine Az _ dm ?_
 rw [HS] at dk
 refine AJ (ua (Aa ?_))
 refine AU (fun e1 F1 L1 => ∃ (AE : Int), H5 AE = some r ∧ F = F1 ∧ L1 = [] ∧ e1.sub [(9, vI AE)]) ?_ ?_
 ·refine AJ (ua (Aa ?_))
  refine Ap ?_
  refine Bb (fun ku e1 F1 L1 => LA Ab ku fun kv i4 => ∃ (ai : Int), E9 walks Af Ae start Ab kv ai = some r ∧ F = F1 ∧ L1 = [(b1, ce #[sL Aj walks.length Ai, sL Ak Af.length Al, vI Ae, vI start, sL Ad Ab.length Ac] 50)] ∧ e1.sub [(1, pO b1), (9, vI ai), (10, vI i4)]) _ (m0 kr ⟨_, _, rfl, Bl.start _, 0, dk, rfl, rfl, z3⟩) ?_
  rintro ku e1 _ _ ⟨kv, i4, dp, ar, ai, az, rfl, rfl, dq⟩
  refine Az _ dq ?_
  refine Aq (AJ (um ?_))
  refine uv (Ah C9 rfl) (uv (BM isAgg48 0) (uv (AQ underlying48 rfl) (uv (AV rfl rfl) (Aa ?_))))
  refine cQ (fun ba => ?_) fun ba => ?_
  ·obtain ⟨ie, o1, rfl, dr, dt, du⟩ := Bl.succ ar ba
   rw [E9] at az
   refine Ao (Aq ?_)
   refine Ap (AJ (uv (Ah C9 rfl) (uv (BM isAgg48 0) (um ?_))))
   obtain ⟨o2, o3, o4, kz, dv, dw, au, ⟨_, _, rfl, ⟨ig, ij, rfl, ik⟩, ⟨_, _, rfl, rfl, rfl⟩⟩, dx, dy⟩ := Ar.ta kN ah dt.1 dr
   refine uv (Cx underlying48 sizeOf110 dv dt) (uv (AZ isAgg110 sizeOf110 rfl (dw _) au (Ba au dx dy)) ?_)
   refine Bh rfl zeroValue110 ?_; intro dz l0
   refine A8 (i := 0) sizeOf110 rfl rfl rfl (by simp [Value.oneCell']) rfl (B2 rfl) (Aw rfl ?_)
   refine Aa (Aq (AJ ?_))
   refine uv (Ah Mu rfl) (uv (BM isAgg22 0) (uv (AQ underlying22 rfl) (uv (BO rfl rfl) (Aa ?_))))
   obtain ⟨il, im⟩ := AB az
   refine BP rfl (fun eb => absurd eb il) (fun eb => ?_)
   refine Ao (Aq (AJ ?_))
   refine uv (CA isAgg50 sizeOf50 1) (uv (Ah Mu rfl) (uv (BM isAgg22 0) ?_))
   obtain ⟨n2, iq, ec⟩ := Av im
   refine cV call71 (JS ae ad ah ik iq) ?_
   refine ua (BL (um ?_))
   refine uv (Bt rfl rfl) (Aa ?_)
   refine cQ (fun bn => ?_) fun bn => ?_
   ·have ir := A5 ec bn
    refine AJ (um (ua (Aa ?_)))
    refine kW kn ?_
    refine AA (As (AK (As (As (AK (As ?_))))))
    refine C3 results18 ?_
    obtain rfl := AP ir
    exact rfl
   have iu := A4 ec bn
   refine Ao (Aq ?_)
   obtain ⟨k5, iv, bo⟩ := Av iu
   refine jE ([(dz, ce #[sL ig ie.1.length ij, vI ie.2.1, vI ie.2.2] 110), (b1, ce #[sL Aj walks.length Ai, sL Ak Af.length Al, vI Ae, vI start, sL Ad Ab.length Ac] 50)]) [(1, pO b1), (9, vI ai), (10, vI i4), (11, pO dz), (148, .bool k5)] ?_ ?_
   ·clear bo
    refine An (uv (Ah MM rfl) (uv (BM isAgg3 0) ?_))
    obtain ⟨o6, iw, ef⟩ := Av iv
    refine cV call70 (Cb iw) (um ?_)
    rcases EE o6 with aj | aj
    ·have iy := bt ef aj
     refine fB aj (fB aj (fB aj ?_))
     refine uv (AF (Gl rfl aj) rfl) (Aa ?_)
     obtain rfl := AP iy
     exact mi kr ⟨rfl, rfl, z5⟩
    have iz := bf ef aj
    refine nB aj (uv (Ah JF rfl) (nB aj (uv (BM isAgg3 0) (nB aj ?_))))
    obtain ⟨p6, j0, j1⟩ := Av iz
    refine cV call70 (Cb j0) (uv (AD (Gl rfl aj) rfl) (Aa ?_))
    obtain rfl := AP j1
    exact mi kr ⟨rfl, rfl, z5⟩
   refine AR rfl (fun bp => ?_) (fun bp => ?_)
   ·have j2 := bt bo bp
    refine AJ (ua (Aa ?_))
    refine kW kn ?_
    refine AA (As (AK (As (As (AK (As ?_))))))
    refine C3 results18 ?_
    obtain rfl := AP j2
    exact rfl
   have j3 := bf bo bp
   refine Ao (An (um ?_))
   refine uv (Ah Mu rfl) (uv (BM isAgg22 0) (uv (AQ underlying22 rfl) ?_))
   obtain ⟨j4, j5⟩ := AB j3
   refine uv (A0 rfl rfl j4) ?_
   obtain ⟨bq, j6, j7⟩ := BC j5
   refine uv ((BB rfl).i j6) ?_
   refine Aa (Ay (id := 9) (An (um ?_)))
   refine uv (A0 rfl rfl (Bl.Cs ar ba (Ar.lt ah))) ?_
   refine ua (Aa ?_)
   subst dp; exact le (kd kr) ⟨_, _, rfl, du, bq, j7, rfl, rfl, z3⟩
  obtain rfl := Bl.zero ar ba
  rw [E9] at az
  refine AI (Am (Am ?_))
  refine At ?_
  exact mi kn ⟨ai, az, rfl, rfl, z1⟩
 rintro e1 _ _ ⟨AE, eg, rfl, rfl, eh⟩
 refine Az _ eh ?_
 rw [H5] at eg
 refine Aq (AJ (um ?_))
 refine uv (CQ rfl rfl) (Aa ?_)
 obtain ⟨j8, j9⟩ := AB eg
 refine BP rfl (fun ei => absurd ei j8) (fun ei => ?_)
 refine Ao (AJ (ua (Aa (AA ?_))))
 refine C3 results18 ?_
 obtain rfl := AP j9
 exact rfl
theorem Hz {s_ : List (Int × Int)} (aa : Ar 2 eP F D3 D4 s_) {r : List (Int × Int)} (hr : Dm s_ = some r) :
    SH.Spec Tryz.prog 73 #[sL D3 s_.length D4] F [] fun F' L' v => ∃ (ra : Option Addr) (rn : Nat) (rc : Nat) (rL : LH), v = sL ra rn rc ∧ L' = rL ++ [] ∧ AM 0 32 2 eP F' ra rn rc r rL := by
 refine sp func73 ntmps73 fun K _ _ => ?_
 rw [Dm] at hr
 refine AJ (ua (Aa (Aq (AJ (um ?_)))))
 refine uv (O3 underlying41 rfl) (Aa ?_)
 refine AR rfl (fun c1 => ?_) (fun c1 => ?_)
 ·have r2 := PH hr (Ar.isNone aa c1)
  refine AJ (ua (Aa (AA (As ?_))))
  refine C3 results73 ?_
  obtain rfl := AP r2
  exact ⟨_, _, _, [], rfl, rfl, AM.nil _ _ _ _ _⟩
 have r3 := PJ hr
 refine Ao (AJ ?_)
 refine Ju (cs := #[]) rfl rfl (Jg HR) ?_; intro b4 ah
 refine um ?_
 have ae : AM K.w0.heap.size 32 2 eP F (aD b4) 0 0 ([] : List (Int × Int)) [(b4, ce #[] 32)] := AM.BD (vss := []) kP ah .nil rfl rfl (by simp [maxLen])
 generalize ab : ([(b4, ce #[] 32)] : LH) = Lb5 at ae
 refine BA (L' := Lb5 ++ []) (by rw [← ab]; exact fO) ?_
 obtain ⟨l, h8, g9, ai⟩ := DS r3
 refine Cq (xs := ([] : List (Int × Int))) (ys := s_) (zs := l) rfl HR rfl rfl (Nat.le_refl _) (fun _ => .h) ae (Ar.src aa) h8 g9 (by decide) ?_; intro ak al ao aj ad
 refine ua (Aa (AA ?_))
 refine C3 results73 ?_
 obtain rfl := AP ai
 exact ⟨_, _, _, _, rfl, rfl, ad.any⟩
set_option maxHeartbeats 1000000 in
theorem Ma (ad : Ar 1 eJ F Aj Ai walks) (ae : Ar 1 eJ F Ak Al Af) (aa : Ar 3 eN F Ad Ac Ab) {r : List (Int × Int)} {r2 : Int} (hr : J7 walks Af Ae start Ab = some (r, r2)) :
    SH.Spec Tryz.prog 19 #[.agg #[sL Aj walks.length Ai, sL Ak Af.length Al, vI Ae, vI start, sL Ad Ab.length Ac]] F [] fun F' L' v => ∃ (ra : Option Addr) (rn : Nat) (rc : Nat) (rL : LH), v = .tuple #[sL ra rn rc, vI r2] ∧ L' = rL ++ [] ∧ AM 0 32 2 eP F' ra rn rc r rL := by
 refine sp func19 ntmps19 fun K _ _ => ?_
 rw [J7] at hr
 refine AJ ?_
 refine Bx rfl rfl ?_; intro b1 bx
 refine ua (ua (BL ?_))
 refine uv (CA isAgg26 sizeOf26 0) ?_
 obtain ⟨d, n, h2, r3⟩ := BT hr
 refine c0 call72 (Cd ad ae aa h2) ?_; rintro _ F4 _ bz cb ⟨v8, rfl, rfl, aw⟩
 refine Aw (ln rfl) ?_
 refine um (ox rfl rfl rfl (ox rfl rfl rfl (ua (ua (Aa (Aq (AJ (um ?_))))))))
 refine uv (Bt rfl rfl) (Aa ?_)
 refine cQ (fun aq => ?_) fun aq => ?_
 ·have ax := A5 r3 aq
  refine AJ (um (ua (ua (Aa ?_))))
  refine kW kn ?_
  refine AA (As ?_)
  refine BG results19 (AH rfl) (AH rfl) (sr) ?_
  obtain ⟨rfl, rfl⟩ := B9 ax
  exact ⟨_, _, _, [], rfl, rfl, AM.nil _ _ _ _ _⟩
 have ay := A4 r3 aq
 refine Ao (AJ (um ?_))
 obtain ⟨Ax, ai, ah, aj, ab, ak, AE, BH, az, ba⟩ := J3 ay
 have av := aw; rw [az] at av; obtain ⟨bb, cc, bc, ar, al, ⟨_, _, rfl, ⟨bd, bg, rfl, cf⟩, ⟨_, _, rfl, ⟨bh, bj, rfl, cg⟩, ⟨_, _, rfl, rfl, ⟨_, _, rfl, rfl, ⟨_, _, rfl, ⟨bk, bl, rfl, cj⟩, ⟨_, _, rfl, ⟨rfl, bm⟩, ⟨_, _, rfl, ⟨bn, bo, rfl, bp⟩, ⟨rfl, ck⟩⟩⟩⟩⟩⟩⟩⟩⟩ := av; subst ar
 have al : F4 bb = some (.cells ((([sL bd Ax.length bg] : List Value) ++ (([sL bh ai.length bj] : List Value) ++ (([vI ah] : List Value) ++ (([vI aj] : List Value) ++ (([sL bk ab.length bl] : List Value) ++ (ak.flatMap (cI .i64) ++ (([sL bn AE.length bo] : List Value) ++ (BH.flatMap (cI .i64))))))))).toArray) 122 bc) := al
 refine uv (A9 rfl) (uv (Ah GB rfl) (uv (AG isAgg41 rfl (Has.frozen al) (DN (Au (k := 1) (o := 29) rfl (Au (k := 1) (o := 28) rfl (Au (k := 1) (o := 27) rfl (Au (k := 1) (o := 26) rfl (Au (k := 1) (o := 25) rfl (Au (k := 25) (o := 0) (IG (Bj .i64) bm) (BJ rfl))))))))) ?_))
 obtain ⟨l, bq, br⟩ := Av ba
 refine c0 call73 (Hz bp bq) ?_; rintro _ cn _ bu au ⟨cp, cq, cr, bw, rfl, rfl, ao⟩
 replace ao := ao.new fun p hp => au p (by simp [hp])
 refine Aw (lp (ln rfl)) (kO (kf (fS fO) kr) ?_)
 refine ua (ua (Aa ?_))
 refine kW (kd kr) (AA (BG results19 (AH rfl) (AH rfl) (sr) ?_))
 obtain ⟨rfl, rfl⟩ := B9 br
 exact ⟨_, _, _, _, rfl, rfl, ao.any⟩
set_option maxHeartbeats 1000000 in
theorem Gc {s1 s2 : List (Int × Int)} (ad : Ar 2 eP F Lx Lp s1) (ah : Ar 2 eP F Lu LC s2) {r : Bool} (hr : Cm s1 s2 = some r) :
    Bv Tryz.prog 74 #[sL Lx s1.length Lp, sL Lu s2.length LC] F (.bool r) := by
 refine sp func74 ntmps74 fun K _ _ => ?_
 rw [Cm] at hr
 refine AJ (ua (Aa (Aq (AJ (um ?_)))))
 refine uv (AQ underlying57 rfl) (um (uv (AQ underlying57 rfl) (uv (Bt rfl rfl) (Aa ?_))))
 obtain ⟨g2, r3⟩ := AB hr
 refine BP rfl (fun c4 => absurd c4 g2) (fun c4 => ?_)
 refine Ao ?_
 obtain ⟨h5, r6⟩ := Ij r3
 refine jE ([]) [] ?_ ?_
 ·clear r6
  refine AJ (um ?_)
  refine uv (AQ underlying57 rfl) ?_
  refine um (Aa ?_)
  refine Ap ?_
  refine Bb (fun ba e1 F1 L1 => LA s1 ba fun tl k => Bu s2 tl k = some () ∧ F = F1 ∧ L1 = [] ∧ e1.sub [(0, sL Lx s1.length Lp), (1, sL Lu s2.length LC), (12, vI (s1.length : Int)), (13, vI k)]) _ (m0 kr ⟨_, _, rfl, Bl.start _, h5, rfl, rfl, z4⟩) ?_
  rintro ba e1 _ _ ⟨tl, k, bg, ai, r9, rfl, rfl, aj⟩
  refine Az _ aj (AJ (uv (AV rfl rfl) ?_))
  refine Aa (Aq ?_)
  refine cQ (fun ae => ?_) fun ae => ?_
  ·obtain ⟨x, bn, rfl, ak, bb, al⟩ := Bl.succ ai ae
   rw [Bu] at r9
   refine Ao (Aq ?_)
   refine Ap ?_
   refine AJ (um (ua ?_))
   refine dN ?_
   refine wm (wm ?_)
   obtain ⟨bo, bp, bq, bh, ao, aq, aa, ⟨_, _, rfl, rfl, rfl⟩, ar, au⟩ := Ar.ta kP ad bb.1 ak
   refine wv (Cx underlying57 sizeOf56 ao bb) (wv (AZ isAgg56 sizeOf56 rfl (aq _) aa (Ba aa ar au)) ?_)
   refine wm (wm ?_)
   obtain ⟨x2, bc, av, bj⟩ := Bi r9
   obtain ⟨br, bu, bw, bk, aw, ax, ab, ⟨_, _, rfl, rfl, rfl⟩, ay, az⟩ := Ar.ta kP ah bc.1 av
   refine wv (Cx underlying57 sizeOf56 aw bc) (wv (AZ isAgg56 sizeOf56 rfl (ax _) ab (Ba ab ay az)) (wv (PM (Q4 _ _ _ _) (fun w => NW (RA _ _ _ _ w)) rfl rfl) (B1 ?_)))
   obtain ⟨bl, bm⟩ := AB bj
   refine BP rfl (fun bd => absurd bd bl) (fun bd => ?_)
   refine Ao (Ay (id := 1) (An ?_))
   refine uv (A0 rfl rfl (Bl.Cs ai ae (Ar.lt ad))) ?_
   refine um (Aa ?_)
   subst bg; exact le kr ⟨_, _, rfl, al, bm, rfl, rfl, z4⟩
  obtain rfl := Bl.zero ai ae
  rw [Bu] at r9
  refine AI (Am (Am ?_))
  refine At ?_
  clear r9
  exact mi kr ⟨rfl, rfl, (sn _)⟩
 refine AJ (ua (Aa (AA ?_)))
 refine C3 results74 ?_
 obtain rfl := AP r6
 exact rfl
theorem CL {a b : List (Int × Int)} (aa : Ar 2 eP F Qg Qh a) (ab : Ar 2 eP F Qe FO b) {r : Bool} (hr : Cj a b = some r) :
    Bv Tryz.prog 20 #[sL Qg a.length Qh, sL Qe b.length FO] F (.bool r) := by
 refine sp func20 ntmps20 fun K _ _ => ?_
 rw [Cj] at hr
 refine AJ (ua (BL (um (um ?_))))
 obtain ⟨ok, h1, r2⟩ := Av hr
 refine cV call74 (Gc aa ab h1) ?_
 refine ua (Aa (AA ?_))
 refine C3 results20 ?_
 obtain rfl := AP r2
 exact rfl
set_option maxHeartbeats 1000000 in
theorem CJ {l : List (Int × Int)} (bg : Ar 2 eP F Hg Hj l) {r : List (Int × Int)} (hr : Cw l = some r) :
    SH.Spec Tryz.prog 21 #[sL Hg l.length Hj] F [] fun F' L' v => ∃ (ra : Option Addr) (rn : Nat) (rc : Nat) (rL : LH), v = sL ra rn rc ∧ L' = rL ++ [] ∧ AM 0 56 2 eP F' ra rn rc r rL := by
 refine sp func21 ntmps21 fun K _ _ => ?_
 rw [Cw] at hr
 refine AJ (ua (BL (ua (Aa ?_))))
 obtain ⟨out, h7, r8⟩ := Av hr
 refine AU (fun e1 F1 L1 => ∃ (a1 : Option Addr) (n5 : Nat) (c2 : Nat) (aq : LH), F = F1 ∧ L1 = (aq ++ []) ∧ e1.sub [(3, sL a1 n5 c2)] ∧ AM K.w0.heap.size 56 2 eP F1 a1 n5 c2 out aq) ?_ ?_
 ·clear r8
  refine AJ (um ?_)
  refine uv (AQ underlying41 rfl) ?_
  refine um (Aa ?_)
  refine Ap ?_
  refine Bb (fun bh e1 F1 L1 => LA l bh fun tl k => ∃ (aa : List (Int × Int)) (a9 : Option Addr) (aj : Nat) (ak : Nat) (ab : LH), EF tl aa = some out ∧ F = F1 ∧ L1 = (ab ++ []) ∧ e1.sub [(3, sL a9 aj ak), (6, sL Hg l.length Hj), (7, vI (l.length : Int)), (8, vI k)] ∧ AM K.w0.heap.size 56 2 eP F1 a9 aj ak aa ab) _ (m0 (ke kr) ⟨_, _, rfl, Bl.start _, [], none, 0, 0, [], h7, rfl, rfl, z4, AM.nil _ _ _ _ _⟩) ?_
  rintro bh e1 _ _ ⟨tl, k, ar, ae, aa, a9, aj, ak, ab, al, rfl, rfl, au, ah⟩
  refine Az _ au (AJ (uv (AV rfl rfl) ?_))
  refine Aa (Aq ?_)
  refine cQ (fun ao => ?_) fun ao => ?_
  ·obtain ⟨x, bx, rfl, av, bj, aw⟩ := Bl.succ ae ao
   rw [EF] at al
   refine Ao (Aq ?_)
   refine Ap (AJ ?_)
   obtain ⟨bz, cb, cc, bk, ax, ay, ad, ⟨_, _, rfl, rfl, rfl⟩, az, ba⟩ := Ar.ta kP bg bj.1 av
   refine uv (Cx underlying41 sizeOf32 ax bj) (uv (AZ isAgg32 sizeOf32 rfl (ay _) ad (Ba ad az ba)) ?_)
   refine Bh rfl zeroValue32 ?_; intro cf bl
   refine A8 (i := 0) sizeOf32 rfl rfl rfl (by simp [Value.oneCell']) rfl (B2 rfl) (Aw rfl ?_)
   refine Aa (An (um ?_))
   refine uv (CA isAgg32 sizeOf32 0) ?_
   refine bA (cs := #[vI x.1, vI x.2]) Iq [.agg #[vI x.1, vI x.2]] ?_; intro cg bm
   obtain ⟨ai, bn, bo, bp⟩ := DS al
   refine Cq (xs := aa) (ys := [(x.1, x.2)]) (zs := ai) rfl Iq rfl rfl (Nat.le_refl _) (fun _ => .c (.c .h)) ah (Fg.box (vss := [[vI x.1, vI x.2]]) (ys := [(x.1, x.2)]) 0 rfl kP (.cons ⟨_, _, rfl, rfl, rfl⟩ .nil) rfl rfl) bn bo (by decide) ?_; intro bq br bu bb bc
   refine kO (kd kr) ?_
   refine ua (Aa (Ay (id := 1) (An ?_)))
   refine uv (A0 rfl rfl (Bl.Cs ae ao (Ar.lt bg))) ?_
   refine um (Aa ?_)
   subst ar; exact le (kd kr) ⟨_, _, rfl, aw, ai, bq, br, bu, bb, bp, rfl, rfl, z4, bc⟩
  obtain rfl := Bl.zero ae ao
  rw [EF] at al
  refine AI (Am (Am ?_))
  refine At ?_
  obtain rfl := AP al
  exact mi kr ⟨a9, aj, ak, ab, rfl, rfl, z1, ah⟩
 rintro e1 _ _ ⟨a1, n5, c2, aq, rfl, rfl, bd, bw⟩
 refine Az _ bd ?_
 refine AJ (um (ua (Aa (AA ?_))))
 refine C3 results21 ?_
 obtain rfl := AP r8
 exact ⟨_, _, _, _, rfl, rfl, bw.any⟩
set_option maxHeartbeats 1000000 in
theorem Cg (_h_walks : Ar 1 eJ F Aj Ai walks) (_h_hears : Ar 1 eJ F Ak Al Af) (aa : Ar 3 eN F Ad Ac Ab) {r : List (Int × Int)} (hr : Cc walks Af Ae start Ab = some r) :
    SH.Spec Tryz.prog 22 #[.agg #[sL Aj walks.length Ai, sL Ak Af.length Al, vI Ae, vI start, sL Ad Ab.length Ac]] F [] fun F' L' v => ∃ (ra : Option Addr) (rn : Nat) (rc : Nat) (rL : LH), v = sL ra rn rc ∧ L' = rL ++ [] ∧ AM 0 56 2 eP F' ra rn rc r rL := by
 refine sp func22 ntmps22 fun K _ _ => ?_
 rw [Cc] at hr
 refine AJ ?_
 refine Bx rfl rfl ?_; intro b1 dp
 refine ua (BL (ua (Aa ?_)))
 obtain ⟨out, h8, r9⟩ := Av hr
 refine AU (fun e1 F1 L1 => ∃ (a2 : Option Addr) (n6 : Nat) (c3 : Nat) (bm : LH), F = F1 ∧ L1 = (bm ++ []) ∧ e1.sub [(3, sL a2 n6 c3)] ∧ AM K.w0.heap.size 56 2 eP F1 a2 n6 c3 out bm) ?_ ?_
 ·clear r9
  refine AJ (ua (Aa ?_))
  refine Ap ?_
  refine Bb (fun ck e1 F1 L1 => LA Ab ck fun tl n => ∃ (ah : List (Int × Int)) (aq : Option Addr) (ar : Nat) (au : Nat) (ab : LH), EY Ae tl n ah = some out ∧ F = F1 ∧ L1 = ((b1, ce #[sL Aj walks.length Ai, sL Ak Af.length Al, vI Ae, vI start, sL Ad Ab.length Ac] 50) :: (ab ++ [])) ∧ e1.sub [(1, pO b1), (3, sL aq ar au), (4, vI n)] ∧ AM K.w0.heap.size 56 2 eP F1 aq ar au ah ab) _ (m0 (kc (ke kr)) ⟨_, _, rfl, Bl.start _, [], none, 0, 0, [], h8, rfl, rfl, z3, AM.nil _ _ _ _ _⟩) ?_
  rintro ck e1 _ _ ⟨tl, n, bn, ak, ah, aq, ar, au, ab, bc, rfl, rfl, bo, av⟩
  refine Az _ bo ?_
  refine Aq (AJ (um ?_))
  refine uv (Ah C9 rfl) (uv (BM isAgg48 0) (uv (AQ underlying48 rfl) (uv (AV rfl rfl) (Aa ?_))))
  refine cQ (fun bd => ?_) fun bd => ?_
  ·obtain ⟨x, dq, rfl, bp, cn, bq⟩ := Bl.succ ak bd
   rw [EY] at bc
   refine Ao ?_
   obtain ⟨al, cu, cp⟩ := Av bc
   refine AU (fun e1 F1 L1 => ∃ (bg : Option Addr) (bh : Nat) (bj : Nat) (ai : LH), F = F1 ∧ L1 = ((b1, ce #[sL Aj walks.length Ai, sL Ak Af.length Al, vI Ae, vI start, sL Ad Ab.length Ac] 50) :: (ai ++ [])) ∧ e1.sub [(1, pO b1), (3, sL bg bh bj), (4, vI n)] ∧ AM K.w0.heap.size 56 2 eP F1 bg bh bj al ai) ?_ ?_
   ·clear cp
    refine Ap ?_
    refine AJ (ua (Aa ?_))
    refine Ap ?_
    obtain ⟨cq, cv⟩ := AB cu
    refine Bb (fun bk e1 F1 L1 => ∃ (h : Int), CC 0 Ae h bk ∧ ∃ (ad : List (Int × Int)) (aw : Option Addr) (ax : Nat) (ay : Nat) (ae : LH), Ea n x bk h ad = some al ∧ F = F1 ∧ L1 = ((b1, ce #[sL Aj walks.length Ai, sL Ak Af.length Al, vI Ae, vI start, sL Ad Ab.length Ac] 50) :: (ae ++ [])) ∧ e1.sub [(1, pO b1), (3, sL aw ax ay), (4, vI n), (5, vI h)] ∧ AM K.w0.heap.size 56 2 eP F1 aw ax ay ad ae) _ (m0 kr ⟨_, CC.start _ _, ah, aq, ar, au, ab, cv, rfl, rfl, z4, av⟩) ?_
    rintro bk e1 _ _ ⟨h, aj, ad, aw, ax, ay, ae, bl, rfl, rfl, br, ao⟩
    refine Az _ br ?_
    refine Aq (AJ (um ?_))
    refine uv (Ah LK rfl) (uv (BM isAgg3 0) (uv (AV rfl rfl) (Aa ?_)))
    refine cQ (fun az => ?_) fun az => ?_
    ·obtain ⟨bk, rfl, ba⟩ := CC.succ aj az
     rw [Ea] at bl
     refine Ao (Aq ?_)
     refine Ap (AJ (uv (Ah C9 rfl) (uv (BM isAgg48 0) (um ?_))))
     obtain ⟨dr, dt, du, cw, bu, bw, cr, ⟨_, _, rfl, ⟨dv, dw, rfl, cx⟩, ⟨_, _, rfl, rfl, rfl⟩⟩, cy, bx⟩ := Ar.ta kN aa cn.1 bp
     refine uv (Cx underlying48 sizeOf110 bu cn) (uv (Ah Mu rfl) (uv (AG isAgg22 rfl (bw _) (bx 0 (by decide))) (um ?_)))
     obtain ⟨ok, cz, ct⟩ := Av bl
     refine cV call75 (GJ cx cz) (Aa ?_)
     refine AR rfl (fun bz => ?_) (fun bz => ?_)
     ·have da := bt ct bz
      refine An (um (um (um ?_)))
      refine uv (BI (v := .agg #[vI n, vI h]) rfl (by intro w; kernel_rfl)) ?_
      refine bA (cs := #[vI n, vI h]) Iq [.agg #[vI n, vI h]] ?_; intro dx db
      obtain ⟨bb, dd, de, df⟩ := DS da
      refine Cq (xs := ad) (ys := [(n, h)]) (zs := bb) rfl Iq rfl rfl (Nat.le_refl _) (fun _ => .c (.c .h)) ao (Fg.box (vss := [[vI n, vI h]]) (ys := [(n, h)]) 0 rfl kP (.cons ⟨_, _, rfl, rfl, rfl⟩ .nil) rfl rfl) dd de (by decide) ?_; intro dg dh di cb cc
      refine kO (kd kr) ?_
      refine ua (Aa (Ay (id := 3) (An (um ?_))))
      refine uv (A0 rfl rfl (CC.Cs aj az cq)) ?_
      refine ua (Aa ?_)
      exact le kr ⟨_, ba, bb, dg, dh, di, cb, df, rfl, rfl, z4, cc⟩
     have dk := bf ct bz
     refine Ao (Ay (id := 3) (An (um ?_)))
     refine uv (A0 rfl rfl (CC.Cs aj az cq)) ?_
     refine ua (Aa ?_)
     exact le kr ⟨_, ba, ad, aw, ax, ay, ae, dk, rfl, rfl, z4, ao⟩
    obtain rfl := CC.zero aj az
    rw [Ea] at bl
    refine AI (Am (Am ?_))
    refine At (Ay (id := 1) ?_)
    obtain rfl := AP bl
    exact mi kr ⟨aw, ax, ay, ae, rfl, rfl, z3, ao⟩
   rintro e1 _ _ ⟨bg, bh, bj, ai, rfl, rfl, cf, cg⟩
   refine Az _ cf ?_
   refine An (um ?_)
   refine uv (A0 rfl rfl (Bl.Cs ak bd (Ar.lt aa))) ?_
   refine ua (Aa ?_)
   subst bn; exact le kr ⟨_, _, rfl, bq, al, bg, bh, bj, ai, cp, rfl, rfl, z3, cg⟩
  obtain rfl := Bl.zero ak bd
  rw [EY] at bc
  refine AI (Am (Am ?_))
  refine At ?_
  obtain rfl := AP bc
  exact mi (kd kr) ⟨aq, ar, au, ab, rfl, rfl, z1, av⟩
 rintro e1 _ _ ⟨a2, n6, c3, bm, rfl, rfl, cj, dm⟩
 refine Az _ cj ?_
 refine AJ (um (ua (Aa (AA ?_))))
 refine C3 results22 ?_
 obtain rfl := AP r9
 exact ⟨_, _, _, _, rfl, rfl, dm.any⟩
theorem Im {s_ : List Int} (aa : Ar 1 eI F D3 D4 s_) {r : List Int} (hr : FB s_ = some r) :
    SH.Spec Tryz.prog 78 #[sL D3 s_.length D4] F [] fun F' L' v => ∃ (ra : Option Addr) (rn : Nat) (rc : Nat) (rL : LH), v = sL ra rn rc ∧ L' = rL ++ [] ∧ AM 0 3 1 eI F' ra rn rc r rL := by
 refine sp func78 ntmps78 fun K _ _ => ?_
 rw [FB] at hr
 refine AJ (ua (Aa (Aq (AJ (um ?_)))))
 refine uv (O3 underlying22 rfl) (Aa ?_)
 refine AR rfl (fun c1 => ?_) (fun c1 => ?_)
 ·have r2 := PH hr (Ar.isNone aa c1)
  refine AJ (ua (Aa (AA (As ?_))))
  refine C3 results78 ?_
  obtain rfl := AP r2
  exact ⟨_, _, _, [], rfl, rfl, AM.nil _ _ _ _ _⟩
 have r3 := PJ hr
 refine Ao (AJ ?_)
 refine Ju (cs := #[]) rfl rfl (Jg Bp) ?_; intro b4 ah
 refine um ?_
 have ae : AM K.w0.heap.size 3 1 eI F (aD b4) 0 0 ([] : List Int) [(b4, ce #[] 3)] := AM.BD (vss := []) kI ah .nil rfl rfl (by simp [maxLen])
 generalize ab : ([(b4, ce #[] 3)] : LH) = Lb5 at ae
 refine BA (L' := Lb5 ++ []) (by rw [← ab]; exact fO) ?_
 obtain ⟨l, h8, g9, ai⟩ := DS r3
 refine Cq (xs := ([] : List Int)) (ys := s_) (zs := l) rfl Bp rfl rfl (Nat.le_refl _) (fun _ => .h) ae (Ar.src aa) h8 g9 (by decide) ?_; intro ak al ao aj ad
 refine ua (Aa (AA ?_))
 refine C3 results78 ?_
 obtain rfl := AP ai
 exact ⟨_, _, _, _, rfl, rfl, ad.any⟩
set_option maxHeartbeats 1000000 in
theorem O6 (ah : Ar 1 eJ F Aj Ai walks) (ak : Ar 1 eJ F Ak Al Af) (aa : Ar 3 eN F Ad Ac Ab) {r r2 : List (List Int)} {r6 : Int} (hr : Nc walks Af Ae start Ab AW hour = some (r, r2, r3, r4, r5, r6)) :
    SH.Spec Tryz.prog 23 #[.agg #[sL Aj walks.length Ai, sL Ak Af.length Al, vI Ae, vI start, sL Ad Ab.length Ac], vI AW, vI hour] F [] fun F' L' v => ∃ (ra : Option Addr) (rn : Nat) (rc : Nat) (rL : LH) (nq : Option Addr) (nr : Nat) (ns : Nat) (nt : LH) (nu : Option Addr) (nv : Nat) (nw : Nat) (ny : LH), v = .tuple #[.agg #[sL ra rn rc, sL nq nr ns, vI r3, vI r4, sL nu nv nw], vI r6] ∧ L' = rL ++ (nt ++ (ny ++ [])) ∧ C0 0 22 3 1 eI F' ra rn rc r rL ∧ C0 0 22 3 1 eI F' nq nr ns r2 nt ∧ Kq 0 35 3 (DZ LI eP) (qS 3 1 eI) F' nu nv nw r5 ny := by
 refine sp func23 ntmps23 fun K _ _ => ?_
 rw [Nc] at hr
 refine AJ ?_
 refine Bx rfl rfl ?_; intro b1 th
 refine Bh rfl zeroValue26 ?_; intro b2 ti
 refine ua (BL ?_)
 refine uv (CA isAgg26 sizeOf26 1) ?_
 obtain ⟨n, h3, r7⟩ := Av hr
 refine cV call13 (GL ah ak aa h3) ?_
 refine ua (Aa (Aq ?_))
 refine Ap ?_
 refine AJ (um ?_)
 refine uv (Bt rfl rfl) ?_
 refine ua (Aa ?_)
 refine cQ (fun c8 => ?_) fun c8 => ?_
 ·have r9 := A5 r7 c8
  refine AJ ?_
  refine uv (BI (v := .agg #[sL none 0 0, sL none 0 0, vI 0, vI 0, sL none 0 0]) rfl (by intro w; kernel_rfl)) ?_
  refine um (A8 (i := 0) sizeOf26 rfl rfl rfl (by simp [Value.oneCell']) rfl (B2 rfl) (Aw rfl ?_))
  refine ua (Aa ?_)
  refine kW (kc kn) ?_
  refine AA (AK (As ?_))
  refine BG results23 (Fq (cs := #[sL none 0 0, sL none 0 0, vI 0, vI 0, sL none 0 0]) isAgg26 sizeOf26 rfl (Has.own 0 rfl) (B2 rfl) rfl) (AH rfl) (s1 sr) ?_
  obtain ⟨rfl, rfl, rfl, rfl, rfl, rfl⟩ := Oh r9
  exact ⟨_, _, _, [], _, _, _, [], _, _, _, [], rfl, rfl, C0.nil _ _ _ _ _ _, C0.nil _ _ _ _ _ _, Kq.nil⟩
 have qe := A4 r7 c8
 refine AJ (uv (CA isAgg26 sizeOf26 1) (um ?_))
 obtain ⟨ok, qf, nz⟩ := Av qe
 refine cV call76 (Hw ah ak aa qf) (uv (Bz rfl) ?_)
 refine ua (Aa ?_)
 refine AR rfl (fun ja => ?_) (fun ja => ?_)
 ·have qg := bt nz ja
  refine AJ ?_
  refine uv (BI (v := .agg #[sL none 0 0, sL none 0 0, vI 0, vI 0, sL none 0 0]) rfl (by intro w; kernel_rfl)) ?_
  refine A8 (i := 0) sizeOf26 rfl rfl rfl (by simp [Value.oneCell']) rfl (B2 rfl) (Aw rfl ?_)
  refine ua (Aa ?_)
  refine kW (kc kn) ?_
  refine AA (AK (As ?_))
  refine BG results23 (Fq (cs := #[sL none 0 0, sL none 0 0, vI 0, vI 0, sL none 0 0]) isAgg26 sizeOf26 rfl (Has.own 0 rfl) (B2 rfl) rfl) (AH rfl) (s1 sr) ?_
  obtain ⟨rfl, rfl, rfl, rfl, rfl, rfl⟩ := Oh qg
  exact ⟨_, _, _, [], _, _, _, [], _, _, _, [], rfl, rfl, C0.nil _ _ _ _ _ _, C0.nil _ _ _ _ _ _, Kq.nil⟩
 have qh := bf nz ja
 refine AJ (um ?_)
 obtain ⟨tj, qi, o0⟩ := Av qh
 refine cV call77 (Ed qi) (uv (Bz rfl) ?_)
 refine ua (Aa ?_)
 refine AR rfl (fun jb => ?_) (fun jb => ?_)
 ·have qj := bt o0 jb
  refine AJ ?_
  refine uv (BI (v := .agg #[sL none 0 0, sL none 0 0, vI 0, vI 0, sL none 0 0]) rfl (by intro w; kernel_rfl)) ?_
  refine A8 (i := 0) sizeOf26 rfl rfl rfl (by simp [Value.oneCell']) rfl (B2 rfl) (Aw rfl ?_)
  refine ua (Aa ?_)
  refine kW (kc kn) ?_
  refine AA (AK (As ?_))
  refine BG results23 (Fq (cs := #[sL none 0 0, sL none 0 0, vI 0, vI 0, sL none 0 0]) isAgg26 sizeOf26 rfl (Has.own 0 rfl) (B2 rfl) rfl) (AH rfl) (s1 sr) ?_
  obtain ⟨rfl, rfl, rfl, rfl, rfl, rfl⟩ := Oh qj
  exact ⟨_, _, _, [], _, _, _, [], _, _, _, [], rfl, rfl, C0.nil _ _ _ _ _ _, C0.nil _ _ _ _ _ _, Kq.nil⟩
 have qk := bf o0 jb
 refine Ao (Ay (id := 0) (Aq ?_))
 obtain ⟨o1, ql⟩ := AB qk
 refine Bg [(.pre, 13), (.still, 0), (.still, 1), (.still, 2), (.pre, 3), (.still, 4), (.still, 5), (.still, 6), (.still, 8), (.still, 9), (.still, 10), (.still, 11), (.seq, 7), (.alloc (ce (madeCells (sL none 0 0 : Value).cells (Int.toNat (walks.length : Int) * 1)) 22) (fun b => sL (aD b) (Int.toNat (walks.length : Int)) (Int.toNat (walks.length : Int))) [(33, vI (walks.length : Int))], 3), (.still, 12), (.alloc (.cells (.agg #[sL none 0 0, sL none 0 0, vI 0, vI 0, sL none 0 0] : Value).cells 26 (0, 0)) (fun b => pO b) [], 13), (.seq, 14)] (by kernel_rfl) (by kernel_rfl) (⟨⟨_, _, rfl, rfl, rfl, rfl, rfl, OJ Fm (by decide) rfl o1⟩, ⟨⟨_, _, rfl, rfl, rfl, rfl, rfl, EI zeroValue26⟩, trivial⟩⟩) (by rfl) (by kernel_rfl) ?_
 refine ⟨⟨[], rfl, sn _, by kernel_rfl⟩, ?_⟩
 refine mS [3] rfl (Ah CI rfl) (mK [31] isAgg23 1 rfl rfl rfl rfl (mS [32] rfl (AQ underlying23 rfl) ?_))
 refine ⟨⟨_, rfl, z1, by kernel_rfl⟩, ?_⟩
 refine mS [3] rfl (Ah Df rfl) (mK [35] isAgg23 1 rfl rfl rfl rfl (mS [36] rfl (AQ underlying23 rfl) (mS [3] rfl (Ah Ke rfl) (mK [39] isAgg3 1 rfl rfl rfl rfl (mS [3] rfl (Ah Jt rfl) (mK [41] isAgg3 1 rfl rfl rfl rfl ?_))))))
 refine ⟨_, [(37, vI (Af.length : Int))], rfl, rfl, z1, by kernel_rfl, ?_⟩; intro H
 obtain ⟨qn, qo⟩ := AB ql
 obtain ⟨l, qp, qq⟩ := BC qo
 refine Hs (R := LI) (z0 := (none, 0, 0)) (zs := List.replicate ((Af.length : Int) : Int).toNat (none, 0, 0)) rfl Fm (by decide) Cv (fun _ => rfl) rfl qn rfl (fun _ => .c (.c .n)) ?_; intro ar ai aw jc
 have jd : C0 K.w0.heap.size 22 3 1 eI F ar ai ai l aw := C0.made jc qp
 refine Aa ⟨_, rfl, AN.refl _, [11, 10, 9, 8, 2, 1, 0], by kernel_rfl, .inl (.inr (fun d h => by cases h; rfl)), (fc (s0 (s1 (s2 (s3 sr)))) (fc sm (fc (s0 (s1 (s2 (s3 sr)))) (fc sm (fc sm (fc (s0 (s1 (s2 (s3 sr)))) (fc sm nm))))))), ?_⟩
 refine KT rfl ?_; intro aq je
 refine GI (L' := (aq, ce (madeCells (sL none 0 0 : Value).cells ((Int.toNat (walks.length : Int)) * 1)) 22) :: ((b2, ce #[sL none 0 0, sL none 0 0, vI 0, vI 0, sL none 0 0] 26) :: ((b1, ce #[sL Aj walks.length Ai, sL Ak Af.length Al, vI Ae, vI start, sL Ad Ab.length Ac] 26) :: (aw ++ [])))) rfl ?_
 refine mS (v := .agg #[sL (aD aq) (Int.toNat (walks.length : Int)) (Int.toNat (walks.length : Int)), sL ar ai ai, vI Ae, vI start, sL none 0 0]) [34, 38, 40, 42] rfl (BI (v := .agg #[sL (aD aq) (Int.toNat (walks.length : Int)) (Int.toNat (walks.length : Int)), sL ar ai ai, vI Ae, vI start, sL none 0 0]) rfl (by intro w; kernel_rfl)) ?_
 refine FT rfl ?_; intro ax qs
 refine GI (L' := (ax, ce #[sL none 0 0, sL none 0 0, vI 0, vI 0, sL none 0 0] 26) :: ((aq, ce (madeCells (sL none 0 0 : Value).cells ((Int.toNat (walks.length : Int)) * 1)) 22) :: ((b2, ce #[sL none 0 0, sL none 0 0, vI 0, vI 0, sL none 0 0] 26) :: ((b1, ce #[sL Aj walks.length Ai, sL Ak Af.length Al, vI Ae, vI start, sL Ad Ab.length Ac] 26) :: (aw ++ []))))) rfl ?_
 refine ⟨_, [(9, pO ax), (43, .agg #[sL (aD aq) (Int.toNat (walks.length : Int)) (Int.toNat (walks.length : Int)), sL ar ai ai, vI Ae, vI start, sL none 0 0])], rfl, rfl, z2, by kernel_rfl, ?_⟩; intro H
 obtain ⟨l2, qt, qu⟩ := BC qq
 have jf := AM.made (nb := K.w0.heap.size) (E := 22) (n := (Int.toNat (walks.length : Int))) (F := F) (z := ((none, 0, 0) : Hd)) Cv (by decide) (fun _ => rfl) je (OT o1)
 have eg : C0 K.w0.heap.size 22 3 1 eI F (aD aq) (Int.toNat (walks.length : Int)) (Int.toNat (walks.length : Int)) l2 [(aq, ce (madeCells (sL none 0 0 : Value).cells ((Int.toNat (walks.length : Int)) * 1)) 22)] := C0.made jf qt
 generalize dk : ([(aq, ce (madeCells (sL none 0 0 : Value).cells ((Int.toNat (walks.length : Int)) * 1)) 22)] : LH) = dm at eg
 refine BA (L' := dm ++ ((ax, ce #[sL none 0 0, sL none 0 0, vI 0, vI 0, sL none 0 0] 26) :: ((b2, ce #[sL none 0 0, sL none 0 0, vI 0, vI 0, sL none 0 0] 26) :: ((b1, ce #[sL Aj walks.length Ai, sL Ak Af.length Al, vI Ae, vI start, sL Ad Ab.length Ac] 26) :: (aw ++ []))))) (by rw [← dk]; exact (fC fO)) ?_
 refine BA (L' := (ax, ce #[sL none 0 0, sL none 0 0, vI 0, vI 0, sL none 0 0] 26) :: ((b2, ce #[sL none 0 0, sL none 0 0, vI 0, vI 0, sL none 0 0] 26) :: ((b1, ce #[sL Aj walks.length Ai, sL Ak Af.length Al, vI Ae, vI start, sL Ad Ab.length Ac] 26) :: (dm ++ (aw ++ []))))) (List.Perm.symm (fC (fC (fC fP)))) (A8 (i := 0) sizeOf26 rfl rfl rfl (by simp [Value.oneCell']) rfl (B2 rfl) (Aw rfl ?_))
 refine Aa ⟨undef, rfl, AN.refl _, [], by kernel_rfl, .inl (.inl rfl), nm, ?_⟩
 refine Bo ?_
 obtain ⟨al, ao, qw, o2⟩ := BT qu
 refine AU (fun e1 F1 L1 => ∃ (ay : LH) (az : LH), F = F1 ∧ L1 = ((ax, ce #[sL (aD aq) (Int.toNat (walks.length : Int)) (Int.toNat (walks.length : Int)), sL ar ai ai, vI Ae, vI start, sL none 0 0] 26) :: ((b2, ce #[sL none 0 0, sL none 0 0, vI 0, vI 0, sL none 0 0] 26) :: ((b1, ce #[sL Aj walks.length Ai, sL Ak Af.length Al, vI Ae, vI start, sL Ad Ab.length Ac] 26) :: (ay ++ (az ++ []))))) ∧ e1.sub [(1, vI AW), (2, vI hour), (3, pO b1), (6, pO b2), (9, pO ax)] ∧ C0 K.w0.heap.size 22 3 1 eI F1 (aD aq) (Int.toNat (walks.length : Int)) (Int.toNat (walks.length : Int)) al ay ∧ C0 K.w0.heap.size 22 3 1 eI F1 ar ai ai ao az) ?_ ?_
 ·clear o2
  refine AJ (uv (Ah CI rfl) (uv (BM isAgg23 2) (uv (AQ underlying23 rfl) ?_)))
  refine um (Aa ?_)
  refine Ap ?_
  refine Bb (fun o3 e1 F1 L1 => LA walks o3 fun tl k => ∃ (ad : List (List Int)) (ae : List (List Int)) (bx : LH) (bz : LH), Iz Af tl k ad ae = some (al, ao) ∧ F = F1 ∧ L1 = ((ax, ce #[sL (aD aq) (Int.toNat (walks.length : Int)) (Int.toNat (walks.length : Int)), sL ar ai ai, vI Ae, vI start, sL none 0 0] 26) :: ((b2, ce #[sL none 0 0, sL none 0 0, vI 0, vI 0, sL none 0 0] 26) :: ((b1, ce #[sL Aj walks.length Ai, sL Ak Af.length Al, vI Ae, vI start, sL Ad Ab.length Ac] 26) :: (bx ++ (bz ++ []))))) ∧ e1.sub [(1, vI AW), (2, vI hour), (3, pO b1), (6, pO b2), (9, pO ax), (46, vI (walks.length : Int)), (47, vI k)] ∧ C0 K.w0.heap.size 22 3 1 eI F1 (aD aq) (Int.toNat (walks.length : Int)) (Int.toNat (walks.length : Int)) ad bx ∧ C0 K.w0.heap.size 22 3 1 eI F1 ar ai ai ae bz) _ (m0 kr ⟨_, _, rfl, Bl.start _, l2, l, dm, aw, qw, rfl, rfl, z7, eg, jd⟩) ?_
  rintro o3 e1 _ _ ⟨tl, k, jg, dp, ad, ae, bx, bz, j7, rfl, rfl, jh, dq, dr⟩
  refine Az _ jh (AJ (uv (AV rfl rfl) ?_))
  refine Aa (Aq ?_)
  refine cQ (fun j8 => ?_) fun j8 => ?_
  ·obtain ⟨x, tk, rfl, eh, j9, ji⟩ := Bl.succ dp j8
   rw [Iz] at j7
   refine Ao (Aq ?_)
   refine Ap ?_
   refine AJ (um (ua (Aa (Aq ?_))))
   obtain ⟨x2, jj, jk, qx⟩ := Bi j7
   have ei := (C0.A6 dq).1
   refine I2 (fC (fC (fC fP))) dq jk ?_; intro jl jm qy tm tn tp qz jn dt r0 jo
   refine kW (kf (fS (fS (fS fO))) (kf (fS (fS (fS fO))) (kf (fS (fS (fS fO))) kr))) (Bg [(.still, 0), (.still, 1), (.still, 2), (.still, 3), (.still, 4), (.still, 5), (.still, 6), (.still, 7), (.still, 8), (.seq, 9), (.still, 10), (.seq, 11)] (by kernel_rfl) (by kernel_rfl) (trivial) (by rfl) (by kernel_rfl) (mS [9] rfl (Ah CI rfl) (mK [50] isAgg23 0 rfl rfl rfl rfl (mS [10] rfl (AO rfl) (mS [3] rfl (Ah CI rfl) (mK [53] isAgg23 2 rfl rfl rfl rfl (mS [10] rfl (AO rfl) ?_)))))))
   obtain ⟨tq, tr, tt, rb, jq, jr, o4, ⟨tu, tv, rfl, tw⟩, re, js⟩ := Ar.ta kJ ah j9.1 eh
   refine mS [54, 55] rfl (BQ underlying23 sizeOf22 rfl jq rfl j9) (mL [56] ([]) rfl sm (fun H F' L' bk bl => AG isAgg22 rfl ((jr _).ext bk bl) (js 0 (by decide))) (mS [57] rfl (AQ underlying22 rfl) ?_))
   refine ⟨_, [(58, vI (x.length : Int))], rfl, rfl, z1, by kernel_rfl, ?_⟩; intro H
   obtain ⟨rf, rh⟩ := AB qx
   obtain ⟨l3, ri, rj⟩ := BC rh
   refine Hs (R := eI) (z0 := 0) (zs := l3) rfl Bp (by decide) kI (fun _ => rfl) rfl rf ri (fun _ => .c (.c (.c .n))) ?_; intro jt ef rk ju
   refine Aa ⟨_, rfl, AN.refl _, [2, 1, 0], by kernel_rfl, .inl (.inr (fun d h => by cases h; rfl)), (fc sm (fc (s0 (s2 (s1 (s1 (s3 (s3 (s3 (s3 (s3 sr))))))))) (fc sm nm))), ?_⟩
   obtain ⟨rl, rm, tx, o6, cn, o7, jv, rfl, o8, o9⟩ := AM.at Cv dt (L := jm ++ []) fP jj.1 jn
   refine mS [51, 52] rfl (BQ underlying23 sizeOf22 rfl cn rfl (KV ei jj)) ?_
   refine ⟨_, [(59, sL jt ef ef), (60, .pointer (some ⟨rl, rm + (k : Int).toNat * 1, none⟩))], rfl, rfl, z2, by kernel_rfl, ?_⟩; intro H
   refine EH (zs := jl.set (k : Int).toNat (jt, ef, ef)) (u := (jt, ef, ef)) sizeOf22 Cv rfl cn rfl rfl (fun _ => .c (.c (.c (.s .h)))) dt rfl (QO ei dt jj) ?_; intro oc ej
   refine kO (kc (kc (kc (ka (ka (kx kr)))))) ?_
   obtain ⟨l4, jw, jx⟩ := BC rj
   refine Dv (p := fun X => C0 K.w0.heap.size 22 3 1 eI F (aD aq) (Int.toNat (walks.length : Int)) (Int.toNat (walks.length : Int)) l4 X) (K3.back jo ej ju jw) (pT ((fC (fC (fC (fS fP)))).trans (pA ((fC (fC (fC fP))).trans (pA ((fC (fC (fC fP))).trans (pA pR)))))) (lp (lp (lp (ln rfl))))) ?_; intro od cp
   refine kO (kf (fS fO) (kf (fS fO) (kf (fS fO) kr))) ?_
   refine Aa ⟨undef, rfl, AN.refl _, [], by kernel_rfl, .inl (.inl rfl), nm, ?_⟩
   refine Bo (Aq ?_)
   obtain ⟨x3, en, eo, jz⟩ := Bi jx
   have ep := (C0.A6 cp).1
   refine I2 (fC (fC (fC fP))) cp eo ?_; intro oe cq og kb kh kj oh cr ct er et
   refine kW (kf (fS (fS (fS fO))) (kf (fS (fS (fS fO))) (kf (fS (fS (fS fO))) kr))) (Bg [(.still, 0), (.still, 1), (.still, 2), (.still, 3), (.still, 4), (.still, 5), (.still, 6), (.still, 7), (.still, 8), (.still, 9), (.seq, 10)] (by kernel_rfl) (by kernel_rfl) (trivial) (by rfl) (by kernel_rfl) (mS [9] rfl (Ah CI rfl) (mK [61] isAgg23 0 rfl rfl rfl rfl (mS [10] rfl (AO rfl) ?_))))
   obtain ⟨rp, rq, rr, oi, eu, ew, kl, rfl, oj, ey⟩ := AM.at Cv ct (L := cq ++ []) fP en.1 cr
   refine mS [62, 63] rfl (BQ underlying23 sizeOf22 rfl eu rfl (KV ep en)) (mL [64] (cq ++ []) rfl (s0 (s1 (s1 (s1 (s4 (s3 (s3 (s3 sr)))))))) (fun H F' L' bk bl => AG isAgg22 rfl (ew.ext bk bl) (ey 0 (by decide))) (mS [3] rfl (Ah CI rfl) (mK [66] isAgg23 2 rfl rfl rfl rfl (mS [10] rfl (AO rfl) ?_))))
   obtain ⟨ru, ry, rz, oo, ez, fa, km, ⟨ko, kt, rfl, ku⟩, oq, fb⟩ := Ar.ta kJ ah j9.1 eh
   refine mS [67, 68] rfl (BQ underlying23 sizeOf22 rfl ez rfl j9) (mL [69] ([]) rfl sm (fun H F' L' bk bl => AG isAgg22 rfl ((fa _).ext bk bl) (fb 0 (by decide))) ?_)
   refine ⟨_, [(65, sL kb kh kj), (70, sL ko x.length kt)], rfl, rfl, z2, by kernel_rfl, ?_⟩; intro H
   obtain ⟨l5, kv, kz⟩ := BC jz
   refine KX (ys := x) (zs := l5) rfl Bp kI rfl rfl (fun _ => .c (.c (.c (.s .h)))) er (Ar.src ku) kv ?_; intro ot fe
   refine Aa ⟨_, rfl, AN.refl _, [], by kernel_rfl, .inl (.inl rfl), nm, ?_⟩
   refine Bo (Aq ?_)
   obtain ⟨x4, du, ff, l0⟩ := Bi kz
   have cu := (C0.A6 dr).1
   refine I2 (fC (fC (fC (fS (fS (fS fP)))))) dr ff ?_; intro fg fh ou s5 s6 s7 ow fi bm oy fj
   refine kW (kf (fS (fS (fS fO))) (kf (fS (fS (fS fO))) (kf (fS (fS (fS fO))) kr))) (Bg [(.still, 0), (.still, 1), (.still, 2), (.still, 3), (.still, 4), (.still, 5), (.still, 6), (.still, 7), (.still, 8), (.seq, 9), (.still, 10), (.seq, 11)] (by kernel_rfl) (by kernel_rfl) (trivial) (by rfl) (by kernel_rfl) (mS [9] rfl (Ah Df rfl) (mK [72] isAgg23 0 rfl rfl rfl rfl (mS [10] rfl (AO rfl) (mS [3] rfl (Ah Df rfl) (mK [75] isAgg23 2 rfl rfl rfl rfl (mS [10] rfl (AO rfl) ?_)))))))
   obtain ⟨x5, cb, cv, la⟩ := Bi l0
   obtain ⟨s8, s9, sa, oz, fk, fl, ld, ⟨sb, sd, rfl, se⟩, p0, fm⟩ := Ar.ta kJ ak cb.1 cv
   refine mS [76, 77] rfl (BQ underlying23 sizeOf22 rfl fk rfl cb) (mL [78] ([]) rfl sm (fun H F' L' bk bl => AG isAgg22 rfl ((fl _).ext bk bl) (fm 0 (by decide))) (mS [79] rfl (AQ underlying22 rfl) ?_))
   refine ⟨_, [(80, vI (x5.length : Int))], rfl, rfl, z1, by kernel_rfl, ?_⟩; intro H
   obtain ⟨lg, lh⟩ := AB la
   obtain ⟨l6, lj, lk⟩ := BC lh
   refine Hs (R := eI) (z0 := 0) (zs := l6) rfl Bp (by decide) kI (fun _ => rfl) rfl lg lj (fun _ => .c (.c (.c .n))) ?_; intro dv ba p3 fo
   refine Aa ⟨_, rfl, AN.refl _, [2, 1, 0], by kernel_rfl, .inl (.inr (fun d h => by cases h; rfl)), (fc sm (fc (s0 (s2 (s1 (s1 (s3 (s3 (s3 (s3 (s3 (s3 (s3 sr))))))))))) (fc sm nm))), ?_⟩
   obtain ⟨ll, lq, sf, p4, cw, p5, lr, rfl, p6, p7⟩ := AM.at Cv bm (L := fh ++ []) fP du.1 fi
   refine mS [73, 74] rfl (BQ underlying23 sizeOf22 rfl cw rfl (KV cu du)) ?_
   refine ⟨_, [(81, sL dv ba ba), (82, .pointer (some ⟨ll, lq + (k : Int).toNat * 1, none⟩))], rfl, rfl, z2, by kernel_rfl, ?_⟩; intro H
   refine EH (zs := fg.set (k : Int).toNat (dv, ba, ba)) (u := (dv, ba, ba)) sizeOf22 Cv rfl cw rfl rfl (fun _ => .c (.c (.c (.s .h)))) bm rfl (QO cu bm du) ?_; intro p8 fp
   refine kO (kc (kc (kc (ka (ka (kx kr)))))) ?_
   obtain ⟨l7, lu, lv⟩ := BC lk
   refine Dv (p := fun X => C0 K.w0.heap.size 22 3 1 eI F ar ai ai l7 X) (K3.back fj fp fo lu) (pT ((fC (fC (fC (fS fP)))).trans (pA ((fC (fC (fC fP))).trans (pA ((fC (fC (fC fP))).trans (pA pR)))))) (lp (lp (lp (ln rfl))))) ?_; intro p9 cx
   refine kO (kf (fS fO) (kf (fS fO) (kf (fS fO) kr))) ?_
   refine Aa ⟨undef, rfl, AN.refl _, [], by kernel_rfl, .inl (.inl rfl), nm, ?_⟩
   refine Bo ?_
   obtain ⟨x6, fq, fs, lx⟩ := Bi lv
   have ft := (C0.A6 cx).1
   refine I2 (fC (fC (fC fP))) cx fs ?_; intro pa cy pb ly ma mb pd cz da fv fw
   refine kW (kf (fS (fS (fS fO))) (kf (fS (fS (fS fO))) (kf (fS (fS (fS fO))) kr))) (Bg [(.still, 0), (.still, 1), (.still, 2), (.still, 3), (.still, 4), (.still, 5), (.still, 6), (.still, 7), (.still, 8), (.still, 9), (.seq, 10)] (by kernel_rfl) (by kernel_rfl) (trivial) (by rfl) (by kernel_rfl) (mS [9] rfl (Ah Df rfl) (mK [83] isAgg23 0 rfl rfl rfl rfl (mS [10] rfl (AO rfl) ?_))))
   obtain ⟨sg, sh, si, pe, fx, fy, mc, rfl, pf, g0⟩ := AM.at Cv da (L := cy ++ []) fP fq.1 cz
   refine mS [84, 85] rfl (BQ underlying23 sizeOf22 rfl fx rfl (KV ft fq)) (mL [86] (cy ++ []) rfl (s0 (s1 (s1 (s1 (s4 (s3 (s3 (s3 (s3 (s3 sr)))))))))) (fun H F' L' bk bl => AG isAgg22 rfl (fy.ext bk bl) (g0 0 (by decide))) (mS [3] rfl (Ah Df rfl) (mK [88] isAgg23 2 rfl rfl rfl rfl (mS [10] rfl (AO rfl) ?_))))
   obtain ⟨sj, sk, sq, pg, ga, gb, me, ⟨mg, mh, rfl, mj⟩, ph, gg⟩ := Ar.ta kJ ak cb.1 cv
   refine mS [89, 90] rfl (BQ underlying23 sizeOf22 rfl ga rfl cb) (mL [91] ([]) rfl sm (fun H F' L' bk bl => AG isAgg22 rfl ((gb _).ext bk bl) (gg 0 (by decide))) ?_)
   refine ⟨_, [(87, sL ly ma mb), (92, sL mg x5.length mh)], rfl, rfl, z2, by kernel_rfl, ?_⟩; intro H
   obtain ⟨l8, ml, mn⟩ := BC lx
   refine KX (ys := x5) (zs := l8) rfl Bp kI rfl rfl (fun _ => .c (.c (.c (.s .h)))) fv (Ar.src mj) ml ?_; intro pj gh
   refine Aa ⟨_, rfl, AN.refl _, [], by kernel_rfl, .inl (.inl rfl), nm, ?_⟩
   refine Bo ?_
   refine Ay (id := 2) (An ?_)
   refine uv (A0 rfl rfl (Bl.Cs dp j8 (Ar.lt ah))) (um ?_)
   obtain ⟨out, mo, mq⟩ := BC mn
   refine Dv (p := fun X => C0 K.w0.heap.size 22 3 1 eI F (aD aq) (Int.toNat (walks.length : Int)) (Int.toNat (walks.length : Int)) out X) (K3.Ln et ct cr fe mo) (pT ((fC (fC (fC (fS (fS (fS fP)))))).trans (pA ((fC (fC (fC (fS (fS (fS fP)))))).trans (pA ((fC (fC (fC (fS (fS (fS fP)))))).trans (pA pR)))))) (lp (lp (lp (ln rfl))))) ?_; intro gi gj
   refine kO (kf (fS fO) (kf (fS fO) (kf (fS fO) kr))) ?_
   obtain ⟨gk, mr, mu⟩ := BC mq
   refine Dv (p := fun X => C0 K.w0.heap.size 22 3 1 eI F ar ai ai gk X) (K3.Ln fw da cz gh mr) (pT ((fC (fC (fC (fS fP)))).trans (pA ((fC (fC (fC (fS fP)))).trans (pA ((fC (fC (fC (fS fP)))).trans (pA pR)))))) (lp (lp (lp (ln rfl))))) ?_; intro gl gm
   refine kO (kf (fS fO) (kf (fS fO) (kf (fS fO) kr))) (Aa ?_)
   subst jg; exact le (kc (kc (kc (kg (fS fP) kr)))) ⟨_, _, rfl, ji, out, gk, gi, gl, mu, rfl, rfl, z7, gj, gm⟩
  obtain rfl := Bl.zero dp j8
  rw [Iz] at j7
  refine AI (Am (Am ?_))
  refine At ?_
  obtain ⟨rfl, rfl⟩ := B9 j7
  exact mi kr ⟨bx, bz, rfl, rfl, z5, dq, dr⟩
 rintro e1 _ _ ⟨ay, az, rfl, rfl, gn, dw, dx⟩
 refine Az _ gn ?_
 obtain ⟨aj, mv, gp⟩ := Av o2
 refine AU (fun e1 F1 L1 => ∃ (bb : Option Addr) (bc : Nat) (bd : Nat) (bn : LH), AN F F1 ∧ L1 = ((ax, ce #[sL (aD aq) (Int.toNat (walks.length : Int)) (Int.toNat (walks.length : Int)), sL ar ai ai, vI Ae, vI start, sL bb bc bd] 26) :: ((b2, ce #[sL none 0 0, sL none 0 0, vI 0, vI 0, sL none 0 0] 26) :: (ay ++ (az ++ (bn ++ []))))) ∧ e1.sub [(1, vI AW), (2, vI hour), (6, pO b2), (9, pO ax)] ∧ Kq K.w0.heap.size 35 3 (DZ LI eP) (qS 3 1 eI) F1 bb bc bd aj bn) ?_ ?_
 ·clear gp
  refine AJ (uv (Ah BF rfl) (uv (BM isAgg24 2) (uv (AQ underlying24 rfl) ?_)))
  refine um (Aa ?_)
  refine Ap (kW (kc (kc (kd kr))) ?_)
  refine Bb (fun pk e1 F1 L1 => LA Ab pk fun pn k2 => ∃ (ab : List ((List Int) × Int × Int)) (cc : Option Addr) (cf : Nat) (cg : Nat) (au : LH), IF pn ab = some aj ∧ AN F F1 ∧ L1 = ((ax, ce #[sL (aD aq) (Int.toNat (walks.length : Int)) (Int.toNat (walks.length : Int)), sL ar ai ai, vI Ae, vI start, sL cc cf cg] 26) :: ((b2, ce #[sL none 0 0, sL none 0 0, vI 0, vI 0, sL none 0 0] 26) :: (ay ++ (az ++ (au ++ []))))) ∧ e1.sub [(1, vI AW), (2, vI hour), (6, pO b2), (9, pO ax), (96, sL Ad Ab.length Ac), (97, vI (Ab.length : Int)), (98, vI k2)] ∧ Kq K.w0.heap.size 35 3 (DZ LI eP) (qS 3 1 eI) F1 cc cf cg ab au) _ (m0 (kc (kc (ka (ka (ke kr))))) ⟨_, _, rfl, Bl.start _, [], none, 0, 0, [], mv, AN.refl _, rfl, z7, Kq.nil⟩) ?_
  rintro pk e1 ss _ ⟨pn, k2, gq, bo, ab, cc, cf, cg, au, cj, bp, rfl, gr, av⟩
  refine Az _ gr ?_
  replace aa := aa.m3 bp
  refine AJ (uv (AV rfl rfl) ?_)
  refine Aa (Aq ?_)
  refine cQ (fun ck => ?_) fun ck => ?_
  ·obtain ⟨x7, tz, rfl, gu, gv, gw⟩ := Bl.succ bo ck
   rw [IF] at cj
   refine Ao (Aq ?_)
   refine Ap (AJ ?_)
   obtain ⟨su, sv, sw, po, gz, ia, bq, ⟨_, _, rfl, ⟨sx, sy, rfl, mw⟩, ⟨_, _, rfl, rfl, rfl⟩⟩, ib, ic⟩ := Ar.ta kN aa gv.1 gu
   refine uv (Cx underlying24 sizeOf35 gz gv) (uv (AZ isAgg35 sizeOf35 rfl (ia _) bq (Ba bq ib ic)) ?_)
   refine Bh rfl zeroValue35 ?_; intro tc pq
   refine A8 (i := 0) sizeOf35 rfl rfl rfl (by simp [Value.oneCell']) rfl (B2 rfl) (Aw rfl (BL (uv (Ah GX rfl) (uv (BM isAgg22 0) ?_))))
   obtain ⟨l9, mx, na⟩ := Av cj
   refine c0 call78 (Im mw mx) ?_; rintro _ nc _ br ie ⟨bg, bh, bj, pr, rfl, rfl, bu⟩
   replace aa := aa.m3 br
   replace av := av.mono (Pd kI kP) br
   replace bu := bu.new fun p hp => ie p (by simp [hp])
   refine Aw (lp (ln rfl)) (kO (kf (fS fO) (kf (fS fO) (kf (fS fO) kr))) (uv (Ah GX rfl) (By (i := 0) sizeOf22 rfl rfl rfl rfl (B2 rfl) (Aw rfl ?_))))
   refine Aa (An ?_)
   refine uv (Ah BF rfl) (uv (BM isAgg24 1) (uv (CA isAgg35 sizeOf35 0) ?_))
   refine bA (cs := #[sL bg bh bj, vI x7.2.1, vI x7.2.2]) Kj [.agg #[sL bg bh bj, vI x7.2.1, vI x7.2.2]] ?_; intro td pt
   obtain ⟨ig, ij, nf, ng⟩ := DS na
   refine Ps (fC (fC (fC (fC (fS (fS (fS fP))))))) av ?_; intro db pv pw ik dd
   refine kO (kf (fS (fS fO)) (kf (fS (fS fO)) (kf (fS (fS fO)) (kf (fS (fS fO)) kr)))) ?_
   refine Cq (xs := db) (ys := [(((bg, bh, bj) : Hd), (x7.2.1, x7.2.2))]) (zs := db ++ [(((bg, bh, bj) : Hd), (x7.2.1, x7.2.2))]) rfl Kj rfl rfl (Nat.le_refl _) (fun _ => .c (.c (.c (.c .h)))) ik (Fg.box (vss := [[sL bg bh bj, vI x7.2.1, vI x7.2.2]]) (ys := [(((bg, bh, bj) : Hd), (x7.2.1, x7.2.2))]) 0 rfl (BW Cv kP) (.cons ⟨_, _, rfl, rfl, ⟨_, _, rfl, rfl, rfl⟩⟩ .nil) rfl rfl) rfl (SK dd ij nf) (by decide) ?_; intro il im iq px ir
   refine kO (kd kr) ?_
   refine Dv (p := fun X => Kq K.w0.heap.size 35 3 (DZ LI eP) (qS 3 1 eI) nc il im iq ig X) (Mt.push (x := (l9, x7.2.1, x7.2.2)) dd rfl ir ⟨bu, rfl⟩ ij) (pT ((fC (fC (fC fP))).trans (pA ((fC (fC (fC (fS fP)))).trans (pA ((fC (fC (fC fP))).trans (pA pR)))))) (lp (lp (lp (ln rfl))))) ?_; intro iu iv
   refine kO (kf (fS fO) (kf (fS fO) (kf (fS fO) kr))) (uv (Ah BF rfl) (By (i := 1) sizeOf24 rfl rfl rfl rfl (B2 rfl) (Aw rfl ?_)))
   refine Aa (Ay (id := 4) (An ?_))
   refine uv (A0 rfl rfl (Bl.Cs bo ck (Ar.lt aa))) ?_
   refine um (Aa ?_)
   subst gq; exact le (kd (kc (kc (kg (fS fP) (kg (fS fP) kr))))) ⟨_, _, rfl, gw, ig, il, im, iq, iu, ng, (bp.trans br), rfl, z7, iv⟩
  obtain rfl := Bl.zero bo ck
  rw [IF] at cj
  refine AI (Am (Am ?_))
  refine At ?_
  obtain rfl := AP cj
  exact mi kr ⟨cc, cf, cg, au, bp, rfl, z4, av⟩
 rintro e1 nh _ ⟨bb, bc, bd, bn, de, rfl, iw, df⟩
 refine Az _ iw ?_
 replace dw := dw.m1 de
 replace dx := dx.m1 de
 refine AJ (uv (Ah BF rfl) (uv (BM isAgg24 0) ?_))
 refine um (um ?_)
 obtain ⟨x8, dy, iy, ni⟩ := Bi gp
 have dg := (Kq.A6 df).1
 refine Ol (fC (fC (fS (fS fP)))) df iy ?_; intro iz j0 j1 dz eb ec j2 dh bw j3 j4
 refine kO (kf (fS (fS (fS fO))) (kf (fS (fS (fS fO))) kr)) ?_
 obtain ⟨te, tf, tg, py, di, pz, nj, ⟨_, _, rfl, rfl, ⟨_, _, rfl, rfl, rfl⟩⟩, q0, qb⟩ := AM.at (BW Cv kP) bw (L := (ax, ce #[sL (aD aq) (Int.toNat (walks.length : Int)) (Int.toNat (walks.length : Int)), sL ar ai ai, vI Ae, vI start, sL bb bc bd] 26) :: ((b2, ce #[sL none 0 0, sL none 0 0, vI 0, vI 0, sL none 0 0] 26) :: (j0 ++ (j2 ++ (j1 ++ (ay ++ (az ++ []))))))) (fC (fC fP)) dy.1 dh
 refine uv (Cx underlying24 sizeOf35 di (KV dg dy)) (uv (Ah Ic rfl) ?_)
 refine KA (zs := iz.set (AW : Int).toNat ((dz, eb, ec), (x8.2.1, hour))) (off := 2) (x0 := ((dz, eb, ec), x8.2)) (u := ((dz, eb, ec), (x8.2.1, hour))) sizeOf3 (BW Cv kP) rfl di rfl rfl (by decide) dh (fun vs h => by obtain ⟨_, _, rfl, rfl, ⟨_, _, rfl, rfl, rfl⟩⟩ := h; exact ⟨_, _, rfl, rfl, ⟨_, _, rfl, rfl, rfl⟩⟩) (fun _ => .c (.c .h)) bw rfl (SF dg bw dy) ?_; intro qc j5
 obtain ⟨nk, nn, np⟩ := BC ni
 refine Dv (p := fun X => Kq K.w0.heap.size 35 3 (DZ LI eP) (qS 3 1 eI) nh bb bc bd nk X) (LP.back (x := (x8.1, x8.2.1, hour)) j4 j5 ⟨j3, rfl⟩ nn) (pT ((fC (fC fP)).trans (pA ((fC (fC fP)).trans (pA ((fC (fC fP)).trans (pA pR)))))) (lp (lp (lp (ln rfl))))) ?_; intro qd j6
 refine kO (kf (fS fO) (kf (fS fO) kr)) (BL (uv (CA isAgg26 sizeOf26 0) (A8 (i := 1) sizeOf26 rfl rfl rfl (by simp [Value.oneCell']) rfl (B2 rfl) (Aw rfl ?_))))
 refine ua (Aa ?_)
 refine kW (kd (kc (kg (fS fP) (kg (fS fP) kr)))) (AA (BG results23 (Fq (cs := #[sL (aD aq) (Int.toNat (walks.length : Int)) (Int.toNat (walks.length : Int)), sL ar ai ai, vI Ae, vI start, sL bb bc bd]) isAgg26 sizeOf26 rfl (Has.own 0 rfl) (B2 rfl) rfl) (AH rfl) (s1 (s4 (s4 (s4 sr)))) ?_))
 obtain ⟨rfl, rfl, rfl, rfl, rfl, rfl⟩ := Oh np
 exact ⟨_, _, _, _, _, _, _, _, _, _, _, _, rfl, rfl, dw.any, dx.any, (j6.R9 (Pd kI kP) fun _ _ => Nat.zero_le _)⟩
set_option maxHeartbeats 1000000 in
theorem H4 {s1 s2 : List (List Int)} {aa : FuncId} {eq_1 eq_2 : Array Value} {eq : ((List Int) × (List Int)) → Option Bool} (ab : Ar 1 eJ F Lx Lp s1) (ah : Ar 1 eJ F Lu LC s2) (ad : Oa Tryz.prog F aa eq_1 eq_2 (DZ eJ eJ) Value.bool eq) {r : Bool} (hr : DK s1 s2 eq = some r) :
    Bv Tryz.prog 84 #[sL Lx s1.length Lp, sL Lu s2.length LC, .func (.func aa) eq_1 eq_2] F (.bool r) := by
 refine sp func84 ntmps84 fun K _ _ => ?_
 rw [DK] at hr
 refine AJ (ua (Aa (Aq (AJ (um ?_)))))
 refine uv (AQ underlying23 rfl) (um (uv (AQ underlying23 rfl) (uv (Bt rfl rfl) (Aa ?_))))
 obtain ⟨g2, r3⟩ := AB hr
 refine BP rfl (fun c4 => absurd c4 g2) (fun c4 => ?_)
 refine Ao ?_
 obtain ⟨h5, r6⟩ := Ij r3
 refine jE ([]) [] ?_ ?_
 ·clear r6
  refine AJ (um ?_)
  refine uv (AQ underlying23 rfl) ?_
  refine um (Aa ?_)
  refine Ap ?_
  refine Bb (fun ay e1 F1 L1 => LA s1 ay fun tl k => BZ s2 eq tl k = some () ∧ F = F1 ∧ L1 = [] ∧ e1.sub [(1, sL Lu s2.length LC), (2, .func (.func aa) eq_1 eq_2), (15, sL Lx s1.length Lp), (16, vI (s1.length : Int)), (17, vI k)]) _ (m0 kr ⟨_, _, rfl, Bl.start _, h5, rfl, rfl, z5⟩) ?_
  rintro ay e1 _ _ ⟨tl, k, bg, ai, r9, rfl, rfl, aj⟩
  refine Az _ aj (AJ (uv (AV rfl rfl) ?_))
  refine Aa (Aq ?_)
  refine cQ (fun ae => ?_) fun ae => ?_
  ·obtain ⟨x, bw, rfl, ak, az, al⟩ := Bl.succ ai ae
   rw [BZ] at r9
   refine Ao (Aq ?_)
   refine Ap ?_
   refine AJ (um ?_)
   obtain ⟨bx, bz, cb, bh, ao, aq, ba, ⟨cc, cf, rfl, bj⟩, bk, ar⟩ := Ar.ta kJ ab az.1 ak
   refine uv (Cx underlying23 sizeOf22 ao az) (uv (AG isAgg22 rfl (aq _) (ar 0 (by decide))) ?_)
   refine ua (ua (BL (um (um ?_))))
   obtain ⟨x2, bb, au, bl⟩ := Bi r9
   obtain ⟨cg, cj, ck, bm, av, aw, bc, ⟨cn, cp, rfl, bn⟩, bo, ax⟩ := Ar.ta kJ ah bb.1 au
   refine uv (Cx underlying23 sizeOf22 av bb) (uv (AG isAgg22 rfl (aw _) (ax 0 (by decide))) ?_)
   refine ua (BL (um (um (um ?_))))
   obtain ⟨ok, bp, bq⟩ := Av bl
   refine I0 rfl ad.1 rfl rfl rfl (ad.2 _ (AN.refl _) _ _ _ ⟨_, _, rfl, ⟨_, _, rfl, bj⟩, ⟨_, _, rfl, bn⟩⟩ bp) (uv (Bz rfl) (Aa ?_))
   obtain ⟨br, bu⟩ := AB bq
   refine AR rfl (fun bd => absurd (br.symm.trans bd) (by decide)) (fun bd => ?_)
   refine Ao (Ay (id := 1) (An ?_))
   refine uv (A0 rfl rfl (Bl.Cs ai ae (Ar.lt ab))) ?_
   refine um (Aa ?_)
   subst bg; exact le kr ⟨_, _, rfl, al, bu, rfl, rfl, z5⟩
  obtain rfl := Bl.zero ai ae
  rw [BZ] at r9
  refine AI (Am (Am ?_))
  refine At ?_
  clear r9
  exact mi kr ⟨rfl, rfl, (sn _)⟩
 refine AJ (ua (Aa (AA ?_)))
 refine C3 results84 ?_
 obtain rfl := AP r6
 exact rfl
theorem Gt {a b : List (List Int)} (ab : Ar 1 eJ F Qg Qh a) (ad : Ar 1 eJ F Qe FO b) {r : Bool} (hr : Eu a b = some r) :
    Bv Tryz.prog 36 #[sL Qg a.length Qh, sL Qe b.length FO] F (.bool r) := by
 refine sp func36 ntmps36 fun K _ _ => ?_
 rw [Eu] at hr
 refine AJ (ua (BL (um (um ?_))))
 have ae : Oa Tryz.prog F 81 #[] #[] (DZ eJ eJ) Value.bool (fun aa : (List Int) × (List Int) => Ek aa.1 aa.2) := ⟨call81, fun F2 h2 vs aa r ha hr => by obtain ⟨_, _, rfl, ⟨a1, c2, rfl, h3⟩, ⟨a4, c5, rfl, h6⟩⟩ := ha; exact Ig h3 h6 hr⟩
 obtain ⟨ok, h8, r9⟩ := Av hr
 refine cV call84 (H4 ab ad ae h8) ?_
 refine ua (Aa (AA ?_))
 refine C3 results36 ?_
 obtain rfl := AP r9
 exact rfl
set_option maxHeartbeats 1000000 in
theorem CX {ab : Option Addr} {ad : Nat} {Ax : List (List Int)} {ae : Option Addr} {ah : Nat} {aj : List (List Int)} {ak al : Int} {aa : List ((List Int) × Int × Int)} (au : Ar 1 eJ F Aj Ai walks) (av : Ar 1 eJ F Ak Al Af) (ai : Ar 3 eN F Ad Ac Ab) (aq : Ar 1 eJ F ab ad Ax) (ar : Ar 1 eJ F ae ah aj) (ao : Ar 3 eN F Di Dg aa) {r : Bool} (hr : CO walks Af Ae start Ab Ax aj ak al aa = some r) :
    Bv Tryz.prog 24 #[.agg #[sL Aj walks.length Ai, sL Ak Af.length Al, vI Ae, vI start, sL Ad Ab.length Ac], .agg #[sL ab Ax.length ad, sL ae aj.length ah, vI ak, vI al, sL Di aa.length Dg]] F (.bool r) := by
 refine sp func24 ntmps24 fun K _ _ => ?_
 rw [CO] at hr
 refine AJ ?_
 refine Bx rfl rfl ?_; intro b1 dh
 refine Bx rfl rfl ?_; intro b2 di
 refine ua (Aa (Aq (AJ ?_)))
 refine uv (Ah Ke rfl) (uv (BM isAgg3 1) (uv (Ah Ke rfl) (uv (BM isAgg3 0) (uv (Bt rfl rfl) (um ?_)))))
 obtain ⟨g3, r4⟩ := AB hr
 refine nF g3 (uv (Ah Jt rfl) (nF g3 (uv (BM isAgg3 1) (nF g3 (uv (Ah Jt rfl) (nF g3 (uv (BM isAgg3 0) ?_)))))))
 refine nF g3 (uv (Bt rfl rfl) (uv (AD (AL rfl g3) rfl) (um ?_)))
 obtain ⟨g5, r6⟩ := AB r4
 refine nF g5 (uv (Ah BF rfl) (nF g5 (uv (BM isAgg24 1) (nF g5 (uv (AQ underlying24 rfl) (nF g5 (uv (Ah BF rfl) ?_)))))))
 refine nF g5 (uv (BM isAgg24 0) (nF g5 (uv (AQ underlying24 rfl) (nF g5 (uv (Bt rfl rfl) (uv (AD (AL rfl g5) rfl) (um ?_)))))))
 obtain ⟨g7, r8⟩ := AB r6
 refine nF g7 (uv (Ah CI rfl) (nF g7 (uv (BM isAgg23 1) (nF g7 (uv (Ah CI rfl) (nF g7 (uv (BM isAgg23 0) ?_)))))))
 refine nF g7 ?_
 obtain ⟨ok, h9, cj⟩ := Av r8
 refine cV call36 (Gt au aq h9) (nF g7 (uv (Bz rfl) (uv (AD (AL rfl g7) rfl) (um ?_))))
 obtain ⟨ay, ck⟩ := AB cj
 refine nB ay (uv (Ah Df rfl) (nB ay (uv (BM isAgg23 1) (nB ay (uv (Ah Df rfl) (nB ay (uv (BM isAgg23 0) ?_)))))))
 refine nB ay ?_
 obtain ⟨dk, cn, cp⟩ := Av ck
 refine cV call36 (Gt av ar cn) (nB ay (uv (Bz rfl) (uv (AD (Gl rfl ay) rfl) (Aa ?_))))
 obtain ⟨cq, cr⟩ := AB cp
 refine AR rfl (fun bx => absurd (cq.symm.trans bx) (by decide)) (fun bx => ?_)
 refine Ao ?_
 obtain ⟨ct, bz⟩ := Ij cr
 refine jE ([]) [] ?_ ?_
 ·clear bz
  refine AJ (uv (Ah BF rfl) (uv (BM isAgg24 1) (uv (AQ underlying24 rfl) ?_)))
  refine um (Aa ?_)
  refine Ap (kW (kc kn) ?_)
  refine Bb (fun cb e1 F1 L1 => LA Ab cb fun tl k => FF aa tl k = some () ∧ F = F1 ∧ L1 = [(b2, ce #[sL ab Ax.length ad, sL ae aj.length ah, vI ak, vI al, sL Di aa.length Dg] 26)] ∧ e1.sub [(3, pO b2), (46, sL Ad Ab.length Ac), (47, vI (Ab.length : Int)), (48, vI k)]) _ (m0 kr ⟨_, _, rfl, Bl.start _, ct, rfl, rfl, z4⟩) ?_
  rintro cb e1 _ _ ⟨tl, k, bg, az, bc, rfl, rfl, bh⟩
  refine Az _ bh (AJ (uv (AV rfl rfl) ?_))
  refine Aa (Aq ?_)
  refine cQ (fun bd => ?_) fun bd => ?_
  ·obtain ⟨x, dm, rfl, bj, cc, bk⟩ := Bl.succ az bd
   rw [FF] at bc
   refine Ao (Aq ?_)
   refine Ap ?_
   refine AJ (um ?_)
   obtain ⟨dp, dq, dr, cu, bl, bm, aw, ⟨_, _, rfl, ⟨dt, du, rfl, cv⟩, ⟨_, _, rfl, rfl, rfl⟩⟩, bn, bo⟩ := Ar.ta kN ai cc.1 bj
   refine uv (Cx underlying24 sizeOf35 bl cc) (uv (AZ isAgg35 sizeOf35 rfl (bm _) aw (Ba aw bn bo)) ?_)
   refine Bh rfl zeroValue35 ?_; intro dv cw
   refine ua (A8 (i := 0) sizeOf35 rfl rfl rfl (by simp [Value.oneCell']) rfl (B2 rfl) (Aw rfl (BL (uv (Ah BF rfl) (uv (BM isAgg24 1) (um ?_))))))
   obtain ⟨x2, cf, bp, cx⟩ := Bi bc
   obtain ⟨dw, dx, dy, cy, bq, br, ax, ⟨_, _, rfl, ⟨dz, eb, rfl, cz⟩, ⟨_, _, rfl, rfl, rfl⟩⟩, bu, bw⟩ := Ar.ta kN ao cf.1 bp
   refine uv (Cx underlying24 sizeOf35 bq cf) (uv (AZ isAgg35 sizeOf35 rfl (br _) ax (Ba ax bu bw)) ?_)
   refine Bh rfl zeroValue35 ?_; intro ec da
   refine A8 (i := 0) sizeOf35 rfl rfl rfl (by simp [Value.oneCell']) rfl (B2 rfl) (Aw rfl (BL (uv (Ah KO rfl) (uv (BM isAgg3 1) (uv (Ah KO rfl) (uv (BM isAgg3 0) (uv (Bt rfl rfl) ?_)))))))
   refine um ?_
   obtain ⟨bb, db⟩ := AB cx
   refine nF bb (uv (Ah Ic rfl) (nF bb (uv (BM isAgg3 1) (nF bb (uv (Ah Ic rfl) (nF bb (uv (BM isAgg3 0) ?_)))))))
   refine nF bb (uv (Bt rfl rfl) (uv (AD (AL rfl bb) rfl) (um ?_)))
   obtain ⟨ba, dd⟩ := AB db
   refine nF ba (uv (Ah GX rfl) (nF ba (uv (BM isAgg22 1) (nF ba (uv (Ah GX rfl) (nF ba (uv (BM isAgg22 0) ?_)))))))
   refine nF ba ?_
   obtain ⟨ef, de, Cs⟩ := Av dd
   refine cV call33 (Fi cv cz de) (nF ba (uv (Bz rfl) (uv (AD (AL rfl ba) rfl) (Aa ?_))))
   obtain ⟨df, dg⟩ := AB Cs
   refine AR rfl (fun cg => absurd (df.symm.trans cg) (by decide)) (fun cg => ?_)
   refine Ao (Ay (id := 1) (An ?_))
   refine uv (A0 rfl rfl (Bl.Cs az bd (Ar.lt ai))) ?_
   refine um (Aa ?_)
   subst bg; exact le (kd (kd kr)) ⟨_, _, rfl, bk, dg, rfl, rfl, z4⟩
  obtain rfl := Bl.zero az bd
  rw [FF] at bc
  refine AI (Am (Am ?_))
  refine At ?_
  clear bc
  exact mi kn ⟨rfl, rfl, (sn _)⟩
 refine AJ (ua (Aa (AA ?_)))
 refine C3 results24 ?_
 obtain rfl := AP bz
 exact rfl
set_option maxHeartbeats 1000000 in
theorem CV (ab : Ar 1 eJ F Aj Ai walks) (ad : Ar 1 eJ F Ak Al Af) (aa : Ar 3 eN F Ad Ac Ab) {r : Bool} (hr : B8 walks Af Ae start Ab AW hour = some r) :
    Bv Tryz.prog 5 #[.agg #[sL Aj walks.length Ai, sL Ak Af.length Al, vI Ae, vI start, sL Ad Ab.length Ac], vI AW, vI hour] F (.bool r) := by
 refine sp func5 ntmps5 fun K _ _ => ?_
 rw [B8] at hr
 refine AJ ?_
 refine Bx rfl rfl ?_; intro b1 ug
 refine ua (Aa (Aq (AJ ?_)))
 refine uv (AZ (cs := #[sL Aj walks.length Ai, sL Ak Af.length Al, vI Ae, vI start, sL Ad Ab.length Ac]) isAgg26 sizeOf26 rfl (Has.own 0 rfl) (B2 rfl) rfl) ?_
 obtain ⟨ok, h2, r3⟩ := Av hr
 refine cV call15 (DQ ab ad aa h2) (Aa ?_)
 refine AR rfl (fun c4 => ?_) (fun c4 => ?_)
 ·have r5 := bt r3 c4
  refine AJ ?_
  obtain ⟨uh, h6, r7⟩ := Av r5
  refine cV call14 (B0 h6) ?_
  refine ua (Aa ?_)
  refine kW kn ?_
  refine AA (As ?_)
  refine C3 results5 ?_
  obtain rfl := AP r7
  exact rfl
 have r8 := bf r3 c4
 refine Ao (Aq ?_)
 refine Bg [(.pre, 4), (.pre, 5), (.still, 0), (.still, 2), (.seq, 1), (.seq, 3), (.alloc (.cells (.agg #[sL none 0 0, sL none 0 0, vI 0, vI 0, sL none 0 0] : Value).cells 26 (0, 0)) (fun b => pO b) [], 4), (.alloc (.cells (.agg #[sL none 0 0, sL none 0 0, vI 0, vI 0, sL none 0 0] : Value).cells 50 (0, 0)) (fun b => pO b) [], 5), (.seq, 6), (.seq, 7)] (by kernel_rfl) (by kernel_rfl) (⟨⟨_, _, rfl, rfl, rfl, rfl, rfl, EI zeroValue26⟩, ⟨⟨_, _, rfl, rfl, rfl, rfl, rfl, EI zeroValue50⟩, trivial⟩⟩) (by rfl) (by kernel_rfl) ?_
 refine ⟨⟨[], rfl, sn _, by kernel_rfl⟩, ?_⟩
 refine ⟨⟨[], rfl, sn _, by kernel_rfl⟩, ?_⟩
 refine mL [3] ([(b1, ce #[sL Aj walks.length Ai, sL Ak Af.length Al, vI Ae, vI start, sL Ad Ab.length Ac] 26)]) rfl (s0 sr) (fun H F' L' aj ak => AZ (cs := #[sL Aj walks.length Ai, sL Ak Af.length Al, vI Ae, vI start, sL Ad Ab.length Ac]) isAgg26 sizeOf26 rfl ((Has.own 0 rfl).ext aj ak) (B2 rfl) rfl) (mL [3] ([(b1, ce #[sL Aj walks.length Ai, sL Ak Af.length Al, vI Ae, vI start, sL Ad Ab.length Ac] 26)]) rfl (s0 sr) (fun H F' L' aj ak => AZ (cs := #[sL Aj walks.length Ai, sL Ak Af.length Al, vI Ae, vI start, sL Ad Ab.length Ac]) isAgg26 sizeOf26 rfl ((Has.own 0 rfl).ext aj ak) (B2 rfl) rfl) ?_)
 refine ⟨_, [(21, .agg #[sL Aj walks.length Ai, sL Ak Af.length Al, vI Ae, vI start, sL Ad Ab.length Ac])], rfl, rfl, z1, by kernel_rfl, ?_⟩; intro H
 obtain ⟨l, l2, n, n2, l3, h9, sf⟩ := Fx r8
 refine c0 call16 (DX ab ad aa h9) ?_; rintro _ ui _ ey gv ⟨cr, ir, ct, gw, cu, iu, cv, gz, cw, iv, cx, ia, rfl, rfl, al, ah, ae⟩
 replace ab := ab.m2 ey
 replace ad := ad.m2 ey
 replace aa := aa.m3 ey
 replace al := al.new fun p hp => gv p (by simp [hp])
 replace ah := ah.new fun p hp => gv p (by simp [hp])
 replace ae := ae.new fun p hp => gv p (by simp [hp])
 refine Aw (lp (lp (lp (ln rfl)))) (kO (kf (fS (fS (fS fO))) kr) ?_)
 refine Aa ⟨_, rfl, ey, [2], by kernel_rfl, .inl (.inr (fun d h => by cases h; rfl)), (fc (s0 (s2 (s3 (s3 (s3 sr))))) nm), ?_⟩
 refine ⟨_, [(23, .agg #[sL Aj walks.length Ai, sL Ak Af.length Al, vI Ae, vI start, sL Ad Ab.length Ac])], rfl, rfl, z1, by kernel_rfl, ?_⟩; intro H
 obtain ⟨l4, l5, n3, n4, l6, sg, sh⟩ := Fx sf
 refine c0 call17 (CP ab ad aa sg) ?_; rintro _ uj _ cz ns ⟨eg, eh, ei, ej, en, eo, ep, iw, rfl, rfl, ez, fa, ao⟩
 replace ab := ab.m2 cz
 replace ad := ad.m2 cz
 replace aa := aa.m3 cz
 replace al := al.m2 cz
 replace ah := ah.m2 cz
 replace ae := ae.m3 cz
 replace ao := ao.new fun p hp => ns p (by simp [hp])
 refine Aw (lp (ln rfl)) (kO (kf (fS fO) kr) ?_)
 refine Aa ⟨_, rfl, cz, [], by kernel_rfl, .inl (.inl rfl), nm, ?_⟩
 refine FT rfl ?_; intro bh si
 refine GI (L' := (bh, ce #[sL none 0 0, sL none 0 0, vI 0, vI 0, sL none 0 0] 26) :: ((b1, ce #[sL Aj walks.length Ai, sL Ak Af.length Al, vI Ae, vI start, sL Ad Ab.length Ac] 26) :: (iw ++ (gw ++ (gz ++ (ia ++ [])))))) rfl ?_
 refine FT rfl ?_; intro iq sj
 refine GI (L' := (iq, ce #[sL none 0 0, sL none 0 0, vI 0, vI 0, sL none 0 0] 50) :: ((bh, ce #[sL none 0 0, sL none 0 0, vI 0, vI 0, sL none 0 0] 26) :: ((b1, ce #[sL Aj walks.length Ai, sL Ak Af.length Al, vI Ae, vI start, sL Ad Ab.length Ac] 26) :: (iw ++ (gw ++ (gz ++ (ia ++ []))))))) rfl ?_
 refine ⟨_, [(7, pO bh), (22, .agg #[sL cr ir ct, sL cu iu cv, vI n, vI n2, sL cw iv cx])], rfl, rfl, z2, by kernel_rfl, ?_⟩; intro H
 refine A8 (i := 1) sizeOf26 rfl rfl rfl (by simp [Value.oneCell']) rfl (B2 rfl) (Aw rfl ?_)
 refine Aa ⟨undef, rfl, AN.refl _, [], by kernel_rfl, .inl (.inl rfl), nm, ?_⟩
 refine ⟨_, [(8, pO iq), (24, .agg #[sL eg l4.length eh, sL ei l5.length ej, vI n3, vI n4, sL en eo ep])], rfl, rfl, z2, by kernel_rfl, ?_⟩; intro H
 refine A8 (i := 0) sizeOf50 rfl rfl rfl (by simp [Value.oneCell']) rfl (B2 rfl) (Aw rfl ?_)
 refine Aa ⟨undef, rfl, AN.refl _, [], by kernel_rfl, .inl (.inl rfl), nm, ?_⟩
 refine Bo (AJ (uv (AZ (cs := #[sL eg l4.length eh, sL ei l5.length ej, vI n3, vI n4, sL en eo ep]) isAgg50 sizeOf50 rfl (Has.own 0 rfl) (B2 rfl) rfl) ?_))
 obtain ⟨n5, sk, sq⟩ := Av sh
 refine Bn rfl call18 rfl rfl rfl (pT ((fC (fC (fC fP))).trans (pA pR)) (lp (ln rfl))) (fun F2 h2 h3 => by rw [(AM.A6 ao).1]; exact C1 (ez.mono kJ h2) (fa.mono kJ h2) (ao.row kN h2 (aL h3)) sk) ?_
 refine ua (Aa (Aq (AJ ?_)))
 refine uv (AZ (cs := #[sL cr ir ct, sL cu iu cv, vI n, vI n2, sL cw iv cx]) isAgg26 sizeOf26 rfl (Has.own 1 rfl) (B2 rfl) rfl) ?_
 obtain ⟨n6, ss, su⟩ := Av sq
 refine Bn rfl call13 rfl rfl rfl (pT ((fC (fC (fC (fS fP)))).trans (pA ((fC (fC (fC (fS fP)))).trans (pA ((fC (fC (fC (fS fP)))).trans (pA pR)))))) (lp (lp (lp (ln rfl))))) (fun F2 h2 h3 => by rw [(AM.A6 al).1]; rw [(AM.A6 ah).1]; rw [(AM.A6 ae).1]; exact GL (al.row kJ h2 (aL h3)) (ah.row kJ h2 (aL (aR h3))) (ae.row kN h2 (aL (aR (aR h3)))) ss) ?_
 refine um (uv (Bt rfl rfl) (Aa ?_))
 obtain ⟨sv, sw⟩ := AB su
 refine BP rfl (fun qw => absurd qw sv) (fun qw => ?_)
 refine Ao (AJ ?_)
 refine uv (AZ (cs := #[sL cr ir ct, sL cu iu cv, vI n, vI n2, sL cw iv cx]) isAgg26 sizeOf26 rfl (Has.own 1 rfl) (B2 rfl) rfl) ?_
 obtain ⟨l7, n7, sx, sy⟩ := BT sw
 refine BU rfl call19 rfl rfl rfl (pT ((fC (fC (fC (fS fP)))).trans (pA ((fC (fC (fC (fS fP)))).trans (pA ((fC (fC (fC (fS fP)))).trans (pA pR)))))) (ln (lp (lp (lp (ln rfl)))))) (fun F2 h2 h3 => by rw [(AM.A6 al).1]; rw [(AM.A6 ah).1]; rw [(AM.A6 ae).1]; exact Ma (al.row kJ h2 (aL h3)) (ah.row kJ h2 (aL (aR h3))) (ae.row kN h2 (aL (aR (aR h3)))) sx) (fun _ _ _ _ hq => by obtain ⟨er, et, eu, nt, rfl, rfl, bo⟩ := hq; exact ⟨_, _, _, _, rfl, rfl, bo.flat (fun _ _ h => h)⟩) ?_; rintro _ uk _ bp nu nv ⟨er, et, eu, nt, rfl, rfl, bo⟩
 replace ab := ab.m2 bp
 replace ad := ad.m2 bp
 replace aa := aa.m3 bp
 replace ez := ez.m2 bp
 replace fa := fa.m2 bp
 replace al := al.m2 bp
 replace ah := ah.m2 bp
 replace ae := ae.m3 bp
 replace ao := ao.m3 bp
 have nw := HD (Lb' := []) (by rfl) nu nv
 replace bo := bo.new fun p hp => nw p (by simp [hp])
 refine Aw (lp (ln (lp (lp (lp (ln rfl)))))) (kO (kf (fS (fS (fS (fS fO)))) (kf (fS (fS (fS (fS fO)))) (kf (fS (fS (fS (fS fO)))) kr))) ?_)
 refine um (ox rfl rfl rfl (ox rfl rfl rfl (ua (ua (Aa (Aq ?_))))))
 obtain ⟨k, tc, qx⟩ := Av sy
 refine jF (((bh, ce #[sL cr ir ct, sL cu iu cv, vI n, vI n2, sL cw iv cx] 26) :: ((b1, ce #[sL Aj walks.length Ai, sL Ak Af.length Al, vI Ae, vI start, sL Ad Ab.length Ac] 26) :: (gw ++ (gz ++ (ia ++ [])))))) [(1, vI AW), (2, vI hour), (3, pO b1), (7, pO bh), (9, vI n5), (59, .bool k)] ?_ fun td bk => ?_
 ·clear qx
  refine Bg [(.still, 0), (.still, 1), (.still, 2), (.still, 3), (.still, 4), (.still, 5), (.still, 6), (.still, 7), (.still, 8), (.still, 9), (.still, 10), (.still, 11), (.still, 12), (.still, 13), (.still, 14), (.still, 15), (.still, 16), (.still, 18), (.seq, 17), (.seq, 19), (.seq, 20), (.still, 21), (.still, 22), (.still, 23)] (by kernel_rfl) (by kernel_rfl) (trivial) (by rfl) (by kernel_rfl) (mS [11] rfl (AO rfl) (mS [9] rfl (AO rfl) (mS (v := .bool (decide (n7 ≠ n5))) [36, 37] rfl (Bt rfl rfl) (mS [38] rfl (AO rfl) ?_))))
  obtain ⟨ib, qy⟩ := AB tc
  refine Bq 39 (v := vI n5) (ek := [(9, vI n5), (39, .bool (decide (n7 ≠ n5)))]) (Ls := []) rfl rfl (Env.C8 rfl ib) rfl rfl rfl (z2) (by kernel_rfl) sm (fun H F' L' aj ak => AO rfl) (Bq 39 (v := .bool (decide (n5 ≠ 0))) (ek := [(39, .bool (decide (n7 ≠ n5))), (40, vI n5)]) (Ls := []) rfl rfl (Env.C8 rfl ib) rfl rfl rfl (z2) (by kernel_rfl) sm (fun H F' L' aj ak => Bt rfl rfl) (Bq 39 (v := .bool (decide (n5 ≠ 0))) (ek := [(39, .bool (decide (n7 ≠ n5))), (41, .bool (decide (n5 ≠ 0)))]) (Ls := []) rfl rfl (Env.C8 rfl ib) rfl rfl rfl (z2) (by kernel_rfl) sm (fun H F' L' aj ak => AO rfl) ?_))
  by_cases ew : n5 ≠ 0
  ·have te := A5 qy ew
   refine Bq 42 (v := sL er et eu) (ek := [(10, sL er et eu), (42, .bool (decide (n5 ≠ 0)))]) (Ls := []) rfl rfl (Env.CY rfl ew) rfl rfl rfl (z2) (by kernel_rfl) sm (fun H F' L' aj ak => AO rfl) (Bq 42 (v := vI (l7.length : Int)) (ek := [(42, .bool (decide (n5 ≠ 0))), (43, sL er et eu)]) (Ls := []) rfl rfl (Env.CY rfl ew) rfl rfl rfl (z2) (by kernel_rfl) sm (fun H F' L' aj ak => (AQ underlying41 rfl).i (AM.Gh bo)) (Bq 42 (v := .bool (decide (0 < (l7.length : Int)))) (ek := [(42, .bool (decide (n5 ≠ 0))), (44, vI (l7.length : Int))]) (Ls := []) rfl rfl (Env.CY rfl ew) rfl rfl rfl (z2) (by kernel_rfl) sm (fun H F' L' aj ak => CQ rfl rfl) (Bq 39 (v := .bool (decide (0 < (l7.length : Int)))) (ek := [(39, .bool (decide (n7 ≠ n5))), (42, .bool (decide (n5 ≠ 0))), (45, .bool (decide (0 < (l7.length : Int))))]) (Ls := []) rfl rfl (Env.C8 rfl ib) rfl rfl rfl (z3) (by kernel_rfl) sm (fun H F' L' aj ak => AF (AX rfl ew) rfl) (mS (v := .bool (decide (0 < (l7.length : Int)))) [39, 46] rfl (AD (AL rfl ib) rfl) (mS [47] rfl (AO rfl) ?_)))))
   obtain ⟨ic, qz⟩ := AB te
   refine Bq 48 (v := vI n5) (ek := [(9, vI n5), (48, .bool (decide (0 < (l7.length : Int))))]) (Ls := []) rfl rfl (Env.C8 rfl ic) rfl rfl rfl (z2) (by kernel_rfl) sm (fun H F' L' aj ak => AO rfl) (Bq 48 (v := .bool (decide (n5 = 0))) (ek := [(48, .bool (decide (0 < (l7.length : Int)))), (49, vI n5)]) (Ls := []) rfl rfl (Env.C8 rfl ic) rfl rfl rfl (z2) (by kernel_rfl) sm (fun H F' L' aj ak => BO rfl rfl) (Bq 48 (v := .bool (decide (n5 = 0))) (ek := [(48, .bool (decide (0 < (l7.length : Int)))), (50, .bool (decide (n5 = 0)))]) (Ls := []) rfl rfl (Env.C8 rfl ic) rfl rfl rfl (z2) (by kernel_rfl) sm (fun H F' L' aj ak => AO rfl) ?_))
   by_cases cy : n5 = 0
   ·have tf := A5 qz cy
    refine Bq 51 (v := sL er et eu) (ek := [(10, sL er et eu), (51, .bool (decide (n5 = 0)))]) (Ls := []) rfl rfl (Env.CY rfl cy) rfl rfl rfl (z2) (by kernel_rfl) sm (fun H F' L' aj ak => AO rfl) (Bq 51 (v := .agg #[sL eg l4.length eh, sL ei l5.length ej, vI n3, vI n4, sL en eo ep]) (ek := [(8, pO iq), (51, .bool (decide (n5 = 0)))]) (Ls := [(iq, ce #[sL eg l4.length eh, sL ei l5.length ej, vI n3, vI n4, sL en eo ep] 50)]) rfl rfl (Env.CY rfl cy) rfl rfl rfl (z2) (by kernel_rfl) (s0 (s2 (s1 (s1 (s3 (s3 (s3 (s3 (s3 sr))))))))) (fun H F' L' aj ak => AZ (cs := #[sL eg l4.length eh, sL ei l5.length ej, vI n3, vI n4, sL en eo ep]) isAgg50 sizeOf50 rfl ((Has.own 0 rfl).ext aj ak) (B2 rfl) rfl) ?_)
    refine ⟨_, [(51, .bool (decide (n5 = 0))), (52, sL er et eu)], rfl, rfl, z2, by kernel_rfl, ?_⟩; intro H
    refine nT cy ?_
    obtain ⟨l8, tg, th⟩ := Av tf
    refine BU rfl call21 rfl rfl rfl (pT ((fC (fC (fC fP))).trans (pA pR)) (ln (lp (ln rfl)))) (fun F2 h2 h3 => by rw [(AM.A6 bo).1]; exact CJ (bo.row kP h2 (aL h3)) tg) (fun _ _ _ _ hq => by obtain ⟨r0, rb, re, ny, rfl, rfl, br⟩ := hq; exact ⟨_, _, _, _, rfl, rfl, br.flat (fun _ _ h => h)⟩) ?_; rintro _ uo _ dh nz o0 ⟨r0, rb, re, ny, rfl, rfl, br⟩
    replace ez := ez.m2 dh
    replace fa := fa.m2 dh
    replace ao := ao.m3 dh
    have o1 := HD (Lb' := []) (by rfl) nz o0
    replace br := br.new fun p hp => o1 p (by simp [hp])
    refine Aw (lp (ln (lp (ln rfl)))) (kO (kf (fS (fS fO)) (kf (fS (fS fO)) (kf (fS (fS fO)) kr))) ?_)
    refine Aa ⟨_, rfl, dh, [18, 8, 7, 1, 0], by kernel_rfl, .inl (.inr (fun d h => by cases h; rfl)), (fc (s0 (s2 (s1 (s1 (s3 (s3 (s3 (s3 (s3 (s3 sr)))))))))) (fc sm (fc sm (fc sm (fc sm nm))))), ?_⟩
    refine ⟨_, [(51, .bool (decide (n5 = 0))), (54, .agg #[sL eg l4.length eh, sL ei l5.length ej, vI n3, vI n4, sL en eo ep])], rfl, rfl, z2, by kernel_rfl, ?_⟩; intro H
    refine nT cy ?_
    obtain ⟨l9, ti, tj⟩ := Av th
    refine BU rfl call22 rfl rfl rfl (pT ((fC (fC (fC (fS (fS (fS (fS (fS fP)))))))).trans (pA pR)) (ln (lp (ln rfl)))) (fun F2 h2 h3 => by rw [(AM.A6 ao).1]; exact Cg (ez.mono kJ h2) (fa.mono kJ h2) (ao.row kN h2 (aL h3)) ti) (fun _ _ _ _ hq => by obtain ⟨iy, iz, j0, j1, rfl, rfl, bl⟩ := hq; exact ⟨_, _, _, _, rfl, rfl, bl.flat (fun _ _ h => h)⟩) ?_; rintro _ uq _ di j2 j3 ⟨iy, iz, j0, j1, rfl, rfl, bl⟩
    replace br := br.m4 di
    have j4 := HD (Lb' := []) (by rfl) j2 j3
    replace bl := bl.new fun p hp => j4 p (by simp [hp])
    refine Aw (lp (ln (lp (ln rfl)))) (kO (kf (fS (fS fO)) (kf (fS (fS fO)) (kf (fS (fS fO)) kr))) ?_)
    refine Aa ⟨_, rfl, di, [8, 7, 1, 0], by kernel_rfl, .inl (.inr (fun d h => by cases h; rfl)), (fc sm (fc sm (fc sm (fc sm nm)))), ?_⟩
    refine ⟨_, [(51, .bool (decide (n5 = 0))), (53, sL r0 rb re), (55, sL iy iz j0)], rfl, rfl, z3, by kernel_rfl, ?_⟩; intro H
    refine nT cy ?_
    obtain ⟨j5, o2, o3⟩ := Av tj
    refine Bn rfl call20 rfl rfl rfl (pT ((fC (fC (fC (fS (fS fP))))).trans (pA ((fC (fC (fC fP))).trans (pA pR)))) (lp (lp (ln rfl)))) (fun F2 h2 h3 => by rw [(AM.A6 br).1]; rw [(AM.A6 bl).1]; exact CL (br.row kP h2 (aL h3)) (bl.row kP h2 (aL (aR h3))) o2) ?_
    refine Aa ⟨_, rfl, AN.refl _, [8, 7, 1, 0], by kernel_rfl, .inl (.inr (fun d h => by cases h; rfl)), (fc sm (fc sm (fc sm (fc sm nm)))), ?_⟩
    refine Bq 51 (v := .bool (!j5)) (ek := [(51, .bool (decide (n5 = 0))), (56, .bool j5)]) (Ls := []) rfl rfl (Env.CY rfl cy) rfl rfl rfl (z2) (by kernel_rfl) sm (fun H F' L' aj ak => Bz rfl) (Bq 48 (v := .bool (!j5)) (ek := [(48, .bool (decide (0 < (l7.length : Int)))), (51, .bool (decide (n5 = 0))), (57, .bool (!j5))]) (Ls := []) rfl rfl (Env.C8 rfl ic) rfl rfl rfl (z3) (by kernel_rfl) sm (fun H F' L' aj ak => AF (AX rfl cy) rfl) (mS (v := .bool (!j5)) [48, 58] rfl (AD (AL rfl ic) rfl) (Bo ?_)))
    obtain rfl := AP o3
    exact mi (kd (kc (kc (kx (kx (kx (kx kr))))))) ⟨(dh.trans di), rfl, z6⟩
   have o4 := A4 qz cy
   refine Dc (ek := [(51, .bool (decide (n5 = 0)))]) (b' := false) 51 rfl rfl (Env.C8 rfl cy) rfl rfl rfl rfl z1 (by kernel_rfl) (Dc (ek := [(51, .bool (decide (n5 = 0)))]) (b' := false) 51 rfl rfl (Env.C8 rfl cy) rfl rfl rfl rfl z1 (by kernel_rfl) ?_)
   refine ⟨_, [(51, .bool (decide (n5 = 0))), (52, undef)], rfl, rfl, z2, by kernel_rfl, ?_⟩; intro H
   refine fF cy ?_
   refine Aa ⟨_, rfl, AN.refl _, [18, 8, 7, 1, 0], by kernel_rfl, .inl (.inr (fun d h => by cases h; rfl)), (fc sm (fc sm (fc sm (fc sm (fc sm nm))))), ?_⟩
   refine ⟨_, [(51, .bool (decide (n5 = 0))), (54, undef)], rfl, rfl, z2, by kernel_rfl, ?_⟩; intro H
   refine fF cy ?_
   refine Aa ⟨_, rfl, AN.refl _, [8, 7, 1, 0], by kernel_rfl, .inl (.inr (fun d h => by cases h; rfl)), (fc sm (fc sm (fc sm (fc sm nm)))), ?_⟩
   refine ⟨_, [(51, .bool (decide (n5 = 0))), (53, undef), (55, undef)], rfl, rfl, z3, by kernel_rfl, ?_⟩; intro H
   refine fF cy ?_
   refine Aa ⟨_, rfl, AN.refl _, [8, 7, 1, 0], by kernel_rfl, .inl (.inr (fun d h => by cases h; rfl)), (fc sm (fc sm (fc sm (fc sm nm)))), ?_⟩
   refine Dc (ek := [(51, .bool (decide (n5 = 0)))]) (b' := false) 51 rfl rfl (Env.C8 rfl cy) rfl rfl rfl rfl z1 (by kernel_rfl) (Bq 48 (v := .bool false) (ek := [(48, .bool (decide (0 < (l7.length : Int)))), (51, .bool (decide (n5 = 0))), (57, undef)]) (Ls := []) rfl rfl (Env.C8 rfl ic) rfl rfl rfl (z3) (by kernel_rfl) sm (fun H F' L' aj ak => AD (AL rfl cy) rfl) (mS (v := .bool false) [48, 58] rfl (AD (AL rfl ic) rfl) (Bo ?_)))
   obtain rfl := AP o4
   exact mi (kd (kc (kc (kx (ka (ka (ka kn))))))) ⟨AN.refl _, rfl, z6⟩
  have j6 := A4 qy ew
  refine Dc (ek := [(42, .bool (decide (n5 ≠ 0)))]) (b' := false) 42 rfl rfl (Env.C8 rfl ew) rfl rfl rfl rfl z1 (by kernel_rfl) (Dc (ek := [(42, .bool (decide (n5 ≠ 0)))]) (b' := false) 42 rfl rfl (Env.C8 rfl ew) rfl rfl rfl rfl z1 (by kernel_rfl) (Dc (ek := [(42, .bool (decide (n5 ≠ 0)))]) (b' := false) 42 rfl rfl (Env.C8 rfl ew) rfl rfl rfl rfl z1 (by kernel_rfl) (Bq 39 (v := .bool false) (ek := [(39, .bool (decide (n7 ≠ n5))), (42, .bool (decide (n5 ≠ 0))), (45, undef)]) (Ls := []) rfl rfl (Env.C8 rfl ib) rfl rfl rfl (z3) (by kernel_rfl) sm (fun H F' L' aj ak => AD (AL rfl ew) rfl) (mS (v := .bool false) [39, 46] rfl (AD (AL rfl ib) rfl) (mS [47] rfl (AO rfl) (Bq 48 (v := vI n5) (ek := [(9, vI n5), (48, .bool false)]) (Ls := []) rfl rfl rfl rfl rfl rfl (z2) (by kernel_rfl) sm (fun H F' L' aj ak => AO rfl) (Bq 48 (v := .bool (decide (n5 = 0))) (ek := [(48, .bool false), (49, vI n5)]) (Ls := []) rfl rfl rfl rfl rfl rfl (z2) (by kernel_rfl) sm (fun H F' L' aj ak => BO rfl rfl) ?_)))))))
  refine Bq 48 (v := .bool (decide (n5 = 0))) (ek := [(48, .bool false), (50, .bool (decide (n5 = 0)))]) (Ls := []) rfl rfl rfl rfl rfl rfl (z2) (by kernel_rfl) sm (fun H F' L' aj ak => AO rfl) ?_
  by_cases ai : n5 = 0
  ·have o6 := A5 j6 ai
   refine Bq 51 (v := sL er et eu) (ek := [(10, sL er et eu), (51, .bool (decide (n5 = 0)))]) (Ls := []) rfl rfl (Env.CY rfl ai) rfl rfl rfl (z2) (by kernel_rfl) sm (fun H F' L' aj ak => AO rfl) (Bq 51 (v := .agg #[sL eg l4.length eh, sL ei l5.length ej, vI n3, vI n4, sL en eo ep]) (ek := [(8, pO iq), (51, .bool (decide (n5 = 0)))]) (Ls := [(iq, ce #[sL eg l4.length eh, sL ei l5.length ej, vI n3, vI n4, sL en eo ep] 50)]) rfl rfl (Env.CY rfl ai) rfl rfl rfl (z2) (by kernel_rfl) (s0 (s2 (s1 (s1 (s3 (s3 (s3 (s3 (s3 sr))))))))) (fun H F' L' aj ak => AZ (cs := #[sL eg l4.length eh, sL ei l5.length ej, vI n3, vI n4, sL en eo ep]) isAgg50 sizeOf50 rfl ((Has.own 0 rfl).ext aj ak) (B2 rfl) rfl) ?_)
   refine ⟨_, [(51, .bool (decide (n5 = 0))), (52, sL er et eu)], rfl, rfl, z2, by kernel_rfl, ?_⟩; intro H
   refine nT ai ?_
   obtain ⟨ur, o7, o8⟩ := Av o6
   refine BU rfl call21 rfl rfl rfl (pT ((fC (fC (fC fP))).trans (pA pR)) (ln (lp (ln rfl)))) (fun F2 h2 h3 => by rw [(AM.A6 bo).1]; exact CJ (bo.row kP h2 (aL h3)) o7) (fun _ _ _ _ hq => by obtain ⟨j7, j8, j9, ja, rfl, rfl, au⟩ := hq; exact ⟨_, _, _, _, rfl, rfl, au.flat (fun _ _ h => h)⟩) ?_; rintro _ tk _ bu jb jc ⟨j7, j8, j9, ja, rfl, rfl, au⟩
   replace ez := ez.m2 bu
   replace fa := fa.m2 bu
   replace ao := ao.m3 bu
   have jd := HD (Lb' := []) (by rfl) jb jc
   replace au := au.new fun p hp => jd p (by simp [hp])
   refine Aw (lp (ln (lp (ln rfl)))) (kO (kf (fS (fS fO)) (kf (fS (fS fO)) (kf (fS (fS fO)) kr))) ?_)
   refine Aa ⟨_, rfl, bu, [18, 8, 7, 1, 0], by kernel_rfl, .inl (.inr (fun d h => by cases h; rfl)), (fc (s0 (s2 (s1 (s1 (s3 (s3 (s3 (s3 (s3 (s3 sr)))))))))) (fc sm (fc sm (fc sm (fc sm nm))))), ?_⟩
   refine ⟨_, [(51, .bool (decide (n5 = 0))), (54, .agg #[sL eg l4.length eh, sL ei l5.length ej, vI n3, vI n4, sL en eo ep])], rfl, rfl, z2, by kernel_rfl, ?_⟩; intro H
   refine nT ai ?_
   obtain ⟨uu, o9, oc⟩ := Av o8
   refine BU rfl call22 rfl rfl rfl (pT ((fC (fC (fC (fS (fS (fS (fS (fS fP)))))))).trans (pA pR)) (ln (lp (ln rfl)))) (fun F2 h2 h3 => by rw [(AM.A6 ao).1]; exact Cg (ez.mono kJ h2) (fa.mono kJ h2) (ao.row kN h2 (aL h3)) o9) (fun _ _ _ _ hq => by obtain ⟨je, jf, jg, jh, rfl, rfl, bm⟩ := hq; exact ⟨_, _, _, _, rfl, rfl, bm.flat (fun _ _ h => h)⟩) ?_; rintro _ tm _ dk ji jj ⟨je, jf, jg, jh, rfl, rfl, bm⟩
   replace au := au.m4 dk
   have jk := HD (Lb' := []) (by rfl) ji jj
   replace bm := bm.new fun p hp => jk p (by simp [hp])
   refine Aw (lp (ln (lp (ln rfl)))) (kO (kf (fS (fS fO)) (kf (fS (fS fO)) (kf (fS (fS fO)) kr))) ?_)
   refine Aa ⟨_, rfl, dk, [8, 7, 1, 0], by kernel_rfl, .inl (.inr (fun d h => by cases h; rfl)), (fc sm (fc sm (fc sm (fc sm nm)))), ?_⟩
   refine ⟨_, [(51, .bool (decide (n5 = 0))), (53, sL j7 j8 j9), (55, sL je jf jg)], rfl, rfl, z3, by kernel_rfl, ?_⟩; intro H
   refine nT ai ?_
   obtain ⟨jl, od, oe⟩ := Av oc
   refine Bn rfl call20 rfl rfl rfl (pT ((fC (fC (fC (fS (fS fP))))).trans (pA ((fC (fC (fC fP))).trans (pA pR)))) (lp (lp (ln rfl)))) (fun F2 h2 h3 => by rw [(AM.A6 au).1]; rw [(AM.A6 bm).1]; exact CL (au.row kP h2 (aL h3)) (bm.row kP h2 (aL (aR h3))) od) ?_
   refine Aa ⟨_, rfl, AN.refl _, [8, 7, 1, 0], by kernel_rfl, .inl (.inr (fun d h => by cases h; rfl)), (fc sm (fc sm (fc sm (fc sm nm)))), ?_⟩
   refine Bq 51 (v := .bool (!jl)) (ek := [(51, .bool (decide (n5 = 0))), (56, .bool jl)]) (Ls := []) rfl rfl (Env.CY rfl ai) rfl rfl rfl (z2) (by kernel_rfl) sm (fun H F' L' aj ak => Bz rfl) (Bq 48 (v := .bool (!jl)) (ek := [(48, .bool false), (51, .bool (decide (n5 = 0))), (57, .bool (!jl))]) (Ls := []) rfl rfl rfl rfl rfl rfl (z3) (by kernel_rfl) sm (fun H F' L' aj ak => AF (AX rfl ai) rfl) (mS (v := .bool (!jl)) [48, 58] rfl (AD rfl rfl) (Bo ?_)))
   obtain rfl := AP oe
   exact mi (kd (kc (kc (kx (kx (kx (kx kr))))))) ⟨(bu.trans dk), rfl, z6⟩
  have og := A4 j6 ai
  refine Dc (ek := [(51, .bool (decide (n5 = 0)))]) (b' := false) 51 rfl rfl (Env.C8 rfl ai) rfl rfl rfl rfl z1 (by kernel_rfl) (Dc (ek := [(51, .bool (decide (n5 = 0)))]) (b' := false) 51 rfl rfl (Env.C8 rfl ai) rfl rfl rfl rfl z1 (by kernel_rfl) ?_)
  refine ⟨_, [(51, .bool (decide (n5 = 0))), (52, undef)], rfl, rfl, z2, by kernel_rfl, ?_⟩; intro H
  refine fF ai ?_
  refine Aa ⟨_, rfl, AN.refl _, [18, 8, 7, 1, 0], by kernel_rfl, .inl (.inr (fun d h => by cases h; rfl)), (fc sm (fc sm (fc sm (fc sm (fc sm nm))))), ?_⟩
  refine ⟨_, [(51, .bool (decide (n5 = 0))), (54, undef)], rfl, rfl, z2, by kernel_rfl, ?_⟩; intro H
  refine fF ai ?_
  refine Aa ⟨_, rfl, AN.refl _, [8, 7, 1, 0], by kernel_rfl, .inl (.inr (fun d h => by cases h; rfl)), (fc sm (fc sm (fc sm (fc sm nm)))), ?_⟩
  refine ⟨_, [(51, .bool (decide (n5 = 0))), (53, undef), (55, undef)], rfl, rfl, z3, by kernel_rfl, ?_⟩; intro H
  refine fF ai ?_
  refine Aa ⟨_, rfl, AN.refl _, [8, 7, 1, 0], by kernel_rfl, .inl (.inr (fun d h => by cases h; rfl)), (fc sm (fc sm (fc sm (fc sm nm)))), ?_⟩
  refine Dc (ek := [(51, .bool (decide (n5 = 0)))]) (b' := false) 51 rfl rfl (Env.C8 rfl ai) rfl rfl rfl rfl z1 (by kernel_rfl) (Bq 48 (v := .bool false) (ek := [(48, .bool false), (51, .bool (decide (n5 = 0))), (57, undef)]) (Ls := []) rfl rfl rfl rfl rfl rfl (z3) (by kernel_rfl) sm (fun H F' L' aj ak => AD (AL rfl ai) rfl) (mS (v := .bool false) [48, 58] rfl (AD rfl rfl) (Bo ?_)))
  obtain rfl := AP og
  exact mi (kd (kc (kc (kx (ka (ka (ka kn))))))) ⟨AN.refl _, rfl, z6⟩
 replace ab := ab.m2 bk
 replace ad := ad.m2 bk
 replace aa := aa.m3 bk
 replace al := al.m2 bk
 replace ah := ah.m2 bk
 replace ae := ae.m3 bk
 obtain ⟨oh, oi⟩ := AB qx
 refine AR rfl (fun jm => absurd (oh.symm.trans jm) (by decide)) (fun jm => ?_)
 refine Ao (AJ ?_)
 refine uv (AZ (cs := #[sL cr ir ct, sL cu iu cv, vI n, vI n2, sL cw iv cx]) isAgg26 sizeOf26 rfl (Has.own 0 rfl) (B2 rfl) rfl) ?_
 refine um (um ?_)
 obtain rfl := (AM.A6 al).1
 refine B6 (Nat.le_refl _) kJ (fC (fC fP)) al ?_; intro tn bw bj
 replace ab := ab.m2 bw
 replace ad := ad.m2 bw
 replace aa := aa.m3 bw
 replace ah := ah.m2 bw
 replace ae := ae.m3 bw
 obtain rfl := (AM.A6 ah).1
 refine B6 (Nat.le_refl _) kJ (fC (fC fP)) ah ?_; intro tp bx bz
 replace ab := ab.m2 bx
 replace ad := ad.m2 bx
 replace aa := aa.m3 bx
 replace bj := bj.m2 bx
 replace ae := ae.m3 bx
 obtain rfl := (AM.A6 ae).1
 refine B6 (Nat.le_refl _) kN (fC (fC fP)) ae ?_; intro tq cb dg
 replace ab := ab.m2 cb
 replace ad := ad.m2 cb
 replace aa := aa.m3 cb
 replace bj := bj.m2 cb
 replace bz := bz.m2 cb
 obtain ⟨uw, ux, n8, n9, oj, oo, oq, ot⟩ := QA oi
 refine c0 call23 (O6 bj bz dg oq) ?_; rintro _ ou _ bn dm ⟨cc, cf, cg, de, cj, ck, cn, df, az, ba, bb, av, rfl, rfl, bc, bd, aw⟩
 replace ab := ab.m2 bn
 replace ad := ad.m2 bn
 replace aa := aa.m3 bn
 replace bj := bj.m2 bn
 replace bz := bz.m2 bn
 replace dg := dg.m3 bn
 replace bc := bc.new fun p hp => dm p (by simp [hp])
 replace bd := bd.new fun p hp => dm p (by simp [hp])
 replace aw := aw.R9 (Pd kI kP) fun p hp => dm p (by simp [hp])
 refine Aw (lp (lp (lp (ln rfl)))) (kO (kf (fS (fS (fS fO))) (kf (fS (fS (fS fO))) kr)) ?_)
 refine um (ox rfl rfl rfl (ox rfl rfl rfl ?_))
 refine Bh rfl zeroValue26 ?_; intro ay rf
 refine A8 (i := 0) sizeOf26 rfl rfl rfl (by simp [Value.oneCell']) rfl (B2 rfl) (Aw rfl ?_)
 refine ua (BL ?_)
 refine uv (BI (v := .agg #[sL none 0 0, sL none 0 0, vI 0, vI 0, sL none 0 0]) rfl (by intro w; kernel_rfl)) ?_
 refine Bh rfl zeroValue26 ?_; intro da rh
 refine A8 (i := 0) sizeOf26 rfl rfl rfl (by simp [Value.oneCell']) rfl (B2 rfl) (Aw rfl (Aa ?_))
 obtain ⟨w, db, dd, ax, bg, bq, jn, jo⟩ := QA ot
 refine AU (fun e1 F1 L1 => ∃ (fb : Option Addr) (fe : Nat) (ff : Nat) (dp : LH) (fg : Option Addr) (fh : Nat) (fi : Nat) (dq : LH) (fj : Option Addr) (fk : Nat) (fl : Nat) (dr : LH), AN ou F1 ∧ L1 = ((da, ce #[sL fb fe ff, sL fg fh fi, vI ax, vI bg, sL fj fk fl] 26) :: ((ay, ce #[sL cc cf cg, sL cj ck cn, vI n8, vI n9, sL az ba bb] 26) :: ((bh, ce #[sL cr l.length ct, sL cu l2.length cv, vI n, vI n2, sL cw l3.length cx] 26) :: ((b1, ce #[sL Aj walks.length Ai, sL Ak Af.length Al, vI Ae, vI start, sL Ad Ab.length Ac] 26) :: (de ++ (df ++ (av ++ (dp ++ (dq ++ (dr ++ [])))))))))) ∧ e1.sub [(3, pO b1), (7, pO bh), (9, vI w), (11, vI oo), (12, pO ay), (13, pO da)] ∧ AM K.w0.heap.size 22 1 eJ F1 fb fe ff db dp ∧ AM K.w0.heap.size 22 1 eJ F1 fg fh fi dd dq ∧ AM K.w0.heap.size 35 3 eN F1 fj fk fl bq dr) ?_ ?_
 ·clear jo
  refine Ap ?_
  refine AJ (um ?_)
  refine uv (Bt rfl rfl) ?_
  refine ua (Aa ?_)
  refine cQ (fun ie => ?_) fun ie => ?_
  ·have ow := A5 jn ie
   refine Ao (Ay (id := 0) ?_)
   obtain ⟨rfl, rfl, rfl, rfl, rfl, rfl⟩ := Oh ow
   exact mi (kc (kc (kc (kc (ka (ka (ka (ke (ke (ke kr)))))))))) ⟨none, 0, 0, [], none, 0, 0, [], none, 0, 0, [], AN.refl _, rfl, z6, AM.nil _ _ _ _ _, AM.nil _ _ _ _ _, AM.nil _ _ _ _ _⟩
  have oy := A4 jn ie
  obtain ⟨k2, jq, ig⟩ := Av oy
  refine jE (((da, ce #[sL none 0 0, sL none 0 0, vI 0, vI 0, sL none 0 0] 26) :: ((ay, ce #[sL cc cf cg, sL cj ck cn, vI n8, vI n9, sL az ba bb] 26) :: ((bh, ce #[sL cr l.length ct, sL cu l2.length cv, vI n, vI n2, sL cw l3.length cx] 26) :: ((b1, ce #[sL Aj walks.length Ai, sL Ak Af.length Al, vI Ae, vI start, sL Ad Ab.length Ac] 26) :: (de ++ (df ++ (av ++ [])))))))) [(1, vI AW), (2, vI hour), (3, pO b1), (7, pO bh), (9, vI n5), (11, vI oo), (12, pO ay), (13, pO da), (79, .bool k2)] ?_ ?_
  ·clear ig
   refine An (um ?_)
   refine uv (AV rfl rfl) (um ?_)
   by_cases aq : AW < 0
   ·have oz := A5 jq aq
    refine fT aq (fT aq (fT aq (fT aq (fT aq ?_))))
    refine uv (AF (AX rfl aq) rfl) ?_
    refine ua (Aa ?_)
    obtain rfl := AP oz
    exact mi kr ⟨rfl, rfl, (sc rfl z8)⟩
   have p0 := A4 jq aq
   refine nF aq (um (nF aq ?_))
   refine uv (Ah BF rfl) (nF aq (uv (BM isAgg24 3) (nF aq (uv (AQ underlying24 rfl) (nF aq (uv (HV rfl rfl) (uv (AD (AL rfl aq) rfl) ?_)))))))
   refine ua (Aa ?_)
   obtain rfl := AP p0
   exact mi kr ⟨rfl, rfl, (sc rfl z8)⟩
  refine AR rfl (fun ij => ?_) (fun ij => ?_)
  ·have p3 := bt ig ij
   refine An (ua (Aa (Ay (id := 0) ?_)))
   obtain ⟨rfl, rfl, rfl, rfl, rfl, rfl⟩ := Oh p3
   exact mi (kc (kc (kc (kc (ka (ka (ka (ke (ke (ke kr)))))))))) ⟨none, 0, 0, [], none, 0, 0, [], none, 0, 0, [], AN.refl _, rfl, z6, AM.nil _ _ _ _ _, AM.nil _ _ _ _ _, AM.nil _ _ _ _ _⟩
  have p4 := bf ig ij
  obtain ⟨k3, jr, ik⟩ := Av p4
  refine jE (((da, ce #[sL none 0 0, sL none 0 0, vI 0, vI 0, sL none 0 0] 26) :: ((ay, ce #[sL cc cf cg, sL cj ck cn, vI n8, vI n9, sL az ba bb] 26) :: ((bh, ce #[sL cr l.length ct, sL cu l2.length cv, vI n, vI n2, sL cw l3.length cx] 26) :: ((b1, ce #[sL Aj walks.length Ai, sL Ak Af.length Al, vI Ae, vI start, sL Ad Ab.length Ac] 26) :: (de ++ (df ++ (av ++ [])))))))) [(1, vI AW), (2, vI hour), (3, pO b1), (7, pO bh), (9, vI n5), (11, vI oo), (12, pO ay), (13, pO da), (89, .bool k3)] ?_ ?_
  ·clear ik
   refine An (um ?_)
   refine uv (AV rfl rfl) (um ?_)
   by_cases cp : hour < 0
   ·have p5 := A5 jr cp
    refine fT cp (fT cp ?_)
    refine uv (AF (AX rfl cp) rfl) ?_
    refine ua (Aa ?_)
    obtain rfl := AP p5
    exact mi kr ⟨rfl, rfl, (sc rfl z8)⟩
   have p6 := A4 jr cp
   refine nF cp (um (nF cp ?_))
   refine uv (CQ rfl rfl) (uv (AD (AL rfl cp) rfl) ?_)
   refine ua (Aa ?_)
   obtain rfl := AP p6
   exact mi kr ⟨rfl, rfl, (sc rfl z8)⟩
  refine AR rfl (fun il => ?_) (fun il => ?_)
  ·have p7 := bt ik il
   refine An (ua (Aa (Ay (id := 0) ?_)))
   obtain ⟨rfl, rfl, rfl, rfl, rfl, rfl⟩ := Oh p7
   exact mi (kc (kc (kc (kc (ka (ka (ka (ke (ke (ke kr)))))))))) ⟨none, 0, 0, [], none, 0, 0, [], none, 0, 0, [], AN.refl _, rfl, z6, AM.nil _ _ _ _ _, AM.nil _ _ _ _ _, AM.nil _ _ _ _ _⟩
  have p8 := bf ik il
  refine AJ (uv (AZ (cs := #[sL Aj walks.length Ai, sL Ak Af.length Al, vI Ae, vI start, sL Ad Ab.length Ac]) isAgg26 sizeOf26 rfl (Has.own 3 rfl) (B2 rfl) rfl) ?_)
  obtain ⟨uy, uz, tr, tt, va, p9, pa⟩ := Fx p8
  refine c0 call16 (DX ab ad aa p9) ?_; rintro _ tu _ js dt ⟨jt, ju, jv, fw, jw, jx, jz, fx, kb, kh, kj, kl, rfl, rfl, du, dv, cq⟩
  replace du := du.new fun p hp => dt p (by simp [hp])
  replace dv := dv.new fun p hp => dt p (by simp [hp])
  replace cq := cq.new fun p hp => dt p (by simp [hp])
  refine Aw (lp (lp (lp (ln rfl)))) (kO (kf (fS (fS (fS fO))) (kf (fS (fS (fS fO))) (kf (fS (fS (fS fO))) (kf (fS (fS (fS fO))) kr)))) (A8 (i := 0) sizeOf26 rfl rfl rfl (by simp [Value.oneCell']) rfl (B2 rfl) (Aw rfl ?_)))
  refine Aa (An ?_)
  refine uv (Ah BF rfl) (uv (BM isAgg24 0) ?_)
  refine um (um ?_)
  obtain ⟨x, im, fy, pb⟩ := Bi pa
  obtain ⟨tv, tw, tx, ri, g0, rj, pd, ⟨_, _, rfl, ⟨tz, u0, rfl, u1⟩, ⟨_, _, rfl, rfl, rfl⟩⟩, rk, rl⟩ := AM.at kN cq (L := (da, ce #[sL jt ju jv, sL jw jx jz, vI tr, vI tt, sL kb kh kj] 26) :: ((ay, ce #[sL cc cf cg, sL cj ck cn, vI n8, vI n9, sL az ba bb] 26) :: ((bh, ce #[sL cr l.length ct, sL cu l2.length cv, vI n, vI n2, sL cw l3.length cx] 26) :: ((b1, ce #[sL Aj walks.length Ai, sL Ak Af.length Al, vI Ae, vI start, sL Ad Ab.length Ac] 26) :: (fw ++ (fx ++ (kl ++ (de ++ (df ++ (av ++ [])))))))))) (fC (fC (fC (fC (fS (fS fP)))))) im.1 fy
  refine uv (Cx underlying24 sizeOf35 g0 (AM.idx cq im)) (uv (Ah Ic rfl) ?_)
  obtain ⟨want, pe, pf⟩ := BC pb
  refine KA (zs := want) (off := 2) (x0 := x) (u := (x.1, x.2.1, hour)) sizeOf3 kN rfl g0 rfl rfl (by decide) fy (fun vs h => by obtain ⟨_, _, rfl, ⟨u2, u3, rfl, pg⟩, ⟨_, _, rfl, rfl, rfl⟩⟩ := h; exact ⟨_, _, rfl, ⟨_, _, rfl, pg⟩, ⟨_, _, rfl, rfl, rfl⟩⟩) (fun _ => .c (.c (.c (.c (.s (.s .h)))))) cq pe im ?_; intro km ko
  refine Aa (Ay (id := 0) ?_)
  obtain ⟨rfl, rfl, rfl, rfl, rfl, rfl⟩ := Oh pf
  exact mi (kc (kc (kc (kc (kg (fS (fS (fS fP))) (kg (fS (fS (fS fP))) (kg (fS (fS (fS fP))) kr))))))) ⟨jt, ju, jv, fw, jw, jx, jz, fx, kb, kh, kj, km, js, rfl, z6, du, dv, ko⟩
 rintro e1 dw _ ⟨fb, fe, ff, dp, fg, fh, fi, dq, fj, fk, fl, dr, ar, rfl, kt, ga, gb, gg⟩
 refine Az _ kt ?_
 replace ab := ab.m2 ar
 replace ad := ad.m2 ar
 replace aa := aa.m3 ar
 replace bj := bj.m2 ar
 replace bz := bz.m2 ar
 replace dg := dg.m3 ar
 replace bc := bc.m1 ar
 replace bd := bd.m1 ar
 replace aw := aw.mono (Pd kI kP) ar
 refine Aq (AJ (um (um ?_)))
 refine uv (Bt rfl rfl) (um ?_)
 obtain ⟨dx, ph⟩ := AB jo
 refine nF dx (uv (AZ (cs := #[sL cc cf cg, sL cj ck cn, vI n8, vI n9, sL az ba bb]) isAgg26 sizeOf26 rfl (Has.own 1 rfl) (B2 rfl) rfl) (nF dx (uv (AZ (cs := #[sL fb fe ff, sL fg fh fi, vI ax, vI bg, sL fj fk fl]) isAgg26 sizeOf26 rfl (Has.own 0 rfl) (B2 rfl) rfl) (nF dx ?_))))
 obtain ⟨vb, pj, pk⟩ := Av ph
 refine Bn rfl call24 rfl rfl rfl (pT ((fC (fC (fC (fC fP)))).trans (pA ((fC (fC (fC (fC fP)))).trans (pA ((fC (fC (fC (fC fP)))).trans (pA ((fC (fC (fC (fC fP)))).trans (pA ((fC (fC (fC (fC fP)))).trans (pA ((fC (fC (fC (fC fP)))).trans (pA pR)))))))))))) (lp (lp (lp (lp (lp (lp (ln rfl)))))))) (fun F2 h2 h3 => by rw [(C0.A6 bc).1]; rw [(C0.A6 bd).1]; rw [(Kq.A6 aw).1]; rw [(AM.A6 ga).1]; rw [(AM.A6 gb).1]; rw [(AM.A6 gg).1]; exact CX (bc.row kI h2 (aL h3)) (bd.row kI h2 (aL (aR h3))) (aw.row (Pd kI kP) h2 (aL (aR (aR h3)))) (ga.row kJ h2 (aL (aR (aR (aR h3))))) (gb.row kJ h2 (aL (aR (aR (aR (aR h3)))))) (gg.row kN h2 (aL (aR (aR (aR (aR (aR h3))))))) pj) ?_
 refine nF dx (uv (Bz rfl) (uv (AD (AL rfl dx) rfl) (Aa ?_)))
 obtain ⟨pn, po⟩ := AB pk
 refine AR rfl (fun ku => absurd (pn.symm.trans ku) (by decide)) (fun ku => ?_)
 refine Ao ?_
 obtain ⟨pq, kv⟩ := Ij po
 refine jE (((ay, ce #[sL cc cf cg, sL cj ck cn, vI n8, vI n9, sL az ba bb] 26) :: ((bh, ce #[sL cr l.length ct, sL cu l2.length cv, vI n, vI n2, sL cw l3.length cx] 26) :: ((b1, ce #[sL Aj walks.length Ai, sL Ak Af.length Al, vI Ae, vI start, sL Ad Ab.length Ac] 26) :: (av ++ []))))) [(3, pO b1), (7, pO bh), (12, pO ay)] ?_ ?_
 ·clear kv
  refine AJ (uv (Ah CI rfl) (uv (BM isAgg23 1) (uv (Ah Df rfl) (uv (BM isAgg23 1) ?_))))
  obtain ⟨np, kz, pr, pt⟩ := DS pq
  refine Ku (fC (fC (fC (fC fP)))) bc ?_; intro gh rm rp l0 gi
  refine kO (kf (fS (fS fO)) (kf (fS (fS fO)) (kf (fS (fS fO)) (kf (fS (fS fO)) kr)))) ?_
  refine Ku (fC (fC (fC (fC (fS (fS fP)))))) bd ?_; intro gj rq rr la gk
  refine kO (kf (fS (fS fO)) (kf (fS (fS fO)) (kf (fS (fS fO)) (kf (fS (fS fO)) kr)))) ?_
  refine Cq (xs := gh) (ys := gj) (zs := gh ++ gj) rfl Fm rfl rfl (Nat.le_refl _) (fun _ => .c (.c (.c (.c (.s (.s .h)))))) l0 (AM.src la (fC (fC (fC (fC fP))))) rfl (Sd gi gk kz pr) (by decide) ?_; intro fm fo fp ru ld
  refine Dv (p := fun X => C0 K.w0.heap.size 22 3 1 eI dw fm fo fp np X) (Jr.cat gi gk ld kz) (pT ((fC (fC (fC (fC (fS (fS fP)))))).trans (pA ((fC (fC (fC (fC (fS (fS fP)))))).trans (pA ((fC (fC (fC (fC (fS fP))))).trans (pA pR)))))) (lp (lp (lp (ln rfl))))) ?_; intro lg gl
  refine kO (kf (fS fO) (kf (fS fO) (kf (fS fO) (kf (fS fO) kr)))) (kO (kc (kc (kc (kc (ka (kx kr)))))) (uv ((AQ underlying23 rfl).i (C0.Gh gl)) ?_))
  refine um (Aa ?_)
  refine Ap (kW (kd (kc (kc (kc (ka (ka kn)))))) ?_)
  obtain ⟨pv, pw⟩ := AB pt
  refine Bb (fun nq e1 F1 L1 => ∃ (k5 : Int), CC 0 (np.length : Int) k5 nq ∧ ∃ (k4 : List (List Int)) (dy : LH), Dr nq k5 k4 = some () ∧ dw = F1 ∧ L1 = ((ay, ce #[sL cc cf cg, sL cj ck cn, vI n8, vI n9, sL az ba bb] 26) :: ((bh, ce #[sL cr l.length ct, sL cu l2.length cv, vI n, vI n2, sL cw l3.length cx] 26) :: ((b1, ce #[sL Aj walks.length Ai, sL Ak Af.length Al, vI Ae, vI start, sL Ad Ab.length Ac] 26) :: (av ++ (dy ++ []))))) ∧ e1.sub [(3, pO b1), (7, pO bh), (12, pO ay), (109, sL fm fo fp), (110, vI (np.length : Int)), (111, vI k5)] ∧ C0 K.w0.heap.size 22 3 1 eI F1 fm fo fp k4 dy) _ (m0 (kc (kc (kc (kg (fS fP) kr)))) ⟨_, CC.start _ _, np, lg, pw, rfl, rfl, z6, gl⟩) ?_
  rintro nq e1 _ _ ⟨k5, dz, k4, dy, fq, rfl, rfl, lh, gm⟩
  refine Az _ lh (AJ (uv (AV rfl rfl) ?_))
  refine Aa (Aq ?_)
  refine cQ (fun fs => ?_) fun fs => ?_
  ·obtain ⟨nq, rfl, lj⟩ := CC.succ dz fs
   rw [Dr] at fq
   refine Ao (Aq ?_)
   refine Ap (AJ ?_)
   obtain ⟨x2, lk, ll, px⟩ := Bi fq
   have lq := (C0.A6 gm).1
   refine Mv (fC (fC (fC (fS fP)))) gm ll ?_; intro ry lr lu u4 u5 u6 lv gn gp lx ly
   refine kO (kf (fS (fS (fS fO))) (kf (fS (fS (fS fO))) (kf (fS (fS (fS fO))) kr))) ?_
   obtain ⟨u7, u9, ub, rz, ma, mb, py, rfl, s5, mc⟩ := AM.at Cv gp (L := (ay, ce #[sL cc cf cg, sL cj ck cn, vI n8, vI n9, sL az ba bb] 26) :: ((bh, ce #[sL cr l.length ct, sL cu l2.length cv, vI n, vI n2, sL cw l3.length cx] 26) :: ((b1, ce #[sL Aj walks.length Ai, sL Ak Af.length Al, vI Ae, vI start, sL Ad Ab.length Ac] 26) :: (lr ++ (lv ++ (lu ++ (av ++ []))))))) (fC (fC (fC fP))) lk.1 gn
   refine uv (Cx underlying23 sizeOf22 ma (KV lq lk)) (uv (AG isAgg22 rfl mb (mc 0 (by decide))) ?_)
   refine ua (Aa (An (um ?_)))
   obtain ⟨r2, pz, q0⟩ := BC px
   refine Pf (z0 := 0) (zs := r2) rfl Bp (by decide) kI (fun _ => rfl) rfl (fun _ => .c (.c (.c (.s .h)))) lx pz ?_; intro s6 me
   obtain ⟨s7, qb, qc⟩ := BC q0
   refine Dv (p := fun X => C0 K.w0.heap.size 22 3 1 eI dw fm fo fp s7 X) (K3.Ln ly gp gn me qb) (pT ((fC (fC (fC fP))).trans (pA ((fC (fC (fC fP))).trans (pA ((fC (fC (fC fP))).trans (pA pR)))))) (lp (lp (lp (ln rfl))))) ?_; intro mg mh
   refine kO (kf (fS fO) (kf (fS fO) (kf (fS fO) kr))) ?_
   refine Aa (Ay (id := 2) (An ?_))
   refine uv (A0 rfl rfl (CC.Cs dz fs pv)) ?_
   refine um (Aa ?_)
   exact le (kc (kc (kc (kg (fS fP) kr)))) ⟨_, lj, s7, mg, qc, rfl, rfl, z6, mh⟩
  obtain rfl := CC.zero dz fs
  rw [Dr] at fq
  refine AI (Am (Am ?_))
  refine At ?_
  clear fq
  exact mi (kc (kc (kc (ka kn)))) ⟨rfl, rfl, z3⟩
 obtain ⟨qd, mj⟩ := Ij kv
 refine jE ([(bh, ce #[sL cr l.length ct, sL cu l2.length cv, vI n, vI n2, sL cw l3.length cx] 26), (b1, ce #[sL Aj walks.length Ai, sL Ak Af.length Al, vI Ae, vI start, sL Ad Ab.length Ac] 26)]) [(3, pO b1), (7, pO bh)] ?_ ?_
 ·clear mj
  refine AJ (uv (Ah BF rfl) (uv (BM isAgg24 0) (uv ((AQ underlying24 rfl).i (Kq.Gh aw)) ?_)))
  refine um (Aa ?_)
  refine Ap (kW (kd kr) ?_)
  obtain ⟨qe, qf⟩ := AB qd
  refine NL (fun nr e1 F1 L1 => ∃ (k7 : Int), CC 0 (oj.length : Int) k7 nr ∧ ∃ (k6 : List ((List Int) × Int × Int)) (eb : LH), Dz nr k7 k6 = some () ∧ dw = F1 ∧ L1 = ((bh, ce #[sL cr l.length ct, sL cu l2.length cv, vI n, vI n2, sL cw l3.length cx] 26) :: ((b1, ce #[sL Aj walks.length Ai, sL Ak Af.length Al, vI Ae, vI start, sL Ad Ab.length Ac] 26) :: (eb ++ []))) ∧ e1.sub [(3, pO b1), (7, pO bh), (118, sL az ba bb), (119, vI (oj.length : Int)), (120, vI k7)] ∧ Kq K.w0.heap.size 35 3 (DZ LI eP) (qS 3 1 eI) F1 az ba bb k6 eb) _ (m0 kr ⟨_, CC.start _ _, oj, av, qf, rfl, rfl, z5, aw⟩) ?_
  rintro nr e1 _ _ ⟨k7, ec, k6, eb, ft, rfl, rfl, ml, gq⟩
  refine Az _ ml (AJ (uv (AV rfl rfl) ?_))
  refine Aa (Aq ?_)
  refine cQ (fun fv => ?_) fun fv => ?_
  ·obtain ⟨nr, rfl, mn⟩ := CC.succ ec fv
   rw [Dz] at ft
   refine Ao (Aq ?_)
   refine Ap (AJ ?_)
   obtain ⟨x3, mo, mq, qg⟩ := Bi ft
   have mr := (Kq.A6 gq).1
   refine Ol (fC (fC fP)) gq mq ?_; intro s8 mu mv qh qi qj mw gr gu mx na
   refine kO (kf (fS (fS (fS fO))) (kf (fS (fS (fS fO))) kr)) ?_
   obtain ⟨uc, ud, ue, s9, nc, nf, ef, ⟨_, _, rfl, rfl, ⟨_, _, rfl, rfl, rfl⟩⟩, ng, nh⟩ := AM.at (BW Cv kP) gu (L := (bh, ce #[sL cr l.length ct, sL cu l2.length cv, vI n, vI n2, sL cw l3.length cx] 26) :: ((b1, ce #[sL Aj walks.length Ai, sL Ak Af.length Al, vI Ae, vI start, sL Ad Ab.length Ac] 26) :: (mu ++ (mw ++ (mv ++ []))))) (fC (fC fP)) mo.1 gr
   refine uv (Cx underlying24 sizeOf35 nc (KV mr mo)) (uv (AZ (cs := #[sL qh qi qj, vI x3.2.1, vI x3.2.2]) isAgg35 sizeOf35 rfl nf ef (Ba ef ng nh)) ?_)
   refine Bh rfl zeroValue35 ?_; intro uf sa
   refine A8 (i := 0) sizeOf35 rfl rfl rfl (by simp [Value.oneCell']) rfl (B2 rfl) (Aw rfl ?_)
   refine Aa (An ?_)
   refine uv (Ah GX rfl) (uv (BM isAgg22 0) ?_)
   obtain ⟨sb, qk, ql⟩ := BC qg
   refine Pf (z0 := 0) (zs := sb) rfl Bp (by decide) kI (fun _ => rfl) rfl (fun _ => .c (.c (.c (.s .h)))) mx qk ?_; intro sd ni
   refine Aa (Ay (id := 4) (An ?_))
   refine uv (A0 rfl rfl (CC.Cs ec fv qe)) ?_
   refine um (Aa ?_)
   refine lf ?_
   obtain ⟨se, qn, qo⟩ := BC ql
   refine Qb (p := fun X => Kq K.w0.heap.size 35 3 (DZ LI eP) (qS 3 1 eI) dw az ba bb se X) (LP.Ln (x := (sb, x3.2)) na gu gr ⟨ni, rfl⟩ qn) (pT ((fC (fC (fC fP))).trans (pA ((fC (fC (fC fP))).trans (pA ((fC (fC (fC fP))).trans (pA pR)))))) (lp (lp (lp (ln rfl))))) ?_; intro nj nk
   exact mf (kf (fS (fC fO)) (kf (fS (fC fO)) (ka kn))) ⟨_, mn, se, nj, qo, rfl, rfl, z5, nk⟩
  obtain rfl := CC.zero ec fv
  rw [Dz] at ft
  refine AI (Am (Am ?_))
  refine At ?_
  clear ft
  exact mi (kc (kc kn)) ⟨rfl, rfl, z2⟩
 refine AJ (uv (AZ (cs := #[sL cr l.length ct, sL cu l2.length cv, vI n, vI n2, sL cw l3.length cx]) isAgg26 sizeOf26 rfl (Has.own 0 rfl) (B2 rfl) rfl) (uv (AZ (cs := #[sL Aj walks.length Ai, sL Ak Af.length Al, vI Ae, vI start, sL Ad Ab.length Ac]) isAgg26 sizeOf26 rfl (Has.own 1 rfl) (B2 rfl) rfl) ?_))
 obtain ⟨vc, qp, qq⟩ := Av mj
 refine cV call24 (CX bj bz dg ab ad aa qp) (um ?_)
 obtain ⟨nn, qs⟩ := AB qq
 refine nB nn ?_
 obtain ⟨vd, qt, qu⟩ := Av qs
 refine cV call14 (B0 qt) (uv (AF (Gl rfl nn) rfl) ?_)
 refine ua (Aa ?_)
 refine kW kn (AA (C3 results5 ?_))
 obtain rfl := AP qu
 exact rfl
end Go.Proofs.YtbeeigejcihadaaGreat
