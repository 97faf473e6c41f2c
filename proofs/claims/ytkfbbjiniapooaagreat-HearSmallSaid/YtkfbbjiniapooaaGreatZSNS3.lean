/- The walks that this claim needs, printed by a program of mine; part 3. -/
import Derived.Test.YtkfbbjiniapooaaGreatZSNS2
namespace Go.Proofs.YtkfbbjiniapooaaGreat
open Go.SH Go.PL
open Tryz 
variable {Dk Dm Ur U8 OZ OK QO Qt : Array Value} {F : FS} {Dl UP KO QI : FuncId} {a b most r2 AF wide AK : Int} {f so : Int → Option Bool} {count : Int → Option Int} {FB : LH} {AI l Ac s_ seq : List Int} {Cg A4 Mm Ae B9 DS Gq : Nat} {Ce A3 Mq Af Cp : Option Addr}
theorem IH : ∀ (fu : Nat) {aa : Option Addr} {ab : Nat} {ad : List Int} {many : Int} {F : FS} (_ : AL 1 (iE .i64) F aa ab ad) {r : List (List Int)} , CC fu ad many = some r → SH.Spec Tryz.prog 84 #[.slice aa ad.length ab, .int .i64 many] F [] fun F' L' v => ∃ (ra : Option Addr) (rn : Nat) (rc : Nat) (rL : LH), v = .slice ra rn rc ∧ L' = rL ++ [] ∧ AN 0 22 1 (Ol 1 (iE .i64)) F' ra rn rc r rL := by
  intro fu
  induction fu with
  | zero => intros; rename_i hr; rw [CC] at hr; cases hr
  | succ fu ih => intros; rename_i hr; rw [CC] at hr; exact Mt ih (by assumption) hr
set_option maxHeartbeats 1000000 in
theorem HF (aa : AL 1 (iE .i64) F Af Ae Ac) {r : List Int} (hr : D3 wide Ac = some r) :
    SH.Spec Tryz.prog 85 #[.agg #[.int .i64 wide, .slice Af Ac.length Ae]] F [] fun F' L' v => ∃ (ra : Option Addr) (rn : Nat) (rc : Nat) (rL : LH), v = .slice ra rn rc ∧ L' = rL ++ [] ∧ AN 0 3 1 (iE .i64) F' ra rn rc r rL := by
 refine sp func85 ntmps85 fun K _ _ => ?_
 rw [D3] at hr
 refine AM ?_
 refine Bu rfl rfl ?_; intro b1 bz
 refine ua (BX (ua (Aa ?_)))
 obtain ⟨out, h8, r9⟩ := Aw hr
 refine AQ (fun e1 F1 L1 => ∃ (a2 : Option Addr) (n6 : Nat) (c3 : Nat) (aq : LH), F = F1 ∧ L1 = (aq ++ []) ∧ e1.sub [(3, .slice a2 n6 c3)] ∧ AN K.w0.heap.size 3 1 (iE .i64) F1 a2 n6 c3 out aq) ?_ ?_
 ·clear r9
  refine AM (ua (Aa ?_))
  refine Aq ?_
  refine A9 (fun bc e1 F1 L1 => LA Ac bc fun tl p => ∃ (ad : List Int) (Nv : Option Addr) (ah : Nat) (FE : Nat) (ab : LH), Cj tl p ad = some out ∧ F = F1 ∧ L1 = ((b1, ce #[.int .i64 wide, .slice Af Ac.length Ae] 45) :: (ab ++ [])) ∧ e1.sub [(1, .pointer (some ⟨b1, 0, none⟩)), (3, .slice Nv ah FE), (4, .int .i64 p)] ∧ AN K.w0.heap.size 3 1 (iE .i64) F1 Nv ah FE ad ab) _ (m0 (kc (ke kr)) ⟨_, _, rfl, BO.start _, [], none, 0, 0, [], h8, rfl, rfl, z3, AN.nil _ _ _ _ _⟩) ?_
  rintro bc e1 _ _ ⟨tl, p, ai, ae, ad, Nv, ah, FE, ab, aj, rfl, rfl, ar, af⟩
  refine Az _ ar ?_
  refine Ar (AM (um ?_))
  refine uv (Am C0 rfl) (uv (Ao isAgg22 rfl (Has.own 0 rfl) rfl) (uv (AX underlying22 rfl) (uv (A7 rfl rfl) (Aa ?_))))
  refine cQ (fun Jj => ?_) fun Jj => ?_
  ·obtain ⟨x, ca, rfl, au, bg, ak⟩ := BO.succ ae Jj
   rw [Cj] at aj
   refine Al (Ar ?_)
   refine Aq (AM (uv (Am C0 rfl) (uv (Ao isAgg22 rfl (Has.own 0 rfl) rfl) (um ?_))))
   obtain ⟨cb, cc, Mi, bj, av, aw, bh, rfl, bk, ax⟩ := AL.at (Ad _) aa ((b1, ce #[.int .i64 wide, .slice Af Ac.length Ae] 45) :: (ab ++ [])) bg.1 au
   refine uv (AA underlying22 sizeOf3 rfl av rfl bg) (uv (Ao isAgg3 rfl aw (ax 0 (by decide))) (uv (Bv rfl rfl) (Aa ?_)))
   refine cQ (fun ay => ?_) fun ay => ?_
   ·have bl := AO aj ay
    refine Ak (um (um ?_))
    refine bA (cs := #[.int .i64 p]) Br [.int .i64 p] ?_; intro Qr bm
    obtain ⟨ao, bn, bo, bp⟩ := E9 bl
    refine DB (xs := ad) (ys := [p]) (zs := ao) rfl Br rfl rfl (Nat.le_refl _) (fun _ => .c (.c .h)) af (GO.box (vss := [[.int .i64 p]]) (ys := [p]) 0 rfl (Ad _) (.cons rfl .nil) rfl rfl) bn bo (by decide) ?_; intro bq br bu az ba
    refine kO (kd kr) ?_
    refine ua (Aa (Av (id := 1) (Ak (um ?_))))
    refine uv (A1 rfl rfl (BO.DZ ae Jj (AL.lt aa))) ?_
    refine ua (Aa ?_)
    subst ai; exact le kr ⟨_, _, rfl, ak, ao, bq, br, bu, az, bp, rfl, rfl, z3, ba⟩
   have bw := AP aj ay
   refine Al (Av (id := 1) (Ak (um ?_)))
   refine uv (A1 rfl rfl (BO.DZ ae Jj (AL.lt aa))) ?_
   refine ua (Aa ?_)
   subst ai; exact le kr ⟨_, _, rfl, ak, ad, Nv, ah, FE, ab, bw, rfl, rfl, z3, af⟩
  obtain rfl := BO.zero ae Jj
  rw [Cj] at aj
  refine AR (Aj (Aj ?_))
  refine Ay ?_
  obtain rfl := AH aj
  exact mi (kd kr) ⟨Nv, ah, FE, ab, rfl, rfl, z1, af⟩
 rintro e1 _ _ ⟨a2, n6, c3, aq, rfl, rfl, bb, bx⟩
 refine Az _ bb ?_
 refine AM (um (ua (Aa (Ap ?_))))
 refine B2 results85 ?_
 obtain rfl := AH r9
 exact ⟨_, _, _, _, rfl, rfl, bx.any⟩
set_option maxHeartbeats 1000000 in
theorem H6 {Bl : List (List Int)} {aa : Option Addr} {ab : Nat} {BC : List Int} (ai : AL 1 (Ol 1 (iE .i64)) F Ce Cg Bl) (ae : AL 1 (iE .i64) F A3 A4 AI) (ad : AL 1 (iE .i64) F aa ab BC) {r : Int} (hr : DV Bl AI BC = some r) :
    Bz Tryz.prog 86 #[.slice Ce Bl.length Cg, .slice A3 AI.length A4, .slice aa BC.length ab] F (.int .i64 r) := by
 refine sp func86 ntmps86 fun K _ _ => ?_
 rw [DV] at hr
 refine AM (ua (BX (ua (Aa ?_))))
 obtain ⟨n, h1, r2⟩ := Aw hr
 refine jE ([]) [(7, .int .i64 n)] ?_ ?_
 ·clear r2
  refine AM (ua (Aa ?_))
  refine Aq ?_
  refine A9 (fun bm e1 F1 L1 => LA AI bm fun tl i => ∃ (n2 : Int), CT Bl BC tl n2 = some n ∧ F = F1 ∧ L1 = [] ∧ e1.sub [(0, .slice Ce Bl.length Cg), (1, .slice A3 AI.length A4), (2, .slice aa BC.length ab), (7, .int .i64 n2), (8, .int .i64 i)]) _ (m0 kr ⟨_, _, rfl, BO.start _, 0, h1, rfl, rfl, z5⟩) ?_
  rintro bm e1 _ _ ⟨tl, i, cb, aq, n2, r5, rfl, rfl, cc⟩
  refine Az _ cc ?_
  refine Ar (AM (um (um ?_)))
  refine uv (AX underlying22 rfl) (uv (A7 rfl rfl) (Aa ?_))
  refine cQ (fun c8 => ?_) fun c8 => ?_
  ·obtain ⟨x, df, rfl, ar, bn, cd⟩ := BO.succ aq c8
   rw [CT] at r5
   refine Al ?_
   obtain ⟨n3, cf, bo⟩ := Aw r5
   refine jE ([]) [(0, .slice Ce Bl.length Cg), (1, .slice A3 AI.length A4), (2, .slice aa BC.length ab), (7, .int .i64 n3), (8, .int .i64 i)] ?_ ?_
   ·clear bo
    refine Aq ?_
    refine AM (ua (Aa ?_))
    obtain ⟨bp, cg, au⟩ := Aw cf
    refine jE ([]) [(0, .slice Ce Bl.length Cg), (1, .slice A3 AI.length A4), (2, .slice aa BC.length ab), (7, .int .i64 n2), (8, .int .i64 i), (9, .bool bp)] ?_ ?_
    ·clear au
     refine AM (ua (Aa ?_))
     refine Aq ?_
     refine A9 (fun bq e1 F1 L1 => LA BC bq fun br k => ∃ (af : Bool), CA Bl x br af = some bp ∧ F = F1 ∧ L1 = [] ∧ e1.sub [(0, .slice Ce Bl.length Cg), (1, .slice A3 AI.length A4), (2, .slice aa BC.length ab), (7, .int .i64 n2), (8, .int .i64 i), (9, .bool af), (10, .int .i64 k)]) _ (m0 kr ⟨_, _, rfl, BO.start _, false, cg, rfl, rfl, z7⟩) ?_
     rintro bq e1 _ _ ⟨br, k, aj, ah, af, ak, rfl, rfl, av⟩
     refine Az _ av ?_
     refine Ar (AM (um (um ?_)))
     refine uv (AX underlying22 rfl) (uv (A7 rfl rfl) (Aa ?_))
     refine cQ (fun Jj => ?_) fun Jj => ?_
     ·obtain ⟨x2, dg, rfl, aw, bu, ao⟩ := BO.succ ah Jj
      rw [CA] at ak
      refine Al (Ar ?_)
      refine Aq (Iv (by kernel_rfl) (by kernel_rfl) (by kernel_rfl) ?_)
      refine wm (wm ?_)
      rcases Bf af with Jk | Jk
      ·have cj := bt ak Jk
       refine AE (b' := true) 24 rfl (Er rfl Jk) rfl rfl (AE (b' := true) 24 rfl (Er rfl Jk) rfl rfl (AE (b' := true) 24 rfl (Er rfl Jk) rfl rfl (AE (b' := true) 24 rfl (Er rfl Jk) rfl rfl (AE (b' := true) 24 rfl (Er rfl Jk) rfl rfl (AE (b' := true) 24 rfl (Er rfl Jk) rfl rfl (AE (b' := true) 24 rfl (Er rfl Jk) rfl rfl (AE (b' := true) 24 rfl (Er rfl Jk) rfl rfl (AE (b' := true) 24 rfl (Er rfl Jk) rfl rfl (AE (b' := true) 24 rfl (Er rfl Jk) rfl rfl ?_)))))))))
       refine AE (b' := true) 24 rfl (Er rfl Jk) rfl rfl (AE (b' := true) 24 rfl (Er rfl Jk) rfl rfl ?_)
       refine wv (Au (Es rfl Jk) rfl) ?_
       refine wa (BD (Av (id := 3) (Ak (um ?_))))
       refine uv (A1 rfl rfl (BO.DZ ah Jj (AL.lt ad))) ?_
       refine ua (Aa ?_)
       subst aj; exact le kr ⟨_, _, rfl, ao, true, cj, rfl, rfl, z7⟩
      have cn := bf ak Jk
      refine AS (b := false) 24 rfl (Er rfl Jk) (wm (AS (b := false) 24 rfl (Er rfl Jk) (wm (AS (b := false) 24 rfl (Er rfl Jk) (wm (AS (b := false) 24 rfl (Er rfl Jk) ?_))))))
      obtain ⟨dh, di, dk, cp, ax, ay, bw, rfl, cq, az⟩ := AL.at (Ad _) ae ([]) bn.1 ar
      refine wv (AA underlying22 sizeOf3 rfl ax rfl bn) (AS (b := false) 24 rfl (Er rfl Jk) (wv (Ao isAgg3 rfl ay (az 0 (by decide))) (AS (b := false) 24 rfl (Er rfl Jk) ?_)))
      obtain ⟨x3, bx, ba, cr⟩ := Bj cn
      obtain ⟨dm, dn, dp, ct, bb, bc, bz, ⟨dq, dr, rfl, cu⟩, cv, bg⟩ := AL.at (CP (Ad _)) ai ([]) bx.1 ba
      refine wv (AA underlying70 sizeOf22 rfl bb rfl bx) (AS (b := false) 24 rfl (Er rfl Jk) (wv (Ao isAgg22 rfl bc (bg 0 (by decide))) ?_))
      refine AS (b := false) 24 rfl (Er rfl Jk) (wm (AS (b := false) 24 rfl (Er rfl Jk) (wm (AS (b := false) 24 rfl (Er rfl Jk) ?_))))
      obtain ⟨dt, du, dv, cw, bh, bj, ca, rfl, cx, bk⟩ := AL.at (Ad _) ad ([]) bu.1 aw
      refine wv (AA underlying22 sizeOf3 rfl bh rfl bu) (AS (b := false) 24 rfl (Er rfl Jk) (wv (Ao isAgg3 rfl bj (bk 0 (by decide))) (AS (b := false) 24 rfl (Er rfl Jk) ?_)))
      obtain ⟨ok, cy, cz⟩ := Aw cr
      refine Dx rfl call96 rfl rfl rfl (H3 cu cy) (wv (At (Es rfl Jk) rfl) ?_)
      refine wa (BD (Av (id := 3) (Ak (um ?_))))
      refine uv (A1 rfl rfl (BO.DZ ah Jj (AL.lt ad))) ?_
      refine ua (Aa ?_)
      subst aj; exact le kr ⟨_, _, rfl, ao, ok, cz, rfl, rfl, z7⟩
     obtain rfl := BO.zero ah Jj
     rw [CA] at ak
     refine AR (Aj (Aj ?_))
     refine Ay ?_
     obtain rfl := AH ak
     exact mi kr ⟨rfl, rfl, z6⟩
    refine AM (um (Aa ?_))
    refine AU rfl (fun bl => ?_) (fun bl => ?_)
    ·have da := bt au bl
     refine Ak (um ?_)
     obtain ⟨db, dd⟩ := AW da
     refine uv (A1 rfl rfl db) ?_
     refine ua (Aa (Av (id := 1) ?_))
     obtain rfl := AH dd
     exact mi kr ⟨rfl, rfl, z5⟩
    have de := bf au bl
    refine Al (Av (id := 1) ?_)
    obtain rfl := AH de
    exact mi kr ⟨rfl, rfl, z5⟩
   refine Ak (um ?_)
   refine uv (A1 rfl rfl (BO.DZ aq c8 (AL.lt ae))) ?_
   refine ua (Aa ?_)
   subst cb; exact le kr ⟨_, _, rfl, cd, n3, bo, rfl, rfl, z5⟩
  obtain rfl := BO.zero aq c8
  rw [CT] at r5
  refine AR (Aj (Aj ?_))
  refine Ay ?_
  obtain rfl := AH r5
  exact mi kr ⟨rfl, rfl, z1⟩
 refine AM (um (ua (Aa (Ap ?_))))
 refine B2 results86 ?_
 obtain rfl := AH r2
 exact rfl
set_option maxHeartbeats 1000000 in
theorem Mw (ab : AL 1 (iE .i64) F Af Ae Ac) (aa : AL 1 (iE .i64) F A3 A4 AI) {r : List Int} (hr : DP wide Ac AK AF AI = some (r, r2)) :
    SH.Spec Tryz.prog 44 #[.agg #[.int .i64 wide, .slice Af Ac.length Ae], .int .i64 AK, .int .i64 AF, .slice A3 AI.length A4] F [] fun F' L' v => ∃ (ra : Option Addr) (rc : Nat), v = .tuple #[.slice ra r.length rc, .int .i64 r2] ∧ L' = [] ∧ AL 1 (iE .i64) F' ra rc r := by
 refine sp func44 ntmps44 fun K _ _ => ?_
 rw [DP] at hr
 refine AM ?_
 refine Bu rfl rfl ?_; intro b1 dp
 refine ua (ua (Aa (Ar (AM ?_))))
 refine uv (As isAgg45 sizeOf45 rfl (Has.own 0 rfl) (Be rfl) rfl) ?_
 refine um (um (um ?_))
 obtain ⟨n, h2, r3⟩ := Aw hr
 refine cV call51 (FN ab aa h2) ?_
 refine ua (BX (um ?_))
 refine uv (Bo rfl rfl) (Aa ?_)
 refine cQ (fun c4 => ?_) fun c4 => ?_
 ·have r5 := AO r3 c4
  refine AM (um (ua (ua (Aa ?_))))
  refine kW kn ?_
  refine Ap (Ah ?_)
  refine Ba results44 (AG rfl) (AG rfl) (sr) ?_
  obtain ⟨rfl, rfl⟩ := BK r5
  exact ⟨_, _, rfl, rfl, AL.nil _ _ _⟩
 have r6 := AP r3 c4
 refine Al (AM ?_)
 refine uv (As isAgg45 sizeOf45 rfl (Has.own 0 rfl) (Be rfl) rfl) ?_
 refine um (um ?_)
 obtain ⟨l, h7, r8⟩ := Aw r6
 refine c0 call35 (Gz ab h7) ?_; rintro _ F9 _ au cd ⟨TS, OV, rfl, rfl, ae⟩
 replace ab := ab.mono (Ad _) au
 replace aa := aa.mono (Ad _) au
 refine AJ (ln rfl) ?_
 refine ua (Aa (Ar (AM (um (um ?_)))))
 obtain ⟨ok, cf, bw⟩ := Aw r8
 refine cV call83 (KE ae aa cf) (Aa ?_)
 refine AU rfl (fun KW => ?_) (fun KW => ?_)
 ·have cg := bt bw KW
  refine AM (ua (ua (Aa ?_)))
  refine kW kn ?_
  refine Ap (Ah ?_)
  refine Ba results44 (AG rfl) (AG rfl) (sr) ?_
  obtain ⟨rfl, rfl⟩ := BK cg
  exact ⟨_, _, rfl, rfl, AL.nil _ _ _⟩
 have cj := bf bw KW
 refine Al (AM (ua (Aa ?_)))
 refine Aq ?_
 refine A9 (fun ar e1 F1 L1 => ∃ (many : Int), Ca wide Ac AI l ar many = some (r, r2) ∧ AY F9 F1 ∧ L1 = [(b1, ce #[.int .i64 wide, .slice Af Ac.length Ae] 45)] ∧ e1.sub [(3, .slice A3 AI.length A4), (4, .pointer (some ⟨b1, 0, none⟩)), (11, .slice TS l.length OV), (12, .int .i64 many)]) FU (m0 kr ⟨0, cj, AY.refl _, rfl, z4⟩) ?_
 rintro ar e1 cn _ ⟨many, aw, af, rfl, ba⟩
 refine Az _ ba ?_
 replace ab := ab.mono (Ad _) af
 replace aa := aa.mono (Ad _) af
 replace ae := ae.mono (CP (Ad _)) af
 rcases ar with _ | ar
 ·rw [Ca] at aw; cases aw
 rw [Ca] at aw
 refine AQ (fun e1 F1 L1 => ER many (Ca wide Ac AI l ar) = some (r, r2) ∧ AY cn F1 ∧ L1 = [(b1, ce #[.int .i64 wide, .slice Af Ac.length Ae] 45)] ∧ e1.sub [(3, .slice A3 AI.length A4), (4, .pointer (some ⟨b1, 0, none⟩)), (11, .slice TS l.length OV), (12, .int .i64 many)]) ?_ ?_
 ·refine Aq (AM (uv (As isAgg45 sizeOf45 rfl (Has.own 0 rfl) (Be rfl) rfl) ?_))
  obtain ⟨l2, cp, cq⟩ := Aw aw
  refine c0 call85 (HF ab cp) ?_; rintro _ dq _ ai bb ⟨dr, dt, du, cr, rfl, rfl, ah⟩
  replace aa := aa.mono (Ad _) ai
  replace ae := ae.mono (CP (Ad _)) ai
  replace ah := ah.new fun p hp => bb p (by simp [hp])
  refine AJ (lp (ln rfl)) (kO (kf (fS fO) kr) (um ?_))
  obtain rfl := (AN.Bm ah).1
  refine FL (Nat.le_refl _) (Ad _) (fC fP) ah ?_; intro dv aj ct
  replace aa := aa.mono (Ad _) aj
  replace ae := ae.mono (CP (Ad _)) aj
  obtain ⟨l3, cu, cv⟩ := Aw cq
  refine c0 call84 ((IH FU) ct cu) ?_; rintro _ cw _ ak bc ⟨cx, cy, cz, ao, rfl, rfl, ad⟩
  replace aa := aa.mono (Ad _) ak
  replace ae := ae.mono (CP (Ad _)) ak
  replace ad := ad.new fun p hp => bc p (by simp [hp])
  refine AJ (lp (ln rfl)) (kO (kf (fS fO) kr) ?_)
  refine ua (BX (ua (Aa ?_)))
  refine Aq ?_
  refine A9 (fun bx e1 F1 L1 => LA l3 bx fun tl i => Cx AI l many (Ca wide Ac AI l ar) tl = some (r, r2) ∧ cw = F1 ∧ L1 = ((b1, ce #[.int .i64 wide, .slice Af Ac.length Ae] 45) :: (ao ++ [])) ∧ e1.sub [(3, .slice A3 AI.length A4), (4, .pointer (some ⟨b1, 0, none⟩)), (11, .slice TS l.length OV), (12, .int .i64 many), (13, .slice cx cy cz), (14, .int .i64 i)]) _ (m0 kr ⟨_, _, rfl, BO.start _, cv, rfl, rfl, z6⟩) ?_
  rintro bx e1 _ _ ⟨tl, i, bg, aq, ax, rfl, rfl, bh⟩
  refine Az _ bh ?_
  refine Ar (AM (um (um ?_)))
  refine uv ((AX underlying70 rfl).i (AN.HH ad)) (uv (A7 rfl rfl) (Aa ?_))
  refine cQ (fun ay => ?_) fun ay => ?_
  ·obtain ⟨x, dw, rfl, av, az, bj⟩ := BO.succ aq ay
   rw [Cx] at ax
   refine Al (Ar ?_)
   refine Aq ?_
   refine AM (um (um (um (um ?_))))
   obtain ⟨Pr, dx, dy, da, bk, bl, bz, ⟨dz, eb, rfl, db⟩, dd, bm⟩ := AN.at (CP (Ad _)) ad (L := (b1, ce #[.int .i64 wide, .slice Af Ac.length Ae] 45) :: (ao ++ [])) (fC fP) az.1 av
   refine uv (AA underlying70 sizeOf22 rfl bk rfl (AN.idx ad az)) (uv (Ao isAgg22 rfl bl (bm 0 (by decide))) ?_)
   obtain ⟨n2, de, ca⟩ := Aw ax
   refine cV call86 (H6 ae aa db de) (um (uv (AX underlying22 rfl) (uv (Bv rfl rfl) (Aa ?_))))
   refine cQ (fun bn => ?_) fun bn => ?_
   ·have df := AO ca bn
    refine AM (um (um ?_))
    obtain ⟨eg, eh, ei, dg, bo, bp, cb, ⟨ej, en, rfl, dh⟩, di, bq⟩ := AN.at (CP (Ad _)) ad (L := (b1, ce #[.int .i64 wide, .slice Af Ac.length Ae] 45) :: (ao ++ [])) (fC fP) az.1 av
    refine uv (AA underlying70 sizeOf22 rfl bo rfl (AN.idx ad az)) (uv (Ao isAgg22 rfl bp (bq 0 (by decide))) ?_)
    refine ua (ua (Aa ?_))
    refine kW kn ?_
    refine Ap (AB (Ah (Ah (AB (AB (Ah (Ah (AB ?_))))))))
    refine Ba results44 (AG rfl) (AG rfl) (sr) ?_
    obtain ⟨rfl, rfl⟩ := BK df
    exact ⟨_, _, rfl, rfl, dh⟩
   have dk := AP ca bn
   refine Al (Av (id := 3) (Ak (um ?_)))
   refine uv (A1 rfl rfl (BO.DZ aq ay (AN.R5 ad))) ?_
   refine ua (Aa ?_)
   subst bg; exact le kr ⟨_, _, rfl, bj, dk, rfl, rfl, z6⟩
  obtain rfl := BO.zero aq ay
  rw [Cx] at ax
  refine AR (Aj (Aj ?_))
  refine Ay (Av (id := 1) ?_)
  exact mi (kc kn) ⟨ax, ((ai.trans aj).trans ak), rfl, z4⟩
 rintro e1 eo _ ⟨cc, br, rfl, bu⟩
 refine Az _ bu ?_
 rw [ER] at cc
 refine Ak (um ?_)
 obtain ⟨dm, dn⟩ := AW cc
 refine uv (A1 rfl rfl dm) ?_
 refine ua (Aa ?_)
 exact le kr ⟨many + 1, dn, (af.trans br), rfl, z4⟩
theorem Ll {x : Int} {r : Bool} (hr : HM x = some r) :
    Bz Tryz.prog 140 #[.int .i64 x] F (.bool r) := by
 refine sp func140 ntmps140 fun K _ _ => ?_
 rw [HM] at hr
 refine AM (ua (BX (um (um ?_))))
 refine uv (Bo rfl rfl) ?_
 refine ua (Aa (Ap ?_))
 refine B2 results140 ?_
 obtain rfl := AH hr
 exact rfl
theorem O6 {x y : Int} {r : Bool} (hr : Iz x y = some r) :
    Bz Tryz.prog 127 #[.int .i64 x, .int .i64 y] F (.bool r) := by
 refine sp func127 ntmps127 fun K _ _ => ?_
 rw [Iz] at hr
 refine AM (ua (BX (um ?_)))
 obtain ⟨ok, h1, r2⟩ := Aw hr
 refine cV call140 (Ll h1) (um ?_)
 rcases Bf ok with c3 | c3
 ·have r4 := bt r2 c3
  refine nB c3 (um (nB c3 ?_))
  obtain ⟨aa, h5, r6⟩ := Aw r4
  refine cV call140 (Ll h5) (nB c3 (uv (Cf rfl) (uv (Au (Es rfl c3) rfl) (um ?_))))
  rcases Bf (!aa) with c7 | c7
  ·have r8 := bt r6 c7
   refine fB c7 (fB c7 (fB c7 ?_))
   refine uv (Au (Es rfl c7) rfl) ?_
   refine ua (Aa (Ap ?_))
   refine B2 results127 ?_
   obtain rfl := AH r8
   exact rfl
  have r9 := bf r6 c7
  refine nB c7 (um (nB c7 (um (nB c7 ?_))))
  refine uv (A7 rfl rfl) (uv (At (Es rfl c7) rfl) ?_)
  refine ua (Aa (Ap ?_))
  refine B2 results127 ?_
  obtain rfl := AH r9
  exact rfl
 have ab := bf r2 c3
 refine fB c3 (fB c3 (fB c3 ?_))
 refine uv (At (Es rfl c3) rfl) ?_
 refine um (NC (b := false) 12 rfl rfl (um (NC (b := false) 12 rfl rfl (um (NC (b := false) 12 rfl rfl ?_)))))
 refine uv (A7 rfl rfl) (uv (At rfl rfl) ?_)
 refine ua (Aa (Ap ?_))
 refine B2 results127 ?_
 obtain rfl := AH ab
 exact rfl
set_option maxHeartbeats 1000000 in
theorem It (bb : AN Gq 3 1 (iE .i64) F Cp DS B9 s_ FB) {r : List Int} (hr : Cu s_ a b = some r) :
    SH.Spec Tryz.prog 121 #[.slice Cp DS B9, .int .i64 a, .int .i64 b] F (FB ++ []) fun F' L' v => ∃ (rL : LH), v = .tuple #[] ∧ L' = rL ++ [] ∧ AN Gq 3 1 (iE .i64) F' Cp DS B9 r rL := by
 refine sp func121 ntmps121 fun K _ _ => ?_
 rw [Cu] at hr
 refine IB (L' := FB ++ []) (by simp) ?_
 refine AM (um ?_)
 obtain ⟨g1, r2⟩ := AW hr
 refine uv (A1 rfl rfl g1) ?_
 refine ua (Aa ?_)
 refine Aq ?_
 obtain ⟨g5, r6⟩ := AW r2
 refine A9 (fun ax e1 F1 L1 => ∃ (i : Int), DD (a + 1) b i ax ∧ ∃ (data : List Int) (ay : LH), By a ax i data = some r ∧ F = F1 ∧ L1 = (ay ++ []) ∧ e1.sub [(0, .slice Cp DS B9), (1, .int .i64 a), (2, .int .i64 b), (6, .int .i64 i)] ∧ AN Gq 3 1 (iE .i64) F1 Cp DS B9 data ay) _ (m0 kr ⟨_, DD.start _ _, s_, FB, r6, rfl, rfl, z4, bb⟩) ?_
 rintro ax e1 _ _ ⟨i, bc, data, ay, r9, rfl, rfl, bg, da⟩
 refine Az _ bg ?_
 refine Ar (AM (um (um ?_)))
 refine uv (A7 rfl rfl) (Aa ?_)
 refine cQ (fun Lv => ?_) fun Lv => ?_
 ·obtain ⟨ax, rfl, bh⟩ := DD.succ bc Lv
  rw [By] at r9
  refine Al ?_
  obtain ⟨ad, du, db⟩ := Aw r9
  refine AQ (fun e1 F1 L1 => ∃ (ah : LH), F = F1 ∧ L1 = (ah ++ []) ∧ e1.sub [(0, .slice Cp DS B9), (1, .int .i64 a), (2, .int .i64 b), (6, .int .i64 i)] ∧ AN Gq 3 1 (iE .i64) F1 Cp DS B9 ad ah) ?_ ?_
  ·clear db
   refine Aq ?_
   refine AM (um (ua (Aa ?_)))
   refine Aq ?_
   refine A9 (fun az e1 F1 L1 => ∃ (ae : List Int) (j : Int) (aa : LH), Bp a az ae j = some ad ∧ F = F1 ∧ L1 = (aa ++ []) ∧ e1.sub [(0, .slice Cp DS B9), (1, .int .i64 a), (2, .int .i64 b), (6, .int .i64 i), (7, .int .i64 j)] ∧ AN Gq 3 1 (iE .i64) F1 Cp DS B9 ae aa) FU (m0 kr ⟨data, i, ay, du, rfl, rfl, z5, da⟩) ?_
   rintro az e1 _ _ ⟨ae, j, aa, ba, rfl, rfl, bj, ab⟩
   refine Az _ bj ?_
   rcases az with _ | az
   ·rw [Bp] at ba; cases ba
   rw [Bp] at ba
   refine Ar ?_
   obtain ⟨k, dd, bk⟩ := Aw ba
   refine jE ((aa ++ [])) [(0, .slice Cp DS B9), (1, .int .i64 a), (2, .int .i64 b), (6, .int .i64 i), (7, .int .i64 j), (30, .bool k)] ?_ ?_
   ·clear bk
    refine Iv (by kernel_rfl) (by kernel_rfl) (by kernel_rfl) ?_
    refine wm (wm ?_)
    refine wv (Ex rfl rfl) (wm ?_)
    by_cases JE : a < j
    ·have dv := AO dd JE
     refine AS (b := true) 19 rfl (Env.DX rfl JE) (wm (AS (b := true) 19 rfl (Env.DX rfl JE) (wm (AS (b := true) 19 rfl (Env.DX rfl JE) ?_))))
     obtain ⟨x, de, bl, dw⟩ := Bj dv
     obtain ⟨fq, fs, ft, dx, bm, bn, df, rfl, dy, bo⟩ := AN.at (Ad _) ab (L := aa ++ []) fP de.1 bl
     refine wv (AA underlying22 sizeOf3 rfl bm rfl (AN.idx ab de)) (AS (b := true) 19 rfl (Env.DX rfl JE) (wv (Ao isAgg3 rfl bn (bo 0 (by decide))) ?_))
     refine AS (b := true) 19 rfl (Env.DX rfl JE) (wm (AS (b := true) 19 rfl (Env.DX rfl JE) (wm (AS (b := true) 19 rfl (Env.DX rfl JE) ?_))))
     obtain ⟨dz, eb⟩ := AW dw
     refine wv (FD rfl rfl dz) (AS (b := true) 19 rfl (Env.DX rfl JE) ?_)
     obtain ⟨x2, dg, bp, eg⟩ := Bj eb
     obtain ⟨Yz, fv, fw, eh, bq, br, dh, rfl, ei, bu⟩ := AN.at (Ad _) ab (L := aa ++ []) fP dg.1 bp
     refine wv (AA underlying22 sizeOf3 rfl bq rfl (AN.idx ab dg)) (AS (b := true) 19 rfl (Env.DX rfl JE) (wv (Ao isAgg3 rfl br (bu 0 (by decide))) (AS (b := true) 19 rfl (Env.DX rfl JE) ?_)))
     obtain ⟨ok, ej, en⟩ := Aw eg
     refine Dx rfl call127 rfl rfl rfl (O6 ej) (wv (Au (A5 rfl JE) rfl) (BD ?_))
     obtain rfl := AH en
     exact mi kr ⟨rfl, rfl, z6⟩
    have eo := AP dd JE
    refine AE (b' := false) 19 rfl (Env.DY rfl JE) rfl rfl (AE (b' := false) 19 rfl (Env.DY rfl JE) rfl rfl (AE (b' := false) 19 rfl (Env.DY rfl JE) rfl rfl (AE (b' := false) 19 rfl (Env.DY rfl JE) rfl rfl (AE (b' := false) 19 rfl (Env.DY rfl JE) rfl rfl (AE (b' := false) 19 rfl (Env.DY rfl JE) rfl rfl (AE (b' := false) 19 rfl (Env.DY rfl JE) rfl rfl (AE (b' := false) 19 rfl (Env.DY rfl JE) rfl rfl (AE (b' := false) 19 rfl (Env.DY rfl JE) rfl rfl (AE (b' := false) 19 rfl (Env.DY rfl JE) rfl rfl ?_)))))))))
    refine wv (At (AZ rfl JE) rfl) (BD ?_)
    obtain rfl := AH eo
    exact mi kr ⟨rfl, rfl, z6⟩
   refine AU rfl (fun bw => ?_) (fun bw => ?_)
   ·have ep := bt bk bw
    refine Al (Ar ?_)
    refine Aq (CF [(.still, 0), (.still, 1), (.still, 2), (.still, 3), (.still, 4), (.still, 5), (.still, 6), (.still, 7), (.still, 8), (.still, 9), (.still, 10), (.still, 11), (.still, 12), (.still, 13), (.still, 14), (.seq, 15), (.still, 16), (.seq, 17)] (by kernel_rfl) (by kernel_rfl) (trivial) (by rfl) (by kernel_rfl) (mS [0] rfl (Bh rfl) (mS [7] rfl (Bh rfl) (mS [0] rfl (Bh rfl) (mS [7] rfl (Bh rfl) ?_)))))
    obtain ⟨er, et⟩ := AW ep
    refine mS (v := .int .i64 (j - 1)) [36] rfl (FD rfl rfl er) (mS [0] rfl (Bh rfl) (mS [7] rfl (Bh rfl) ?_))
    obtain ⟨eu, ew⟩ := AW et
    refine mS (v := .int .i64 (j - 1)) [39] rfl (FD rfl rfl eu) ?_
    obtain ⟨x3, di, bx, ey⟩ := Bj ew
    obtain ⟨fx, fy, ga, ez, bz, ca, dk, rfl, fa, cb⟩ := AN.at (Ad _) ab (L := aa ++ []) fP di.1 bx
    refine mS [38, 40] rfl (AA underlying22 sizeOf3 rfl bz rfl (AN.idx ab di)) (mL [41] (aa ++ []) rfl (s0 sr) (fun H F' L' cc cd => Ao isAgg3 rfl (ca.ext cc cd) (cb 0 (by decide))) (mS [0] rfl (Bh rfl) (mS [7] rfl (Bh rfl) ?_)))
    obtain ⟨x4, ak, ao, fb⟩ := Bj ey
    obtain ⟨gb, gg, gh, fe, cf, cg, dm, rfl, ff, cj⟩ := AN.at (Ad _) ab (L := aa ++ []) fP ak.1 ao
    refine mS [43, 44] rfl (AA underlying22 sizeOf3 rfl cf rfl (AN.idx ab ak)) (mL [45] (aa ++ []) rfl (s0 sr) (fun H F' L' cc cd => Ao isAgg3 rfl (cg.ext cc cd) (cj 0 (by decide))) ?_)
    obtain ⟨fg, fh, gi, fi, aq, fj, dn, rfl, fk, fl⟩ := AN.at (Ad _) ab (L := aa ++ []) fP ak.1 ao
    refine mS [33, 34] rfl (AA underlying22 sizeOf3 rfl aq rfl (AN.idx ab ak)) ?_
    refine ⟨_, [(42, .int .i64 x3), (47, .pointer (some ⟨fg, fh + (j : Int).toNat * 1, none⟩))], rfl, rfl, z2, by kernel_rfl, ?_⟩; intro H
    obtain ⟨l, fm, fo⟩ := B8 fb
    refine Cv (u := x3) sizeOf3 (Ad _) rfl aq rfl rfl (fun _ => .h) ab fm ak ?_; intro cn af
    refine Aa ⟨undef, rfl, AY.refl _, [4, 3, 2], by kernel_rfl, .inl (.inr (fun d h => by cases h)), (fc sm (fc sm (fc sm nm))), ?_⟩
    obtain ⟨x5, aj, ar, cp⟩ := Bj fo
    obtain ⟨cq, cr, fp, dp, ai, dq, ct, rfl, dr, dt⟩ := AN.at (Ad _) af (L := cn ++ []) fP aj.1 ar
    refine mS [35, 37] rfl (AA underlying22 sizeOf3 rfl ai rfl (AN.idx af aj)) ?_
    refine ⟨_, [(46, .int .i64 x4), (48, .pointer (some ⟨cq, cr + (j - 1 : Int).toNat * 1, none⟩))], rfl, rfl, z2, by kernel_rfl, ?_⟩; intro H
    obtain ⟨l2, cu, cv⟩ := B8 cp
    refine Cv (u := x4) sizeOf3 (Ad _) rfl ai rfl rfl (fun _ => .h) af cu aj ?_; intro au av
    refine Aa ⟨undef, rfl, AY.refl _, [], by kernel_rfl, .inl (.inl rfl), nm, ?_⟩
    refine DI ?_
    refine Av (id := 3) (Ak (um ?_))
    obtain ⟨cw, cx⟩ := AW cv
    refine uv (FD rfl rfl cw) ?_
    refine ua (Aa ?_)
    exact le kr ⟨l2, j - 1, au, cx, rfl, rfl, z5, av⟩
   have cy := bf bk bw
   refine AR (Aj (Aj ?_))
   refine Ay (Av (id := 1) ?_)
   obtain rfl := AH cy
   exact mi kr ⟨aa, rfl, rfl, z4, ab⟩
  rintro e1 _ _ ⟨ah, rfl, rfl, aw, cz⟩
  refine Az _ aw ?_
  refine Ak (um ?_)
  refine uv (A1 rfl rfl (DD.DZ bc Lv g5)) ?_
  refine ua (Aa ?_)
  exact le kr ⟨_, bh, ad, ah, db, rfl, rfl, z4, cz⟩
 obtain rfl := DD.zero bc Lv
 rw [By] at r9
 refine AR (Aj (Aj ?_))
 refine Ay (QJ (.inr rfl) results121 ?_)
 obtain rfl := AH r9
 exact ⟨_, rfl, rfl, da⟩
set_option maxHeartbeats 1000000 in
theorem M8 {x r : Int} (hr : Jq x = some r) :
    Bz Tryz.prog 131 #[.int .u64 x] F (.int .i64 r) := by
 refine sp func131 ntmps131 fun K _ _ => ?_
 rw [Jq] at hr
 refine AM (ua (Aa ?_))
 obtain ⟨x2, n, h1, r2⟩ := Bs hr
 refine jE ([]) [(0, .int .u64 x2), (2, .int .i64 n)] ?_ ?_
 ·clear r2
  refine AM (um ?_)
  refine uv (JI rfl rfl) (Aa ?_)
  refine cQ (fun c3 => ?_) fun c3 => ?_
  ·have r4 := AO h1 c3
   refine AM (um ?_)
   refine uv (SZ rfl rfl (by decide)) ?_
   refine ua (Aa (Ak (ua (Aa ?_))))
   obtain ⟨rfl, rfl⟩ := BK r4
   exact mi kr ⟨rfl, rfl, z2⟩
  have r5 := AP h1 c3
  refine Al ?_
  obtain ⟨rfl, rfl⟩ := BK r5
  exact mi kr ⟨rfl, rfl, z2⟩
 obtain ⟨x3, n2, h7, r8⟩ := Bs r2
 refine jE ([]) [(0, .int .u64 x3), (2, .int .i64 n2)] ?_ ?_
 ·clear r8
  refine AM (um ?_)
  refine uv (JI rfl rfl) (Aa ?_)
  refine cQ (fun c9 => ?_) fun c9 => ?_
  ·have ae := AO h7 c9
   refine AM (um ?_)
   refine uv (SZ rfl rfl (by decide)) ?_
   refine ua (Aa (Ak (um ?_)))
   obtain ⟨af, ah⟩ := AW ae
   refine uv (A1 rfl rfl af) ?_
   refine ua (Aa ?_)
   obtain ⟨rfl, rfl⟩ := BK ah
   exact mi kr ⟨rfl, rfl, z2⟩
  have ai := AP h7 c9
  refine Al ?_
  obtain ⟨rfl, rfl⟩ := BK ai
  exact mi kr ⟨rfl, rfl, z2⟩
 obtain ⟨x4, n3, ab, ad⟩ := Bs r8
 refine jE ([]) [(0, .int .u64 x4), (2, .int .i64 n3)] ?_ ?_
 ·clear ad
  refine AM (um ?_)
  refine uv (JI rfl rfl) (Aa ?_)
  refine cQ (fun FG => ?_) fun FG => ?_
  ·have aj := AO ab FG
   refine AM (um ?_)
   refine uv (SZ rfl rfl (by decide)) ?_
   refine ua (Aa (Ak (um ?_)))
   obtain ⟨ak, ao⟩ := AW aj
   refine uv (A1 rfl rfl ak) ?_
   refine ua (Aa ?_)
   obtain ⟨rfl, rfl⟩ := BK ao
   exact mi kr ⟨rfl, rfl, z2⟩
  have aq := AP ab FG
  refine Al ?_
  obtain ⟨rfl, rfl⟩ := BK aq
  exact mi kr ⟨rfl, rfl, z2⟩
 refine AM (um (um ?_))
 refine uv (O5 rfl underlying169 underlying5 rfl) ?_
 obtain ⟨x5, ar, aa, au⟩ := Bj ad
 refine uv (Sq underlying9 (congrArg (fun s => some (Value.string s)) Rf) rfl ar.1 aa (Q8 _ (List.mem_of_getElem? aa))) ?_
 obtain ⟨av, aw⟩ := AW au
 refine uv (WT underlying5 underlying3 rfl av) ?_
 obtain ⟨ax, ay⟩ := AW aw
 refine uv (A1 rfl rfl ax) ?_
 refine ua (Aa (Ap ?_))
 refine B2 results131 ?_
 obtain rfl := AH ay
 exact rfl
theorem Oi {x r : Int} (hr : HK x = some r) :
    Bz Tryz.prog 112 #[.int .u64 x] F (.int .i64 r) := by
 refine sp func112 ntmps112 fun K _ _ => ?_
 rw [HK] at hr
 refine AM (ua (Aa (Ar ?_)))
 refine AU rfl (fun c1 => nomatch c1) (fun c1 => ?_)
 refine Al (AM (um ?_))
 obtain ⟨n, h2, r3⟩ := Aw hr
 refine cV call131 (M8 h2) ?_
 refine ua (Aa (Ap ?_))
 refine B2 results112 ?_
 obtain rfl := AH r3
 exact rfl
theorem Jm {rec_ : (List Int) → Int → Int → Int → Option ((List Int))} (_af : ∀ {Cp : Option Addr} {DS B9 : Nat} {FB : LH} {s_ : List Int} {Gq : Nat} {a b aa : Int} {F : FS} (_ : AN Gq 3 1 (iE .i64) F Cp DS B9 s_ FB) {r : List Int} , rec_ s_ a b aa = some r → SH.Spec Tryz.prog 111 #[.slice Cp DS B9, .int .i64 a, .int .i64 b, .int .i64 aa] F (FB ++ []) fun F' L' v => ∃ (rL : LH), v = .tuple #[] ∧ L' = rL ++ [] ∧ AN Gq 3 1 (iE .i64) F' Cp DS B9 r rL) {aa : Int} (ad : AN Gq 3 1 (iE .i64) F Cp DS B9 s_ FB) {r : List Int} (hr : Ea rec_ s_ a b aa = some r) :
    SH.Spec Tryz.prog 111 #[.slice Cp DS B9, .int .i64 a, .int .i64 b, .int .i64 aa] F (FB ++ []) fun F' L' v => ∃ (rL : LH), v = .tuple #[] ∧ L' = rL ++ [] ∧ AN Gq 3 1 (iE .i64) F' Cp DS B9 r rL := by
 refine sp func111 ntmps111 fun K _ _ => ?_
 rw [Ea] at hr
 refine IB (L' := FB ++ []) (by simp) ?_
 refine AM (ua (BX (ua (Aa ?_))))
 refine Aq ?_
 refine A9 (fun ab e1 F1 L1 => B7 s_ a b ab = some r ∧ F = F1 ∧ L1 = (FB ++ []) ∧ e1.sub [(0, .slice Cp DS B9), (1, .int .i64 a), (2, .int .i64 b), (3, .int .i64 aa), (8, .bool true), (9, .bool true)]) FU (m0 kr ⟨hr, rfl, rfl, z6⟩) ?_
 rintro ab e1 _ _ ⟨r3, rfl, rfl, ah⟩
 refine Az _ ah ?_
 rcases ab with _ | ab
 ·rw [B7] at r3; cases r3
 rw [B7] at r3
 refine Aq ?_
 refine AM (um (um ?_))
 obtain ⟨g5, r6⟩ := AW r3
 refine uv (FD rfl rfl g5) ?_
 refine ua (Aa (Ar (AM (um ?_))))
 refine uv (Kp rfl rfl) (Aa ?_)
 obtain ⟨g8, r9⟩ := AW r6
 refine EF rfl (fun c7 => ?_) (fun c7 => absurd g8 c7)
 refine AM (um (um (um ?_)))
 obtain ⟨au, ai, aj⟩ := Aw r9
 refine IG (Lb := FB ++ []) (Lr := []) rfl call121 rfl rfl rfl (pT pR (lp (ln rfl))) (It ad ai) ?_; rintro _ av _ ak ao aq ⟨ar, rfl, rfl, ae⟩
 refine AJ (lp (ln rfl)) ?_
 refine Aa (Ap (Ah (AB (Ah (AB ?_)))))
 refine QJ (.inl rfl) results111 ?_
 obtain rfl := AH aj
 exact ⟨_, rfl, rfl, ae⟩
theorem Jy : ∀ (fu : Nat) {Cp : Option Addr} {DS B9 : Nat} {FB : LH} {s_ : List Int} {Gq : Nat} {a b aa : Int} {F : FS} (_ : AN Gq 3 1 (iE .i64) F Cp DS B9 s_ FB) {r : List Int} , BV fu s_ a b aa = some r → SH.Spec Tryz.prog 111 #[.slice Cp DS B9, .int .i64 a, .int .i64 b, .int .i64 aa] F (FB ++ []) fun F' L' v => ∃ (rL : LH), v = .tuple #[] ∧ L' = rL ++ [] ∧ AN Gq 3 1 (iE .i64) F' Cp DS B9 r rL := by
  intro fu
  induction fu with
  | zero => intros; rename_i hr; rw [BV] at hr; cases hr
  | succ fu ih => intros; rename_i hr; rw [BV] at hr; exact Jm ih (by assumption) hr
theorem IQ (aa : AN Gq 3 1 (iE .i64) F Cp DS B9 s_ FB) {r : List Int} (hr : Eb s_ = some r) :
    SH.Spec Tryz.prog 87 #[.slice Cp DS B9] F (FB ++ []) fun F' L' v => ∃ (rL : LH), v = .tuple #[] ∧ L' = rL ++ [] ∧ AN Gq 3 1 (iE .i64) F' Cp DS B9 r rL := by
 refine sp func87 ntmps87 fun K _ _ => ?_
 rw [Eb] at hr
 refine IB (L' := FB ++ []) (by simp) ?_
 refine AM (um ?_)
 refine uv ((AX underlying22 rfl).i (AN.HH aa)) ?_
 refine ua (Aa (Ak (um (um (um ?_)))))
 refine uv (O5 rfl underlying3 underlying106 rfl) ?_
 obtain ⟨n, h1, r2⟩ := Aw hr
 refine cV call112 (Oi h1) ?_
 obtain ⟨ad, h3, r4⟩ := Aw r2
 refine IG (Lb := FB ++ []) (Lr := []) rfl call111 rfl rfl rfl (pT pR (lp (ln rfl))) ((Jy FU) aa h3) ?_; rintro _ F5 _ ae af ah ⟨ai, rfl, rfl, ab⟩
 refine AJ (lp (ln rfl)) (Aa (QJ (.inr rfl) results87 ?_))
 obtain rfl := AH r4
 exact ⟨_, rfl, rfl, ab⟩
set_option maxHeartbeats 1000000 in
theorem Ki (ab : AN Gq 3 1 (iE .i64) F Cp DS B9 s_ FB) {r : List Int} (hr : D2 s_ = some r) :
    SH.Spec Tryz.prog 88 #[.slice Cp DS B9] F (FB ++ []) fun F' L' v => ∃ (ra : Option Addr) (rn : Nat) (rc : Nat) (rL : LH), v = .slice ra rn rc ∧ L' = rL ++ [] ∧ AN Gq 3 1 (iE .i64) F' ra rn rc r rL := by
 refine sp func88 ntmps88 fun K _ _ => ?_
 rw [D2] at hr
 refine IB (L' := FB ++ []) (by simp) ?_
 refine AM (ua (Aa (Ar (AM (um ?_)))))
 refine uv ((AX underlying22 rfl).i (AN.HH ab)) (uv (A7 rfl rfl) (Aa ?_))
 refine cQ (fun c1 => ?_) fun c1 => ?_
 ·have r2 := AO hr c1
  refine AM (um (ua (Aa (Ap (Ah ?_)))))
  refine B2 results88 ?_
  obtain rfl := AH r2
  exact ⟨_, _, _, _, rfl, rfl, ab⟩
 have r3 := AP hr c1
 refine Al ?_
 refine AQ (fun e1 F1 L1 => Eg s_ = some r ∧ F = F1 ∧ L1 = (FB ++ []) ∧ e1.sub [(0, .slice Cp DS B9)]) ?_ ?_
 ·refine AM (ua (Aa ?_))
  refine Aq ?_
  obtain ⟨g4, r5⟩ := AW r3
  refine A9 (fun ao e1 F1 L1 => ∃ (k : Int), DD 1 (s_.length : Int) k ao ∧ BG s_ ao k = some r ∧ F = F1 ∧ L1 = (FB ++ []) ∧ e1.sub [(0, .slice Cp DS B9), (3, .int .i64 k)]) _ (m0 kr ⟨_, DD.start _ _, r5, rfl, rfl, z2⟩) ?_
  rintro ao e1 _ _ ⟨k, bj, r8, rfl, rfl, ey⟩
  refine Az _ ey ?_
  refine Ar (AM (um (um ?_)))
  refine uv ((AX underlying22 rfl).i (AN.HH ab)) (uv (A7 rfl rfl) (Aa ?_))
  refine cQ (fun FE => ?_) fun FE => ?_
  ·obtain ⟨ao, rfl, bk⟩ := DD.succ bj FE
   rw [BG] at r8
   refine Al ?_
   refine AQ (fun e1 F1 L1 => Eh k (BG s_ ao) = some r ∧ F = F1 ∧ L1 = (FB ++ []) ∧ e1.sub [(0, .slice Cp DS B9), (3, .int .i64 k)]) ?_ ?_
   ·refine Aq (dW ?_)
    refine wm (wm ?_)
    obtain ⟨x, dv, bl, ez⟩ := Bj r8
    obtain ⟨gn, gp, KW, fa, bm, bn, dw, rfl, fb, bo⟩ := AN.at (Ad _) ab (L := FB ++ []) fP dv.1 bl
    refine wv (AA underlying22 sizeOf3 rfl bm rfl (AN.idx ab dv)) (wv (Ao isAgg3 rfl bn (bo 0 (by decide))) ?_)
    refine wm (wm ?_)
    obtain ⟨fe, ff⟩ := AW ez
    refine wv (FD rfl rfl fe) ?_
    obtain ⟨x2, dx, bp, dy⟩ := Bj ff
    obtain ⟨gq, gr, gu, fg, bq, br, dz, rfl, fh, bu⟩ := AN.at (Ad _) ab (L := FB ++ []) fP dx.1 bp
    refine wv (AA underlying22 sizeOf3 rfl bq rfl (AN.idx ab dx)) (wv (Ao isAgg3 rfl br (bu 0 (by decide))) (wv (Bv rfl rfl) (BD ?_)))
    refine cQ (fun bw => ?_) fun bw => ?_
    ·have fi := AO dy bw
     refine AM (um (um ?_))
     obtain ⟨fj, fk⟩ := AW fi
     have af := AN.gV ab fj
     refine uv (FC.eq (v' := .slice (UR Cp B9 (Int.toNat k) 1) (DS - Int.toNat k) (B9 - Int.toNat k)) (IE (l := k) (h := (DS : Nat)) underlying22 sizeOf3 rfl (.inr ⟨_, rfl, rfl⟩) (.inl ⟨rfl, rfl⟩) (AN.VA ab af)) rfl) ?_
     refine ua (Aa ?_)
     obtain ⟨eb, k2, fl, eg⟩ := Bs fk
     refine AQ (fun e1 F1 L1 => ∃ (aj : LH), F = F1 ∧ L1 = (aj ++ []) ∧ e1.sub [(0, .slice Cp DS B9), (3, .int .i64 k2)] ∧ AN Gq 3 1 (iE .i64) F1 Cp DS B9 eb aj) ?_ ?_
     ·clear eg
      refine AM (ua (Aa ?_))
      refine Aq ?_
      refine A9 (fun bc e1 F1 L1 => ∃ (bg : List Int) (k3 : Int) (ae : Int) (ad : LH), BA k bc bg k3 ae = some (eb, k2) ∧ F = F1 ∧ L1 = (ad ++ []) ∧ e1.sub [(0, .slice Cp DS B9), (3, .int .i64 k3), (4, .slice (UR Cp B9 (Int.toNat k) 1) (DS - Int.toNat k) (B9 - Int.toNat k)), (5, .int .i64 ae)] ∧ AN Gq 3 1 (iE .i64) F1 Cp DS B9 bg ad) FU (m0 kr ⟨s_, k, 1, FB, fl, rfl, rfl, z4, ab⟩) ?_
      rintro bc e1 _ _ ⟨bg, k3, ae, ad, aq, rfl, rfl, bx, aa⟩
      refine Az _ bx ?_
      rcases bc with _ | bc
      ·rw [BA] at aq; cases aq
      rw [BA] at aq
      refine Ar (AM (um (um ?_)))
      refine uv ((AX underlying22 rfl).i (AN.Xa aa).symm) (uv (A7 rfl rfl) (Aa ?_))
      refine cQ (fun bz => ?_) fun bz => ?_
      ·have fm := AO aq bz
       refine Al (Ar ?_)
       refine Aq (dW ?_)
       refine wm (wm ?_)
       obtain ⟨x3, bh, ar, fo⟩ := Bj fm
       obtain ⟨gv, gw, gy, fp, ca, cb, eh, rfl, fq, cc⟩ := AN.W3 (Ad _) aa (L := ad ++ []) fP af bh.1 ar
       refine wv (AA underlying22 sizeOf3 rfl ca rfl (AN.Tw aa bh)) (wv (Ao isAgg3 rfl cb (cc 0 (by decide))) ?_)
       refine wm (wm ?_)
       obtain ⟨fs, ft⟩ := AW fo
       refine wv (FD rfl rfl fs) ?_
       obtain ⟨x4, ei, cd, ej⟩ := Bj ft
       obtain ⟨gz, ia, ib, fv, cf, cg, en, rfl, fw, cj⟩ := AN.W3 (Ad _) aa (L := ad ++ []) fP af ei.1 cd
       refine wv (AA underlying22 sizeOf3 rfl cf rfl (AN.Tw aa ei)) (wv (Ao isAgg3 rfl cg (cj 0 (by decide))) (wv (Bo rfl rfl) (BD ?_)))
       refine cQ (fun cn => ?_) fun cn => ?_
       ·have fx := AO ej cn
        refine AM (um (um (um (um ?_))))
        obtain ⟨ic, ie, ig, fy, cp, cq, eo, rfl, ga, cr⟩ := AN.W3 (Ad _) aa (L := ad ++ []) fP af bh.1 ar
        refine uv (AA underlying22 sizeOf3 rfl cp rfl (AN.Tw aa bh)) (uv (Ao isAgg3 rfl cq (cr 0 (by decide))) ?_)
        obtain ⟨x5, ct, cu, gb⟩ := Bj fx
        obtain ⟨ij, ik, il, gg, ah, ep, cv, rfl, er, et⟩ := AN.at (Ad _) aa (L := ad ++ []) fP ct.1 cu
        refine uv (AA underlying22 sizeOf3 rfl ah rfl (AN.idx aa ct)) ?_
        obtain ⟨gh, cw, cx⟩ := B8 gb
        refine Cv (u := x3) sizeOf3 (Ad _) rfl ah rfl rfl (fun _ => .h) aa cw ct ?_; intro au av
        refine Aa (Ak (um ?_))
        obtain ⟨cy, cz⟩ := AW cx
        refine uv (A1 rfl rfl cy) ?_
        refine ua (Aa (Av (id := 3) (Ak (um ?_))))
        obtain ⟨da, db⟩ := AW cz
        refine uv (A1 rfl rfl da) ?_
        refine ua (Aa ?_)
        exact le kr ⟨gh, k3 + 1, ae + 1, au, db, rfl, rfl, z4, av⟩
       have dd := AP ej cn
       refine Al (Av (id := 3) (Ak (um ?_)))
       obtain ⟨de, df⟩ := AW dd
       refine uv (A1 rfl rfl de) ?_
       refine ua (Aa ?_)
       exact le kr ⟨bg, k3, ae + 1, ad, df, rfl, rfl, z4, aa⟩
      have dg := AP aq bz
      refine AR (Aj (Aj ?_))
      refine Ay ?_
      obtain ⟨rfl, rfl⟩ := BK dg
      exact mi kr ⟨ad, rfl, rfl, z2, aa⟩
     rintro e1 _ _ ⟨aj, rfl, rfl, aw, ak⟩
     refine Az _ aw ?_
     refine AM (um (um ?_))
     obtain ⟨dh, di⟩ := AW eg
     have ai := AN.gV ak dh
     refine uv (FC.eq (v' := .slice (UR Cp B9 (Int.toNat k2) 1) (DS - Int.toNat k2) (B9 - Int.toNat k2)) (IE (l := k2) (h := (DS : Nat)) underlying22 sizeOf3 rfl (.inr ⟨_, rfl, rfl⟩) (.inl ⟨rfl, rfl⟩) (AN.VA ak ai)) rfl) ?_
     obtain ⟨gi, dk, dm⟩ := B8 di
     refine Rd (z0 := 0) (zs := gi) (l := k2) rfl Br (by decide) (Ad _) (fun _ => rfl) rfl (fun _ => .h) ak ai dk ?_; intro eu ax
     refine BX (um (um ?_))
     obtain ⟨dn, dp⟩ := AW dm
     obtain ⟨gj, dq, dr⟩ := B8 dp
     refine MY (l := 0) (h := k2) (zs := gj) rfl Br (Ad _) rfl (.inl ⟨rfl, rfl⟩) (.inr ⟨_, rfl, rfl⟩) (fun _ => .h) ax dn dq ?_; intro gk gl gm ew dt
     refine ua (Aa (Ap (AB (Ah (Ah (AB (Ah ?_)))))))
     refine B2 results88 ?_
     obtain rfl := AH dr
     exact ⟨_, _, _, _, rfl, rfl, dt⟩
    have du := AP dy bw
    refine Al (Av (id := 1) ?_)
    exact mi kr ⟨du, rfl, rfl, z2⟩
   rintro e1 _ _ ⟨ay, rfl, rfl, az⟩
   refine Az _ az ?_
   rw [Eh] at ay
   refine Ak (um ?_)
   refine uv (A1 rfl rfl (DD.DZ bj FE g4)) ?_
   refine ua (Aa ?_)
   exact le kr ⟨_, bk, ay, rfl, rfl, z2⟩
  obtain rfl := DD.zero bj FE
  rw [BG] at r8
  refine AR (Aj (Aj ?_))
  refine Ay ?_
  exact mi kr ⟨r8, rfl, rfl, z1⟩
 rintro e1 _ _ ⟨ba, rfl, rfl, bb⟩
 refine Az _ bb ?_
 rw [Eg] at ba
 refine AM (um (ua (Aa (Ap ?_))))
 refine B2 results88 ?_
 obtain rfl := AH ba
 exact ⟨_, _, _, _, rfl, rfl, ab⟩
set_option maxHeartbeats 1000000 in
theorem Q4 (aj : AL 1 (iE .i64) F Af Ae Ac) (ae : AL 1 (iE .i64) F A3 A4 AI) {r : List Int} (hr : Hz wide Ac AK AF AI = some (r, r2)) :
    SH.Spec Tryz.prog 45 #[.agg #[.int .i64 wide, .slice Af Ac.length Ae], .agg #[.int .i64 AK, .int .i64 AF], .slice A3 AI.length A4] F [] fun F' L' v => ∃ (ra : Option Addr) (rn : Nat) (rc : Nat) (rL : LH), v = .tuple #[.slice ra rn rc, .int .i64 r2] ∧ L' = rL ++ [] ∧ AN 0 3 1 (iE .i64) F' ra rn rc r rL := by
 refine sp func45 ntmps45 fun K _ _ => ?_
 rw [Hz] at hr
 refine AM ?_
 refine Bu rfl rfl ?_; intro b1 fp
 refine Bu rfl rfl ?_; intro b2 fq
 refine ua (ua (BX ?_))
 refine uv (As isAgg25 sizeOf25 rfl (Has.own 1 rfl) (Be rfl) rfl) (uv (As isAgg29 sizeOf29 rfl (Has.own 0 rfl) (Be rfl) rfl) (um ?_))
 obtain ⟨l, y, n, h3, r4⟩ := Lg hr
 refine c0 call78 (GP aj ae h3) ?_; rintro _ F5 _ fs dv ⟨a9, cz, H4, ad, ft, rfl, rfl, aa, av⟩
 replace aa := aa.new fun p hp => dv p (by simp [hp])
 refine AJ (lp (ln rfl)) (kO (kf (fS fO) (kf (fS fO) kr)) ?_)
 refine um (ox rfl rfl rfl (ox rfl rfl rfl ?_))
 refine A6 rfl zeroValue118 ?_; intro dw dx
 refine Bg (i := 0) sizeOf118 rfl rfl rfl (fc rfl (fc (av.1) nm)) rfl (Be rfl) (AJ rfl ?_)
 refine ua (Aa (Ar ?_))
 refine Aq ?_
 refine AM (um ?_)
 refine uv (Bo rfl rfl) ?_
 refine ua (Aa ?_)
 refine cQ (fun KW => ?_) fun KW => ?_
 ·have dy := AO r4 KW
  refine AM (um (ua (ua (Aa ?_))))
  refine kW kn ?_
  refine Ap (AB (Ah ?_))
  refine Ba results45 (AG rfl) (AG rfl) (sr) ?_
  obtain ⟨rfl, rfl⟩ := BK dy
  exact ⟨_, _, _, [], rfl, rfl, AN.nil _ _ _ _ _⟩
 have dz := AP r4 KW
 refine AM (uv (As isAgg118 sizeOf118 rfl (Has.own 0 rfl) (Be rfl) rfl) ?_)
 obtain ⟨eb, eg⟩ := AW dz
 obtain rfl := av.2 eb
 have bm : Mp Tryz.prog F5 106 #[] #[] (iE .i64) (Value.int .i64) (fun da : Int => Dw da) := ⟨call106, fun F2 h2 vs da r ha hr => by obtain rfl := ha; exact Jf hr⟩
 obtain ⟨ok, eh, db⟩ := Aw eg
 refine Bi (Lt := ad ++ []) (Lr := [(dw, ce (#[.slice a9 cz H4, .func (.func 106) #[] #[]]) 118), (b2, ce #[.int .i64 AK, .int .i64 AF] 29), (b1, ce #[.int .i64 wide, .slice Af Ac.length Ae] 25)]) rfl call79 rfl rfl rfl (pT ((fC (fC (fC fP))).trans (pA pR)) (lp (ln rfl))) (fun F2 h2 h3 => by rw [(AN.Bm aa).1]; exact Jt (aa.row (BP (n := 30) (sz := 1) BY) h2 (fun p hp => h3 p (List.mem_append_left _ hp))) (bm.mono h2) eh) ?_
 refine ua (Aa ?_)
 refine AU rfl (fun JE => ?_) (fun JE => ?_)
 ·have ei := bt db JE
  refine AM (ua (ua (Aa ?_)))
  refine kW kn ?_
  refine Ap (AB (Ah ?_))
  refine Ba results45 (AG rfl) (AG rfl) (sr) ?_
  obtain ⟨rfl, rfl⟩ := BK ei
  exact ⟨_, _, _, [], rfl, rfl, AN.nil _ _ _ _ _⟩
 have ej := bf db JE
 refine Al (Av (id := 0) (AM (ua (Aa ?_))))
 obtain ⟨out, en, dd⟩ := Aw ej
 refine AQ (fun e1 F1 L1 => ∃ (bn : Option Addr) (bo : Nat) (bp : Nat) (ak : LH), AY F5 F1 ∧ L1 = (ak ++ []) ∧ e1.sub [(10, .slice bn bo bp)] ∧ AN K.w0.heap.size 3 1 (iE .i64) F1 bn bo bp out ak) ?_ ?_
 ·clear dd
  refine AM (uv (Am Hn rfl) (uv (Ao isAgg109 rfl (Has.own 0 rfl) rfl) (uv ((AX underlying109 rfl).i (AN.HH aa)) ?_)))
  refine um (Aa ?_)
  refine Aq (kW (kd (kd (kd kr))) ?_)
  refine A9 (fun de e1 F1 L1 => LA l de fun tl k => ∃ (af : List Int) (aw : Option Addr) (ax : Nat) (ay : Nat) (ab : LH), D5 tl af = some out ∧ AY F5 F1 ∧ L1 = (ab ++ (ad ++ [])) ∧ e1.sub [(10, .slice aw ax ay), (29, .slice a9 cz H4), (30, .int .i64 (l.length : Int)), (31, .int .i64 k)] ∧ AN K.w0.heap.size 3 1 (iE .i64) F1 aw ax ay af ab) _ (m0 (ke kr) ⟨_, _, rfl, BO.start _, [], none, 0, 0, [], en, AY.refl _, rfl, z4, AN.nil _ _ _ _ _⟩) ?_
  rintro de e1 fv _ ⟨tl, k, az, ao, af, aw, ax, ay, ab, bl, aq, rfl, bq, ah⟩
  refine Az _ bq ?_
  replace aa := aa.mono (BP (n := 30) (sz := 1) BY) aq
  refine AM (uv (A7 rfl rfl) ?_)
  refine Aa (Ar ?_)
  refine cQ (fun ba => ?_) fun ba => ?_
  ·obtain ⟨x, fw, rfl, br, df, bb⟩ := BO.succ ao ba
   rw [D5] at bl
   refine Al (Ar ?_)
   refine Aq (AM ?_)
   obtain ⟨YA, fx, fy, eo, bu, bw, au, ⟨rfl, bx⟩, bz, ca⟩ := AN.at (BP (n := 30) (sz := 1) BY) aa (L := ab ++ (ad ++ [])) (fS fP) df.1 br
   refine uv (AA underlying109 sizeOf113 rfl bu rfl (AN.idx aa df)) (uv (As isAgg113 sizeOf113 rfl bw au (CK au bz ca)) ?_)
   refine A6 rfl zeroValue113 ?_; intro cb ep
   refine AJ (L' := (cb, ce (arr cB (List.replicate 30 false)) 113) :: (ab ++ (ad ++ []))) rfl (Ru (i := 0) sizeOf113 rfl rfl rfl (Kw BY List.length_replicate) (Kw BY bx) (SS BY) (AJ (L' := (cb, ce (arr cB x) 113) :: (ab ++ (ad ++ []))) rfl (BX (uv (Ow isAgg113 sizeOf113 rfl (Has.own 0 rfl) (Kw BY bx)) ?_))))
   obtain ⟨l2, er, dg⟩ := Aw bl
   refine c0 call76 (KH bx er) ?_; rintro _ ga _ ar cc ⟨gb, gg, gh, cd, rfl, rfl, ai⟩
   replace aa := aa.mono (BP (n := 30) (sz := 1) BY) ar
   replace ah := ah.mono (Ad _) ar
   replace ai := ai.new fun p hp => cc p (by simp [hp])
   refine AJ (lp (ln rfl)) (kO (kf (fS fO) kr) ?_)
   refine ua (BX (um ?_))
   refine uv ((AX underlying22 rfl).i (AN.HH ai)) (uv (Bv rfl rfl) (Aa ?_))
   refine cQ (fun cf => ?_) fun cf => ?_
   ·have et := AO dg cf
    refine Ak (um (um ?_))
    obtain ⟨x2, dh, cg, eu⟩ := Bj et
    obtain ⟨gi, gj, gk, ew, cj, cn, di, rfl, ey, cp⟩ := AN.at (Ad _) ai (L := (cb, ce (arr cB x) 113) :: (cd ++ (ab ++ (ad ++ [])))) (fC fP) dh.1 cg
    refine uv (AA underlying22 sizeOf3 rfl cj rfl (AN.idx ai dh)) (uv (Ao isAgg3 rfl cn (cp 0 (by decide))) ?_)
    refine bA (cs := #[.int .i64 x2]) Br [.int .i64 x2] ?_; intro gl ez
    obtain ⟨bc, fa, fb, fe⟩ := E9 eu
    refine DB (xs := af) (ys := [x2]) (zs := bc) rfl Br rfl rfl (Nat.le_refl _) (fun _ => .c (.c (.s .h))) ah (GO.box (vss := [[.int .i64 x2]]) (ys := [x2]) 0 rfl (Ad _) (.cons rfl .nil) rfl rfl) fa fb (by decide) ?_; intro ff fg fh cq cr
    refine kO (kd kr) ?_
    refine ua (Aa (Av (id := 2) (Ak ?_)))
    refine uv (A1 rfl rfl (BO.DZ ao ba (AN.R5 aa))) ?_
    refine um (Aa ?_)
    subst az; exact le (kd (kx kr)) ⟨_, _, rfl, bb, bc, ff, fg, fh, cq, fe, (aq.trans ar), rfl, z4, cr⟩
   have ct := AP dg cf
   refine Al (Av (id := 2) (Ak ?_))
   refine uv (A1 rfl rfl (BO.DZ ao ba (AN.R5 aa))) ?_
   refine um (Aa ?_)
   subst az; exact le (kd (kx kr)) ⟨_, _, rfl, bb, af, aw, ax, ay, ab, ct, (aq.trans ar), rfl, z4, ah⟩
  obtain rfl := BO.zero ao ba
  rw [D5] at bl
  refine AR (Aj (Aj ?_))
  refine Ay ?_
  obtain rfl := AH bl
  exact mi (ka kn) ⟨aw, ax, ay, ab, aq, rfl, z1, ah⟩
 rintro e1 fi _ ⟨bn, bo, bp, ak, dk, rfl, bg, cu⟩
 refine Az _ bg ?_
 refine AM (um ?_)
 obtain ⟨s_, cv, cw⟩ := Aw dd
 refine IG (Lb := ak ++ []) (Lr := []) rfl call87 rfl rfl rfl (pT pR (lp (ln rfl))) (IQ cu cv) ?_; rintro _ fj _ dm dn dp ⟨bh, rfl, rfl, bj⟩
 refine AJ (lp (ln rfl)) ?_
 refine BX (um ?_)
 obtain ⟨l3, cx, cy⟩ := Aw cw
 refine IG (Lb := bh ++ []) (Lr := []) rfl call88 rfl rfl rfl (pT pR (lp (ln rfl))) (Ki bj cx) ?_; rintro _ fk _ dq dr dt ⟨fl, fm, fo, du, rfl, rfl, bk⟩
 refine AJ (lp (ln rfl)) ?_
 refine ua (ua (Aa (Ap ?_)))
 refine Ba results45 (AG rfl) (AG rfl) (sr) ?_
 obtain ⟨rfl, rfl⟩ := BK cy
 exact ⟨_, _, _, _, rfl, rfl, bk.any⟩
set_option maxHeartbeats 1000000 in
theorem Nz (ab : AL 1 (iE .i64) F Af Ae Ac) (aa : AL 1 (iE .i64) F A3 A4 AI) {r : List Int} (hr : Ez wide Ac AK AF AI = some (r, r2)) :
    SH.Spec Tryz.prog 46 #[.agg #[.int .i64 wide, .slice Af Ac.length Ae], .int .i64 AK, .int .i64 AF, .slice A3 AI.length A4] F [] fun F' L' v => ∃ (ra : Option Addr) (rn : Nat) (rc : Nat) (rL : LH), v = .tuple #[.slice ra rn rc, .int .i64 r2] ∧ L' = rL ++ [] ∧ AN 0 3 1 (iE .i64) F' ra rn rc r rL := by
 refine sp func46 ntmps46 fun K _ _ => ?_
 rw [Ez] at hr
 refine AM ?_
 refine Bu rfl rfl ?_; intro b1 fw
 refine ua (ua (Aa (Ar (AM ?_))))
 refine uv (As isAgg45 sizeOf45 rfl (Has.own 0 rfl) (Be rfl) rfl) ?_
 refine um (um (um ?_))
 obtain ⟨n, h2, r3⟩ := Aw hr
 refine cV call51 (FN ab aa h2) ?_
 refine ua (BX (um ?_))
 refine uv (Bo rfl rfl) (Aa ?_)
 refine cQ (fun c4 => ?_) fun c4 => ?_
 ·have r5 := AO r3 c4
  refine AM (um (ua (ua (Aa ?_))))
  refine kW kn ?_
  refine Ap (Ah ?_)
  refine Ba results46 (AG rfl) (AG rfl) (sr) ?_
  obtain ⟨rfl, rfl⟩ := BK r5
  exact ⟨_, _, _, [], rfl, rfl, AN.nil _ _ _ _ _⟩
 have r6 := AP r3 c4
 refine Al (AM ?_)
 refine uv (As isAgg45 sizeOf45 rfl (Has.own 0 rfl) (Be rfl) rfl) ?_
 refine um (um ?_)
 obtain ⟨l, h7, r8⟩ := Aw r6
 refine c0 call35 (Gz ab h7) ?_; rintro _ F9 _ bb du ⟨TS, OV, rfl, rfl, aj⟩
 replace ab := ab.mono (Ad _) bb
 replace aa := aa.mono (Ad _) bb
 refine AJ (ln rfl) ?_
 refine ua (Aa (Ar (AM (um (um ?_)))))
 obtain ⟨ok, dv, de⟩ := Aw r8
 refine cV call83 (KE aj aa dv) (Aa ?_)
 refine AU rfl (fun KW => ?_) (fun KW => ?_)
 ·have dw := bt de KW
  refine AM (ua (ua (Aa ?_)))
  refine kW kn ?_
  refine Ap (Ah ?_)
  refine Ba results46 (AG rfl) (AG rfl) (sr) ?_
  obtain ⟨rfl, rfl⟩ := BK dw
  exact ⟨_, _, _, [], rfl, rfl, AN.nil _ _ _ _ _⟩
 have dx := bf de KW
 refine Al (AM ?_)
 refine uv (As isAgg45 sizeOf45 rfl (Has.own 0 rfl) (Be rfl) rfl) ?_
 obtain ⟨l2, dy, dz⟩ := Aw dx
 refine c0 call85 (HF ab dy) ?_; rintro _ eb _ bc cd ⟨eg, fx, N3, eh, rfl, rfl, ai⟩
 replace aa := aa.mono (Ad _) bc
 replace aj := aj.mono (CP (Ad _)) bc
 replace ai := ai.new fun p hp => cd p (by simp [hp])
 refine AJ (lp (ln rfl)) (kO (kf (fS fO) kr) ?_)
 refine ua (BX (ua (Aa ?_)))
 obtain ⟨out, ei, df⟩ := Aw dz
 refine AQ (fun e1 F1 L1 => ∃ (cf : Option Addr) (cg : Nat) (cj : Nat) (ar : LH), AY eb F1 ∧ L1 = (ar ++ []) ∧ e1.sub [(13, .slice cf cg cj)] ∧ AN K.w0.heap.size 3 1 (iE .i64) F1 cf cg cj out ar) ?_ ?_
 ·clear df
  refine AM (ua (Aa ?_))
  refine Aq (kW (kd kr) ?_)
  obtain rfl := (AN.Bm ai).1
  refine N6 (Nat.le_refl _) (Ad _) fP ai ?_; intro ej au ak
  replace aa := aa.mono (Ad _) au
  replace aj := aj.mono (CP (Ad _)) au
  refine SV (fun dg e1 F1 L1 => LA l2 dg fun tl i => ∃ (af : List Int) (bg : Option Addr) (bh : Nat) (bj : Nat) (ad : LH), CJ AI l l2 tl i af = some out ∧ AY ej F1 ∧ L1 = (ad ++ []) ∧ e1.sub [(3, .slice A3 AI.length A4), (11, .slice TS l.length OV), (12, .slice eg l2.length N3), (13, .slice bg bh bj), (14, .int .i64 i)] ∧ AN K.w0.heap.size 3 1 (iE .i64) F1 bg bh bj af ad) _ (m0 (ke kr) ⟨_, _, rfl, BO.start _, [], none, 0, 0, [], ei, AY.refl _, rfl, z5, AN.nil _ _ _ _ _⟩) ?_
  rintro dg e1 en _ ⟨tl, i, bk, ah, af, bg, bh, bj, ad, cb, ae, rfl, cn, av⟩
  refine Az _ cn ?_
  replace aa := aa.mono (Ad _) ae
  replace aj := aj.mono (CP (Ad _)) ae
  replace ak := ak.mono (Ad _) ae
  refine Ar (AM (um (um ?_)))
  refine uv (AX underlying22 rfl) (uv (A7 rfl rfl) (Aa ?_))
  refine cQ (fun ba => ?_) fun ba => ?_
  ·obtain ⟨x, fy, rfl, cp, dh, bl⟩ := BO.succ ah ba
   rw [CJ] at cb
   refine Al (Ar ?_)
   refine Aq (Ar (CF [(.still, 1), (.still, 2), (.still, 3), (.still, 5), (.still, 6), (.still, 7), (.still, 8), (.seq, 0), (.seq, 4), (.seq, 9), (.still, 10)] (by kernel_rfl) (by kernel_rfl) (trivial) (by rfl) (by kernel_rfl) (mS [12] rfl (Bh rfl) (mS [14] rfl (Bh rfl) ?_))))
   obtain ⟨eo, ep⟩ := AW cb
   obtain ⟨aw, er, DZ⟩ := B8 ep
   obtain ⟨di, dk, et, ao⟩ := AL.slice (Ad _) ak eo er
   refine mS (v := .slice di aw.length dk) [40, 41] rfl ((IE (l := 0) (h := i) underlying22 sizeOf3 rfl (.inl ⟨rfl, rfl⟩) (.inr ⟨_, rfl, rfl⟩) ao.1).eq ao.2) (mS [12] rfl (Bh rfl) (mS [14] rfl (Bh rfl) (mS (v := .int .i64 (i + 1)) [45] rfl (A1 rfl rfl (BO.DZ ah ba (AL.lt ak))) ?_)))
   obtain ⟨eu, ew⟩ := AW DZ
   obtain ⟨ax, ey, ez⟩ := B8 ew
   obtain ⟨dm, dn, fa, aq⟩ := AL.slice (Ad _) ak eu ey
   refine mS (v := .slice dm ax.length dn) [44, 46] rfl ((IE (l := i + 1) (h := (l2.length : Int)) underlying22 sizeOf3 rfl (.inr ⟨_, rfl, rfl⟩) (.inl ⟨rfl, rfl⟩) aq.1).eq aq.2) ?_
   refine ⟨_, [], rfl, rfl, (sn _), by kernel_rfl, ?_⟩; intro H
   refine HB (cs := #[]) rfl rfl (HV Br) ?_; intro cc cq
   refine Aa ⟨_, rfl, AY.refl _, [8, 7, 6, 5, 3, 2, 1], by kernel_rfl, .inl (.inr (fun d h => by cases h; rfl)), (fc sm (fc sm (fc sm (fc sm (fc sm (fc sm (fc sm nm))))))), ?_⟩
   refine ⟨_, [(39, .slice (some ⟨cc, 0, none⟩) 0 0), (42, .slice di aw.length dk)], rfl, rfl, z2, by kernel_rfl, ?_⟩; intro H
   have bm : AN K.w0.heap.size 3 1 (iE .i64) en (some ⟨cc, 0, none⟩) 0 0 ([] : List Int) [(cc, ce #[] 3)] := AN.BS (vss := []) (Ad _) cq .nil rfl rfl (by simp [maxLen])
   generalize ay : ([(cc, ce #[] 3)] : LH) = Lb78 at bm
   refine AV (L' := Lb78 ++ (ad ++ [])) (by rw [← ay]; exact fO) ?_
   obtain ⟨l3, fb, fe, ff⟩ := E9 ez
   refine DB (xs := ([] : List Int)) (ys := aw) (zs := l3) rfl Br rfl rfl (Nat.le_refl _) (fun _ => .h) bm (AL.src et) fb fe (by decide) ?_; intro fg fh fi fj cr
   refine Aa ⟨_, rfl, AY.refl _, [8, 7, 6, 5], by kernel_rfl, .inl (.inr (fun d h => by cases h; rfl)), (fc sm (fc sm (fc sm (fc sm nm)))), ?_⟩
   refine ⟨_, [(43, .slice fg fh fi), (47, .slice dm ax.length dn)], rfl, rfl, z2, by kernel_rfl, ?_⟩; intro H
   obtain ⟨l4, fk, fl, fm⟩ := E9 ff
   refine DB (xs := l3) (ys := ax) (zs := l4) rfl Br rfl rfl (Nat.le_refl _) (fun _ => .h) cr (AL.src fa) fk fl (by decide) ?_; intro ga gb gg bn bo
   refine Aa ⟨_, rfl, AY.refl _, [], by kernel_rfl, .inl (.inl rfl), nm, ?_⟩
   refine mS [48] rfl (Ej rfl) (DI ?_)
   refine AM (um (um (um ?_)))
   obtain ⟨n2, fo, bp⟩ := Aw fm
   refine Bi (Lt := bn ++ []) (Lr := ad ++ []) rfl call86 rfl rfl rfl (pT pR (lp (ln rfl))) (fun F2 h2 h3 => by rw [(AN.Bm bo).1]; exact H6 (aj.mono (CP (Ad _)) h2) (aa.mono (Ad _) h2) (bo.row (Ad _) h2 (fun p hp => h3 p (List.mem_append_left _ hp))) fo) ?_
   refine um (uv (AX underlying22 rfl) (uv (A7 rfl rfl) (Aa ?_)))
   refine cQ (fun az => ?_) fun az => ?_
   ·have ct := AO bp az
    refine Ak (um (um (um ?_)))
    obtain ⟨fp, fq, fs, dp, bq, br, cu, rfl, dq, bu⟩ := AL.at (Ad _) ak (bn ++ (ad ++ [])) dh.1 cp
    refine uv (AA underlying22 sizeOf3 rfl bq rfl dh) (uv (Ao isAgg3 rfl br (bu 0 (by decide))) ?_)
    refine bA (cs := #[.int .i64 x]) Br [.int .i64 x] ?_; intro ft dr
    obtain ⟨bw, cv, cw, cx⟩ := E9 ct
    refine DB (xs := af) (ys := [x]) (zs := bw) rfl Br rfl rfl (Nat.le_refl _) (fun _ => .c (.s .h)) av (GO.box (vss := [[.int .i64 x]]) (ys := [x]) 0 rfl (Ad _) (.cons rfl .nil) rfl rfl) cv cw (by decide) ?_; intro cy cz da bx bz
    refine kO (kd kr) ?_
    refine ua (Aa (Av (id := 1) (Ak (um ?_))))
    refine uv (A1 rfl rfl (BO.DZ ah ba (AL.lt ak))) ?_
    refine ua (Aa ?_)
    subst bk; refine lf ?_
    exact mf (kx kr) ⟨_, _, rfl, bl, bw, cy, cz, da, bx, cx, ae, rfl, z5, bz⟩
   have db := AP bp az
   refine Al (Av (id := 1) (Ak (um ?_)))
   refine uv (A1 rfl rfl (BO.DZ ah ba (AL.lt ak))) ?_
   refine ua (Aa ?_)
   subst bk; refine lf ?_
   exact mf (kx kr) ⟨_, _, rfl, bl, af, bg, bh, bj, ad, db, ae, rfl, z5, av⟩
  obtain rfl := BO.zero ah ba
  rw [CJ] at cb
  refine AR (Aj (Aj ?_))
  refine Ay ?_
  obtain rfl := AH cb
  exact mi kr ⟨bg, bh, bj, ad, (au.trans ae), rfl, z1, av⟩
 rintro e1 fv _ ⟨cf, cg, cj, ar, dt, rfl, ca, dd⟩
 refine Az _ ca ?_
 refine AM (um (ua (ua (Aa (Ap ?_)))))
 refine Ba results46 (AG rfl) (AG rfl) (sr) ?_
 obtain ⟨rfl, rfl⟩ := BK df
 exact ⟨_, _, _, _, rfl, rfl, dd.any⟩
set_option maxHeartbeats 1000000 in
theorem JP (ao : AN 0 3 1 (iE .i64) F Cp DS B9 s_ FB) (af : ∀ args w, (callFunc KO args).run Tryz.prog w = .ok (.enter KO args) w) (aj : IZ Tryz.prog KO OZ OK F (fun x : Int => #[.int .i64 x]) seq) {r : List Int} (hr : Ev s_ seq = some r) :
    SH.Spec Tryz.prog 132 #[.slice Cp DS B9, .func (.func KO) OZ OK] F (FB ++ []) fun F' L' v => ∃ (ra : Option Addr) (rn : Nat) (rc : Nat) (rL : LH), v = .slice ra rn rc ∧ L' = rL ++ [] ∧ AN 0 3 1 (iE .i64) F' ra rn rc r rL := by
 refine sp func132 ntmps132 fun K _ _ => ?_
 rw [Ev] at hr
 refine IB (L' := FB ++ []) (by simp) (AM ?_)
 refine Bu rfl rfl ?_; intro b1 ca
 refine ua (Aa ?_)
 obtain ⟨aw, h8, r9⟩ := Aw hr
 refine AQ (fun e1 F1 L1 => ∃ (a2 : Option Addr) (n6 : Nat) (c3 : Nat) (aq : LH), AY F F1 ∧ L1 = ((b1, ce #[.slice a2 n6 c3] 22) :: (aq ++ [])) ∧ e1.sub [(2, .pointer (some ⟨b1, 0, none⟩))] ∧ AN 0 3 1 (iE .i64) F1 a2 n6 c3 aw aq) ?_ ?_
 ·clear r9
  refine AM (um (Aa ?_))
  refine Aq ?_
  refine HP (encs := (fun x : Int => #[.int .i64 x])) (xs := seq) rfl af rfl (fun _ => rfl) aj (fun pre F1 L1 => ∃ (tl : List Int) (ah : List Int) (Nv : Option Addr) (ai : Nat) (FE : Nat) (aa : LH), seq = pre ++ tl ∧ BI tl ah = some aw ∧ L1 = ((b1, ce #[.slice Nv ai FE] 22) :: (aa ++ [])) ∧ AN 0 3 1 (iE .i64) F1 Nv ai FE ah aa) (fun _ _ _ => False) ?_ ?_ ?_ ?_ ?_ ?_
  ·rintro pre F1 F2 L1 ⟨tl, ah, Nv, ai, FE, aa, ab, bh, rfl, ad⟩ hx; exact ⟨tl, ah, Nv, ai, FE, aa, ab, bh, rfl, ad.mono (Ad _) hx⟩
  ·intro c F1 F2 L1 h hx; exact h
  ·exact ⟨_, s_, Cp, DS, B9, FB, rfl, h8, rfl, ao⟩
  ·rintro cb bj bk bl bm bn ax bo pre x cc ae cd _ bp ⟨tl, ah, Nv, ai, FE, aa, ab, ay, rfl, ad⟩
   obtain rfl := KB ab ae
   rw [BI] at ay
   refine Az [(2, .pointer (some ⟨b1, 0, none⟩)), (6, .func (.func KO) OZ OK), (7, .int .i64 x)] (by exact z3) ?_
   refine Ak (ua (Aa ?_))
   refine ⟨rfl, ?_⟩
   refine Aq (Ak (uv (Ao isAgg22 rfl (Has.own 0 rfl) rfl) (um ?_)))
   refine bA (cs := #[.int .i64 x]) Br [.int .i64 x] ?_; intro cf bq
   obtain ⟨az, br, bu, bw⟩ := E9 ay
   refine DB (xs := ah) (ys := [x]) (zs := az) rfl Br rfl rfl (Nat.zero_le _) (fun _ => .c (.c .h)) ad (GO.box (vss := [[.int .i64 x]]) (ys := [x]) 0 rfl (Ad _) (.cons rfl .nil) rfl rfl) br bu (by decide) ?_; intro ba bb bc ak ar
   refine kO (kd kr) (Bt (i := 0) sizeOf22 rfl rfl rfl rfl (Be rfl) (AJ rfl ?_))
   refine Aa (Av (id := 1) ?_)
   refine ⟨(b1, ce #[.slice ba bb bc] 22) :: (ak ++ []), ⟨_, .refl _, sr⟩, ?_⟩; exact ⟨_, az, ba, bb, bc, ak, (by rw [ae]; simp), bw, rfl, ar⟩
  ·rintro cg _ au ⟨tl, ah, Nv, ai, FE, aa, ab, bg, rfl, ad⟩
   obtain rfl := LJ ab; rw [BI] at bg
   refine Av (id := 0) ?_
   obtain rfl := AH bg
   exact mi kr ⟨Nv, ai, FE, aa, au, rfl, z1, ad⟩
  intro c F1 L1 hx h; exact h.elim
 rintro e1 cj _ ⟨a2, n6, c3, aq, bx, rfl, av, bz⟩
 refine Az _ av (AM (uv (Ao isAgg22 rfl (Has.own 0 rfl) rfl) ?_))
 refine ua (Aa ?_)
 refine kW (kd kr) (Ap (B2 results132 ?_))
 obtain rfl := AH r9
 exact ⟨_, _, _, _, rfl, rfl, bz⟩
theorem LD (aa : ∀ args w, (callFunc KO args).run Tryz.prog w = .ok (.enter KO args) w) (ab : IZ Tryz.prog KO OZ OK F (fun x : Int => #[.int .i64 x]) seq) {r : List Int} (hr : GJ seq = some r) :
    SH.Spec Tryz.prog 113 #[.func (.func KO) OZ OK] F [] fun F' L' v => ∃ (ra : Option Addr) (rn : Nat) (rc : Nat) (rL : LH), v = .slice ra rn rc ∧ L' = rL ++ [] ∧ AN 0 3 1 (iE .i64) F' ra rn rc r rL := by
 refine sp func113 ntmps113 fun K _ _ => ?_
 rw [GJ] at hr
 refine AM (ua (BX (um ?_)))
 obtain ⟨l, h1, r2⟩ := Aw hr
 refine c0 call132 (JP (AN.nil 0 _ _ _ _) aa ab h1) ?_; rintro _ F3 _ ae af ⟨a7, ah, c8, ai, rfl, rfl, ad⟩
 refine AJ (lp (ln rfl)) ?_
 refine ua (Aa (Ap ?_))
 refine B2 results113 ?_
 obtain rfl := AH r2
 exact ⟨_, _, _, _, rfl, rfl, ad.any⟩
theorem Mc (aa : ∀ args w, (callFunc KO args).run Tryz.prog w = .ok (.enter KO args) w) (ad : IZ Tryz.prog KO OZ OK F (fun x : Int => #[.int .i64 x]) seq) {r : List Int} (hr : FM seq = some r) :
    SH.Spec Tryz.prog 89 #[.func (.func KO) OZ OK] F [] fun F' L' v => ∃ (ra : Option Addr) (rn : Nat) (rc : Nat) (rL : LH), v = .slice ra rn rc ∧ L' = rL ++ [] ∧ AN 0 3 1 (iE .i64) F' ra rn rc r rL := by
 refine sp func89 ntmps89 fun K _ _ => ?_
 rw [FM] at hr
 refine AM (ua (BX (um ?_)))
 obtain ⟨l, h1, r2⟩ := Aw hr
 refine c0 call113 (LD aa ad h1) ?_; rintro _ F3 _ au af ⟨a7, av, c8, ah, rfl, rfl, ab⟩
 replace ab := ab.new fun p hp => af p (by simp [hp])
 refine AJ (lp (ln rfl)) ?_
 refine ua (BX (um ?_))
 obtain ⟨s_, ai, aj⟩ := Aw r2
 refine IG (Lb := ah ++ []) (Lr := []) rfl call87 rfl rfl rfl (pT pR (lp (ln rfl))) (IQ ab ai) ?_; rintro _ aw _ ak ao aq ⟨ar, rfl, rfl, ae⟩
 refine AJ (lp (ln rfl)) ?_
 refine BX (um (ua (Aa (Ap ?_))))
 refine B2 results89 ?_
 obtain rfl := AH aj
 exact ⟨_, _, _, _, rfl, rfl, ae.any⟩
set_option maxHeartbeats 1000000 in
theorem J0 {ah : Nat} {aq : Nat × Nat} (ae : F ah = some (.cells #[.slice Cp s_.length B9] 22 aq)) (aa : AL 1 (iE .i64) F Cp B9 s_) {xs : List Int} (hr : ED s_ = some xs) :
    IZ Tryz.prog 114 #[] #[.pointer (some ⟨ah, 0, none⟩)] F (fun x : Int => #[.int .i64 x]) xs := by
 intro G0 bn yv J Jx cf bu hy Fc L0 hG bw
 replace ae := (bn.trans hG) _ _ ae
 replace aa := aa.mono (Ad _) (bn.trans hG)
 have ai : xs = [] ++ xs := rfl
 show SH.Spec Tryz.prog 114 #[yv, .pointer (some ⟨ah, 0, none⟩)] Fc L0 _
 refine sp func114 ntmps114 fun K _ _ => ?_
 rw [ED] at hr; refine IB (L' := L0 ++ []) (by simp) ?_
 refine AM (uv (Ao isAgg22 rfl (Has.frozen ae) rfl) (uv (AX underlying22 rfl) ?_))
 refine um (Aa ?_)
 refine Aq ?_
 refine A9 (fun bo e1 F1 L1 => LA s_ bo fun tl k => ∃ (ad : List Int) (aj : List Int) (ar : LH), B6 tl = some aj ∧ AY Fc F1 ∧ L1 = (ar ++ []) ∧ e1.sub [(0, yv), (5, .slice Cp s_.length B9), (6, .int .i64 (s_.length : Int)), (7, .int .i64 k)] ∧ xs = ad ++ aj ∧ J ad F1 ar ∧ AY G0 F1) _ (m0 kr ⟨_, _, rfl, BO.start _, [], xs, L0, hr, AY.refl _, rfl, z4, ai, bw, hG⟩) ?_
 rintro bo e1 cg _ ⟨tl, k, bx, ay, ad, aj, ar, r8, au, rfl, bz, ab, bp, hG⟩
 refine Az _ bz ?_
 replace aa := aa.mono (Ad _) au
 refine AM (uv (A7 rfl rfl) ?_)
 refine Aa (Ar ?_)
 refine cQ (fun LB => ?_) fun LB => ?_
 ·obtain ⟨x, cj, rfl, az, bq, ba⟩ := BO.succ ay LB
  rw [B6] at r8
  refine Al (Ar ?_)
  refine Aq (AM ?_)
  obtain ⟨cn, cp, J5, ca, bb, bc, br, rfl, cb, bg⟩ := AL.at (Ad _) aa (ar ++ []) bq.1 az
  refine uv (AA underlying22 sizeOf3 rfl bb rfl bq) (uv (Ao isAgg3 rfl bc (bg 0 (by decide))) ?_)
  refine ua (BX (um (um ?_)))
  obtain ⟨ak, cc, av⟩ := Uc r8
  refine Qx (Lb := ar) (Lr := []) (vs := [.int .i64 x]) rfl rfl rfl fP (hy ad x ak (by rw [ab, av]) _ _ hG bp) ?_
  rintro cq cr bh ao bj; obtain ⟨cd, rfl, aw, ax⟩ := MH bj
  replace aa := aa.mono (Ad _) ao
  replace hG := hG.trans ao
  refine uv (Cf rfl) (Aa ?_)
  refine AU rfl (fun bk => ?_) (fun bk => ?_)
  ·have bl := ax (by simpa using bk)
   refine Ap (AB (Ah (Ah (AB ?_))))
   refine Ma (.inl rfl) results114 (sr) ?_
   exact .inr (by rw [List.append_nil]; exact bl)
  have bm := aw (by simpa using bk)
  have af : xs = (ad ++ [x]) ++ ak := by rw [ab, av]; simp
  refine Al (Av (id := 1) (Ak ?_))
  refine uv (A1 rfl rfl (BO.DZ ay LB (AL.lt aa))) ?_
  refine um (Aa ?_)
  subst bx; exact le kr ⟨_, _, rfl, ba, ad ++ [x], ak, bh, cc, (au.trans ao), rfl, z4, af, bm, hG⟩
 obtain rfl := BO.zero ay LB
 rw [B6] at r8
 refine AR (Aj (Aj ?_))
 refine Ay (Ma (.inr rfl) results114 (sr) ?_)
 obtain rfl := AH r8
 exact .inl (by have e1 := ab; rw [List.append_nil] at e1; rw [List.append_nil, e1]; exact bp)
theorem KP (aa : AL 1 (iE .i64) F Cp B9 s_) {r : List Int} (hr : Dy s_ = some r) :
    SH.Spec Tryz.prog 90 #[.slice Cp s_.length B9] F [] fun F' L' v => ∃ (ad : Array Value), v = .func (.func 114) #[] ad ∧ L' = [] ∧ IZ Tryz.prog 114 #[] ad F' (fun x : Int => #[.int .i64 x]) r := by
 refine sp func90 ntmps90 fun K _ _ => ?_
 rw [Dy] at hr
 refine AM ?_
 refine Bu rfl rfl ?_; intro b1 ae
 refine ua (BX ?_)
 refine uv (He rfl rfl) ?_
 refine ua (Aa ?_)
 refine GI 0 rfl ae ?_; intro F2 af ah
 refine IB (L' := []) rfl ?_
 replace aa := aa.mono (Ad _) af
 obtain ⟨l, h5, r7⟩ := Aw hr
 have ab : IZ Tryz.prog 114 #[] #[.pointer (some ⟨b1, 0, none⟩)] F2 (fun x : Int => #[.int .i64 x]) l := J0 ah aa h5
 refine Ap (B2 results90 ?_)
 obtain rfl := AH r7
 exact ⟨_, rfl, rfl, ab⟩
theorem Iy (aa : AL 1 (iE .i64) F Cp B9 s_) {r : List Int} (hr : Dd s_ = some r) :
    SH.Spec Tryz.prog 92 #[.slice Cp s_.length B9] F [] fun F' L' v => ∃ (ra : Option Addr) (rn : Nat) (rc : Nat) (rL : LH), v = .slice ra rn rc ∧ L' = rL ++ [] ∧ AN 0 3 1 (iE .i64) F' ra rn rc r rL := by
 refine sp func92 ntmps92 fun K _ _ => ?_
 rw [Dd] at hr
 refine AM (ua (Aa (Ar (AM (um ?_)))))
 refine uv (Rh underlying22 rfl) (Aa ?_)
 refine AU rfl (fun c1 => ?_) (fun c1 => ?_)
 ·have r2 := SJ hr (AL.isNone aa c1)
  refine AM (ua (Aa (Ap (Ah ?_))))
  refine B2 results92 ?_
  obtain rfl := AH r2
  exact ⟨_, _, _, [], rfl, rfl, AN.nil _ _ _ _ _⟩
 have r3 := Sz hr
 refine Al (AM ?_)
 refine HB (cs := #[]) rfl rfl (HV Br) ?_; intro b4 af
 refine um ?_
 have ae : AN K.w0.heap.size 3 1 (iE .i64) F (some ⟨b4, 0, none⟩) 0 0 ([] : List Int) [(b4, ce #[] 3)] := AN.BS (vss := []) (Ad _) af .nil rfl rfl (by simp [maxLen])
 generalize ab : ([(b4, ce #[] 3)] : LH) = ah at ae
 refine AV (L' := ah ++ []) (by rw [← ab]; exact fO) ?_
 obtain ⟨l, h8, g9, ai⟩ := E9 r3
 refine DB (xs := ([] : List Int)) (ys := s_) (zs := l) rfl Br rfl rfl (Nat.le_refl _) (fun _ => .h) ae (AL.src aa) h8 g9 (by decide) ?_; intro MS ak Lv aj ad
 refine ua (Aa (Ap ?_))
 refine B2 results92 ?_
 obtain rfl := AH ai
 exact ⟨_, _, _, _, rfl, rfl, ad.any⟩
set_option maxHeartbeats 1000000 in
theorem JN (aa : AL 1 (iE .i64) F Cp B9 s_) (ai : Mp Tryz.prog F UP Ur U8 (iE .i64) Value.bool f) {r : Int} (hr : Et s_ f = some r) :
    Bz Tryz.prog 133 #[.slice Cp s_.length B9, .func (.func UP) Ur U8] F (.int .i64 r) := by
 refine sp func133 ntmps133 fun K _ _ => ?_
 rw [Et] at hr
 refine AM (ua (Aa ?_))
 refine AQ (fun e1 F1 L1 => E0 = some r ∧ F = F1 ∧ L1 = [] ∧ e1.sub []) ?_ ?_
 ·refine AM (um ?_)
  refine uv (AX underlying22 rfl) ?_
  refine um (Aa ?_)
  refine Aq ?_
  refine A9 (fun aj e1 F1 L1 => LA s_ aj fun tl k => BZ f tl k = some r ∧ F = F1 ∧ L1 = [] ∧ e1.sub [(0, .slice Cp s_.length B9), (1, .func (.func UP) Ur U8), (7, .int .i64 (s_.length : Int)), (8, .int .i64 k)]) _ (m0 kr ⟨_, _, rfl, BO.start _, hr, rfl, rfl, z4⟩) ?_
  rintro aj e1 _ _ ⟨tl, k, ar, ab, r3, rfl, rfl, au⟩
  refine Az _ au (AM (uv (A7 rfl rfl) ?_))
  refine Aa (Ar ?_)
  refine cQ (fun c6 => ?_) fun c6 => ?_
  ·obtain ⟨x, bc, rfl, av, g9, aw⟩ := BO.succ ab c6
   rw [BZ] at r3
   refine Al (Ar ?_)
   refine Aq ?_
   refine AM (um (ua (BX (um (um (um ?_))))))
   obtain ⟨LZ, bg, Lv, ax, ad, ae, ak, rfl, ay, af⟩ := AL.at (Ad _) aa ([]) g9.1 av
   refine uv (AA underlying22 sizeOf3 rfl ad rfl g9) (uv (Ao isAgg3 rfl ae (af 0 (by decide))) ?_)
   obtain ⟨ok, az, ao⟩ := Aw r3
   refine LY rfl ai.1 rfl rfl rfl (ai.2 _ (AY.refl _) _ _ _ rfl az) (Aa ?_)
   refine AU rfl (fun Jj => ?_) (fun Jj => ?_)
   ·have ba := bt ao Jj
    refine AM (um (ua (Aa (Ap (AB (Ah (Ah (AB (Ah ?_)))))))))
    refine B2 results133 ?_
    obtain rfl := AH ba
    exact rfl
   have bb := bf ao Jj
   refine Al (Av (id := 1) (Ak ?_))
   refine uv (A1 rfl rfl (BO.DZ ab c6 (AL.lt aa))) ?_
   refine um (Aa ?_)
   subst ar; exact le kr ⟨_, _, rfl, aw, bb, rfl, rfl, z4⟩
  obtain rfl := BO.zero ab c6
  rw [BZ] at r3
  refine AR (Aj (Aj ?_))
  refine Ay ?_
  exact mi kr ⟨r3, rfl, rfl, (sn _)⟩
 rintro e1 _ _ ⟨aq, rfl, rfl, ah⟩
 refine Az _ ah ?_
 rw [E0] at aq
 refine AM (ua (Aa (Ap ?_)))
 refine B2 results133 ?_
 obtain rfl := AH aq
 exact rfl
theorem Jh (aa : AL 1 (iE .i64) F Cp B9 s_) (ab : Mp Tryz.prog F UP Ur U8 (iE .i64) Value.bool f) {r : Bool} (hr : CY s_ f = some r) :
    Bz Tryz.prog 115 #[.slice Cp s_.length B9, .func (.func UP) Ur U8] F (.bool r) := by
 refine sp func115 ntmps115 fun K _ _ => ?_
 rw [CY] at hr
 refine AM (ua (BX (um (um ?_))))
 obtain ⟨n, h1, r2⟩ := Aw hr
 refine cV call133 (JN aa ab h1) (uv (JI rfl rfl) ?_)
 refine ua (Aa (Ap ?_))
 refine B2 results115 ?_
 obtain rfl := AH r2
 exact rfl
theorem MJ {x : Int} {aa : Nat} {ab : Nat × Nat} (ad : F aa = some (.cells #[.func (.func QI) QO Qt] 97 ab)) (ae : Mp Tryz.prog F QI QO Qt (iE .i64) Value.bool so) {r : Bool} (hr : Gp x so = some r) :
    Bz Tryz.prog 116 #[.int .i64 x, .pointer (some ⟨aa, 0, none⟩)] F (.bool r) := by
 refine sp func116 ntmps116 fun K _ _ => ?_
 rw [Gp] at hr
 refine AM (ua (BX ?_))
 refine uv (Ao isAgg97 rfl (Has.frozen ad) rfl) (um ?_)
 obtain ⟨ok, h1, r2⟩ := Aw hr
 refine LY rfl ae.1 rfl rfl rfl (ae.2 _ (AY.refl _) _ _ _ rfl h1) (uv (Cf rfl) ?_)
 refine ua (Aa (Ap ?_))
 refine B2 results116 ?_
 obtain rfl := AH r2
 exact rfl
theorem NS (ab : AL 1 (iE .i64) F Mq Mm l) (aa : Mp Tryz.prog F QI QO Qt (iE .i64) Value.bool so) {r : Bool} (hr : Gx l so = some r) :
    Bz Tryz.prog 93 #[.slice Mq l.length Mm, .func (.func QI) QO Qt] F (.bool r) := by
 refine sp func93 ntmps93 fun K _ _ => ?_
 rw [Gx] at hr
 refine AM ?_
 refine Bu rfl rfl ?_; intro b1 af
 refine ua (BX (um ?_))
 refine uv (He rfl rfl) ?_
 refine B1 0 rfl af ?_; intro F2 ad ah
 refine AJ rfl ?_
 replace ab := ab.mono (Ad _) ad
 replace aa := aa.mono ad
 have ai : Mp Tryz.prog F2 116 #[] #[.pointer (some ⟨b1, 0, none⟩)] (iE .i64) Value.bool (fun ae : Int => Gp ae so) := ⟨call116, fun F2 h2 vs ae r ha hr => by obtain rfl := ha; exact MJ (h2 _ _ ah) (aa.mono h2) hr⟩
 obtain ⟨ok, h6, r7⟩ := Aw hr
 refine cV call115 (Jh ab ai h6) (uv (Cf rfl) ?_)
 refine ua (Aa (Ap ?_))
 refine B2 results93 ?_
 obtain rfl := AH r7
 exact rfl
set_option maxHeartbeats 1000000 in
theorem MK {x y : List Bool} (ao : x.length = 30) (aq : y.length = 30) {r : Bool} (hr : Gl x y = some r) :
    Bz Tryz.prog 95 #[.agg (arr cB x), .agg (arr cB y)] F (.bool r) := by
 refine sp func95 ntmps95 fun K _ _ => ?_
 rw [Gl] at hr
 refine AM ?_
 refine Bu rfl rfl ?_; intro b1 bh
 refine Bu rfl rfl ?_; intro b2 bj
 refine ua (Aa ?_)
 refine AQ (fun e1 F1 L1 => HJ = some r ∧ F = F1 ∧ L1 = [] ∧ e1.sub []) ?_ ?_
 ·refine AM (um (Aa ?_))
  refine Aq ?_
  obtain ⟨g3, r4⟩ := AW hr
  refine A9 (fun aa e1 F1 L1 => ∃ (k : Int), DD 0 30 k aa ∧ CW x y aa k = some r ∧ F = F1 ∧ L1 = [(b2, ce (arr cB y) 113), (b1, ce (arr cB x) 113)] ∧ e1.sub [(2, .pointer (some ⟨b1, 0, none⟩)), (3, .pointer (some ⟨b2, 0, none⟩)), (6, .int .i64 k)]) _ (m0 kr ⟨_, DD.start _ _, r4, rfl, rfl, z3⟩) ?_
  rintro aa e1 _ _ ⟨k, ab, r7, rfl, rfl, av⟩
  refine Az _ av (AM (uv (A7 rfl rfl) ?_))
  refine Aa (Ar ?_)
  refine cQ (fun H4 => ?_) fun H4 => ?_
  ·obtain ⟨aa, rfl, ad⟩ := DD.succ ab H4
   rw [CW] at r7
   refine Al (Ar ?_)
   refine Aq ?_
   refine AM (um (ua (Aa ?_)))
   obtain ⟨k2, aw, ae⟩ := Aw r7
   refine jE ([(b2, ce (arr cB y) 113), (b1, ce (arr cB x) 113)]) [(2, .pointer (some ⟨b1, 0, none⟩)), (3, .pointer (some ⟨b2, 0, none⟩)), (6, .int .i64 k), (16, .bool k2)] ?_ ?_
   ·clear ae
    refine Ak (um ?_)
    obtain ⟨x2, ax, af, ar⟩ := Bj aw
    have ah := Sa BY ao af
    refine uv (MX underlying113 sizeOf4 rfl rfl (NG ao ax)) (uv (Ao isAgg4 rfl (Has.own 1 rfl) ((ah).2.2 0 (by decide))) (um ?_))
    rcases Bf x2 with KW | KW
    ·have ay := bt ar KW
     refine nB KW (um (nB KW ?_))
     obtain ⟨x3, az, ai, ba⟩ := Bj ay
     have aj := Sa BY aq ai
     refine uv (MX underlying113 sizeOf4 rfl rfl (NG aq az)) (nB KW (uv (Ao isAgg4 rfl (Has.own 0 rfl) ((aj).2.2 0 (by decide))) (uv (Au (Es rfl KW) rfl) (Aa ?_))))
     obtain rfl := AH ba
     exact mi kr ⟨rfl, rfl, z4⟩
    have bb := bf ar KW
    refine fB KW (fB KW (fB KW ?_))
    refine uv (At (Es rfl KW) rfl) (Aa ?_)
    obtain rfl := AH bb
    exact mi kr ⟨rfl, rfl, z4⟩
   refine AU rfl (fun JE => ?_) (fun JE => ?_)
   ·have bc := bt ae JE
    refine AM (ua (Aa ?_))
    refine kW kn ?_
    refine Ap (AB (Ah (Ah (AB (Ah ?_)))))
    refine B2 results95 ?_
    obtain rfl := AH bc
    exact rfl
   have bg := bf ae JE
   refine Al (Av (id := 1) (Ak ?_))
   refine uv (A1 rfl rfl (DD.DZ ab H4 g3)) ?_
   refine um (Aa ?_)
   exact le kr ⟨_, ad, bg, rfl, rfl, z3⟩
  obtain rfl := DD.zero ab H4
  rw [CW] at r7
  refine AR (Aj (Aj ?_))
  refine Ay ?_
  exact mi kn ⟨r7, rfl, rfl, (sn _)⟩
 rintro e1 _ _ ⟨au, rfl, rfl, ak⟩
 refine Az _ ak ?_
 rw [HJ] at au
 refine AM (ua (Aa (Ap ?_)))
 refine B2 results95 ?_
 obtain rfl := AH au
 exact rfl
theorem NH {k : Int} {aw : Nat} {Bl : List (List Bool)} {af : Nat × Nat} {ax : Nat} {i : Int} {ah : Nat × Nat} (ae : F aw = some (.cells #[.slice Ce Bl.length Cg, .func (.func Dl) Dk Dm] 118 af)) (aa : AL 30 (Mo 30 cB) F Ce Cg Bl) (_h_count : Mp Tryz.prog F Dl Dk Dm (iE .i64) (Value.int .i64) count) (ai : F ax = some (.cells #[.int .i64 i] 3 ah)) {r : Bool} (hr : Gy k Bl count i = some r) :
    Bz Tryz.prog 94 #[.int .i64 k, .pointer (some ⟨aw, 0, none⟩), .pointer (some ⟨ax, 0, none⟩)] F (.bool r) := by
 refine sp func94 ntmps94 fun K _ _ => ?_
 rw [Gy] at hr
 refine AM (ua ?_)
 refine dN (wv (Am Hn rfl) (wv (Ao isAgg109 rfl (Has.frozen ae) rfl) (wm ?_)))
 obtain ⟨x, g1, az, r3⟩ := Bj hr
 obtain ⟨b4, o5, c6, bm, ba, bb, ab, ⟨rfl, bc⟩, aj, ak⟩ := AL.at (BP (n := 30) (sz := 1) BY) aa ([]) g1.1 az
 refine wv (AA underlying109 sizeOf113 rfl ba rfl g1) (wv (As isAgg113 sizeOf113 rfl bb ab (CK ab aj ak)) (wv (Am Hn rfl) (wv (Ao isAgg109 rfl (Has.frozen ae) rfl) (wv (Ao isAgg3 rfl (Has.frozen ai) rfl) ?_))))
 obtain ⟨x2, ay, ao, bg⟩ := Bj r3
 obtain ⟨bn, bo, J5, bh, aq, ar, ad, ⟨rfl, bj⟩, au, av⟩ := AL.at (BP (n := 30) (sz := 1) BY) aa ([]) ay.1 ao
 refine wv (AA underlying109 sizeOf113 rfl aq rfl ay) (wv (As isAgg113 sizeOf113 rfl ar ad (CK ad au av)) ?_)
 obtain ⟨ok, bk, bl⟩ := Aw bg
 refine Dx rfl call95 rfl rfl rfl (MK bc bj bk) (wv (Cf rfl) ?_)
 refine wa (BD (Ap ?_))
 refine B2 results94 ?_
 obtain rfl := AH bl
 exact rfl
set_option maxHeartbeats 1000000 in
theorem Oh {rec_ : (List Int) → Int → (List Int) → (List Int) → (List (List Bool)) → (Int → Option Int) → Option ((List Int))} (cr : ∀ {Mq : Option Addr} {Mm : Nat} {l : List Int} {from_ : Int} {ad : Nat} {ak : Option Addr} {ao aq : Nat} {ar : LH} {out : List Int} {ai : Nat} {ay : Option Addr} {az : Nat} {own : List Int} {bb : Nat × Nat} {bk : Nat} {Ce : Option Addr} {Cg : Nat} {Bl : List (List Bool)} {Dl : FuncId} {Dk Dm : Array Value} {count : Int → Option Int} {bn : Nat × Nat} {ae : Nat} {av : Nat × Nat} {F : FS} (_ : AL 1 (iE .i64) F Mq Mm l) (_ : AN 0 3 1 (iE .i64) F ak ao aq out ar) (_ : F ai = some (.cells #[.slice ay own.length az] 22 bb)) (_ : AL 1 (iE .i64) F ay az own) (_ : F bk = some (.cells #[.slice Ce Bl.length Cg, .func (.func Dl) Dk Dm] 118 bn)) (_ : AL 30 (Mo 30 cB) F Ce Cg Bl) (_ : Mp Tryz.prog F Dl Dk Dm (iE .i64) (Value.int .i64) count) (_ : F ae = some (.cells (#[.func (.func 91) #[] #[.pointer (some ⟨ad, 0, none⟩), .pointer (some ⟨ai, 0, none⟩), .pointer (some ⟨bk, 0, none⟩), .pointer (some ⟨ae, 0, none⟩)]]) 131 av)) {r : List Int} , rec_ l from_ out own Bl count = some r → SH.Spec Tryz.prog 91 #[.slice Mq l.length Mm, .int .i64 from_, .pointer (some ⟨ad, 0, none⟩), .pointer (some ⟨ai, 0, none⟩), .pointer (some ⟨bk, 0, none⟩), .pointer (some ⟨ae, 0, none⟩)] F ((ad, ce #[.slice ak ao aq] 22) :: (ar ++ [])) fun F' L' v => ∃ (ra : Option Addr) (rn : Nat) (rc : Nat) (rL : LH), v = .tuple #[] ∧ L' = (ad, ce #[.slice ra rn rc] 22) :: (rL ++ []) ∧ AN 0 3 1 (iE .i64) F' ra rn rc r rL) {from_ : Int} {ad : Nat} {ak : Option Addr} {ao aq : Nat} {ar : LH} {out : List Int} {ai : Nat} {ay : Option Addr} {az : Nat} {own : List Int} {bb : Nat × Nat} {bk : Nat} {Bl : List (List Bool)} {bn : Nat × Nat} {ae : Nat} {av : Nat × Nat} (bo : AL 1 (iE .i64) F Mq Mm l) (bm : AN 0 3 1 (iE .i64) F ak ao aq out ar) (af : F ai = some (.cells #[.slice ay own.length az] 22 bb)) (aj : AL 1 (iE .i64) F ay az own) (au : F bk = some (.cells #[.slice Ce Bl.length Cg, .func (.func Dl) Dk Dm] 118 bn)) (ah : AL 30 (Mo 30 cB) F Ce Cg Bl) (aa : Mp Tryz.prog F Dl Dk Dm (iE .i64) (Value.int .i64) count) (ab : F ae = some (.cells (#[.func (.func 91) #[] #[.pointer (some ⟨ad, 0, none⟩), .pointer (some ⟨ai, 0, none⟩), .pointer (some ⟨bk, 0, none⟩), .pointer (some ⟨ae, 0, none⟩)]]) 131 av)) {r : List Int} (hr : I8 rec_ l from_ out own Bl count = some r) :
    SH.Spec Tryz.prog 91 #[.slice Mq l.length Mm, .int .i64 from_, .pointer (some ⟨ad, 0, none⟩), .pointer (some ⟨ai, 0, none⟩), .pointer (some ⟨bk, 0, none⟩), .pointer (some ⟨ae, 0, none⟩)] F ((ad, ce #[.slice ak ao aq] 22) :: (ar ++ [])) fun F' L' v => ∃ (ra : Option Addr) (rn : Nat) (rc : Nat) (rL : LH), v = .tuple #[] ∧ L' = (ad, ce #[.slice ra rn rc] 22) :: (rL ++ []) ∧ AN 0 3 1 (iE .i64) F' ra rn rc r rL := by
 refine sp func91 ntmps91 fun K _ _ => ?_
 rw [I8] at hr
 refine IB (L' := (ad, ce #[.slice ak ao aq] 22) :: (ar ++ [])) (by simp) ?_
 obtain ⟨bx, h7, r8⟩ := Aw hr
 refine AQ (fun e1 F1 L1 => ∃ (a1 : Option Addr) (n5 : Nat) (c2 : Nat) (cg : LH), AY F F1 ∧ L1 = ((ad, ce #[.slice a1 n5 c2] 22) :: (cg ++ [])) ∧ e1.sub [(0, .slice Mq l.length Mm), (1, .int .i64 from_), (3, .pointer (some ⟨ai, 0, none⟩)), (4, .pointer (some ⟨bk, 0, none⟩)), (5, .pointer (some ⟨ae, 0, none⟩))] ∧ AN 0 3 1 (iE .i64) F1 a1 n5 c2 bx cg) ?_ ?_
 ·clear r8
  refine AM (um ?_)
  refine uv (AX underlying22 rfl) (uv (Ao isAgg22 rfl (Has.own 0 rfl) rfl) (uv ((AX underlying22 rfl).i (AN.HH bm)) (uv (Ex rfl rfl) (Aa ?_))))
  refine cQ (fun c9 => ?_) fun c9 => ?_
  ·have dv := AO h7 c9
   refine Ak (um ?_)
   obtain ⟨l2, dw, dx⟩ := Aw dv
   refine c0 call92 (Iy bo dw) ?_; rintro _ ga _ ct cu ⟨U9, dy, KW, cv, rfl, rfl, bp⟩
   replace bp := bp.new fun p hp => cu p (by simp [hp])
   refine AJ (lp (ln rfl)) (kO (kf (fS fO) kr) (Bt (i := 0) sizeOf22 rfl rfl rfl rfl (Be rfl) (AJ rfl (Aa ?_))))
   obtain rfl := AH dx
   exact mi (kc (ka kn)) ⟨U9, dy, KW, cv, ct, rfl, z5, bp.any⟩
  have dz := AP h7 c9
  refine Al ?_
  obtain rfl := AH dz
  exact mi kr ⟨ak, ao, aq, ar, AY.refl _, rfl, z5, bm⟩
 rintro e1 eb _ ⟨a1, n5, c2, cg, bc, rfl, cw, eg⟩
 refine Az _ cw ?_
 replace bo := bo.mono (Ad _) bc
 replace aj := aj.mono (Ad _) bc
 replace ah := ah.mono (BP (n := 30) (sz := 1) BY) bc
 replace aa := aa.mono bc
 replace af := bc _ _ af
 replace au := bc _ _ au
 replace ab := bc _ _ ab
 refine AM (um ?_)
 refine A6 rfl zeroValue3 ?_; intro Xj cx
 refine Bt (i := 0) sizeOf3 rfl rfl rfl rfl (Be rfl) (AJ rfl (Aa (Aq ?_)))
 refine A9 (fun cj e1 F1 L1 => ∃ (bq : List Int) (i : Int) (br : Option Addr) (bu : Nat) (Jl : Nat) (bg : LH) (bj : Nat), DR l own Bl count rec_ cj bq i = some r ∧ AY eb F1 ∧ L1 = ((bj, ce #[.int .i64 i] 3) :: ((ad, ce #[.slice br bu Jl] 22) :: (bg ++ []))) ∧ e1.sub [(0, .slice Mq l.length Mm), (3, .pointer (some ⟨ai, 0, none⟩)), (4, .pointer (some ⟨bk, 0, none⟩)), (5, .pointer (some ⟨ae, 0, none⟩)), (8, .pointer (some ⟨bj, 0, none⟩))] ∧ AN 0 3 1 (iE .i64) F1 br bu Jl bq bg ∧ K.w0.heap.size ≤ bj) FU (m0 kr ⟨bx, from_, a1, n5, c2, cg, Xj, r8, AY.refl _, rfl, z5, eg, cx⟩) ?_
 rintro cj e1 eh _ ⟨bq, i, br, bu, Jl, bg, bj, bz, ba, rfl, cy, bh, ei⟩
 refine Az _ cy ?_
 replace bo := bo.mono (Ad _) ba
 replace aj := aj.mono (Ad _) ba
 replace ah := ah.mono (BP (n := 30) (sz := 1) BY) ba
 replace aa := aa.mono ba
 replace af := ba _ _ af
 replace au := ba _ _ au
 replace ab := ba _ _ ab
 rcases cj with _ | cj
 ·rw [DR] at bz; cases bz
 rw [DR] at bz
 refine Ar (AM ?_)
 refine uv (Ao isAgg3 rfl (Has.own 0 rfl) rfl) (uv (Ao isAgg22 rfl (Has.frozen af) rfl) (uv (AX underlying22 rfl) (uv (A7 rfl rfl) (Aa ?_))))
 refine cQ (fun cz => ?_) fun cz => ?_
 ·have ej := AO bz cz
  refine Al ?_
  obtain ⟨ca, en, dq⟩ := Aw ej
  refine AQ (fun e1 F1 L1 => ∃ (cn : Option Addr) (cp : Nat) (cq : Nat) (bl : LH), AY eh F1 ∧ L1 = ((ad, ce #[.slice cn cp cq] 22) :: ((bj, ce #[.int .i64 i] 3) :: (bl ++ []))) ∧ e1.sub [(0, .slice Mq l.length Mm), (3, .pointer (some ⟨ai, 0, none⟩)), (4, .pointer (some ⟨bk, 0, none⟩)), (5, .pointer (some ⟨ae, 0, none⟩)), (8, .pointer (some ⟨bj, 0, none⟩))] ∧ AN 0 3 1 (iE .i64) F1 cn cp cq ca bl) ?_ ?_
  ·clear dq
   refine Aq ?_
   refine AM (um ?_)
   refine uv (He rfl rfl) ?_
   obtain ⟨ok, eo, dr⟩ := Aw en
   refine Bi (Lt := [(bj, ce #[.int .i64 i] 3)]) (Lr := (ad, ce #[.slice br bu Jl] 22) :: (bg ++ [])) rfl call93 rfl rfl rfl (pR) (fun F2 h2 h3 => by exact NS (bo.mono (Ad _) h2) (show Mp Tryz.prog F2 94 #[] #[.pointer (some ⟨bk, 0, none⟩), .pointer (some ⟨bj, 0, none⟩)] (iE .i64) Value.bool (fun dt : Int => Gy dt Bl count i) from ⟨call94, fun F3 h4 vs dt r ha hr => by obtain rfl := ha; exact NH ((h2.trans h4) _ _ au) (ah.mono (BP (n := 30) (sz := 1) BY) (h2.trans h4)) (aa.mono (h2.trans h4)) (h4 _ _ (h3 (bj, ce #[.int .i64 i] 3) (List.mem_cons_self ..))) hr⟩) eo) ?_
   refine Aa ?_
   refine AU rfl (fun da => ?_) (fun da => ?_)
   ·have ep := bt dr da
    refine CF [(.still, 0), (.still, 1), (.still, 3), (.pre, 4), (.still, 6), (.still, 7), (.seq, 2), (.alloc (ce #[.int .i64 i] 3) (fun b => .slice (some ⟨b, 0, none⟩) 1 1) [(29, .int .i64 i)], 4), (.seq, 5), (.seq, 8)] (by kernel_rfl) (by kernel_rfl) (⟨⟨_, _, rfl, rfl, rfl, rfl, rfl, Ua rfl (JL Br [.int .i64 i] rfl (by decide) (by simp [Value.cells]) (by decide))⟩, trivial⟩) (by rfl) (by kernel_rfl) (mL [5] ([]) rfl sm (fun H F' L' cb cc => Ao isAgg131 rfl ((Has.frozen ab).ext cb cc) rfl) (mS [0] rfl (Bh rfl) (mL [8] ([(bj, ce #[.int .i64 i] 3)]) rfl (s0 (s2 (s1 (s3 sr)))) (fun H F' L' cb cc => Ao isAgg3 rfl ((Has.own 0 rfl).ext cb cc) rfl) ?_)))
    refine ⟨⟨_, rfl, z1, by kernel_rfl⟩, ?_⟩
    refine mL [8] ([(bj, ce #[.int .i64 i] 3)]) rfl (s0 (s2 (s1 (s3 sr)))) (fun H F' L' cb cc => Ao isAgg3 rfl ((Has.own 0 rfl).ext cb cc) rfl) ?_
    obtain ⟨er, et⟩ := AW ep
    refine mS (v := .int .i64 (i + 1)) [32] rfl (A1 rfl rfl er) ?_
    refine ⟨_, [(27, .slice Mq l.length Mm)], rfl, rfl, z1, by kernel_rfl, ?_⟩; intro H
    obtain ⟨l3, eu, ew⟩ := Aw et
    refine c0 call92 (Iy bo eu) ?_; rintro _ gb _ aw db ⟨ey, ez, fa, dd, rfl, rfl, bw⟩
    replace aj := aj.mono (Ad _) aw
    replace ah := ah.mono (BP (n := 30) (sz := 1) BY) aw
    replace aa := aa.mono aw
    replace bh := bh.mono (Ad _) aw
    replace af := aw _ _ af
    replace au := aw _ _ au
    replace ab := aw _ _ ab
    replace bw := bw.new fun p hp => db p (by simp [hp])
    refine AJ (lp (ln rfl)) (kO (kf (fS fO) (kf (fS fO) kr)) ?_)
    refine Aa ⟨_, rfl, aw, [7, 6, 3, 0], by kernel_rfl, .inl (.inr (fun d h => by cases h; rfl)), (fc sm (fc (s0 (s2 (s1 (s3 (s3 sr))))) (fc (s0 (s2 (s1 (s3 (s3 sr))))) (fc sm nm)))), ?_⟩
    refine WM rfl ?_; intro du fb
    refine JK (L' := (du, ce #[.int .i64 i] 3) :: ((bj, ce #[.int .i64 i] 3) :: ((ad, ce #[.slice br bu Jl] 22) :: (dd ++ (bg ++ []))))) rfl ?_
    refine ⟨_, [(28, .slice ey ez fa), (30, .slice (some ⟨du, 0, none⟩) 1 1)], rfl, rfl, z2, by kernel_rfl, ?_⟩; intro H
    obtain ⟨l4, fe, ff, fg⟩ := E9 ew
    refine DB (xs := l3) (ys := [i]) (zs := l4) rfl Br rfl rfl (Nat.le_refl _) (fun _ => .c (.c (.c .h))) bw (GO.box (vss := [[.int .i64 i]]) (ys := [i]) 0 rfl (Ad _) (.cons rfl .nil) rfl rfl) fe ff (by decide) ?_; intro fh fi fj fk cd
    refine kO (kd kr) ?_
    refine Aa ⟨_, rfl, AY.refl _, [7, 6, 0], by kernel_rfl, .inl (.inr (fun d h => by cases h; rfl)), (fc sm (fc (s0 (s2 (s1 (s3 (s3 sr))))) (fc sm nm))), ?_⟩
    refine ⟨_, [(26, .func (.func 91) #[] #[.pointer (some ⟨ad, 0, none⟩), .pointer (some ⟨ai, 0, none⟩), .pointer (some ⟨bk, 0, none⟩), .pointer (some ⟨ae, 0, none⟩)]), (31, .slice fh fi fj), (33, .int .i64 (i + 1))], rfl, rfl, z3, by kernel_rfl, ?_⟩; intro H
    obtain rfl := (AN.Bm cd).1
    refine FL (Nat.le_refl _) (Ad _) (fC (fC fP)) cd ?_; intro gg ax fl
    replace aj := aj.mono (Ad _) ax
    replace ah := ah.mono (BP (n := 30) (sz := 1) BY) ax
    replace aa := aa.mono ax
    replace bh := bh.mono (Ad _) ax
    replace af := ax _ _ af
    replace au := ax _ _ au
    replace ab := ax _ _ ab
    obtain ⟨fm, fo, fp⟩ := Aw fg
    refine IG (Lb := (ad, ce #[.slice br bu Jl] 22) :: (bg ++ [])) (Lr := [(bj, ce #[.int .i64 i] 3)]) rfl call91 rfl rfl rfl (pT ((fC fO).trans (pC ((fC fP).trans (pA pR)))) (lb (lp (ln rfl)))) (cr fl bh af aj au ah aa ab fo) ?_; rintro _ gh _ cf fq fs ⟨ft, fv, fw, de, rfl, rfl, df⟩
    refine AJ (lb (lp (ln rfl))) (kO (kc (kf (fS fO) kr)) ?_)
    refine Aa ⟨_, rfl, (ax.trans cf), [], by kernel_rfl, .inl (.inl rfl), nm, ?_⟩
    refine DI (Av (id := 1) ?_)
    obtain rfl := AH fp
    exact mi kr ⟨ft, fv, fw, de, ((aw.trans ax).trans cf), rfl, z5, df⟩
   have fx := bf dr da
   refine Al (Av (id := 1) ?_)
   obtain rfl := AH fx
   exact mi (kf (fC fO) kr) ⟨br, bu, Jl, bg, AY.refl _, rfl, z5, bh⟩
  rintro e1 gi _ ⟨cn, cp, cq, bl, dg, rfl, dh, di⟩
  refine Az _ dh ?_
  refine Ar (AM ?_)
  refine uv (Ao isAgg3 rfl (Has.own 1 rfl) rfl) ?_
  refine Aa (Ak ?_)
  refine A6 rfl zeroValue3 ?_; intro fy dk
  refine Bt (i := 0) sizeOf3 rfl rfl rfl rfl (Be rfl) (AJ rfl ?_)
  refine Aa (Ak ?_)
  refine uv (Ao isAgg3 rfl (Has.own 0 rfl) rfl) ?_
  obtain ⟨dm, dn⟩ := AW dq
  refine uv (A1 rfl rfl dm) (Bt (i := 0) sizeOf3 rfl rfl rfl rfl (Be rfl) (AJ rfl (Aa ?_)))
  exact le (kc (kc (kd kr))) ⟨ca, i + 1, cn, cp, cq, bl, fy, dn, (ba.trans dg), rfl, z5, di, dk⟩
 have dp := AP bz cz
 refine AR (Aj (Aj ?_))
 refine Ay (Ma (.inr rfl) results91 (s1 (s2 (s4 sr))) ?_)
 obtain rfl := AH dp
 exact ⟨_, _, _, _, rfl, rfl, bh.any⟩
theorem Pd : ∀ (fu : Nat) {Mq : Option Addr} {Mm : Nat} {l : List Int} {from_ : Int} {ab : Nat} {af : Option Addr} {ah ai : Nat} {aj : LH} {out : List Int} {ad : Nat} {ak : Option Addr} {ao : Nat} {own : List Int} {aq : Nat × Nat} {ar : Nat} {Ce : Option Addr} {Cg : Nat} {Bl : List (List Bool)} {Dl : FuncId} {Dk Dm : Array Value} {count : Int → Option Int} {au : Nat × Nat} {aa : Nat} {ae : Nat × Nat} {F : FS} (_ : AL 1 (iE .i64) F Mq Mm l) (_ : AN 0 3 1 (iE .i64) F af ah ai out aj) (_ : F ad = some (.cells #[.slice ak own.length ao] 22 aq)) (_ : AL 1 (iE .i64) F ak ao own) (_ : F ar = some (.cells #[.slice Ce Bl.length Cg, .func (.func Dl) Dk Dm] 118 au)) (_ : AL 30 (Mo 30 cB) F Ce Cg Bl) (_ : Mp Tryz.prog F Dl Dk Dm (iE .i64) (Value.int .i64) count) (_ : F aa = some (.cells (#[.func (.func 91) #[] #[.pointer (some ⟨ab, 0, none⟩), .pointer (some ⟨ad, 0, none⟩), .pointer (some ⟨ar, 0, none⟩), .pointer (some ⟨aa, 0, none⟩)]]) 131 ae)) {r : List Int} , Gc fu l from_ out own Bl count = some r → SH.Spec Tryz.prog 91 #[.slice Mq l.length Mm, .int .i64 from_, .pointer (some ⟨ab, 0, none⟩), .pointer (some ⟨ad, 0, none⟩), .pointer (some ⟨ar, 0, none⟩), .pointer (some ⟨aa, 0, none⟩)] F ((ab, ce #[.slice af ah ai] 22) :: (aj ++ [])) fun F' L' v => ∃ (ra : Option Addr) (rn : Nat) (rc : Nat) (rL : LH), v = .tuple #[] ∧ L' = (ab, ce #[.slice ra rn rc] 22) :: (rL ++ []) ∧ AN 0 3 1 (iE .i64) F' ra rn rc r rL := by
  intro fu
  induction fu with
  | zero => intros; rename_i hr; rw [Gc] at hr; cases hr
  | succ fu ih => intros; rename_i hr; rw [Gc] at hr; exact Oh ih (by assumption) (by assumption) (by assumption) (by assumption) (by assumption) (by assumption) (by assumption) (by assumption) hr
set_option maxHeartbeats 1000000 in
theorem QG (aa : AL 1 (iE .i64) F Af Ae Ac) (ab : AL 1 (iE .i64) F A3 A4 AI) {r : List Int} (hr : Hj wide Ac AK AF AI = some (r, r2)) :
    SH.Spec Tryz.prog 47 #[.agg #[.int .i64 wide, .slice Af Ac.length Ae], .agg #[.int .i64 AK, .int .i64 AF], .slice A3 AI.length A4] F [] fun F' L' v => ∃ (ra : Option Addr) (rn : Nat) (rc : Nat) (rL : LH), v = .tuple #[.slice ra rn rc, .int .i64 r2] ∧ L' = rL ++ [] ∧ AN 0 3 1 (iE .i64) F' ra rn rc r rL := by
 refine sp func47 ntmps47 fun K _ _ => ?_
 rw [Hj] at hr
 refine AM ?_
 refine Bu rfl rfl ?_; intro b1 ia
 refine Bu rfl rfl ?_; intro b2 ib
 refine ua (ua (BX (um ?_)))
 obtain ⟨y, h3, r4⟩ := Aw hr
 refine c0 call90 (KP ab h3) ?_; rintro _ F5 _ eg ic ⟨ie, rfl, rfl, bk⟩
 replace aa := aa.mono (Ad _) eg
 replace ab := ab.mono (Ad _) eg
 refine AJ (ln rfl) ?_
 obtain ⟨l, fb, fe⟩ := Aw r4
 refine c0 call89 (Mc call114 bk fb) ?_; rintro _ ig _ bl cw ⟨U9, ff, KW, cx, rfl, rfl, ad⟩
 replace aa := aa.mono (Ad _) bl
 replace ab := ab.mono (Ad _) bl
 replace ad := ad.new fun p hp => cw p (by simp [hp])
 refine AJ (lp (ln rfl)) (kO (kf (fS fO) (kf (fS fO) kr)) ?_)
 refine A6 rfl zeroValue22 ?_; intro eh cy
 refine Bt (i := 0) sizeOf22 rfl rfl rfl rfl (Be rfl) (AJ rfl (BX (uv (As isAgg25 sizeOf25 rfl (Has.own 2 rfl) (Be rfl) rfl) (uv (As isAgg29 sizeOf29 rfl (Has.own 1 rfl) (Be rfl) rfl) (um ?_)))))
 obtain ⟨l2, y2, n, fg, ei⟩ := Lg fe
 refine c0 call78 (GP aa ab fg) ?_; rintro _ ij _ bm fh ⟨fi, fj, fk, cz, fl, rfl, rfl, fm, da⟩
 replace aa := aa.mono (Ad _) bm
 replace ad := ad.mono (Ad _) bm
 refine AJ (lp (ln rfl)) (kO (kf (fS fO) (kf (fS fO) (kf (fS fO) kr))) ?_)
 refine um (ox rfl rfl rfl (ox rfl rfl rfl ?_))
 refine A6 rfl zeroValue118 ?_; intro fo db
 refine Bg (i := 0) sizeOf118 rfl rfl rfl (fc rfl (fc (da.1) nm)) rfl (Be rfl) (AJ rfl ?_)
 refine ua (Aa (Ar (AM (um ?_))))
 refine uv (Bo rfl rfl) (Aa ?_)
 refine cQ (fun dd => ?_) fun dd => ?_
 ·have fp := AO ei dd
  refine AM (um (ua (ua (Aa ?_))))
  refine kW kn ?_
  refine Ap (Ah ?_)
  refine Ba results47 (AG rfl) (AG rfl) (sr) ?_
  obtain ⟨rfl, rfl⟩ := BK fp
  exact ⟨_, _, _, [], rfl, rfl, AN.nil _ _ _ _ _⟩
 have fq := AP ei dd
 refine Al (AM ?_)
 refine uv (As isAgg25 sizeOf25 rfl (Has.own 3 rfl) (Be rfl) rfl) (uv (As isAgg29 sizeOf29 rfl (Has.own 2 rfl) (Be rfl) rfl) (uv (Ao isAgg22 rfl (Has.own 1 rfl) rfl) ?_))
 obtain ⟨l3, y3, n2, fs, ft⟩ := Lg fq
 refine Dh (Lb := []) (Lt := cx ++ []) (Lr := (fo, ce #[.slice fi fj fk, fl] 118) :: ((eh, ce #[.slice U9 ff KW] 22) :: ((b2, ce #[.int .i64 AK, .int .i64 AF] 29) :: ((b1, ce #[.int .i64 wide, .slice Af Ac.length Ae] 25) :: (cz ++ []))))) rfl call78 rfl rfl rfl (pT ((fC (fC (fC (fC (fS fP))))).trans (pA pR)) (ln (lp (ln rfl)))) (fun F2 h2 h3 => by rw [(AN.Bm ad).1]; exact GP (aa.mono (Ad _) h2) (ad.row (Ad _) h2 (fun p hp => h3 p (List.mem_append_left _ hp))) fs) (fun _ _ _ _ hq => by obtain ⟨fv, fw, fx, de, fy, rfl, rfl, ae, aq⟩ := hq; exact ⟨_, _, _, _, _, rfl, rfl, ae.flat (fun _ _ h => h), aq⟩) ?_; rintro _ ik _ df dg dh ⟨fv, fw, fx, de, fy, rfl, rfl, ae, aq⟩
 replace ad := ad.mono (Ad _) df
 have di := J1 (Lb' := []) (by rfl) dg dh
 replace ae := ae.new fun p hp => di p (by simp [hp])
 refine AJ (lp (ln (lp (ln rfl)))) (kO (kf (fS (fS fO)) (kf (fS (fS fO)) (kf (fS (fS fO)) (kf (fS (fS fO)) kr)))) ?_)
 refine um (ox rfl rfl rfl (ox rfl rfl rfl ?_))
 refine Bg (i := 0) sizeOf118 rfl rfl rfl (fc rfl (fc (aq.1) nm)) rfl (Be rfl) (AJ rfl (BX ?_))
 refine A6 rfl zeroValue22 ?_; intro bj ga
 refine BX ?_
 refine A6 rfl zeroValue131 ?_; intro il dk
 refine BX (uv (He rfl rfl) (Bt (i := 0) sizeOf131 rfl rfl rfl rfl (Be rfl) (AJ rfl (BX (uv (Ao isAgg131 rfl (Has.own 0 rfl) rfl) ?_)))))
 obtain rfl := (AN.Bm ad).1
 refine FL (Nat.le_refl _) (Ad _) (fC (fC (fC (fC (fC (fC (fS fP))))))) ad ?_; intro im dm aj
 replace ae := ae.mono (BP (n := 30) (sz := 1) BY) dm
 refine B1 3 rfl cy ?_; intro iq bn af
 refine AJ rfl ?_
 replace aj := aj.mono (Ad _) bn
 replace ae := ae.mono (BP (n := 30) (sz := 1) BY) bn
 obtain rfl := (AN.Bm ae).1
 refine FL (Nat.le_refl _) (BP (n := 30) (sz := 1) BY) (fC (fC (fC (fC (fC fP))))) ae ?_; intro ir bo bp
 replace aj := aj.mono (Ad _) bo
 replace af := bo _ _ af
 refine B1 2 rfl db ?_; intro gb aw ax
 refine AJ rfl ?_
 replace aj := aj.mono (Ad _) aw
 replace bp := bp.mono (BP (n := 30) (sz := 1) BY) aw
 replace af := aw _ _ af
 obtain ⟨gg, gh⟩ := AW ft
 obtain rfl := aq.2 gg
 have ay : Mp Tryz.prog gb 106 #[] #[] (iE .i64) (Value.int .i64) (fun ej : Int => Dw ej) := ⟨call106, fun F2 h2 vs ej r ha hr => by obtain rfl := ha; exact Jf hr⟩
 refine B1 0 rfl dk ?_; intro iu ak dn
 refine AJ rfl ?_
 replace aj := aj.mono (Ad _) ak
 replace bp := bp.mono (BP (n := 30) (sz := 1) BY) ak
 replace ay := ay.mono ak
 replace af := ak _ _ af
 replace ax := ak _ _ ax
 obtain ⟨out, gi, gj⟩ := Aw gh
 refine cG call91 ((Pd FU) (AL.nil _ _ _) (AN.nil 0 _ _ _ _) af aj ax bp ay dn gi) ?_; rintro _ en _ bq gk gl ⟨az, ba, bb, dp, rfl, rfl, br⟩
 replace aj := aj.mono (Ad _) bq
 replace af := bq _ _ af
 refine AJ (lb (lp (ln rfl))) (kO (kc (kf (fS fO) (kf (fS fO) kr))) (Aa ?_))
 obtain ⟨bu, gm, eo⟩ := Aw gj
 refine AQ (fun e1 F1 L1 => ∃ (bc : LH), en = F1 ∧ L1 = ((bj, ce #[.slice az ba bb] 22) :: (bc ++ [])) ∧ e1.sub [(11, .pointer (some ⟨bj, 0, none⟩))] ∧ AN 0 3 1 (iE .i64) F1 az ba bb bu bc) ?_ ?_
 ·clear eo
  refine AM (uv (Ao isAgg22 rfl (Has.own 0 rfl) rfl) (uv ((AX underlying22 rfl).i (AN.HH br)) ?_))
  refine um (Aa ?_)
  refine Aq (kW (kc (kd (kd (ka kn)))) ?_)
  obtain ⟨gn, gp⟩ := AW gm
  refine A9 (fun cu e1 F1 L1 => ∃ (k : Int), DD 0 (out.length : Int) k cu ∧ ∃ (bg : List Int) (ah : LH), E8 l cu k bg = some bu ∧ en = F1 ∧ L1 = ((bj, ce #[.slice az ba bb] 22) :: (ah ++ [])) ∧ e1.sub [(8, .pointer (some ⟨eh, 0, none⟩)), (11, .pointer (some ⟨bj, 0, none⟩)), (38, .slice az ba bb), (39, .int .i64 (out.length : Int)), (40, .int .i64 k)] ∧ AN 0 3 1 (iE .i64) F1 az ba bb bg ah) _ (m0 kr ⟨_, DD.start _ _, out, dp, gp, rfl, rfl, z5, br⟩) ?_
  rintro cu e1 _ _ ⟨k, bh, bg, ah, cv, rfl, rfl, bw, ai⟩
  refine Az _ bw (AM (uv (A7 rfl rfl) ?_))
  refine Aa (Ar ?_)
  refine cQ (fun ar => ?_) fun ar => ?_
  ·obtain ⟨cu, rfl, bx⟩ := DD.succ bh ar
   rw [E8] at cv
   refine Al (Ar ?_)
   refine Aq ?_
   refine AM (um ?_)
   obtain ⟨x, ao, au, dq⟩ := Bj cv
   obtain ⟨gq, gr, gu, ep, bz, ca, dr, rfl, er, cb⟩ := AN.at (Ad _) ai (L := (bj, ce #[.slice az ba bb] 22) :: (ah ++ [])) (fC fP) ao.1 au
   refine uv (AA underlying22 sizeOf3 rfl bz rfl (AN.idx ai ao)) (uv (Ao isAgg3 rfl ca (cb 0 (by decide))) ?_)
   refine ua (ua (Aa ?_))
   refine CF [(.still, 0), (.still, 1), (.still, 2), (.still, 3), (.still, 4), (.still, 5), (.still, 6), (.seq, 7)] (by kernel_rfl) (by kernel_rfl) (trivial) (by rfl) (by kernel_rfl) (mL [11] ([(bj, ce #[.slice az ba bb] 22)]) rfl (s0 (s2 (s3 sr))) (fun H F' L' cc cd => Ao isAgg22 rfl ((Has.own 0 rfl).ext cc cd) rfl) (mS [13] rfl (Bh rfl) (mL [8] ([]) rfl sm (fun H F' L' cc cd => Ao isAgg22 rfl ((Has.frozen af).ext cc cd) rfl) (mS [14] rfl (Bh rfl) ?_))))
   obtain ⟨x2, cf, cg, dt⟩ := Bj dq
   obtain ⟨gv, gw, gy, et, cj, cn, du, rfl, eu, cp⟩ := AL.at (Ad _) aj ([]) cf.1 cg
   refine mS [47, 48] rfl (AA underlying22 sizeOf3 rfl cj rfl cf) (mL [49] ([]) rfl sm (fun H F' L' cc cd => Ao isAgg3 rfl (cn.ext cc cd) (cp 0 (by decide))) ?_)
   obtain ⟨dv, dw, gz, ew, av, ey, dx, rfl, ez, fa⟩ := AN.at (Ad _) ai (L := ah ++ []) fP ao.1 au
   refine mS [45, 46] rfl (AA underlying22 sizeOf3 rfl av rfl (AN.idx ai ao)) ?_
   refine ⟨_, [(50, .int .i64 x2), (51, .pointer (some ⟨dv, dw + (k : Int).toNat * 1, none⟩))], rfl, rfl, z2, by kernel_rfl, ?_⟩; intro H
   obtain ⟨l4, dy, dz⟩ := B8 dt
   refine Cv (u := x2) sizeOf3 (Ad _) rfl av rfl rfl (fun _ => .c .h) ai dy ao ?_; intro cq cr
   refine Aa ⟨undef, rfl, AY.refl _, [], by kernel_rfl, .inl (.inl rfl), nm, ?_⟩
   refine DI ?_
   refine Av (id := 1) (Ak ?_)
   refine uv (A1 rfl rfl (DD.DZ bh ar gn)) ?_
   refine um (Aa ?_)
   exact le kr ⟨_, bx, l4, cq, dz, rfl, rfl, z5, cr⟩
  obtain rfl := DD.zero bh ar
  rw [E8] at cv
  refine AR (Aj (Aj ?_))
  refine Ay ?_
  obtain rfl := AH cv
  exact mi kr ⟨ah, rfl, rfl, z1, ai⟩
 rintro e1 _ _ ⟨bc, rfl, rfl, ct, eb⟩
 refine Az _ ct (AM (uv (Ao isAgg22 rfl (Has.own 0 rfl) rfl) ?_))
 refine ua (ua (Aa ?_))
 refine kW (kd kr) (Ap (Ba results47 (AG rfl) (AG rfl) (sr) ?_))
 obtain ⟨rfl, rfl⟩ := BK eo
 exact ⟨_, _, _, _, rfl, rfl, eb.any⟩
set_option maxHeartbeats 1000000 in
theorem Nt {Bl : List (List Int)} (aa : AL 1 (Ol 1 (iE .i64)) F Ce Cg Bl) (ax : AL 1 (iE .i64) F Mq Mm l) {r : Bool} (hr : HW Bl l = some r) :
    Bz Tryz.prog 97 #[.slice Ce Bl.length Cg, .slice Mq l.length Mm] F (.bool r) := by
 refine sp func97 ntmps97 fun K _ _ => ?_
 rw [HW] at hr
 refine AM (ua (Aa ?_))
 refine AQ (fun e1 F1 L1 => H5 = some r ∧ F = F1 ∧ L1 = [] ∧ e1.sub []) ?_ ?_
 ·refine AM (ua (Aa ?_))
  refine Aq ?_
  refine A9 (fun da e1 F1 L1 => LA l da fun tl i => BJ Bl l tl i = some r ∧ F = F1 ∧ L1 = [] ∧ e1.sub [(0, .slice Ce Bl.length Cg), (1, .slice Mq l.length Mm), (5, .int .i64 i)]) _ (m0 kr ⟨_, _, rfl, BO.start _, hr, rfl, rfl, z3⟩) ?_
  rintro da e1 _ _ ⟨tl, i, dt, bg, r3, rfl, rfl, du⟩
  refine Az _ du ?_
  refine Ar (AM (um (um ?_)))
  refine uv (AX underlying22 rfl) (uv (A7 rfl rfl) (Aa ?_))
  refine cQ (fun c6 => ?_) fun c6 => ?_
  ·obtain ⟨x, ay, rfl, db, g9, dv⟩ := BO.succ bg c6
   rw [BJ] at r3
   refine Al ?_
   refine AQ (fun e1 F1 L1 => Il i (BJ Bl l ay) = some r ∧ F = F1 ∧ L1 = [] ∧ e1.sub [(0, .slice Ce Bl.length Cg), (1, .slice Mq l.length Mm), (5, .int .i64 i)]) ?_ ?_
   ·refine Aq ?_
    refine AM (ua (Aa ?_))
    refine Aq ?_
    obtain ⟨dw, dx⟩ := AW r3
    refine A9 (fun ae e1 F1 L1 => ∃ (k : Int), DD 0 i k ae ∧ BT Bl l i x (BJ Bl l ay) ae k = some r ∧ F = F1 ∧ L1 = [] ∧ e1.sub [(0, .slice Ce Bl.length Cg), (1, .slice Mq l.length Mm), (5, .int .i64 i), (6, .int .i64 k)]) _ (m0 kr ⟨_, DD.start _ _, dx, rfl, rfl, z4⟩) ?_
    rintro ae e1 _ _ ⟨k, ab, az, rfl, rfl, bh⟩
    refine Az _ bh ?_
    refine Ar (AM (um (um ?_)))
    refine uv (A7 rfl rfl) (Aa ?_)
    refine cQ (fun FG => ?_) fun FG => ?_
    ·obtain ⟨ae, rfl, bj⟩ := DD.succ ab FG
     rw [BT] at az
     refine Al ?_
     refine AQ (fun e1 F1 L1 => H9 k (BT Bl l i x (BJ Bl l ay) ae) = some r ∧ F = F1 ∧ L1 = [] ∧ e1.sub [(0, .slice Ce Bl.length Cg), (1, .slice Mq l.length Mm), (5, .int .i64 i), (6, .int .i64 k)]) ?_ ?_
     ·refine Aq ?_
      refine AM (ua (Aa ?_))
      refine Aq ?_
      refine A9 (fun ba e1 F1 L1 => ∃ (s_ : Int), CM Bl l x k (BT Bl l i x (BJ Bl l ay) ae) ba s_ = some r ∧ F = F1 ∧ L1 = [] ∧ e1.sub [(0, .slice Ce Bl.length Cg), (1, .slice Mq l.length Mm), (5, .int .i64 i), (6, .int .i64 k), (7, .int .i64 s_)]) FU (m0 kr ⟨0, az, rfl, rfl, z5⟩) ?_
      rintro ba e1 _ _ ⟨s_, bb, rfl, rfl, bk⟩
      refine Az _ bk ?_
      rcases ba with _ | ba
      ·rw [CM] at bb; cases bb
      rw [CM] at bb
      refine Ar (AM (um (um (um (um ?_)))))
      obtain ⟨fh, fi, Jk, dy, bl, bm, dd, rfl, dz, bn⟩ := AL.at (Ad _) ax ([]) g9.1 db
      refine uv (AA underlying22 sizeOf3 rfl bl rfl g9) (uv (Ao isAgg3 rfl bm (bn 0 (by decide))) ?_)
      obtain ⟨x2, bc, af, de⟩ := Bj bb
      obtain ⟨fj, fk, fl, eb, bo, bp, df, ⟨fm, fo, rfl, fp⟩, eg, bq⟩ := AL.at (CP (Ad _)) aa ([]) bc.1 af
      refine uv (AA underlying70 sizeOf22 rfl bo rfl bc) (uv (Ao isAgg22 rfl bp (bq 0 (by decide))) (uv (AX underlying22 rfl) (uv (A7 rfl rfl) (Aa ?_))))
      refine cQ (fun br => ?_) fun br => ?_
      ·have eh := AO de br
       refine Al (Ar ?_)
       refine Aq (dW ?_)
       refine wm (wm (wm ?_))
       obtain ⟨x3, dg, bu, ei⟩ := Bj eh
       obtain ⟨fq, fs, ft, ej, bw, bx, dh, rfl, en, bz⟩ := AL.at (Ad _) ax ([]) dg.1 bu
       refine wv (AA underlying22 sizeOf3 rfl bw rfl dg) (wv (Ao isAgg3 rfl bx (bz 0 (by decide))) ?_)
       obtain ⟨x4, di, ca, eo⟩ := Bj ei
       obtain ⟨fv, fw, fx, ep, cb, cc, dk, ⟨fy, ga, rfl, er⟩, et, cd⟩ := AL.at (CP (Ad _)) aa ([]) di.1 ca
       refine wv (AA underlying70 sizeOf22 rfl cb rfl di) (wv (Ao isAgg22 rfl cc (cd 0 (by decide))) ?_)
       refine wm (wm (wm ?_))
       obtain ⟨gb, gg, gh, eu, cf, cg, dm, rfl, ew, cj⟩ := AL.at (Ad _) ax ([]) g9.1 db
       refine wv (AA underlying22 sizeOf3 rfl cf rfl g9) (wv (Ao isAgg3 rfl cg (cj 0 (by decide))) ?_)
       obtain ⟨gi, gj, gk, ey, cn, cp, dn, ⟨gl, gm, rfl, ez⟩, fa, cq⟩ := AL.at (CP (Ad _)) aa ([]) bc.1 af
       refine wv (AA underlying70 sizeOf22 rfl cn rfl bc) (wv (Ao isAgg22 rfl cp (cq 0 (by decide))) (wm ?_))
       obtain ⟨x5, dp, cr, fb⟩ := Bj eo
       obtain ⟨fe, ff, fg, dq, ah, ai, ct, rfl, dr, aj⟩ := AL.at (Ad _) ez ([]) dp.1 cr
       refine wv (AA underlying22 sizeOf3 rfl ah rfl dp) (wv (Ao isAgg3 rfl ai (aj 0 (by decide))) ?_)
       obtain ⟨ok, cu, ak⟩ := Aw fb
       refine Dx rfl call96 rfl rfl rfl (H3 er cu) (BD ?_)
       refine AU rfl (fun ad => ?_) (fun ad => ?_)
       ·have cv := bt ak ad
        refine AM (ua (Aa (Ap (AB (Ah (Ah (AB (AB (Ah ?_)))))))))
        refine Ah (AB (AB (Ah (Ah (AB (Ah ?_))))))
        refine B2 results97 ?_
        obtain rfl := AH cv
        exact rfl
       have cw := bf ak ad
       refine Al (Av (id := 5) (Ak (um ?_)))
       obtain ⟨cx, cy⟩ := AW cw
       refine uv (A1 rfl rfl cx) ?_
       refine ua (Aa ?_)
       exact le kr ⟨s_ + 1, cy, rfl, rfl, z5⟩
      have cz := AP de br
      refine AR (Aj (Aj ?_))
      refine Ay (Av (id := 3) ?_)
      exact mi kr ⟨cz, rfl, rfl, z4⟩
     rintro e1 _ _ ⟨ao, rfl, rfl, aq⟩
     refine Az _ aq ?_
     rw [H9] at ao
     refine Ak (um ?_)
     refine uv (A1 rfl rfl (DD.DZ ab FG dw)) ?_
     refine ua (Aa ?_)
     exact le kr ⟨_, bj, ao, rfl, rfl, z4⟩
    obtain rfl := DD.zero ab FG
    rw [BT] at az
    refine AR (Aj (Aj ?_))
    refine Ay (Av (id := 1) ?_)
    exact mi kr ⟨az, rfl, rfl, z3⟩
   rintro e1 _ _ ⟨ar, rfl, rfl, au⟩
   refine Az _ au ?_
   rw [Il] at ar
   refine Ak (um ?_)
   refine uv (A1 rfl rfl (BO.DZ bg c6 (AL.lt ax))) ?_
   refine ua (Aa ?_)
   subst dt; exact le kr ⟨_, _, rfl, dv, ar, rfl, rfl, z3⟩
  obtain rfl := BO.zero bg c6
  rw [BJ] at r3
  refine AR (Aj (Aj ?_))
  refine Ay ?_
  exact mi kr ⟨r3, rfl, rfl, (sn _)⟩
 rintro e1 _ _ ⟨av, rfl, rfl, aw⟩
 refine Az _ aw ?_
 rw [H5] at av
 refine AM (ua (Aa (Ap ?_)))
 refine B2 results97 ?_
 obtain rfl := AH av
 exact rfl
set_option maxHeartbeats 1000000 in
theorem Ni (aa : AL 1 (iE .i64) F Af Ae Ac) (ab : AL 1 (iE .i64) F A3 A4 AI) {r : List Int} (hr : EK wide Ac AK AF AI = some (r, r2)) :
    SH.Spec Tryz.prog 48 #[.agg #[.int .i64 wide, .slice Af Ac.length Ae], .int .i64 AK, .int .i64 AF, .slice A3 AI.length A4] F [] fun F' L' v => ∃ (ra : Option Addr) (rc : Nat), v = .tuple #[.slice ra r.length rc, .int .i64 r2] ∧ L' = [] ∧ AL 1 (iE .i64) F' ra rc r := by
 refine sp func48 ntmps48 fun K _ _ => ?_
 rw [EK] at hr
 refine AM ?_
 refine Bu rfl rfl ?_; intro b1 ft
 refine ua (ua (Aa (Ar (AM ?_))))
 refine uv (As isAgg45 sizeOf45 rfl (Has.own 0 rfl) (Be rfl) rfl) ?_
 refine um (um (um ?_))
 obtain ⟨n, h2, r3⟩ := Aw hr
 refine cV call51 (FN aa ab h2) ?_
 refine ua (BX (um ?_))
 refine uv (Bo rfl rfl) (Aa ?_)
 refine cQ (fun c4 => ?_) fun c4 => ?_
 ·have r5 := AO r3 c4
  refine AM (um (ua (ua (Aa ?_))))
  refine kW kn ?_
  refine Ap (Ah ?_)
  refine Ba results48 (AG rfl) (AG rfl) (sr) ?_
  obtain ⟨rfl, rfl⟩ := BK r5
  exact ⟨_, _, rfl, rfl, AL.nil _ _ _⟩
 have r6 := AP r3 c4
 refine Al (AM ?_)
 refine uv (As isAgg45 sizeOf45 rfl (Has.own 0 rfl) (Be rfl) rfl) ?_
 refine um (um ?_)
 obtain ⟨l, h7, r8⟩ := Aw r6
 refine c0 call35 (Gz aa h7) ?_; rintro _ F9 _ ay dw ⟨TS, OV, rfl, rfl, ak⟩
 replace aa := aa.mono (Ad _) ay
 replace ab := ab.mono (Ad _) ay
 refine AJ (ln rfl) ?_
 refine ua (BX (ua (Aa ?_)))
 obtain ⟨sorted, dx, dk⟩ := Aw r8
 refine AQ (fun e1 F1 L1 => ∃ (HU : Option Addr) (cd : Nat) (FG : Nat) (ao : LH), F9 = F1 ∧ L1 = (ao ++ []) ∧ e1.sub [(11, .slice TS l.length OV), (12, .slice HU cd FG)] ∧ AN K.w0.heap.size 3 1 (iE .i64) F1 HU cd FG sorted ao) ?_ ?_
 ·clear dk
  refine AM (ua (Aa ?_))
  refine Aq ?_
  refine A9 (fun dm e1 F1 L1 => LA Ac dm fun tl p => ∃ (ad : List Int) (az : Option Addr) (ba : Nat) (Jk : Nat) (ah : LH), CO AI tl p ad = some sorted ∧ F9 = F1 ∧ L1 = ((b1, ce #[.int .i64 wide, .slice Af Ac.length Ae] 45) :: (ah ++ [])) ∧ e1.sub [(3, .slice A3 AI.length A4), (4, .pointer (some ⟨b1, 0, none⟩)), (11, .slice TS l.length OV), (12, .slice az ba Jk), (13, .int .i64 p)] ∧ AN K.w0.heap.size 3 1 (iE .i64) F1 az ba Jk ad ah) _ (m0 (kc (ke kr)) ⟨_, _, rfl, BO.start _, [], none, 0, 0, [], dx, rfl, rfl, z5, AN.nil _ _ _ _ _⟩) ?_
  rintro dm e1 _ _ ⟨tl, p, bb, ai, ad, az, ba, Jk, ah, bz, rfl, rfl, cf, aq⟩
  refine Az _ cf ?_
  refine Ar (AM (um ?_))
  refine uv (Am C0 rfl) (uv (Ao isAgg22 rfl (Has.own 0 rfl) rfl) (uv (AX underlying22 rfl) (uv (A7 rfl rfl) (Aa ?_))))
  refine cQ (fun bc => ?_) fun bc => ?_
  ·obtain ⟨x, fv, rfl, dy, fw, bg⟩ := BO.succ ai bc
   rw [CO] at bz
   refine Al (Ar ?_)
   refine Aq ?_
   refine AM (um (um ?_))
   obtain ⟨ok, dz, dn⟩ := Aw bz
   refine cV call96 (H3 ab dz) (Aa ?_)
   refine AU rfl (fun cg => ?_) (fun cg => ?_)
   ·have eb := bt dn cg
    refine Ak (um (um ?_))
    refine bA (cs := #[.int .i64 p]) Br [.int .i64 p] ?_; intro fx eg
    obtain ⟨af, eh, ei, ej⟩ := E9 eb
    refine DB (xs := ad) (ys := [p]) (zs := af) rfl Br rfl rfl (Nat.le_refl _) (fun _ => .c (.c .h)) aq (GO.box (vss := [[.int .i64 p]]) (ys := [p]) 0 rfl (Ad _) (.cons rfl .nil) rfl rfl) eh ei (by decide) ?_; intro en eo ep cj cn
    refine kO (kd kr) ?_
    refine ua (Aa (Av (id := 1) (Ak (um ?_))))
    refine uv (A1 rfl rfl (BO.DZ ai bc (AL.lt aa))) ?_
    refine ua (Aa ?_)
    subst bb; exact le kr ⟨_, _, rfl, bg, af, en, eo, ep, cj, ej, rfl, rfl, z5, cn⟩
   have er := bf dn cg
   refine Al (Av (id := 1) (Ak (um ?_)))
   refine uv (A1 rfl rfl (BO.DZ ai bc (AL.lt aa))) ?_
   refine ua (Aa ?_)
   subst bb; exact le kr ⟨_, _, rfl, bg, ad, az, ba, Jk, ah, er, rfl, rfl, z5, aq⟩
  obtain rfl := BO.zero ai bc
  rw [CO] at bz
  refine AR (Aj (Aj ?_))
  refine Ay ?_
  obtain rfl := AH bz
  exact mi (kd kr) ⟨az, ba, Jk, ah, rfl, rfl, z2, aq⟩
 rintro e1 _ _ ⟨HU, cd, FG, ao, rfl, rfl, cp, ar⟩
 refine Az _ cp ?_
 refine AQ (fun e1 F1 L1 => GN = some (r, r2) ∧ AY F9 F1 ∧ L1 = [] ∧ e1.sub []) ?_ ?_
 ·refine AM (um ?_)
  refine uv ((AX underlying22 rfl).i (AN.HH ar)) ?_
  refine ua (Aa ?_)
  refine Aq ?_
  obtain rfl := (AN.Bm ar).1
  refine N6 (Nat.le_refl _) (Ad _) fP ar ?_; intro et bh cq
  replace ak := ak.mono (CP (Ad _)) bh
  refine SV (fun ax e1 F1 L1 => ∃ (many : Int), B5 l sorted ax many = some (r, r2) ∧ AY et F1 ∧ L1 = [] ∧ e1.sub [(11, .slice TS l.length OV), (12, .slice HU sorted.length FG), (14, .int .i64 many)]) FU (m0 kr ⟨(sorted.length : Int), dk, AY.refl _, rfl, z3⟩) ?_
  rintro ax e1 eu _ ⟨many, bj, aj, rfl, cr⟩
  refine Az _ cr ?_
  replace ak := ak.mono (CP (Ad _)) aj
  replace cq := cq.mono (Ad _) aj
  rcases ax with _ | ax
  ·rw [B5] at bj; cases bj
  rw [B5] at bj
  refine Ar (AM (um ?_))
  refine uv (Ex rfl rfl) (Aa ?_)
  refine cQ (fun ct => ?_) fun ct => ?_
  ·have ew := AO bj ct
   refine Al ?_
   refine AQ (fun e1 F1 L1 => Fo many (B5 l sorted ax) = some (r, r2) ∧ AY eu F1 ∧ L1 = [] ∧ e1.sub [(11, .slice TS l.length OV), (12, .slice HU sorted.length FG), (14, .int .i64 many)]) ?_ ?_
   ·refine Aq ?_
    refine AM (um (um ?_))
    obtain ⟨l2, ey, ez⟩ := Aw ew
    refine c0 call84 ((IH FU) cq ey) ?_; rintro _ fa _ bk cu ⟨fb, fe, ff, au, rfl, rfl, ae⟩
    replace ak := ak.mono (CP (Ad _)) bk
    replace ae := ae.new fun p hp => cu p (by simp [hp])
    refine AJ (lp (ln rfl)) ?_
    refine ua (BX (ua (Aa ?_)))
    refine Aq ?_
    refine A9 (fun dp e1 F1 L1 => LA l2 dp fun dq i => C9 l many (B5 l sorted ax) dq = some (r, r2) ∧ fa = F1 ∧ L1 = (au ++ []) ∧ e1.sub [(11, .slice TS l.length OV), (12, .slice HU sorted.length FG), (14, .int .i64 many), (15, .slice fb fe ff), (16, .int .i64 i)]) _ (m0 kr ⟨_, _, rfl, BO.start _, ez, rfl, rfl, z5⟩) ?_
    rintro dp e1 _ _ ⟨dq, i, cv, av, ca, rfl, rfl, cw⟩
    refine Az _ cw ?_
    refine Ar (AM (um (um ?_)))
    refine uv ((AX underlying70 rfl).i (AN.HH ae)) (uv (A7 rfl rfl) (Aa ?_))
    refine cQ (fun cb => ?_) fun cb => ?_
    ·obtain ⟨x2, fy, rfl, bl, cc, cx⟩ := BO.succ av cb
     rw [C9] at ca
     refine Al (Ar ?_)
     refine Aq ?_
     refine AM (um (um (um ?_)))
     obtain ⟨ga, gb, gg, fg, cy, cz, dr, ⟨gh, gi, rfl, fh⟩, fi, da⟩ := AN.at (CP (Ad _)) ae (L := au ++ []) fP cc.1 bl
     refine uv (AA underlying70 sizeOf22 rfl cy rfl (AN.idx ae cc)) (uv (Ao isAgg22 rfl cz (da 0 (by decide))) ?_)
     obtain ⟨gj, fj, bm⟩ := Aw ca
     refine cV call97 (Nt ak fh fj) (Aa ?_)
     refine AU rfl (fun aw => ?_) (fun aw => ?_)
     ·have db := bt bm aw
      refine AM (um (um ?_))
      obtain ⟨fk, fl, fm, dt, bn, bo, dd, ⟨fo, fp, rfl, de⟩, du, bp⟩ := AN.at (CP (Ad _)) ae (L := au ++ []) fP cc.1 bl
      refine uv (AA underlying70 sizeOf22 rfl bn rfl (AN.idx ae cc)) (uv (Ao isAgg22 rfl bo (bp 0 (by decide))) ?_)
      refine ua (ua (Aa ?_))
      refine kW kn ?_
      refine Ap (AB (Ah (Ah (AB (AB (Ah (Ah (AB (Ah ?_)))))))))
      refine Ba results48 (AG rfl) (AG rfl) (sr) ?_
      obtain ⟨rfl, rfl⟩ := BK db
      exact ⟨_, _, rfl, rfl, de⟩
     have df := bf bm aw
     refine Al (Av (id := 5) (Ak (um ?_)))
     refine uv (A1 rfl rfl (BO.DZ av cb (AN.R5 ae))) ?_
     refine ua (Aa ?_)
     subst cv; exact le kr ⟨_, _, rfl, cx, df, rfl, rfl, z5⟩
    obtain rfl := BO.zero av cb
    rw [C9] at ca
    refine AR (Aj (Aj ?_))
    refine Ay (Av (id := 3) ?_)
    exact mi kn ⟨ca, bk, rfl, z3⟩
   rintro e1 fq _ ⟨bq, br, rfl, bu⟩
   refine Az _ bu ?_
   rw [Fo] at bq
   refine Ak (um ?_)
   obtain ⟨dg, dh⟩ := AW bq
   refine uv (FD rfl rfl dg) ?_
   refine ua (Aa ?_)
   refine lf ?_
   exact mf kr ⟨many - 1, dh, (aj.trans br), rfl, z3⟩
  have di := AP bj ct
  refine AR (Aj (Aj ?_))
  refine Ay ?_
  exact mi kr ⟨di, (bh.trans aj), rfl, (sn _)⟩
 rintro e1 fs _ ⟨bw, dv, rfl, bx⟩
 refine Az _ bx ?_
 rw [GN] at bw
 refine AM (ua (ua (Aa (Ap ?_))))
 refine Ba results48 (AG rfl) (AG rfl) (sr) ?_
 obtain ⟨rfl, rfl⟩ := BK bw
 exact ⟨_, _, rfl, rfl, AL.nil _ _ _⟩
set_option maxHeartbeats 1000000 in
theorem GK (ab : AL 1 (iE .i64) F Af Ae Ac) (aa : AL 1 (iE .i64) F A3 A4 AI) {r : Bool} (hr : Ck wide Ac AK AF AI = some r) :
    Bz Tryz.prog 9 #[.agg #[.int .i64 wide, .slice Af Ac.length Ae], .agg #[.int .i64 AK, .int .i64 AF], .slice A3 AI.length A4] F (.bool r) := by
 refine sp func9 ntmps9 fun K _ _ => ?_
 rw [Ck] at hr
 refine AM ?_
 refine Bu rfl rfl ?_; intro b1 iw
 refine Bu rfl rfl ?_; intro b2 iy
 refine ua (Aa (Ar ?_))
 obtain ⟨k, h3, r4⟩ := Aw hr
 refine jE ([(b2, ce #[.int .i64 AK, .int .i64 AF] 29), (b1, ce #[.int .i64 wide, .slice Af Ac.length Ae] 25)]) [(2, .slice A3 AI.length A4), (3, .pointer (some ⟨b1, 0, none⟩)), (4, .pointer (some ⟨b2, 0, none⟩)), (21, .bool k)] ?_ ?_
 ·clear r4
  refine Ak (uv (As isAgg25 sizeOf25 rfl (Has.own 1 rfl) (Be rfl) rfl) ?_)
  obtain ⟨ok, h5, r6⟩ := Aw h3
  refine cV call42 (KR ab h5) (um ?_)
  rcases Bf ok with c7 | c7
  ·have r8 := bt r6 c7
   refine fB c7 (fB c7 (fB c7 ?_))
   refine uv (Au (Es rfl c7) rfl) (Aa ?_)
   obtain rfl := AH r8
   exact mi kr ⟨rfl, rfl, z4⟩
  have r9 := bf r6 c7
  refine nB c7 (um (nB c7 ?_))
  refine uv (AX underlying22 rfl) (nB c7 (uv (Ex rfl rfl) (uv (At (Es rfl c7) rfl) (Aa ?_))))
  obtain rfl := AH r9
  exact mi kr ⟨rfl, rfl, z4⟩
 refine AU rfl (fun FE => ?_) (fun FE => ?_)
 ·have fl := bt r4 FE
  refine AM ?_
  obtain ⟨iz, fm, fo⟩ := Aw fl
  refine cV call13 (BR fm) ?_
  refine ua (Aa ?_)
  refine kW kn ?_
  refine Ap (Ah ?_)
  refine B2 results9 ?_
  obtain rfl := AH fo
  exact rfl
 have fp := bf r4 FE
 refine Al (Ar ?_)
 refine CF [(.pre, 8), (.pre, 9), (.still, 0), (.still, 2), (.still, 4), (.still, 6), (.still, 7), (.seq, 1), (.seq, 3), (.seq, 5), (.alloc (.cells (.agg #[.int .i64 0, .slice none 0 0] : Value).cells 25 (0, 0)) (fun b => .pointer (some ⟨b, 0, none⟩)) [], 8), (.alloc (.cells (.agg #[.int .i64 0, .slice none 0 0] : Value).cells 45 (0, 0)) (fun b => .pointer (some ⟨b, 0, none⟩)) [], 9), (.seq, 10), (.still, 11), (.seq, 12), (.still, 13)] (by kernel_rfl) (by kernel_rfl) (⟨⟨_, _, rfl, rfl, rfl, rfl, rfl, Gb zeroValue25⟩, ⟨⟨_, _, rfl, rfl, rfl, rfl, rfl, Gb zeroValue45⟩, trivial⟩⟩) (by rfl) (by kernel_rfl) ?_
 refine ⟨⟨[], rfl, sn _, by kernel_rfl⟩, ?_⟩
 refine ⟨⟨[], rfl, sn _, by kernel_rfl⟩, ?_⟩
 refine mL [3] ([(b1, ce #[.int .i64 wide, .slice Af Ac.length Ae] 25)]) rfl (s0 (s1 (s2 sr))) (fun H F' L' cc cd => As isAgg25 sizeOf25 rfl ((Has.own 0 rfl).ext cc cd) (Be rfl) rfl) (mS [2] rfl (Bh rfl) (mL [3] ([(b1, ce #[.int .i64 wide, .slice Af Ac.length Ae] 25)]) rfl (s0 (s1 (s2 sr))) (fun H F' L' cc cd => As isAgg25 sizeOf25 rfl ((Has.own 0 rfl).ext cc cd) (Be rfl) rfl) (mS [4] rfl (Am GX rfl) (mL [29] ([(b2, ce #[.int .i64 AK, .int .i64 AF] 29)]) rfl (s0 (s2 (s1 sr))) (fun H F' L' cc cd => Ao isAgg27 rfl ((Has.own 0 rfl).ext cc cd) rfl) ?_))))
 refine ⟨_, [(23, .agg #[.int .i64 wide, .slice Af Ac.length Ae])], rfl, rfl, z1, by kernel_rfl, ?_⟩; intro H
 obtain ⟨n, l, fq, fs⟩ := Bs fp
 refine c0 call15 (FJ ab fq) ?_; rintro _ j0 _ bx cz ⟨bk, bl, I0, ah, rfl, rfl, ad⟩
 replace ab := ab.mono (Ad _) bx
 replace aa := aa.mono (Ad _) bx
 replace ad := ad.new fun p hp => cz p (by simp [hp])
 refine AJ (lp (ln rfl)) (kO (kf (fS fO) (kf (fS fO) kr)) ?_)
 refine Aa ⟨_, rfl, bx, [7, 6, 4, 2], by kernel_rfl, .inl (.inr (fun d h => by cases h; rfl)), (fc (s0 (s2 (s1 (s3 sr)))) (fc sm (fc (s0 (s1 (s2 (s3 sr)))) (fc sm nm)))), ?_⟩
 refine ⟨_, [(25, .slice A3 AI.length A4)], rfl, rfl, z1, by kernel_rfl, ?_⟩; intro H
 obtain ⟨l2, ft, fv⟩ := Aw fs
 refine c0 call24 (GQ aa ft) ?_; rintro _ j4 _ bw da ⟨ff, fg, fh, ai, rfl, rfl, ae⟩
 replace ab := ab.mono (Ad _) bw
 replace aa := aa.mono (Ad _) bw
 replace ad := ad.mono (Ad _) bw
 replace ae := ae.new fun p hp => da p (by simp [hp])
 refine AJ (lp (ln rfl)) (kO (kf (fS fO) (kf (fS fO) kr)) ?_)
 refine Aa ⟨_, rfl, bw, [7, 6, 4], by kernel_rfl, .inl (.inr (fun d h => by cases h; rfl)), (fc (s0 (s2 (s1 (s3 (s3 sr))))) (fc sm (fc (s0 (s1 (s2 (s3 (s3 sr))))) nm))), ?_⟩
 refine ⟨_, [(27, .agg #[.int .i64 wide, .slice Af Ac.length Ae])], rfl, rfl, z1, by kernel_rfl, ?_⟩; intro H
 obtain ⟨n2, l3, fw, fx⟩ := Bs fv
 refine c0 call16 (DK ab fw) ?_; rintro _ j5 _ bm db ⟨bn, fi, bo, bz, rfl, rfl, bg⟩
 replace ab := ab.mono (Ad _) bm
 replace aa := aa.mono (Ad _) bm
 replace ad := ad.mono (Ad _) bm
 replace ae := ae.mono (Ad _) bm
 replace bg := bg.new fun p hp => db p (by simp [hp])
 refine AJ (lp (ln rfl)) (kO (kf (fS fO) (kf (fS fO) kr)) ?_)
 refine Aa ⟨_, rfl, bm, [7, 6], by kernel_rfl, .inl (.inr (fun d h => by cases h; rfl)), (fc (s0 (s2 (s1 (s3 (s3 (s3 sr)))))) (fc sm nm)), ?_⟩
 refine G9 rfl ?_; intro ay fy
 refine JK (L' := (ay, ce #[.int .i64 0, .slice none 0 0] 25) :: ((b2, ce #[.int .i64 AK, .int .i64 AF] 29) :: ((b1, ce #[.int .i64 wide, .slice Af Ac.length Ae] 25) :: (bz ++ (ai ++ (ah ++ [])))))) rfl ?_
 refine G9 rfl ?_; intro ba ga
 refine JK (L' := (ba, ce #[.int .i64 0, .slice none 0 0] 45) :: ((ay, ce #[.int .i64 0, .slice none 0 0] 25) :: ((b2, ce #[.int .i64 AK, .int .i64 AF] 29) :: ((b1, ce #[.int .i64 wide, .slice Af Ac.length Ae] 25) :: (bz ++ (ai ++ (ah ++ []))))))) rfl ?_
 refine ⟨_, [(7, .pointer (some ⟨ay, 0, none⟩)), (24, .agg #[.int .i64 n, .slice bk bl I0])], rfl, rfl, z2, by kernel_rfl, ?_⟩; intro H
 refine Bg (i := 1) sizeOf25 rfl rfl rfl (by simp [Value.oneCell']) rfl (Be rfl) (AJ rfl ?_)
 refine Aa ⟨undef, rfl, AY.refl _, [7, 6], by kernel_rfl, .inl (.inr (fun d h => by cases h)), (fc (s0 (s1 (s1 (s2 (s1 (s3 (s3 (s3 sr)))))))) (fc sm nm)), ?_⟩
 refine mS [26] rfl (Ej rfl) ?_
 refine ⟨_, [(9, .pointer (some ⟨ba, 0, none⟩)), (28, .agg #[.int .i64 n2, .slice bn fi bo])], rfl, rfl, z2, by kernel_rfl, ?_⟩; intro H
 refine Bg (i := 0) sizeOf45 rfl rfl rfl (by simp [Value.oneCell']) rfl (Be rfl) (AJ rfl ?_)
 refine Aa ⟨undef, rfl, AY.refl _, [7, 6], by kernel_rfl, .inl (.inr (fun d h => by cases h)), (fc (s0 (s1 (s1 (s2 (s1 (s3 (s3 (s3 sr)))))))) (fc sm nm)), ?_⟩
 refine mS [30] rfl (Ej rfl) (DI (AM (uv (As isAgg25 sizeOf25 rfl (Has.own 1 rfl) (Be rfl) rfl) (uv (As isAgg29 sizeOf29 rfl (Has.own 2 rfl) (Be rfl) rfl) (um ?_)))))
 obtain ⟨l4, n3, gb, gg⟩ := Bs fx
 refine Dh (Lb := []) (Lt := ah ++ (ai ++ [])) (Lr := (ba, ce #[.int .i64 n2, .slice bn fi bo] 45) :: ((ay, ce #[.int .i64 n, .slice bk bl I0] 25) :: ((b2, ce #[.int .i64 AK, .int .i64 AF] 29) :: ((b1, ce #[.int .i64 wide, .slice Af Ac.length Ae] 25) :: (bz ++ []))))) rfl call43 rfl rfl rfl (pT ((fC (fC (fC (fC (fS (fS fP)))))).trans (pA ((fC (fC (fC (fC (fS fP))))).trans (pA pR)))) (ln (lp (lp (ln rfl))))) (fun F2 h2 h3 => by rw [(AN.Bm ad).1]; rw [(AN.Bm ae).1]; exact Kl (ad.row (Ad _) h2 (fun p hp => h3 p (List.mem_append_left _ hp))) (ae.row (Ad _) h2 (fun p hp => h3 p (List.mem_append_right _ (List.mem_append_left _ hp)))) gb) (fun _ _ _ _ hq => by obtain ⟨gh, gi, gj, cf, rfl, rfl, aq⟩ := hq; exact ⟨_, _, _, _, rfl, rfl, aq.flat (fun _ _ h => h)⟩) ?_; rintro _ j6 _ bp dd de ⟨gh, gi, gj, cf, rfl, rfl, aq⟩
 replace ab := ab.mono (Ad _) bp
 replace aa := aa.mono (Ad _) bp
 replace ad := ad.mono (Ad _) bp
 replace ae := ae.mono (Ad _) bp
 replace bg := bg.mono (Ad _) bp
 have df := J1 (Lb' := []) (by rfl) dd de
 replace aq := aq.new fun p hp => df p (by simp [hp])
 refine AJ (lp (ln (lp (lp (ln rfl))))) (kO (kf (fS (fS (fS fO))) (kf (fS (fS (fS fO))) (kf (fS (fS (fS fO))) (kf (fS (fS (fS fO))) kr)))) ?_)
 refine um (ox rfl rfl rfl (ox rfl rfl rfl (ua (ua (BX ?_)))))
 refine uv (As isAgg45 sizeOf45 rfl (Has.own 0 rfl) (Be rfl) rfl) (um (uv (Am GW rfl) (uv (Ao isAgg3 rfl (Has.own 2 rfl) rfl) (um ?_))))
 obtain rfl := (AN.Bm bg).1
 refine FL (Nat.le_refl _) (Ad _) (fC (fC (fC (fC (fS (fS (fS fP))))))) bg ?_; intro j7 bq br
 replace ab := ab.mono (Ad _) bq
 replace aa := aa.mono (Ad _) bq
 replace ad := ad.mono (Ad _) bq
 replace ae := ae.mono (Ad _) bq
 replace aq := aq.mono (Ad _) bq
 obtain ⟨l5, n4, gk, gl⟩ := Bs gg
 refine c0 call44 (Mw br aa gk) ?_; rintro _ j8 _ bh gm ⟨j9, ja, rfl, rfl, gn⟩
 replace ab := ab.mono (Ad _) bh
 replace aa := aa.mono (Ad _) bh
 replace br := br.mono (Ad _) bh
 replace ad := ad.mono (Ad _) bh
 replace ae := ae.mono (Ad _) bh
 replace aq := aq.mono (Ad _) bh
 refine AJ (ln rfl) ?_
 refine um (ox rfl rfl rfl (ox rfl rfl rfl (ua (ua (Aa (Ar ?_))))))
 obtain ⟨k2, fj, dg⟩ := Aw gl
 refine jE (((ba, ce #[.int .i64 n2, .slice bn l3.length bo] 45) :: ((ay, ce #[.int .i64 n, .slice bk bl I0] 25) :: ((b2, ce #[.int .i64 AK, .int .i64 AF] 29) :: ((b1, ce #[.int .i64 wide, .slice Af Ac.length Ae] 25) :: (ah ++ (ai ++ []))))))) [(2, .slice A3 AI.length A4), (3, .pointer (some ⟨b1, 0, none⟩)), (4, .pointer (some ⟨b2, 0, none⟩)), (7, .pointer (some ⟨ay, 0, none⟩)), (8, .slice ff fg fh), (9, .pointer (some ⟨ba, 0, none⟩)), (10, .int .i64 AK), (55, .bool k2)] ?_ ?_
 ·clear dg
  refine Ak (um (um ?_))
  refine uv (Bo rfl rfl) (um ?_)
  by_cases bj : n3 ≠ n4
  ·have gp := AO fj bj
   refine fT bj (fT bj (fT bj (fT bj ?_)))
   refine uv (Au (A5 rfl bj) rfl) (Aa ?_)
   obtain rfl := AH gp
   exact mi (kc (kc (kc (kc (kx kr))))) ⟨rfl, rfl, z8⟩
  have gq := AP fj bj
  refine nF bj (um (nF bj (um (nF bj ?_))))
  obtain ⟨jb, gr, gu⟩ := Aw gq
  refine Bi (Lt := cf ++ []) (Lr := (ba, ce #[.int .i64 n2, .slice bn l3.length bo] 45) :: ((ay, ce #[.int .i64 n, .slice bk bl I0] 25) :: ((b2, ce #[.int .i64 AK, .int .i64 AF] 29) :: ((b1, ce #[.int .i64 wide, .slice Af Ac.length Ae] 25) :: (ah ++ (ai ++ [])))))) rfl call22 rfl rfl rfl (pT ((fC (fC (fC (fC fP)))).trans (pA pR)) (lp (ln rfl))) (fun F2 h2 h3 => by rw [(AN.Bm aq).1]; exact Bq (aq.row (Ad _) h2 (fun p hp => h3 p (List.mem_append_left _ hp))) (gn.mono (Ad _) h2) gr) ?_
  refine nF bj (uv (Cf rfl) (uv (At (AZ rfl bj) rfl) (Aa ?_)))
  obtain rfl := AH gu
  exact mi (kc (kc (kc (kc (kx kr))))) ⟨rfl, rfl, z8⟩
 refine AU rfl (fun dh => ?_) (fun dh => ?_)
 ·have gv := bt dg dh
  refine AM (ua (Aa ?_))
  refine kW kn ?_
  refine Ap (Ah ?_)
  refine B2 results9 ?_
  obtain rfl := AH gv
  exact rfl
 have gw := bf dg dh
 refine Al (AM ?_)
 refine uv (As isAgg25 sizeOf25 rfl (Has.own 1 rfl) (Be rfl) rfl) (uv (As isAgg29 sizeOf29 rfl (Has.own 2 rfl) (Be rfl) rfl) (um ?_))
 obtain ⟨l6, n5, gy, gz⟩ := Bs gw
 refine Dh (Lb := []) (Lt := ah ++ (ai ++ [])) (Lr := [(ba, ce #[.int .i64 n2, .slice bn l3.length bo] 45), (ay, ce #[.int .i64 n, .slice bk bl I0] 25), (b2, ce #[.int .i64 AK, .int .i64 AF] 29), (b1, ce #[.int .i64 wide, .slice Af Ac.length Ae] 25)]) rfl call45 rfl rfl rfl (pT ((fC (fC (fC (fC fP)))).trans (pA ((fC (fC (fC (fC fP)))).trans (pA pR)))) (ln (lp (lp (ln rfl))))) (fun F2 h2 h3 => by rw [(AN.Bm ad).1]; rw [(AN.Bm ae).1]; exact Q4 (ad.row (Ad _) h2 (fun p hp => h3 p (List.mem_append_left _ hp))) (ae.row (Ad _) h2 (fun p hp => h3 p (List.mem_append_right _ (List.mem_append_left _ hp)))) gy) (fun _ _ _ _ hq => by obtain ⟨ia, di, ib, cg, rfl, rfl, av⟩ := hq; exact ⟨_, _, _, _, rfl, rfl, av.flat (fun _ _ h => h)⟩) ?_; rintro _ jc _ bu dk dm ⟨ia, di, ib, cg, rfl, rfl, av⟩
 replace ab := ab.mono (Ad _) bu
 replace aa := aa.mono (Ad _) bu
 replace br := br.mono (Ad _) bu
 replace ad := ad.mono (Ad _) bu
 replace ae := ae.mono (Ad _) bu
 have cj := J1 (Lb' := []) (by rfl) dk dm
 replace av := av.new fun p hp => cj p (by simp [hp])
 refine AJ (lp (ln (lp (lp (ln rfl))))) (kO (kf (fS (fS (fS fO))) (kf (fS (fS (fS fO))) (kf (fS (fS (fS fO))) (kf (fS (fS (fS fO))) kr)))) ?_)
 refine um (ox rfl rfl rfl (ox rfl rfl rfl (ua (ua (BX ?_)))))
 refine uv (As isAgg45 sizeOf45 rfl (Has.own 0 rfl) (Be rfl) rfl) (um (uv (Am GW rfl) (uv (Ao isAgg3 rfl (Has.own 2 rfl) rfl) (um ?_))))
 obtain ⟨l7, n6, dn, dp⟩ := Bs gz
 refine c0 call46 (Nz br aa dn) ?_; rintro _ ic _ au cn ⟨ie, ig, ij, cp, rfl, rfl, bb⟩
 replace ab := ab.mono (Ad _) au
 replace aa := aa.mono (Ad _) au
 replace br := br.mono (Ad _) au
 replace ad := ad.mono (Ad _) au
 replace ae := ae.mono (Ad _) au
 replace av := av.mono (Ad _) au
 replace bb := bb.new fun p hp => cn p (by simp [hp])
 refine AJ (lp (ln rfl)) (kO (kf (fS fO) (kf (fS fO) (kf (fS fO) (kf (fS fO) kr)))) ?_)
 refine um (ox rfl rfl rfl (ox rfl rfl rfl (ua (ua (Aa (Ar ?_))))))
 obtain ⟨k3, cq, ca⟩ := Aw dp
 refine jE (((ba, ce #[.int .i64 n2, .slice bn l3.length bo] 45) :: ((ay, ce #[.int .i64 n, .slice bk bl I0] 25) :: ((b2, ce #[.int .i64 AK, .int .i64 AF] 29) :: ((b1, ce #[.int .i64 wide, .slice Af Ac.length Ae] 25) :: (ah ++ (ai ++ []))))))) [(2, .slice A3 AI.length A4), (3, .pointer (some ⟨b1, 0, none⟩)), (4, .pointer (some ⟨b2, 0, none⟩)), (7, .pointer (some ⟨ay, 0, none⟩)), (8, .slice ff fg fh), (9, .pointer (some ⟨ba, 0, none⟩)), (10, .int .i64 AK), (80, .bool k3)] ?_ ?_
 ·clear ca
  refine Ak (um (um ?_))
  refine uv (Bo rfl rfl) (um ?_)
  by_cases aj : n5 ≠ n6
  ·have dq := AO cq aj
   refine fT aj (fT aj (fT aj (fT aj ?_)))
   refine uv (Au (A5 rfl aj) rfl) (Aa ?_)
   obtain rfl := AH dq
   exact mi (kc (kc (kc (kc (kx (kx kr)))))) ⟨rfl, rfl, z8⟩
  have dr := AP cq aj
  refine nF aj (um (nF aj (um (nF aj ?_))))
  obtain ⟨jd, dt, du⟩ := Aw dr
  refine Bi (Lt := cg ++ (cp ++ [])) (Lr := (ba, ce #[.int .i64 n2, .slice bn l3.length bo] 45) :: ((ay, ce #[.int .i64 n, .slice bk bl I0] 25) :: ((b2, ce #[.int .i64 AK, .int .i64 AF] 29) :: ((b1, ce #[.int .i64 wide, .slice Af Ac.length Ae] 25) :: (ah ++ (ai ++ [])))))) rfl call22 rfl rfl rfl (pT ((fC (fC (fC (fC (fS fP))))).trans (pA ((fC (fC (fC (fC fP)))).trans (pA pR)))) (lp (lp (ln rfl)))) (fun F2 h2 h3 => by rw [(AN.Bm av).1]; rw [(AN.Bm bb).1]; exact Bq (av.row (Ad _) h2 (fun p hp => h3 p (List.mem_append_left _ hp))) (bb.row (Ad _) h2 (fun p hp => h3 p (List.mem_append_right _ (List.mem_append_left _ hp)))) dt) ?_
  refine nF aj (uv (Cf rfl) (uv (At (AZ rfl aj) rfl) (Aa ?_)))
  obtain rfl := AH du
  exact mi (kc (kc (kc (kc (kx (kx kr)))))) ⟨rfl, rfl, z8⟩
 refine AU rfl (fun cb => ?_) (fun cb => ?_)
 ·have dv := bt ca cb
  refine AM (ua (Aa ?_))
  refine kW kn ?_
  refine Ap (Ah ?_)
  refine B2 results9 ?_
  obtain rfl := AH dv
  exact rfl
 have dw := bf ca cb
 refine Al (AM ?_)
 refine uv (As isAgg25 sizeOf25 rfl (Has.own 1 rfl) (Be rfl) rfl) (uv (As isAgg29 sizeOf29 rfl (Has.own 2 rfl) (Be rfl) rfl) (um ?_))
 obtain ⟨l8, n7, dx, dy⟩ := Bs dw
 refine Dh (Lb := []) (Lt := ah ++ (ai ++ [])) (Lr := [(ba, ce #[.int .i64 n2, .slice bn l3.length bo] 45), (ay, ce #[.int .i64 n, .slice bk bl I0] 25), (b2, ce #[.int .i64 AK, .int .i64 AF] 29), (b1, ce #[.int .i64 wide, .slice Af Ac.length Ae] 25)]) rfl call47 rfl rfl rfl (pT ((fC (fC (fC (fC fP)))).trans (pA ((fC (fC (fC (fC fP)))).trans (pA pR)))) (ln (lp (lp (ln rfl))))) (fun F2 h2 h3 => by rw [(AN.Bm ad).1]; rw [(AN.Bm ae).1]; exact QG (ad.row (Ad _) h2 (fun p hp => h3 p (List.mem_append_left _ hp))) (ae.row (Ad _) h2 (fun p hp => h3 p (List.mem_append_right _ (List.mem_append_left _ hp)))) dx) (fun _ _ _ _ hq => by obtain ⟨dz, eb, eg, bc, rfl, rfl, af⟩ := hq; exact ⟨_, _, _, _, rfl, rfl, af.flat (fun _ _ h => h)⟩) ?_; rintro _ ik _ aw cr ct ⟨dz, eb, eg, bc, rfl, rfl, af⟩
 replace ab := ab.mono (Ad _) aw
 replace aa := aa.mono (Ad _) aw
 replace br := br.mono (Ad _) aw
 replace ad := ad.mono (Ad _) aw
 replace ae := ae.mono (Ad _) aw
 have cu := J1 (Lb' := []) (by rfl) cr ct
 replace af := af.new fun p hp => cu p (by simp [hp])
 refine AJ (lp (ln (lp (lp (ln rfl))))) (kO (kf (fS (fS (fS fO))) (kf (fS (fS (fS fO))) (kf (fS (fS (fS fO))) (kf (fS (fS (fS fO))) kr)))) ?_)
 refine um (ox rfl rfl rfl (ox rfl rfl rfl (ua (ua (BX ?_)))))
 refine uv (As isAgg45 sizeOf45 rfl (Has.own 0 rfl) (Be rfl) rfl) (um (uv (Am GW rfl) (uv (Ao isAgg3 rfl (Has.own 2 rfl) rfl) (um ?_))))
 obtain ⟨l9, n8, eh, cv⟩ := Bs dy
 refine c0 call48 (Ni br aa eh) ?_; rintro _ il _ ax fk ⟨im, iq, rfl, rfl, ei⟩
 replace ab := ab.mono (Ad _) ax
 replace aa := aa.mono (Ad _) ax
 replace ad := ad.mono (Ad _) ax
 replace ae := ae.mono (Ad _) ax
 replace af := af.mono (Ad _) ax
 refine AJ (ln rfl) ?_
 refine um (ox rfl rfl rfl (ox rfl rfl rfl (ua (ua (BX (um (um ?_)))))))
 refine uv (Bv rfl rfl) (um ?_)
 by_cases ar : n7 = n8
 ·have ej := AO cv ar
  refine nT ar (um (nT ar (um (nT ar ?_))))
  obtain ⟨ir, en, cw⟩ := Aw ej
  refine Bi (Lt := bc ++ []) (Lr := (ba, ce #[.int .i64 n2, .slice bn l3.length bo] 45) :: ((ay, ce #[.int .i64 n, .slice bk bl I0] 25) :: ((b2, ce #[.int .i64 AK, .int .i64 AF] 29) :: ((b1, ce #[.int .i64 wide, .slice Af Ac.length Ae] 25) :: (ah ++ (ai ++ [])))))) rfl call22 rfl rfl rfl (pT ((fC (fC (fC (fC fP)))).trans (pA pR)) (lp (ln rfl))) (fun F2 h2 h3 => by rw [(AN.Bm af).1]; exact Bq (af.row (Ad _) h2 (fun p hp => h3 p (List.mem_append_left _ hp))) (ei.mono (Ad _) h2) en) ?_
  refine uv (Au (A5 rfl ar) rfl) (um ?_)
  rcases Bf ir with ak | ak
  ·have eo := bt cw ak
   refine nB ak (uv (As isAgg25 sizeOf25 rfl (Has.own 1 rfl) (Be rfl) rfl) (nB ak (uv (As isAgg25 sizeOf25 rfl (Has.own 3 rfl) (Be rfl) rfl) (nB ak ?_))))
   obtain ⟨iu, ep, cx⟩ := Aw eo
   refine Bi (Lt := ah ++ []) (Lr := (ba, ce #[.int .i64 n2, .slice bn l3.length bo] 45) :: ((ay, ce #[.int .i64 n, .slice bk bl I0] 25) :: ((b2, ce #[.int .i64 AK, .int .i64 AF] 29) :: ((b1, ce #[.int .i64 wide, .slice Af Ac.length Ae] 25) :: (bc ++ (ai ++ [])))))) rfl call23 rfl rfl rfl (pT ((fC (fC (fC (fC (fS fP))))).trans (pA pR)) (lp (ln rfl))) (fun F2 h2 h3 => by rw [(AN.Bm ad).1]; exact Fg (ad.row (Ad _) h2 (fun p hp => h3 p (List.mem_append_left _ hp))) (ab.mono (Ad _) h2) ep) ?_
   refine uv (Au (Es rfl ak) rfl) (um ?_)
   rcases Bf iu with ao | ao
   ·have er := bt cx ao
    refine nB ao (um (nB ao (um (nB ao ?_))))
    obtain ⟨iv, et, cy⟩ := Aw er
    refine Bi (Lt := ai ++ []) (Lr := (ba, ce #[.int .i64 n2, .slice bn l3.length bo] 45) :: ((ay, ce #[.int .i64 n, .slice bk bl I0] 25) :: ((b2, ce #[.int .i64 AK, .int .i64 AF] 29) :: ((b1, ce #[.int .i64 wide, .slice Af Ac.length Ae] 25) :: (bc ++ (ah ++ [])))))) rfl call22 rfl rfl rfl (pT ((fC (fC (fC (fC (fS (fS fP)))))).trans (pA pR)) (lp (ln rfl))) (fun F2 h2 h3 => by rw [(AN.Bm ae).1]; exact Bq (ae.row (Ad _) h2 (fun p hp => h3 p (List.mem_append_left _ hp))) (aa.mono (Ad _) h2) et) ?_
    refine uv (Au (Es rfl ao) rfl) (um ?_)
    rcases Bf iv with az | az
    ·have eu := bt cy az
     refine nB az ?_
     obtain ⟨je, ew, ey⟩ := Aw eu
     refine cV call13 (BR ew) (uv (Au (Es rfl az) rfl) ?_)
     refine ua (Aa ?_)
     refine kW kn (Ap (B2 results9 ?_))
     obtain rfl := AH ey
     exact rfl
    have ez := bf cy az
    refine fB az (uv (At (Es rfl az) rfl) ?_)
    refine ua (Aa ?_)
    refine kW kn (Ap (B2 results9 ?_))
    obtain rfl := AH ez
    exact rfl
   have fa := bf cx ao
   refine fB ao (fB ao (fB ao ?_))
   refine uv (At (Es rfl ao) rfl) ?_
   refine um (Ai (b' := false) 115 rfl rfl rfl rfl ?_)
   refine uv (At rfl rfl) ?_
   refine ua (Aa ?_)
   refine kW kn (Ap (B2 results9 ?_))
   obtain rfl := AH fa
   exact rfl
  have fb := bf cw ak
  refine fB ak (fB ak (fB ak ?_))
  refine uv (At (Es rfl ak) rfl) ?_
  refine um (Ai (b' := false) 110 rfl rfl rfl rfl (Ai (b' := false) 110 rfl rfl rfl rfl (Ai (b' := false) 110 rfl rfl rfl rfl ?_)))
  refine uv (At rfl rfl) ?_
  refine um (Ai (b' := false) 115 rfl rfl rfl rfl ?_)
  refine uv (At rfl rfl) ?_
  refine ua (Aa ?_)
  refine kW kn (Ap (B2 results9 ?_))
  obtain rfl := AH fb
  exact rfl
 have fe := AP cv ar
 refine fF ar (fF ar (fF ar ?_))
 refine uv (At (AZ rfl ar) rfl) ?_
 refine um (Ai (b' := false) 105 rfl rfl rfl rfl (Ai (b' := false) 105 rfl rfl rfl rfl (Ai (b' := false) 105 rfl rfl rfl rfl ?_)))
 refine uv (At rfl rfl) ?_
 refine um (Ai (b' := false) 110 rfl rfl rfl rfl (Ai (b' := false) 110 rfl rfl rfl rfl (Ai (b' := false) 110 rfl rfl rfl rfl ?_)))
 refine uv (At rfl rfl) ?_
 refine um (Ai (b' := false) 115 rfl rfl rfl rfl ?_)
 refine uv (At rfl rfl) ?_
 refine ua (Aa ?_)
 refine kW kn (Ap (B2 results9 ?_))
 obtain rfl := AH fe
 exact rfl
set_option maxHeartbeats 1000000 in
theorem RQ {BC : Int} (ad : AL 1 (iE .i64) F Af Ae Ac) (aa : AL 1 (iE .i64) F A3 A4 AI) {r : List Int} {r3 : Int} (hr : NF wide Ac AK AF AI BC = some (r, r2, r3)) :
    SH.Spec Tryz.prog 49 #[.agg #[.int .i64 wide, .slice Af Ac.length Ae], .agg #[.int .i64 AK, .int .i64 AF], .slice A3 AI.length A4, .int .i64 BC] F [] fun F' L' v => ∃ (ra : Option Addr) (rn : Nat) (rc : Nat) (rL : LH), v = .tuple #[.slice ra rn rc, .int .i64 r2, .int .i64 r3] ∧ L' = rL ++ [] ∧ AN 0 3 1 (iE .i64) F' ra rn rc r rL := by
 refine sp func49 ntmps49 fun K _ _ => ?_
 rw [NF] at hr
 refine AM ?_
 refine Bu rfl rfl ?_; intro b1 bq
 refine Bu rfl rfl ?_; intro b2 br
 refine ua (ua (ua (BX ?_)))
 refine uv (As isAgg25 sizeOf25 rfl (Has.own 1 rfl) (Be rfl) rfl) (uv (As isAgg29 sizeOf29 rfl (Has.own 0 rfl) (Be rfl) rfl) (um ?_))
 obtain ⟨l, y, n, h3, r4⟩ := Lg hr
 refine c0 call78 (GP ad aa h3) ?_; rintro _ F5 _ bu av ⟨a9, aw, H4, ah, bw, rfl, rfl, ae, af⟩
 replace ae := ae.new fun p hp => av p (by simp [hp])
 refine AJ (lp (ln rfl)) (kO (kf (fS fO) (kf (fS fO) kr)) ?_)
 refine um (ox rfl rfl rfl (ox rfl rfl rfl ?_))
 refine A6 rfl zeroValue118 ?_; intro ax ay
 refine Bg (i := 0) sizeOf118 rfl rfl rfl (fc rfl (fc (af.1) nm)) rfl (Be rfl) (AJ rfl ?_)
 refine ua (Aa (Ar ?_))
 refine Aq ?_
 refine AM (um ?_)
 refine uv (Bo rfl rfl) ?_
 refine ua (Aa ?_)
 refine cQ (fun KW => ?_) fun KW => ?_
 ·have az := AO r4 KW
  refine AM (um (ua (ua (ua (Aa ?_)))))
  refine kW kn ?_
  refine Ap (AB (Ah ?_))
  refine R9 results49 (AG rfl) (AG rfl) (AG rfl) (sr) ?_
  obtain ⟨rfl, rfl, rfl⟩ := Me az
  exact ⟨_, _, _, [], rfl, rfl, AN.nil _ _ _ _ _⟩
 have ba := AP r4 KW
 refine AM (um ?_)
 obtain ⟨ok, bb, ar⟩ := Aw ba
 refine cV call55 (G5 bb) (uv (Cf rfl) ?_)
 refine ua (Aa ?_)
 refine AU rfl (fun I0 => ?_) (fun I0 => ?_)
 ·have bc := bt ar I0
  refine AM (ua (ua (ua (Aa ?_))))
  refine kW kn ?_
  refine Ap (AB (Ah ?_))
  refine R9 results49 (AG rfl) (AG rfl) (AG rfl) (sr) ?_
  obtain ⟨rfl, rfl, rfl⟩ := Me bc
  exact ⟨_, _, _, [], rfl, rfl, AN.nil _ _ _ _ _⟩
 have bg := bf ar I0
 refine Al (Av (id := 0) (AM ?_))
 refine uv (As isAgg118 sizeOf118 rfl (Has.own 0 rfl) (Be rfl) rfl) (um ?_)
 obtain ⟨bh, bj⟩ := AW bg
 obtain rfl := af.2 bh
 have ai : Mp Tryz.prog F5 106 #[] #[] (iE .i64) (Value.int .i64) (fun au : Int => Dw au) := ⟨call106, fun F2 h2 vs au r ha hr => by obtain rfl := ha; exact Jf hr⟩
 obtain ⟨l2, n2, bk, bl⟩ := Bs bj
 refine Dh (Lb := []) (Lt := ah ++ []) (Lr := [(ax, ce (#[.slice a9 aw H4, .func (.func 106) #[] #[]]) 118), (b2, ce #[.int .i64 AK, .int .i64 AF] 29), (b1, ce #[.int .i64 wide, .slice Af Ac.length Ae] 25)]) rfl call82 rfl rfl rfl (pT ((fC (fC (fC fP))).trans (pA pR)) (ln (lp (ln rfl)))) (fun F2 h2 h3 => by rw [(AN.Bm ae).1]; exact G7 (ae.row (BP (n := 30) (sz := 1) BY) h2 (fun p hp => h3 p (List.mem_append_left _ hp))) (ai.mono h2) bk) (fun _ _ _ _ hq => by obtain ⟨bm, bn, bo, aj, rfl, rfl, ab⟩ := hq; exact ⟨_, _, _, _, rfl, rfl, ab.flat (fun _ _ h => h)⟩) ?_; rintro _ bx _ bp ak ao ⟨bm, bn, bo, aj, rfl, rfl, ab⟩
 have aq := J1 (Lb' := []) (by rfl) ak ao
 replace ab := ab.new fun p hp => aq p (by simp [hp])
 refine AJ (lp (ln (lp (ln rfl)))) (kO (kf (fS (fS fO)) (kf (fS (fS fO)) (kf (fS (fS fO)) kr))) ?_)
 refine um (ox rfl rfl rfl (ox rfl rfl rfl (ua (ua (BX (um (um (ua (ua ?_)))))))))
 refine ua (Aa ?_)
 refine kW (kd (kd (kd (ka kn)))) (Ap (R9 results49 (AG rfl) (AG rfl) (AG rfl) (sr) ?_))
 obtain ⟨rfl, rfl, rfl⟩ := Me bl
 exact ⟨_, _, _, _, rfl, rfl, ab.any⟩
set_option maxHeartbeats 1000000 in
theorem KA (ab : AL 1 (iE .i64) F Af Ae Ac) (aa : AL 1 (iE .i64) F A3 A4 AI) {r : List Int} (hr : IF wide Ac AK AF AI most = some (r, r2)) :
    SH.Spec Tryz.prog 52 #[.agg #[.int .i64 wide, .slice Af Ac.length Ae], .int .i64 AK, .int .i64 AF, .slice A3 AI.length A4, .int .i64 most] F [] fun F' L' v => ∃ (ra : Option Addr) (rc : Nat), v = .tuple #[.slice ra r.length rc, .int .i64 r2] ∧ L' = [] ∧ AL 1 (iE .i64) F' ra rc r := by
 refine sp func52 ntmps52 fun K _ _ => ?_
 rw [IF] at hr
 refine AM ?_
 refine Bu rfl rfl ?_; intro b1 ey
 refine ua (ua (BX ?_))
 refine uv (As isAgg45 sizeOf45 rfl (Has.own 0 rfl) (Be rfl) rfl) ?_
 refine um (um ?_)
 obtain ⟨l, h2, r3⟩ := Aw hr
 refine c0 call35 (Gz ab h2) ?_; rintro _ F4 _ cw ez ⟨a8, c9, rfl, rfl, aj⟩
 replace ab := ab.mono (Ad _) cw
 replace aa := aa.mono (Ad _) cw
 refine AJ (ln rfl) ?_
 refine ua (BX (ua (BX (ua (Aa ?_)))))
 obtain ⟨NU, n, di, cx⟩ := Bs r3
 refine AQ (fun e1 F1 L1 => ∃ (MS : Option Addr) (Lv : Nat), AY F4 F1 ∧ L1 = [] ∧ e1.sub [(13, .slice MS NU.length Lv), (14, .int .i64 n)] ∧ AL 1 (iE .i64) F1 MS Lv NU) ?_ ?_
 ·clear cx
  refine AM (ua (Aa ?_))
  refine Aq ?_
  refine A9 (fun bl e1 F1 L1 => ∃ (ad : List Int) (n2 : Int) (many : Int) (HU : Option Addr) (FG : Nat), FY wide Ac AI most l bl ad n2 many = some (NU, n) ∧ AY F4 F1 ∧ L1 = [(b1, ce #[.int .i64 wide, .slice Af Ac.length Ae] 45)] ∧ e1.sub [(3, .slice A3 AI.length A4), (4, .int .i64 most), (5, .pointer (some ⟨b1, 0, none⟩)), (12, .slice a8 l.length c9), (13, .slice HU ad.length FG), (14, .int .i64 n2), (15, .int .i64 many)] ∧ AL 1 (iE .i64) F1 HU FG ad) FU (m0 kr ⟨[], 0, 1, none, 0, di, AY.refl _, rfl, z7, AL.nil _ _ _⟩) ?_
  rintro bl e1 dk _ ⟨ad, n2, many, HU, FG, bm, ai, rfl, br, av⟩
  refine Az _ br ?_
  replace ab := ab.mono (Ad _) ai
  replace aa := aa.mono (Ad _) ai
  replace aj := aj.mono (CP (Ad _)) ai
  rcases bl with _ | bl
  ·rw [FY] at bm; cases bm
  rw [FY] at bm
  refine Ar ?_
  obtain ⟨k, cy, bu⟩ := Aw bm
  refine jE ([(b1, ce #[.int .i64 wide, .slice Af Ac.length Ae] 45)]) [(3, .slice A3 AI.length A4), (4, .int .i64 most), (5, .pointer (some ⟨b1, 0, none⟩)), (12, .slice a8 l.length c9), (13, .slice HU ad.length FG), (14, .int .i64 n2), (15, .int .i64 many), (31, .bool k)] ?_ ?_
  ·clear bu
   refine Ak (um (um ?_))
   refine uv (Kp rfl rfl) (um ?_)
   by_cases Mi : many ≤ most
   ·have dm := AO cy Mi
    refine nT Mi (um (nT Mi (um (nT Mi ?_))))
    refine uv (AX underlying22 rfl) (nT Mi (uv (Kp rfl rfl) (uv (Au (A5 rfl Mi) rfl) (Aa ?_))))
    obtain rfl := AH dm
    exact mi kr ⟨rfl, rfl, z8⟩
   have dn := AP cy Mi
   refine fF Mi (fF Mi (fF Mi (fF Mi ?_)))
   refine uv (At (AZ rfl Mi) rfl) (Aa ?_)
   obtain rfl := AH dn
   exact mi kr ⟨rfl, rfl, z8⟩
  refine AU rfl (fun bw => ?_) (fun bw => ?_)
  ·have dp := bt bu bw
   refine Al ?_
   obtain ⟨ah, n3, dq, cz⟩ := Bs dp
   refine AQ (fun e1 F1 L1 => ∃ (bn : Option Addr) (bo : Nat), AY dk F1 ∧ L1 = [(b1, ce #[.int .i64 wide, .slice Af Ac.length Ae] 45)] ∧ e1.sub [(3, .slice A3 AI.length A4), (4, .int .i64 most), (5, .pointer (some ⟨b1, 0, none⟩)), (12, .slice a8 l.length c9), (13, .slice bn ah.length bo), (14, .int .i64 n3), (15, .int .i64 many)] ∧ AL 1 (iE .i64) F1 bn bo ah) ?_ ?_
   ·clear cz
    refine Aq (AM (uv (As isAgg45 sizeOf45 rfl (Has.own 0 rfl) (Be rfl) rfl) ?_))
    obtain ⟨l2, dr, dt⟩ := Aw dq
    refine c0 call85 (HF ab dr) ?_; rintro _ fa _ ak bx ⟨fb, fe, ff, du, rfl, rfl, ao⟩
    replace aa := aa.mono (Ad _) ak
    replace aj := aj.mono (CP (Ad _)) ak
    replace av := av.mono (Ad _) ak
    replace ao := ao.new fun p hp => bx p (by simp [hp])
    refine AJ (lp (ln rfl)) (kO (kf (fS fO) kr) (um ?_))
    obtain rfl := (AN.Bm ao).1
    refine FL (Nat.le_refl _) (Ad _) (fC fP) ao ?_; intro fg aq dv
    replace aa := aa.mono (Ad _) aq
    replace aj := aj.mono (CP (Ad _)) aq
    replace av := av.mono (Ad _) aq
    obtain ⟨l3, dw, dx⟩ := Aw dt
    refine c0 call84 ((IH FU) dv dw) ?_; rintro _ dy _ ar bz ⟨dz, eb, eg, aw, rfl, rfl, ae⟩
    replace aa := aa.mono (Ad _) ar
    replace aj := aj.mono (CP (Ad _)) ar
    replace av := av.mono (Ad _) ar
    replace ae := ae.new fun p hp => bz p (by simp [hp])
    refine AJ (lp (ln rfl)) (kO (kf (fS fO) kr) ?_)
    refine ua (BX (ua (Aa ?_)))
    refine Aq ?_
    refine A9 (fun da e1 F1 L1 => LA l3 da fun tl i => ∃ (af : List Int) (n4 : Int) (ax : Option Addr) (ay : Nat), EJ AI l tl af n4 = some (ah, n3) ∧ dy = F1 ∧ L1 = ((b1, ce #[.int .i64 wide, .slice Af Ac.length Ae] 45) :: (aw ++ [])) ∧ e1.sub [(3, .slice A3 AI.length A4), (4, .int .i64 most), (5, .pointer (some ⟨b1, 0, none⟩)), (12, .slice a8 l.length c9), (13, .slice ax af.length ay), (14, .int .i64 n4), (15, .int .i64 many), (16, .slice dz eb eg), (17, .int .i64 i)] ∧ AL 1 (iE .i64) F1 ax ay af) _ (m0 kr ⟨_, _, rfl, BO.start _, ad, n2, HU, FG, dx, rfl, rfl, (sc rfl z8), av⟩) ?_
    rintro da e1 _ _ ⟨tl, i, az, au, af, n4, ax, ay, bp, rfl, rfl, ca, db⟩
    refine Az _ ca ?_
    refine Ar (AM (um (um ?_)))
    refine uv ((AX underlying70 rfl).i (AN.HH ae)) (uv (A7 rfl rfl) (Aa ?_))
    refine cQ (fun ba => ?_) fun ba => ?_
    ·obtain ⟨x, fh, rfl, bb, bq, bc⟩ := BO.succ au ba
     rw [EJ] at bp
     refine Al (Ar ?_)
     refine Aq ?_
     refine AM (um (um (um (um ?_))))
     obtain ⟨fi, fj, fk, eh, cb, cc, dd, ⟨fl, fm, rfl, ei⟩, ej, cd⟩ := AN.at (CP (Ad _)) ae (L := (b1, ce #[.int .i64 wide, .slice Af Ac.length Ae] 45) :: (aw ++ [])) (fC fP) bq.1 bb
     refine uv (AA underlying70 sizeOf22 rfl cb rfl (AN.idx ae bq)) (uv (Ao isAgg22 rfl cc (cd 0 (by decide))) ?_)
     obtain ⟨n5, en, de⟩ := Aw bp
     refine cV call86 (H6 aj aa ei en) ?_
     refine ua (BX (um (um ?_)))
     refine uv (Ex rfl rfl) (Aa ?_)
     refine cQ (fun cf => ?_) fun cf => ?_
     ·have eo := AO de cf
      refine Ak (um (um ?_))
      obtain ⟨fo, fp, fq, ep, cg, cj, df, ⟨cn, cp, rfl, cq⟩, dg, bg⟩ := AN.at (CP (Ad _)) ae (L := (b1, ce #[.int .i64 wide, .slice Af Ac.length Ae] 45) :: (aw ++ [])) (fC fP) bq.1 bb
      refine uv (AA underlying70 sizeOf22 rfl cg rfl (AN.idx ae bq)) (uv (Ao isAgg22 rfl cj (bg 0 (by decide))) ?_)
      refine um (ua (ua (Aa (Av (id := 3) (Ak (um ?_))))))
      refine uv (A1 rfl rfl (BO.DZ au ba (AN.R5 ae))) ?_
      refine ua (Aa ?_)
      subst az; exact le kr ⟨_, _, rfl, bc, x, n5, cn, cp, eo, rfl, rfl, (sc rfl z8), cq⟩
     have cr := AP de cf
     refine Al (Av (id := 3) (Ak (um ?_)))
     refine uv (A1 rfl rfl (BO.DZ au ba (AN.R5 ae))) ?_
     refine ua (Aa ?_)
     subst az; exact le kr ⟨_, _, rfl, bc, af, n4, ax, ay, cr, rfl, rfl, (sc rfl z8), db⟩
    obtain rfl := BO.zero au ba
    rw [EJ] at bp
    refine AR (Aj (Aj ?_))
    refine Ay (Av (id := 1) ?_)
    obtain ⟨rfl, rfl⟩ := BK bp
    exact mi (kc kn) ⟨ax, ay, ((ak.trans aq).trans ar), rfl, z7, db⟩
   rintro e1 er _ ⟨bn, bo, bh, rfl, bj, et⟩
   refine Az _ bj ?_
   refine Ak (um ?_)
   obtain ⟨ct, cu⟩ := AW cz
   refine uv (A1 rfl rfl ct) ?_
   refine ua (Aa ?_)
   exact le kr ⟨ah, n3, many + 1, bn, bo, cu, (ai.trans bh), rfl, z7, et⟩
  have cv := bf bu bw
  refine AR (Aj (Aj ?_))
  refine Ay ?_
  obtain ⟨rfl, rfl⟩ := BK cv
  exact mi kn ⟨HU, FG, ai, rfl, z2, av⟩
 rintro e1 eu _ ⟨MS, Lv, dh, rfl, bk, ew⟩
 refine Az _ bk ?_
 refine AM (um (um (ua (ua (Aa (Ap ?_))))))
 refine Ba results52 (AG rfl) (AG rfl) (sr) ?_
 obtain ⟨rfl, rfl⟩ := BK cx
 exact ⟨_, _, rfl, rfl, ew⟩
set_option maxHeartbeats 1000000 in
theorem MF (ab : AL 1 (iE .i64) F Af Ae Ac) (aa : AL 1 (iE .i64) F A3 A4 AI) {r : Int} (hr : IU wide Ac AK AI most = some r) :
    Bz Tryz.prog 53 #[.agg #[.int .i64 wide, .slice Af Ac.length Ae], .int .i64 AK, .slice A3 AI.length A4, .int .i64 most] F (.int .i64 r) := by
 refine sp func53 ntmps53 fun K _ _ => ?_
 rw [IU] at hr
 refine AM ?_
 refine Bu rfl rfl ?_; intro b1 az
 refine ua (Aa ?_)
 refine AQ (fun e1 F1 L1 => HG = some r ∧ AY F F1 ∧ L1 = [] ∧ e1.sub []) ?_ ?_
 ·refine AM (ua (Aa ?_))
  refine Aq ?_
  refine A9 (fun ad e1 F1 L1 => ∃ (AF : Int), ET wide Ac AK AI most ad AF = some r ∧ AY F F1 ∧ L1 = [(b1, ce #[.int .i64 wide, .slice Af Ac.length Ae] 45)] ∧ e1.sub [(1, .int .i64 AK), (2, .slice A3 AI.length A4), (3, .int .i64 most), (4, .pointer (some ⟨b1, 0, none⟩)), (9, .int .i64 AF)]) FU (m0 kr ⟨1, hr, AY.refl _, rfl, z5⟩) ?_
  rintro ad e1 F6 _ ⟨AF, r4, ae, rfl, ak⟩
  refine Az _ ak ?_
  replace ab := ab.mono (Ad _) ae
  replace aa := aa.mono (Ad _) ae
  rcases ad with _ | ad
  ·rw [ET] at r4; cases r4
  rw [ET] at r4
  refine Ar (AM (um ?_))
  refine uv (Kp rfl rfl) (Aa ?_)
  refine cQ (fun c8 => ?_) fun c8 => ?_
  ·have r9 := AO r4 c8
   refine Al (Ar ?_)
   refine Aq (AM (uv (As isAgg45 sizeOf45 rfl (Has.own 0 rfl) (Be rfl) rfl) ?_))
   refine um (um (um (um ?_)))
   obtain ⟨l, n, ao, ai⟩ := Bs r9
   refine c0 call52 (KA ab aa ao) ?_; rintro _ ba _ af aq ⟨HU, FG, rfl, rfl, bb⟩
   refine AJ (ln rfl) ?_
   refine um (ox rfl rfl rfl (ox rfl rfl rfl (ua (ua (BX (um (um ?_)))))))
   refine uv (AX underlying22 rfl) (uv (Bv rfl rfl) (Aa ?_))
   refine cQ (fun J5 => ?_) fun J5 => ?_
   ·have ar := AO ai J5
    refine AM (um (ua (Aa ?_)))
    refine kW kn ?_
    refine Ap (AB (Ah (Ah (AB (Ah ?_)))))
    refine B2 results53 ?_
    obtain rfl := AH ar
    exact rfl
   have au := AP ai J5
   refine Al (Av (id := 1) (Ak (um ?_)))
   obtain ⟨av, aw⟩ := AW au
   refine uv (A1 rfl rfl av) ?_
   refine ua (Aa ?_)
   exact le kr ⟨AF + 1, aw, (ae.trans af), rfl, z5⟩
  have ax := AP r4 c8
  refine AR (Aj (Aj ?_))
  refine Ay ?_
  exact mi kn ⟨ax, ae, rfl, (sn _)⟩
 rintro e1 bc _ ⟨aj, ay, rfl, ah⟩
 refine Az _ ah ?_
 rw [HG] at aj
 refine AM (ua (Aa (Ap ?_)))
 refine B2 results53 ?_
 obtain rfl := AH aj
 exact rfl
set_option maxHeartbeats 1000000 in
theorem Hl {BC : Int} (ab : AL 1 (iE .i64) F Af Ae Ac) (aa : AL 1 (iE .i64) F A3 A4 AI) {r : Bool} (hr : En wide Ac AK AF AI BC = some r) :
    Bz Tryz.prog 10 #[.agg #[.int .i64 wide, .slice Af Ac.length Ae], .agg #[.int .i64 AK, .int .i64 AF], .slice A3 AI.length A4, .int .i64 BC] F (.bool r) := by
 refine sp func10 ntmps10 fun K _ _ => ?_
 rw [En] at hr
 refine AM ?_
 refine Bu rfl rfl ?_; intro b1 j6
 refine Bu rfl rfl ?_; intro b2 j7
 refine ua (Aa (Ar ?_))
 obtain ⟨k, h3, r4⟩ := Aw hr
 refine jE ([(b2, ce #[.int .i64 AK, .int .i64 AF] 29), (b1, ce #[.int .i64 wide, .slice Af Ac.length Ae] 25)]) [(2, .slice A3 AI.length A4), (3, .int .i64 BC), (4, .pointer (some ⟨b1, 0, none⟩)), (5, .pointer (some ⟨b2, 0, none⟩)), (29, .bool k)] ?_ ?_
 ·clear r4
  refine Ak (uv (As isAgg25 sizeOf25 rfl (Has.own 1 rfl) (Be rfl) rfl) ?_)
  obtain ⟨ok, h5, r6⟩ := Aw h3
  refine cV call42 (KR ab h5) (um ?_)
  rcases Bf ok with c7 | c7
  ·have r8 := bt r6 c7
   refine fB c7 (fB c7 (fB c7 ?_))
   refine uv (Au (Es rfl c7) rfl) (Aa ?_)
   obtain rfl := AH r8
   exact mi kr ⟨rfl, rfl, z5⟩
  have r9 := bf r6 c7
  refine nB c7 (um (nB c7 ?_))
  refine uv (AX underlying22 rfl) (nB c7 (uv (Ex rfl rfl) (uv (At (Es rfl c7) rfl) (Aa ?_))))
  obtain rfl := AH r9
  exact mi kr ⟨rfl, rfl, z5⟩
 refine AU rfl (fun FE => ?_) (fun FE => ?_)
 ·have fy := bt r4 FE
  refine AM ?_
  obtain ⟨j8, ga, gb⟩ := Aw fy
  refine cV call13 (BR ga) ?_
  refine ua (Aa ?_)
  refine kW kn ?_
  refine Ap (Ah ?_)
  refine B2 results10 ?_
  obtain rfl := AH gb
  exact rfl
 have gg := bf r4 FE
 refine Al (Ar ?_)
 refine CF [(.pre, 8), (.pre, 9), (.still, 0), (.still, 2), (.still, 4), (.still, 6), (.still, 7), (.seq, 1), (.seq, 3), (.seq, 5), (.alloc (.cells (.agg #[.int .i64 0, .slice none 0 0] : Value).cells 25 (0, 0)) (fun b => .pointer (some ⟨b, 0, none⟩)) [], 8), (.alloc (.cells (.agg #[.int .i64 0, .slice none 0 0] : Value).cells 45 (0, 0)) (fun b => .pointer (some ⟨b, 0, none⟩)) [], 9), (.seq, 10), (.still, 11), (.seq, 12), (.still, 13)] (by kernel_rfl) (by kernel_rfl) (⟨⟨_, _, rfl, rfl, rfl, rfl, rfl, Gb zeroValue25⟩, ⟨⟨_, _, rfl, rfl, rfl, rfl, rfl, Gb zeroValue45⟩, trivial⟩⟩) (by rfl) (by kernel_rfl) ?_
 refine ⟨⟨[], rfl, sn _, by kernel_rfl⟩, ?_⟩
 refine ⟨⟨[], rfl, sn _, by kernel_rfl⟩, ?_⟩
 refine mL [4] ([(b1, ce #[.int .i64 wide, .slice Af Ac.length Ae] 25)]) rfl (s0 (s1 (s2 sr))) (fun H F' L' cn cp => As isAgg25 sizeOf25 rfl ((Has.own 0 rfl).ext cn cp) (Be rfl) rfl) (mS [2] rfl (Bh rfl) (mL [4] ([(b1, ce #[.int .i64 wide, .slice Af Ac.length Ae] 25)]) rfl (s0 (s1 (s2 sr))) (fun H F' L' cn cp => As isAgg25 sizeOf25 rfl ((Has.own 0 rfl).ext cn cp) (Be rfl) rfl) (mS [5] rfl (Am GX rfl) (mL [37] ([(b2, ce #[.int .i64 AK, .int .i64 AF] 29)]) rfl (s0 (s2 (s1 sr))) (fun H F' L' cn cp => Ao isAgg27 rfl ((Has.own 0 rfl).ext cn cp) rfl) ?_))))
 refine ⟨_, [(31, .agg #[.int .i64 wide, .slice Af Ac.length Ae])], rfl, rfl, z1, by kernel_rfl, ?_⟩; intro H
 obtain ⟨n, l, gh, gi⟩ := Bs gg
 refine c0 call15 (FJ ab gh) ?_; rintro _ j9 _ bz di ⟨bg, bh, I0, ae, rfl, rfl, ad⟩
 replace ab := ab.mono (Ad _) bz
 replace aa := aa.mono (Ad _) bz
 replace ad := ad.new fun p hp => di p (by simp [hp])
 refine AJ (lp (ln rfl)) (kO (kf (fS fO) (kf (fS fO) kr)) ?_)
 refine Aa ⟨_, rfl, bz, [7, 6, 4, 2], by kernel_rfl, .inl (.inr (fun d h => by cases h; rfl)), (fc (s0 (s2 (s1 (s3 sr)))) (fc sm (fc (s0 (s1 (s2 (s3 sr)))) (fc sm nm)))), ?_⟩
 refine ⟨_, [(33, .slice A3 AI.length A4)], rfl, rfl, z1, by kernel_rfl, ?_⟩; intro H
 obtain ⟨l2, gj, gk⟩ := Aw gi
 refine c0 call24 (GQ aa gj) ?_; rintro _ ja _ bn dk ⟨cq, cr, ct, af, rfl, rfl, ah⟩
 replace ab := ab.mono (Ad _) bn
 replace aa := aa.mono (Ad _) bn
 replace ad := ad.mono (Ad _) bn
 replace ah := ah.new fun p hp => dk p (by simp [hp])
 refine AJ (lp (ln rfl)) (kO (kf (fS fO) (kf (fS fO) kr)) ?_)
 refine Aa ⟨_, rfl, bn, [7, 6, 4], by kernel_rfl, .inl (.inr (fun d h => by cases h; rfl)), (fc (s0 (s2 (s1 (s3 (s3 sr))))) (fc sm (fc (s0 (s1 (s2 (s3 (s3 sr))))) nm))), ?_⟩
 refine ⟨_, [(35, .agg #[.int .i64 wide, .slice Af Ac.length Ae])], rfl, rfl, z1, by kernel_rfl, ?_⟩; intro H
 obtain ⟨n2, l3, gl, gm⟩ := Bs gk
 refine c0 call16 (DK ab gl) ?_; rintro _ jb _ bj dm ⟨bl, br, bm, ax, rfl, rfl, ai⟩
 replace ab := ab.mono (Ad _) bj
 replace aa := aa.mono (Ad _) bj
 replace ad := ad.mono (Ad _) bj
 replace ah := ah.mono (Ad _) bj
 replace ai := ai.new fun p hp => dm p (by simp [hp])
 refine AJ (lp (ln rfl)) (kO (kf (fS fO) (kf (fS fO) kr)) ?_)
 refine Aa ⟨_, rfl, bj, [7, 6], by kernel_rfl, .inl (.inr (fun d h => by cases h; rfl)), (fc (s0 (s2 (s1 (s3 (s3 (s3 sr)))))) (fc sm nm)), ?_⟩
 refine G9 rfl ?_; intro aw gn
 refine JK (L' := (aw, ce #[.int .i64 0, .slice none 0 0] 25) :: ((b2, ce #[.int .i64 AK, .int .i64 AF] 29) :: ((b1, ce #[.int .i64 wide, .slice Af Ac.length Ae] 25) :: (ax ++ (af ++ (ae ++ [])))))) rfl ?_
 refine G9 rfl ?_; intro bb gp
 refine JK (L' := (bb, ce #[.int .i64 0, .slice none 0 0] 45) :: ((aw, ce #[.int .i64 0, .slice none 0 0] 25) :: ((b2, ce #[.int .i64 AK, .int .i64 AF] 29) :: ((b1, ce #[.int .i64 wide, .slice Af Ac.length Ae] 25) :: (ax ++ (af ++ (ae ++ []))))))) rfl ?_
 refine ⟨_, [(9, .pointer (some ⟨aw, 0, none⟩)), (32, .agg #[.int .i64 n, .slice bg bh I0])], rfl, rfl, z2, by kernel_rfl, ?_⟩; intro H
 refine Bg (i := 1) sizeOf25 rfl rfl rfl (by simp [Value.oneCell']) rfl (Be rfl) (AJ rfl ?_)
 refine Aa ⟨undef, rfl, AY.refl _, [7, 6], by kernel_rfl, .inl (.inr (fun d h => by cases h)), (fc (s0 (s1 (s1 (s2 (s1 (s3 (s3 (s3 sr)))))))) (fc sm nm)), ?_⟩
 refine mS [34] rfl (Ej rfl) ?_
 refine ⟨_, [(11, .pointer (some ⟨bb, 0, none⟩)), (36, .agg #[.int .i64 n2, .slice bl br bm])], rfl, rfl, z2, by kernel_rfl, ?_⟩; intro H
 refine Bg (i := 0) sizeOf45 rfl rfl rfl (by simp [Value.oneCell']) rfl (Be rfl) (AJ rfl ?_)
 refine Aa ⟨undef, rfl, AY.refl _, [7, 6], by kernel_rfl, .inl (.inr (fun d h => by cases h)), (fc (s0 (s1 (s1 (s2 (s1 (s3 (s3 (s3 sr)))))))) (fc sm nm)), ?_⟩
 refine mS [38] rfl (Ej rfl) (DI (AM (uv (As isAgg25 sizeOf25 rfl (Has.own 1 rfl) (Be rfl) rfl) (uv (As isAgg29 sizeOf29 rfl (Has.own 2 rfl) (Be rfl) rfl) ?_))))
 refine um (um ?_)
 obtain ⟨l4, n3, n4, gq, gr⟩ := Lg gm
 refine Dh (Lb := []) (Lt := ae ++ (af ++ [])) (Lr := (bb, ce #[.int .i64 n2, .slice bl br bm] 45) :: ((aw, ce #[.int .i64 n, .slice bg bh I0] 25) :: ((b2, ce #[.int .i64 AK, .int .i64 AF] 29) :: ((b1, ce #[.int .i64 wide, .slice Af Ac.length Ae] 25) :: (ax ++ []))))) rfl call49 rfl rfl rfl (pT ((fC (fC (fC (fC (fS (fS fP)))))).trans (pA ((fC (fC (fC (fC (fS fP))))).trans (pA pR)))) (ln (lp (lp (ln rfl))))) (fun F2 h2 h3 => by rw [(AN.Bm ad).1]; rw [(AN.Bm ah).1]; exact RQ (ad.row (Ad _) h2 (fun p hp => h3 p (List.mem_append_left _ hp))) (ah.row (Ad _) h2 (fun p hp => h3 p (List.mem_append_right _ (List.mem_append_left _ hp)))) gq) (fun _ _ _ _ hq => by obtain ⟨cf, cg, cj, aj, rfl, rfl, ay⟩ := hq; exact ⟨_, _, _, _, rfl, rfl, ay.flat (fun _ _ h => h)⟩) ?_; rintro _ gu _ bk dn dp ⟨cf, cg, cj, aj, rfl, rfl, ay⟩
 replace ab := ab.mono (Ad _) bk
 replace aa := aa.mono (Ad _) bk
 replace ad := ad.mono (Ad _) bk
 replace ah := ah.mono (Ad _) bk
 replace ai := ai.mono (Ad _) bk
 have dq := J1 (Lb' := []) (by rfl) dn dp
 replace ay := ay.new fun p hp => dq p (by simp [hp])
 refine AJ (lp (ln (lp (lp (ln rfl))))) (kO (kf (fS (fS (fS fO))) (kf (fS (fS (fS fO))) (kf (fS (fS (fS fO))) (kf (fS (fS (fS fO))) kr)))) ?_)
 refine um (ox rfl rfl rfl (ox rfl rfl rfl (ox rfl rfl rfl (ua (ua (ua (BX ?_)))))))
 refine uv (As isAgg25 sizeOf25 rfl (Has.own 1 rfl) (Be rfl) rfl) (uv (Am GX rfl) (uv (Ao isAgg27 rfl (Has.own 2 rfl) rfl) ?_))
 refine um (um ?_)
 obtain ⟨n5, n6, gv, gw⟩ := Bs gr
 refine Bi (Lt := ae ++ (af ++ [])) (Lr := (bb, ce #[.int .i64 n2, .slice bl br bm] 45) :: ((aw, ce #[.int .i64 n, .slice bg bh I0] 25) :: ((b2, ce #[.int .i64 AK, .int .i64 AF] 29) :: ((b1, ce #[.int .i64 wide, .slice Af Ac.length Ae] 25) :: (aj ++ (ax ++ [])))))) rfl call50 rfl rfl rfl (pT ((fC (fC (fC (fC (fS fP))))).trans (pA ((fC (fC (fC (fC (fS fP))))).trans (pA pR)))) (lp (lp (ln rfl)))) (fun F2 h2 h3 => by rw [(AN.Bm ad).1]; rw [(AN.Bm ah).1]; exact Mn (ad.row (Ad _) h2 (fun p hp => h3 p (List.mem_append_left _ hp))) (ah.row (Ad _) h2 (fun p hp => h3 p (List.mem_append_right _ (List.mem_append_left _ hp)))) gv) ?_
 refine um (ox rfl rfl rfl (ox rfl rfl rfl (ua (ua ?_))))
 refine dN (wv (As isAgg45 sizeOf45 rfl (Has.own 0 rfl) (Be rfl) rfl) (wm (wv (Am GW rfl) (wv (Ao isAgg3 rfl (Has.own 2 rfl) rfl) (wm ?_)))))
 obtain ⟨n7, gy, gz⟩ := Aw gw
 refine JD (Lt := ax ++ []) (Lr := (bb, ce #[.int .i64 n2, .slice bl br bm] 45) :: ((aw, ce #[.int .i64 n, .slice bg bh I0] 25) :: ((b2, ce #[.int .i64 AK, .int .i64 AF] 29) :: ((b1, ce #[.int .i64 wide, .slice Af Ac.length Ae] 25) :: (aj ++ (ae ++ (af ++ []))))))) rfl call51 rfl rfl rfl (pT ((fC (fC (fC (fC (fS (fS (fS fP))))))).trans (pA pR)) (lp (ln rfl))) (fun F2 h2 h3 => by rw [(AN.Bm ai).1]; exact FN (ai.row (Ad _) h2 (fun p hp => h3 p (List.mem_append_left _ hp))) (aa.mono (Ad _) h2) gy) ?_
 refine wv (As isAgg45 sizeOf45 rfl (Has.own 0 rfl) (Be rfl) rfl) ?_
 refine wm (wm ?_)
 obtain ⟨n8, ia, ib⟩ := Aw gz
 refine JD (Lt := ax ++ []) (Lr := (bb, ce #[.int .i64 n2, .slice bl br bm] 45) :: ((aw, ce #[.int .i64 n, .slice bg bh I0] 25) :: ((b2, ce #[.int .i64 AK, .int .i64 AF] 29) :: ((b1, ce #[.int .i64 wide, .slice Af Ac.length Ae] 25) :: (aj ++ (ae ++ (af ++ []))))))) rfl call51 rfl rfl rfl (pT ((fC (fC (fC (fC (fS (fS (fS fP))))))).trans (pA pR)) (lp (ln rfl))) (fun F2 h2 h3 => by rw [(AN.Bm ai).1]; exact FN (ai.row (Ad _) h2 (fun p hp => h3 p (List.mem_append_left _ hp))) (aa.mono (Ad _) h2) ia) ?_
 refine wa (wa (BD ?_))
 obtain ⟨w, u, ic, ft⟩ := Bs ib
 refine jE (((bb, ce #[.int .i64 n2, .slice bl br bm] 45) :: ((aw, ce #[.int .i64 n, .slice bg bh I0] 25) :: ((b2, ce #[.int .i64 AK, .int .i64 AF] 29) :: ((b1, ce #[.int .i64 wide, .slice Af Ac.length Ae] 25) :: (ae ++ (af ++ (ax ++ (aj ++ []))))))))) [(2, .slice A3 AI.length A4), (3, .int .i64 BC), (4, .pointer (some ⟨b1, 0, none⟩)), (5, .pointer (some ⟨b2, 0, none⟩)), (9, .pointer (some ⟨aw, 0, none⟩)), (10, .slice cq cr ct), (11, .pointer (some ⟨bb, 0, none⟩)), (12, .int .i64 AK), (13, .slice cf cg cj), (14, .int .i64 n3), (15, .int .i64 n4), (16, .int .i64 n5), (17, .int .i64 n6), (18, .int .i64 w), (19, .int .i64 u)] ?_ ?_
 ·clear ft
  obtain ⟨k2, fv, dr⟩ := Aw ic
  refine jE (((bb, ce #[.int .i64 n2, .slice bl br bm] 45) :: ((aw, ce #[.int .i64 n, .slice bg bh I0] 25) :: ((b2, ce #[.int .i64 AK, .int .i64 AF] 29) :: ((b1, ce #[.int .i64 wide, .slice Af Ac.length Ae] 25) :: (ae ++ (af ++ (ax ++ (aj ++ []))))))))) [(2, .slice A3 AI.length A4), (3, .int .i64 BC), (4, .pointer (some ⟨b1, 0, none⟩)), (5, .pointer (some ⟨b2, 0, none⟩)), (9, .pointer (some ⟨aw, 0, none⟩)), (10, .slice cq cr ct), (11, .pointer (some ⟨bb, 0, none⟩)), (12, .int .i64 AK), (13, .slice cf cg cj), (14, .int .i64 n3), (15, .int .i64 n4), (16, .int .i64 n5), (17, .int .i64 n6), (18, .int .i64 n7), (19, .int .i64 n8), (72, .bool k2)] ?_ ?_
  ·clear dr
   refine Ak (um ?_)
   refine uv (A7 rfl rfl) (um ?_)
   by_cases bu : BC < 0
   ·have ie := AO fv bu
    refine fT bu (fT bu ?_)
    refine uv (Au (A5 rfl bu) rfl) (Aa ?_)
    obtain rfl := AH ie
    exact mi (kc (kc (kc (kc (kg (fS fP) (kg (fS fP) (kg (fS fP) kr))))))) ⟨rfl, rfl, (sc rfl (sc rfl (sc rfl (sc rfl (sc rfl (sc rfl (sc rfl (sc rfl z8))))))))⟩
   have ig := AP fv bu
   refine nF bu (um (nF bu ?_))
   refine uv (Ex rfl rfl) (uv (At (AZ rfl bu) rfl) (Aa ?_))
   obtain rfl := AH ig
   exact mi (kc (kc (kc (kc (kg (fS fP) (kg (fS fP) (kg (fS fP) kr))))))) ⟨rfl, rfl, (sc rfl (sc rfl (sc rfl (sc rfl (sc rfl (sc rfl (sc rfl (sc rfl z8))))))))⟩
  refine AU rfl (fun dt => ?_) (fun dt => ?_)
  ·have ij := bt dr dt
   obtain ⟨w2, fw, du⟩ := Aw ij
   refine jE (((bb, ce #[.int .i64 n2, .slice bl br bm] 45) :: ((aw, ce #[.int .i64 n, .slice bg bh I0] 25) :: ((b2, ce #[.int .i64 AK, .int .i64 AF] 29) :: ((b1, ce #[.int .i64 wide, .slice Af Ac.length Ae] 25) :: (ae ++ (af ++ (ax ++ (aj ++ []))))))))) [(2, .slice A3 AI.length A4), (3, .int .i64 BC), (4, .pointer (some ⟨b1, 0, none⟩)), (5, .pointer (some ⟨b2, 0, none⟩)), (9, .pointer (some ⟨aw, 0, none⟩)), (10, .slice cq cr ct), (11, .pointer (some ⟨bb, 0, none⟩)), (12, .int .i64 AK), (13, .slice cf cg cj), (14, .int .i64 n3), (15, .int .i64 n4), (16, .int .i64 n5), (17, .int .i64 n6), (18, .int .i64 w2), (19, .int .i64 n8)] ?_ ?_
   ·clear du
    refine AM (um ?_)
    refine uv (Bv rfl rfl) (Aa ?_)
    refine cQ (fun dv => ?_) fun dv => ?_
    ·have ik := AO fw dv
     refine Ak (ua (Aa ?_))
     obtain rfl := AH ik
     exact mi kr ⟨rfl, rfl, (sc rfl (sc rfl (sc rfl (sc rfl (sc rfl (sc rfl (sc rfl z8)))))))⟩
    have il := AP fw dv
    refine Al ?_
    obtain rfl := AH il
    exact mi kr ⟨rfl, rfl, (sc rfl (sc rfl (sc rfl (sc rfl (sc rfl (sc rfl (sc rfl z8)))))))⟩
   refine AM (um ?_)
   refine uv (Bv rfl rfl) (Aa ?_)
   refine cQ (fun dw => ?_) fun dw => ?_
   ·have im := AO du dw
    refine Ak (ua (Aa ?_))
    obtain ⟨rfl, rfl⟩ := BK im
    exact mi kr ⟨rfl, rfl, (sc rfl (sc rfl (sc rfl (sc rfl (sc rfl (sc rfl (sc rfl z8)))))))⟩
   have iq := AP du dw
   refine Al ?_
   obtain ⟨rfl, rfl⟩ := BK iq
   exact mi kr ⟨rfl, rfl, (sc rfl (sc rfl (sc rfl (sc rfl (sc rfl (sc rfl (sc rfl z8)))))))⟩
  have ir := bf dr dt
  refine Al ?_
  obtain ⟨rfl, rfl⟩ := BK ir
  exact mi kr ⟨rfl, rfl, (sc rfl (sc rfl (sc rfl (sc rfl (sc rfl (sc rfl (sc rfl z8)))))))⟩
 refine AM (ua (BX (ua (ua (Aa ?_)))))
 obtain ⟨bc, NU, k3, cu, cv⟩ := Lg ft
 refine Qd (fun e1 F1 L1 => ∃ (dx : Option Addr) (dy : Nat) (bo : Option Addr) (bp : Nat), AY gu F1 ∧ L1 = ((bb, ce #[.int .i64 n2, .slice dx bc.length dy] 45) :: ((aw, ce #[.int .i64 n, .slice bg bh I0] 25) :: ((b1, ce #[.int .i64 wide, .slice Af Ac.length Ae] 25) :: (ae ++ (af ++ (aj ++ [])))))) ∧ e1.sub [(2, .slice A3 AI.length A4), (3, .int .i64 BC), (4, .pointer (some ⟨b1, 0, none⟩)), (9, .pointer (some ⟨aw, 0, none⟩)), (10, .slice cq cr ct), (11, .pointer (some ⟨bb, 0, none⟩)), (12, .int .i64 AK), (13, .slice cf cg cj), (14, .int .i64 n3), (15, .int .i64 n4), (16, .int .i64 n5), (17, .int .i64 n6), (18, .int .i64 w), (19, .int .i64 u), (20, .slice bo NU.length bp), (21, .int .i64 k3), (22, .int .i64 0)] ∧ AL 1 (iE .i64) F1 dx dy bc ∧ AL 1 (iE .i64) F1 bo bp NU) ?_ ?_
 ·clear cv
  refine AM (um ?_)
  refine uv (Bv rfl rfl) (Aa ?_)
  refine cQ (fun ca => ?_) fun ca => ?_
  ·have dz := AO cu ca
   refine Ak (uv (As isAgg45 sizeOf45 rfl (Has.own 0 rfl) (Be rfl) rfl) (um (uv (Am GW rfl) (uv (Ao isAgg3 rfl (Has.own 2 rfl) rfl) ?_))))
   refine um (um ?_)
   obtain rfl := (AN.Bm ai).1
   refine FL (Nat.le_refl _) (Ad _) (fC (fC (fC (fC (fS (fS fP)))))) ai ?_; intro iu bw bq
   replace aa := aa.mono (Ad _) bw
   obtain ⟨l5, n9, eb, eg⟩ := Bs dz
   refine c0 call52 (KA bq aa eb) ?_; rintro _ iv _ bx fx ⟨eh, ei, rfl, rfl, ej⟩
   replace bq := bq.mono (Ad _) bx
   refine AJ (ln rfl) ?_
   refine um (ox rfl rfl rfl (ox rfl rfl rfl (ua (ua (Aa ?_)))))
   obtain ⟨rfl, rfl, rfl⟩ := Me eg
   exact mf (kc (kc (kd kr))) ⟨bl, bm, eh, ei, (bw.trans bx), rfl, (sc rfl (sc rfl (sc rfl (sc rfl (sc rfl (sc rfl (sc rfl (sc rfl (sc rfl z8))))))))), bq, ej⟩
  have en := AP cu ca
  refine Al ?_
  obtain rfl := (AN.Bm ai).1
  refine Ns (Nat.le_refl _) (Ad _) (fC (fC (fC (fC (fS (fS fP)))))) ai ?_; intro iw cw eo
  obtain ⟨rfl, rfl, rfl⟩ := Me en
  exact mf (kc (kc (kd kr))) ⟨bl, bm, none, 0, cw, rfl, (sc rfl (sc rfl (sc rfl (sc rfl (sc rfl (sc rfl (sc rfl (sc rfl (sc rfl z8))))))))), eo, AL.nil _ _ _⟩
 rintro e1 iy _ ⟨dx, dy, bo, bp, az, rfl, cx, iz, ep⟩
 refine Az _ cx ?_
 replace ab := ab.mono (Ad _) az
 replace aa := aa.mono (Ad _) az
 replace ad := ad.mono (Ad _) az
 replace ah := ah.mono (Ad _) az
 replace ay := ay.mono (Ad _) az
 obtain ⟨u2, cy, cz, cb⟩ := Bs cv
 refine jE (((aw, ce #[.int .i64 n, .slice bg bh I0] 25) :: ((b1, ce #[.int .i64 wide, .slice Af Ac.length Ae] 25) :: (ae ++ (af ++ (aj ++ [])))))) [(2, .slice A3 AI.length A4), (4, .pointer (some ⟨b1, 0, none⟩)), (9, .pointer (some ⟨aw, 0, none⟩)), (10, .slice cq cr ct), (13, .slice cf cg cj), (14, .int .i64 n3), (15, .int .i64 n4), (16, .int .i64 n5), (17, .int .i64 n6), (18, .int .i64 w), (19, .int .i64 u2), (20, .slice bo NU.length bp), (21, .int .i64 k3), (22, .int .i64 cy)] ?_ ?_
 ·clear cb
  refine AM (um ?_)
  refine uv (Bv rfl rfl) (Aa ?_)
  refine cQ (fun cc => ?_) fun cc => ?_
  ·have er := AO cz cc
   refine AM (uv (As isAgg45 sizeOf45 rfl (Has.own 0 rfl) (Be rfl) rfl) ?_)
   refine um (um (um ?_))
   obtain ⟨jc, et, da⟩ := Aw er
   refine cV call53 (MF iz aa et) ?_
   refine ua (BX (um ?_))
   refine uv (Bv rfl rfl) (Aa ?_)
   refine cQ (fun cd => ?_) fun cd => ?_
   ·have eu := AO da cd
    refine Ak (ua (Aa ?_))
    obtain ⟨rfl, rfl⟩ := BK eu
    exact mi (kd kr) ⟨rfl, rfl, (sc rfl (sc rfl (sc rfl (sc rfl (sc rfl (sc rfl z8))))))⟩
   have ew := AP da cd
   refine Al ?_
   obtain ⟨rfl, rfl⟩ := BK ew
   exact mi (kd kr) ⟨rfl, rfl, (sc rfl (sc rfl (sc rfl (sc rfl (sc rfl (sc rfl z8))))))⟩
  have ey := AP cz cc
  refine Al ?_
  obtain ⟨rfl, rfl⟩ := BK ey
  exact mi (kd kr) ⟨rfl, rfl, (sc rfl (sc rfl (sc rfl (sc rfl (sc rfl (sc rfl z8))))))⟩
 refine AM (um (um ?_))
 refine uv (Bv rfl rfl) (um ?_)
 by_cases aq : n4 = w
 ·have db := AO cb aq
  refine nT aq (um (nT aq (um (nT aq ?_))))
  refine uv (Bv rfl rfl) (uv (Au (A5 rfl aq) rfl) (um ?_))
  by_cases ar : n6 = u2
  ·have dd := AO db ar
   refine nT ar (um (nT ar (um (nT ar ?_))))
   refine uv (Bv rfl rfl) (uv (Au (A5 rfl ar) rfl) (um ?_))
   by_cases au : n3 = k3
   ·have de := AO dd au
    refine nT au (um (nT au (um (nT au ?_))))
    refine uv (Bv rfl rfl) (uv (Au (A5 rfl au) rfl) (um ?_))
    by_cases av : n5 = cy
    ·have ez := AO de av
     refine nT av (um (nT av (um (nT av ?_))))
     obtain ⟨j0, fa, df⟩ := Aw ez
     refine Bi (Lt := aj ++ []) (Lr := (aw, ce #[.int .i64 n, .slice bg bh I0] 25) :: ((b1, ce #[.int .i64 wide, .slice Af Ac.length Ae] 25) :: (ae ++ (af ++ [])))) rfl call22 rfl rfl rfl (pT ((fC (fC (fS (fS fP)))).trans (pA pR)) (lp (ln rfl))) (fun F2 h2 h3 => by rw [(AN.Bm ay).1]; exact Bq (ay.row (Ad _) h2 (fun p hp => h3 p (List.mem_append_left _ hp))) (ep.mono (Ad _) h2) fa) ?_
     refine uv (Au (A5 rfl av) rfl) (um ?_)
     rcases Bf j0 with ak | ak
     ·have fb := bt df ak
      refine nB ak (uv (As isAgg25 sizeOf25 rfl (Has.own 0 rfl) (Be rfl) rfl) (nB ak (uv (As isAgg25 sizeOf25 rfl (Has.own 1 rfl) (Be rfl) rfl) (nB ak ?_))))
      obtain ⟨j4, fe, dg⟩ := Aw fb
      refine Bi (Lt := ae ++ []) (Lr := (aw, ce #[.int .i64 n, .slice bg bh I0] 25) :: ((b1, ce #[.int .i64 wide, .slice Af Ac.length Ae] 25) :: (af ++ (aj ++ [])))) rfl call23 rfl rfl rfl (pT ((fC (fC fP)).trans (pA pR)) (lp (ln rfl))) (fun F2 h2 h3 => by rw [(AN.Bm ad).1]; exact Fg (ad.row (Ad _) h2 (fun p hp => h3 p (List.mem_append_left _ hp))) (ab.mono (Ad _) h2) fe) ?_
      refine uv (Au (Es rfl ak) rfl) (um ?_)
      rcases Bf j4 with ao | ao
      ·have ff := bt dg ao
       refine nB ao (um (nB ao (um (nB ao ?_))))
       obtain ⟨j5, fg, dh⟩ := Aw ff
       refine Bi (Lt := af ++ []) (Lr := (aw, ce #[.int .i64 n, .slice bg bh I0] 25) :: ((b1, ce #[.int .i64 wide, .slice Af Ac.length Ae] 25) :: (ae ++ (aj ++ [])))) rfl call22 rfl rfl rfl (pT ((fC (fC (fS fP))).trans (pA pR)) (lp (ln rfl))) (fun F2 h2 h3 => by rw [(AN.Bm ah).1]; exact Bq (ah.row (Ad _) h2 (fun p hp => h3 p (List.mem_append_left _ hp))) (aa.mono (Ad _) h2) fg) ?_
       refine uv (Au (Es rfl ao) rfl) (um ?_)
       rcases Bf j5 with ba | ba
       ·have fh := bt dh ba
        refine nB ba ?_
        obtain ⟨jd, fi, fj⟩ := Aw fh
        refine cV call13 (BR fi) (uv (Au (Es rfl ba) rfl) ?_)
        refine ua (Aa ?_)
        refine kW kn (Ap (B2 results10 ?_))
        obtain rfl := AH fj
        exact rfl
       have fk := bf dh ba
       refine fB ba (uv (At (Es rfl ba) rfl) ?_)
       refine ua (Aa ?_)
       refine kW kn (Ap (B2 results10 ?_))
       obtain rfl := AH fk
       exact rfl
      have fl := bf dg ao
      refine fB ao (fB ao (fB ao ?_))
      refine uv (At (Es rfl ao) rfl) ?_
      refine um (Ai (b' := false) 131 rfl rfl rfl rfl ?_)
      refine uv (At rfl rfl) ?_
      refine ua (Aa ?_)
      refine kW kn (Ap (B2 results10 ?_))
      obtain rfl := AH fl
      exact rfl
     have fm := bf df ak
     refine fB ak (fB ak (fB ak ?_))
     refine uv (At (Es rfl ak) rfl) ?_
     refine um (Ai (b' := false) 126 rfl rfl rfl rfl (Ai (b' := false) 126 rfl rfl rfl rfl (Ai (b' := false) 126 rfl rfl rfl rfl ?_)))
     refine uv (At rfl rfl) ?_
     refine um (Ai (b' := false) 131 rfl rfl rfl rfl ?_)
     refine uv (At rfl rfl) ?_
     refine ua (Aa ?_)
     refine kW kn (Ap (B2 results10 ?_))
     obtain rfl := AH fm
     exact rfl
    have fo := AP de av
    refine fF av (fF av (fF av ?_))
    refine uv (At (AZ rfl av) rfl) ?_
    refine um (Ai (b' := false) 121 rfl rfl rfl rfl (Ai (b' := false) 121 rfl rfl rfl rfl (Ai (b' := false) 121 rfl rfl rfl rfl ?_)))
    refine uv (At rfl rfl) ?_
    refine um (Ai (b' := false) 126 rfl rfl rfl rfl (Ai (b' := false) 126 rfl rfl rfl rfl (Ai (b' := false) 126 rfl rfl rfl rfl ?_)))
    refine uv (At rfl rfl) ?_
    refine um (Ai (b' := false) 131 rfl rfl rfl rfl ?_)
    refine uv (At rfl rfl) ?_
    refine ua (Aa ?_)
    refine kW kn (Ap (B2 results10 ?_))
    obtain rfl := AH fo
    exact rfl
   have fp := AP dd au
   refine fF au (fF au (fF au ?_))
   refine uv (At (AZ rfl au) rfl) ?_
   refine um (Ai (b' := false) 116 rfl rfl rfl rfl (Ai (b' := false) 116 rfl rfl rfl rfl (Ai (b' := false) 116 rfl rfl rfl rfl ?_)))
   refine uv (At rfl rfl) ?_
   refine um (Ai (b' := false) 121 rfl rfl rfl rfl (Ai (b' := false) 121 rfl rfl rfl rfl (Ai (b' := false) 121 rfl rfl rfl rfl ?_)))
   refine uv (At rfl rfl) ?_
   refine um (Ai (b' := false) 126 rfl rfl rfl rfl (Ai (b' := false) 126 rfl rfl rfl rfl (Ai (b' := false) 126 rfl rfl rfl rfl ?_)))
   refine uv (At rfl rfl) ?_
   refine um (Ai (b' := false) 131 rfl rfl rfl rfl ?_)
   refine uv (At rfl rfl) ?_
   refine ua (Aa ?_)
   refine kW kn (Ap (B2 results10 ?_))
   obtain rfl := AH fp
   exact rfl
  have fq := AP db ar
  refine fF ar (fF ar (fF ar ?_))
  refine uv (At (AZ rfl ar) rfl) ?_
  refine um (Ai (b' := false) 111 rfl rfl rfl rfl (Ai (b' := false) 111 rfl rfl rfl rfl (Ai (b' := false) 111 rfl rfl rfl rfl ?_)))
  refine uv (At rfl rfl) ?_
  refine um (Ai (b' := false) 116 rfl rfl rfl rfl (Ai (b' := false) 116 rfl rfl rfl rfl (Ai (b' := false) 116 rfl rfl rfl rfl ?_)))
  refine uv (At rfl rfl) ?_
  refine um (Ai (b' := false) 121 rfl rfl rfl rfl (Ai (b' := false) 121 rfl rfl rfl rfl (Ai (b' := false) 121 rfl rfl rfl rfl ?_)))
  refine uv (At rfl rfl) ?_
  refine um (Ai (b' := false) 126 rfl rfl rfl rfl (Ai (b' := false) 126 rfl rfl rfl rfl (Ai (b' := false) 126 rfl rfl rfl rfl ?_)))
  refine uv (At rfl rfl) ?_
  refine um (Ai (b' := false) 131 rfl rfl rfl rfl ?_)
  refine uv (At rfl rfl) ?_
  refine ua (Aa ?_)
  refine kW kn (Ap (B2 results10 ?_))
  obtain rfl := AH fq
  exact rfl
 have fs := AP cb aq
 refine fF aq (fF aq (fF aq ?_))
 refine uv (At (AZ rfl aq) rfl) ?_
 refine um (Ai (b' := false) 106 rfl rfl rfl rfl (Ai (b' := false) 106 rfl rfl rfl rfl (Ai (b' := false) 106 rfl rfl rfl rfl ?_)))
 refine uv (At rfl rfl) ?_
 refine um (Ai (b' := false) 111 rfl rfl rfl rfl (Ai (b' := false) 111 rfl rfl rfl rfl (Ai (b' := false) 111 rfl rfl rfl rfl ?_)))
 refine uv (At rfl rfl) ?_
 refine um (Ai (b' := false) 116 rfl rfl rfl rfl (Ai (b' := false) 116 rfl rfl rfl rfl (Ai (b' := false) 116 rfl rfl rfl rfl ?_)))
 refine uv (At rfl rfl) ?_
 refine um (Ai (b' := false) 121 rfl rfl rfl rfl (Ai (b' := false) 121 rfl rfl rfl rfl (Ai (b' := false) 121 rfl rfl rfl rfl ?_)))
 refine uv (At rfl rfl) ?_
 refine um (Ai (b' := false) 126 rfl rfl rfl rfl (Ai (b' := false) 126 rfl rfl rfl rfl (Ai (b' := false) 126 rfl rfl rfl rfl ?_)))
 refine uv (At rfl rfl) ?_
 refine um (Ai (b' := false) 131 rfl rfl rfl rfl ?_)
 refine uv (At rfl rfl) ?_
 refine ua (Aa ?_)
 refine kW kn (Ap (B2 results10 ?_))
 obtain rfl := AH fs
 exact rfl
set_option maxHeartbeats 1000000 in
theorem MM (aa : AL 1 (iE .i64) F Af Ae Ac) {r : List Int} (hr : HA wide Ac = some r) :
    SH.Spec Tryz.prog 54 #[.agg #[.int .i64 wide, .slice Af Ac.length Ae]] F [] fun F' L' v => ∃ (ra : Option Addr) (rn : Nat) (rc : Nat) (rL : LH), v = .slice ra rn rc ∧ L' = rL ++ [] ∧ AN 0 3 1 (iE .i64) F' ra rn rc r rL := by
 refine sp func54 ntmps54 fun K _ _ => ?_
 rw [HA] at hr
 refine AM ?_
 refine Bu rfl rfl ?_; intro b1 bz
 refine ua (BX (ua (Aa ?_)))
 obtain ⟨out, h8, r9⟩ := Aw hr
 refine AQ (fun e1 F1 L1 => ∃ (a2 : Option Addr) (n6 : Nat) (c3 : Nat) (aq : LH), F = F1 ∧ L1 = (aq ++ []) ∧ e1.sub [(3, .slice a2 n6 c3)] ∧ AN K.w0.heap.size 3 1 (iE .i64) F1 a2 n6 c3 out aq) ?_ ?_
 ·clear r9
  refine AM (uv (Am BN rfl) (uv (Ao isAgg23 rfl (Has.own 0 rfl) rfl) (uv (AX underlying23 rfl) ?_)))
  refine um (Aa ?_)
  refine Aq (kW kn ?_)
  refine A9 (fun bc e1 F1 L1 => LA Ac bc fun tl k => ∃ (ad : List Int) (Nv : Option Addr) (ah : Nat) (FE : Nat) (ab : LH), Ec tl k ad = some out ∧ F = F1 ∧ L1 = (ab ++ []) ∧ e1.sub [(3, .slice Nv ah FE), (7, .slice Af Ac.length Ae), (8, .int .i64 (Ac.length : Int)), (9, .int .i64 k)] ∧ AN K.w0.heap.size 3 1 (iE .i64) F1 Nv ah FE ad ab) _ (m0 (ke kr) ⟨_, _, rfl, BO.start _, [], none, 0, 0, [], h8, rfl, rfl, z4, AN.nil _ _ _ _ _⟩) ?_
  rintro bc e1 _ _ ⟨tl, k, ai, ae, ad, Nv, ah, FE, ab, aj, rfl, rfl, ar, af⟩
  refine Az _ ar (AM (uv (A7 rfl rfl) ?_))
  refine Aa (Ar ?_)
  refine cQ (fun Jj => ?_) fun Jj => ?_
  ·obtain ⟨x, ca, rfl, au, bg, ak⟩ := BO.succ ae Jj
   rw [Ec] at aj
   refine Al (Ar ?_)
   refine Aq ?_
   refine AM (um ?_)
   obtain ⟨cb, cc, Mi, bj, av, aw, bh, rfl, bk, ax⟩ := AL.at (Ad _) aa (ab ++ []) bg.1 au
   refine uv (AA underlying23 sizeOf32 rfl av rfl bg) (uv (Ao isAgg32 rfl aw (ax 0 (by decide))) ?_)
   refine ua (ua (BX (um ?_)))
   refine uv (Bv rfl rfl) (Aa ?_)
   refine cQ (fun ay => ?_) fun ay => ?_
   ·have bl := AO aj ay
    refine Ak (um (um ?_))
    refine bA (cs := #[.int .i64 k]) Br [.int .i64 k] ?_; intro Qr bm
    obtain ⟨ao, bn, bo, bp⟩ := E9 bl
    refine DB (xs := ad) (ys := [k]) (zs := ao) rfl Br rfl rfl (Nat.le_refl _) (fun _ => .c .h) af (GO.box (vss := [[.int .i64 k]]) (ys := [k]) 0 rfl (Ad _) (.cons rfl .nil) rfl rfl) bn bo (by decide) ?_; intro bq br bu az ba
    refine kO (kd kr) ?_
    refine ua (Aa (Av (id := 1) (Ak ?_)))
    refine uv (A1 rfl rfl (BO.DZ ae Jj (AL.lt aa))) ?_
    refine um (Aa ?_)
    subst ai; exact le kr ⟨_, _, rfl, ak, ao, bq, br, bu, az, bp, rfl, rfl, z4, ba⟩
   have bw := AP aj ay
   refine Al (Av (id := 1) (Ak ?_))
   refine uv (A1 rfl rfl (BO.DZ ae Jj (AL.lt aa))) ?_
   refine um (Aa ?_)
   subst ai; exact le kr ⟨_, _, rfl, ak, ad, Nv, ah, FE, ab, bw, rfl, rfl, z4, af⟩
  obtain rfl := BO.zero ae Jj
  rw [Ec] at aj
  refine AR (Aj (Aj ?_))
  refine Ay ?_
  obtain rfl := AH aj
  exact mi kr ⟨Nv, ah, FE, ab, rfl, rfl, z1, af⟩
 rintro e1 _ _ ⟨a2, n6, c3, aq, rfl, rfl, bb, bx⟩
 refine Az _ bb ?_
 refine AM (um (ua (Aa (Ap ?_))))
 refine B2 results54 ?_
 obtain rfl := AH r9
 exact ⟨_, _, _, _, rfl, rfl, bx.any⟩
set_option maxHeartbeats 1000000 in
theorem KV {n : Int} (aa : AL 1 (iE .i64) F Af Ae Ac) {r : Bool} (hr : Fq wide Ac AK AF n = some r) :
    Bz Tryz.prog 11 #[.agg #[.int .i64 wide, .slice Af Ac.length Ae], .agg #[.int .i64 AK, .int .i64 AF], .int .i64 n] F (.bool r) := by
 refine sp func11 ntmps11 fun K _ _ => ?_
 rw [Fq] at hr
 refine AM ?_
 refine Bu rfl rfl ?_; intro b1 lk
 refine Bu rfl rfl ?_; intro b2 ll
 refine ua (BX ?_)
 refine uv (Am BN rfl) (uv (Ao isAgg23 rfl (Has.own 1 rfl) rfl) (uv (AX underlying23 rfl) (uv (Uj rfl rfl) ?_)))
 obtain ⟨k, h3, r4⟩ := B8 hr
 refine uv ((Ej rfl).i h3) (dN ?_)
 refine wm (wm ?_)
 obtain ⟨g5, r6⟩ := AW r4
 refine wv (EN rfl rfl g5) (wm ?_)
 obtain ⟨g7, r8⟩ := AW r6
 refine wv (K8 rfl rfl g7) (wm ?_)
 obtain ⟨g9, j5⟩ := AW r8
 refine wv (EN rfl rfl g9) ?_
 refine wa (wa (BD ?_))
 obtain ⟨stand, j6, ik⟩ := Aw j5
 refine jE ([(b2, ce #[.int .i64 AK, .int .i64 AF] 29), (b1, ce #[.int .i64 wide, .slice Af Ac.length Ae] 25)]) [(2, .int .i64 n), (3, .pointer (some ⟨b1, 0, none⟩)), (4, .pointer (some ⟨b2, 0, none⟩)), (7, .int .i64 k), (8, .int .i64 stand), (9, .int .i64 (Int.tmod (Int.tdiv n 3) k))] ?_ ?_
 ·clear ik
  refine AM (ua (Aa ?_))
  refine Aq ?_
  refine A9 (fun dn e1 F1 L1 => ∃ (ao : Int) (i : Int), EE Ac k dn ao i = some stand ∧ F = F1 ∧ L1 = [(b2, ce #[.int .i64 AK, .int .i64 AF] 29), (b1, ce #[.int .i64 wide, .slice Af Ac.length Ae] 25)] ∧ e1.sub [(2, .int .i64 n), (3, .pointer (some ⟨b1, 0, none⟩)), (4, .pointer (some ⟨b2, 0, none⟩)), (7, .int .i64 k), (8, .int .i64 ao), (9, .int .i64 (Int.tmod (Int.tdiv n 3) k)), (10, .int .i64 i)]) FU (m0 kr ⟨Int.tmod n k, 0, j6, rfl, rfl, z7⟩) ?_
  rintro dn e1 _ _ ⟨ao, i, dp, rfl, rfl, dq⟩
  refine Az _ dq ?_
  rcases dn with _ | dn
  ·rw [EE] at dp; cases dp
  rw [EE] at dp
  refine Ar ?_
  obtain ⟨k2, il, dr⟩ := Aw dp
  refine jE ([(b2, ce #[.int .i64 AK, .int .i64 AF] 29), (b1, ce #[.int .i64 wide, .slice Af Ac.length Ae] 25)]) [(2, .int .i64 n), (3, .pointer (some ⟨b1, 0, none⟩)), (4, .pointer (some ⟨b2, 0, none⟩)), (7, .int .i64 k), (8, .int .i64 ao), (9, .int .i64 (Int.tmod (Int.tdiv n 3) k)), (10, .int .i64 i), (37, .bool k2)] ?_ ?_
  ·clear dr
   refine Ak (um (um ?_))
   refine uv (A7 rfl rfl) (um ?_)
   by_cases J5 : i < k
   ·have j7 := AO il J5
    refine nT J5 (uv (Am BN rfl) (nT J5 (uv (Ao isAgg23 rfl (Has.own 1 rfl) rfl) ?_)))
    refine nT J5 (um (nT J5 ?_))
    obtain ⟨x, im, dt, j8⟩ := Bj j7
    obtain ⟨lq, lr, JE, j9, du, dv, iq, rfl, ja, dw⟩ := AL.at (Ad _) aa ([(b2, ce #[.int .i64 AK, .int .i64 AF] 29), (b1, ce #[.int .i64 wide, .slice Af Ac.length Ae] 25)]) im.1 dt
    refine uv (AA underlying23 sizeOf32 rfl du rfl im) (nT J5 (uv (Ao isAgg32 rfl dv (dw 0 (by decide))) (nT J5 (uv (Bo rfl rfl) (uv (Au (A5 rfl J5) rfl) (Aa ?_))))))
    obtain rfl := AH j8
    exact mi kr ⟨rfl, rfl, z8⟩
   have jb := AP il J5
   refine fF J5 (fF J5 (fF J5 (fF J5 (fF J5 (fF J5 ?_)))))
   refine uv (At (AZ rfl J5) rfl) (Aa ?_)
   obtain rfl := AH jb
   exact mi kr ⟨rfl, rfl, z8⟩
  refine AU rfl (fun dx => ?_) (fun dx => ?_)
  ·have jc := bt dr dx
   refine Al (Ar ?_)
   refine Aq ?_
   refine Ak (um ?_)
   obtain ⟨jd, je⟩ := AW jc
   refine uv (A1 rfl rfl jd) (um ?_)
   obtain ⟨jf, jg⟩ := AW je
   refine uv (EN rfl rfl jf) ?_
   refine ua (Aa (Av (id := 1) (Ak (um ?_))))
   obtain ⟨jh, ji⟩ := AW jg
   refine uv (A1 rfl rfl jh) ?_
   refine ua (Aa ?_)
   exact le kr ⟨Int.tmod (ao + 1) k, i + 1, ji, rfl, rfl, z7⟩
  have jj := bf dr dx
  refine AR (Aj (Aj ?_))
  refine Ay ?_
  obtain rfl := AH jj
  exact mi kr ⟨rfl, rfl, z6⟩
 refine AM (uv (As isAgg25 sizeOf25 rfl (Has.own 1 rfl) (Be rfl) rfl) (uv (Am GX rfl) (uv (Ao isAgg27 rfl (Has.own 0 rfl) rfl) (um ?_))))
 obtain ⟨l, n2, jk, jl⟩ := Bs ik
 refine c0 call27 (IL aa jk) ?_; rintro _ jm _ dy dz ⟨bo, bp, bq, bk, rfl, rfl, ar⟩
 replace aa := aa.mono (Ad _) dy
 replace ar := ar.new fun p hp => dz p (by simp [hp])
 refine AJ (lp (ln rfl)) (kO (kf (fS fO) (kf (fS fO) kr)) ?_)
 refine um (ox rfl rfl rfl (ox rfl rfl rfl (ua (ua (Aa ?_)))))
 obtain ⟨l2, jn, ir⟩ := Aw jl
 refine AQ (fun e1 F1 L1 => ∃ (ak : LH), jm = F1 ∧ L1 = ((b2, ce #[.int .i64 AK, .int .i64 AF] 29) :: ((b1, ce #[.int .i64 wide, .slice Af Ac.length Ae] 25) :: (ak ++ []))) ∧ e1.sub [(2, .int .i64 n), (3, .pointer (some ⟨b1, 0, none⟩)), (4, .pointer (some ⟨b2, 0, none⟩)), (7, .int .i64 k), (8, .int .i64 stand), (9, .int .i64 (Int.tmod (Int.tdiv n 3) k)), (11, .slice bo bp bq)] ∧ AN K.w0.heap.size 3 1 (iE .i64) F1 bo bp bq l2 ak) ?_ ?_
 ·clear ir
  obtain ⟨k3, iu, eb⟩ := Aw jn
  refine jE (((b2, ce #[.int .i64 AK, .int .i64 AF] 29) :: ((b1, ce #[.int .i64 wide, .slice Af Ac.length Ae] 25) :: (bk ++ [])))) [(2, .int .i64 n), (3, .pointer (some ⟨b1, 0, none⟩)), (4, .pointer (some ⟨b2, 0, none⟩)), (7, .int .i64 k), (8, .int .i64 stand), (9, .int .i64 (Int.tmod (Int.tdiv n 3) k)), (11, .slice bo bp bq), (59, .bool k3)] ?_ ?_
  ·clear eb
   refine Ak (um ?_)
   refine uv ((AX underlying22 rfl).i (AN.HH ar)) (uv (Ex rfl rfl) (um ?_))
   by_cases bj : 0 < (l.length : Int)
   ·have DZ := AO iu bj
    refine nT bj (um (nT bj ?_))
    refine uv (EN rfl rfl (by decide)) (nT bj (uv (Bv rfl rfl) (uv (Au (A5 rfl bj) rfl) (Aa ?_))))
    obtain rfl := AH DZ
    exact mi kr ⟨rfl, rfl, z8⟩
   have jo := AP iu bj
   refine fF bj (fF bj (fF bj ?_))
   refine uv (At (AZ rfl bj) rfl) (Aa ?_)
   obtain rfl := AH jo
   exact mi kr ⟨rfl, rfl, z8⟩
  refine AU rfl (fun eg => ?_) (fun eg => ?_)
  ·have jq := bt eb eg
   refine Ak (um (um (um ?_)))
   refine uv ((AX underlying22 rfl).i (AN.HH ar)) ?_
   obtain ⟨jr, js⟩ := AW jq
   refine uv (EN rfl rfl jr) ?_
   obtain ⟨x2, cd, cf, jt⟩ := Bj js
   obtain ⟨lu, lv, lx, ju, eh, ei, iv, rfl, jv, ej⟩ := AN.at (Ad _) ar (L := (b2, ce #[.int .i64 AK, .int .i64 AF] 29) :: ((b1, ce #[.int .i64 wide, .slice Af Ac.length Ae] 25) :: (bk ++ []))) (fC (fC fP)) cd.1 cf
   refine uv (AA underlying22 sizeOf3 rfl eh rfl (AN.idx ar cd)) (uv (Ao isAgg3 rfl ei (ej 0 (by decide))) (um (uv (EN rfl rfl (by decide)) ?_)))
   obtain ⟨jw, jx⟩ := AW jt
   refine uv (FD rfl rfl jw) ?_
   obtain ⟨jz, kb⟩ := AW jx
   refine uv (A1 rfl rfl jz) ?_
   obtain ⟨ly, lz, ma, kh, cg, kj, iw, rfl, kl, km⟩ := AN.at (Ad _) ar (L := (b2, ce #[.int .i64 AK, .int .i64 AF] 29) :: ((b1, ce #[.int .i64 wide, .slice Af Ac.length Ae] 25) :: (bk ++ []))) (fC (fC fP)) cd.1 cf
   refine uv (AA underlying22 sizeOf3 rfl cg rfl (AN.idx ar cd)) ?_
   obtain ⟨l3, ko, kt⟩ := B8 kb
   refine Cv (u := x2 + ((Int.tmod n 3) - 1)) sizeOf3 (Ad _) rfl cg rfl rfl (fun _ => .c (.c .h)) ar ko cd ?_; intro en eo
   refine Aa ?_
   obtain rfl := AH kt
   exact mi kr ⟨en, rfl, rfl, z7, eo⟩
  have ep := bf eb eg
  refine Al ?_
  obtain rfl := AH ep
  exact mi kr ⟨bk, rfl, rfl, z7, ar⟩
 rintro e1 _ _ ⟨ak, rfl, rfl, cj, az⟩
 refine Az _ cj (AM (uv (As isAgg25 sizeOf25 rfl (Has.own 1 rfl) (Be rfl) rfl) (uv (Am GX rfl) (uv (Ao isAgg27 rfl (Has.own 0 rfl) rfl) ?_))))
 refine um (um ?_)
 obtain ⟨l4, n3, er, et⟩ := Bs ir
 refine c0 call33 (MO aa er) ?_; rintro _ eu _ bl cn ⟨ba, bb, bc, bg, rfl, rfl, aj⟩
 replace aa := aa.mono (Ad _) bl
 replace az := az.mono (Ad _) bl
 replace aj := aj.new fun p hp => cn p (by simp [hp])
 refine AJ (lp (ln rfl)) (kO (kf (fS fO) (kf (fS fO) kr)) ?_)
 refine um (ox rfl rfl rfl (ox rfl rfl rfl (ua (ua (Aa ?_)))))
 obtain ⟨HR, ew, cp⟩ := Aw et
 refine AQ (fun e1 F1 L1 => ∃ (ah : LH), eu = F1 ∧ L1 = ((b2, ce #[.int .i64 AK, .int .i64 AF] 29) :: ((b1, ce #[.int .i64 wide, .slice Af Ac.length Ae] 25) :: (ak ++ (ah ++ [])))) ∧ e1.sub [(2, .int .i64 n), (3, .pointer (some ⟨b1, 0, none⟩)), (4, .pointer (some ⟨b2, 0, none⟩)), (8, .int .i64 stand), (9, .int .i64 (Int.tmod (Int.tdiv n 3) k)), (11, .slice bo bp bq), (13, .slice ba bb bc)] ∧ AN K.w0.heap.size 3 1 (iE .i64) F1 ba bb bc HR ah) ?_ ?_
 ·clear cp
  obtain ⟨k4, cq, br⟩ := Aw ew
  refine jE (((b2, ce #[.int .i64 AK, .int .i64 AF] 29) :: ((b1, ce #[.int .i64 wide, .slice Af Ac.length Ae] 25) :: (ak ++ (bg ++ []))))) [(2, .int .i64 n), (3, .pointer (some ⟨b1, 0, none⟩)), (4, .pointer (some ⟨b2, 0, none⟩)), (7, .int .i64 k), (8, .int .i64 stand), (9, .int .i64 (Int.tmod (Int.tdiv n 3) k)), (11, .slice bo bp bq), (13, .slice ba bb bc), (88, .bool k4)] ?_ ?_
  ·clear br
   refine Ak (um ?_)
   refine uv ((AX underlying22 rfl).i (AN.HH aj)) (uv (Ex rfl rfl) (um ?_))
   by_cases au : 1 < (l4.length : Int)
   ·have ey := AO cq au
    refine nT au (um (nT au ?_))
    refine uv (EN rfl rfl (by decide)) (nT au (uv (Bv rfl rfl) (uv (Au (A5 rfl au) rfl) (Aa ?_))))
    obtain rfl := AH ey
    exact mi (kc (kc (kg (fS fP) kr))) ⟨rfl, rfl, (sc rfl z8)⟩
   have ez := AP cq au
   refine fF au (fF au (fF au ?_))
   refine uv (At (AZ rfl au) rfl) (Aa ?_)
   obtain rfl := AH ez
   exact mi (kc (kc (kg (fS fP) kr))) ⟨rfl, rfl, (sc rfl z8)⟩
  refine AU rfl (fun bu => ?_) (fun bu => ?_)
  ·have fa := bt br bu
   refine Ak (um (um ?_))
   refine uv ((AX underlying22 rfl).i (AN.HH aj)) ?_
   obtain ⟨fb, fe⟩ := AW fa
   refine uv (FD rfl rfl fb) ?_
   refine um (um ?_)
   obtain ⟨ff, fg⟩ := AW fe
   refine uv (EN rfl rfl ff) ?_
   obtain ⟨x3, bw, cr, fh⟩ := Bj fg
   obtain ⟨ku, kv, kz, iy, bm, iz, fi, rfl, j0, j4⟩ := AN.at (Ad _) aj (L := (b2, ce #[.int .i64 AK, .int .i64 AF] 29) :: ((b1, ce #[.int .i64 wide, .slice Af Ac.length Ae] 25) :: (ak ++ (bg ++ [])))) (fC (fC (fS fP))) bw.1 cr
   refine uv (AA underlying22 sizeOf3 rfl bm rfl (AN.idx aj bw)) ?_
   obtain ⟨l0, fj, fk⟩ := B8 fh
   refine Cv (u := Int.tmod n k) sizeOf3 (Ad _) rfl bm rfl rfl (fun _ => .c (.c (.s .h))) aj fj bw ?_; intro ct cu
   refine Aa ?_
   obtain rfl := AH fk
   exact mi kr ⟨ct, rfl, rfl, z7, cu⟩
  have fl := bf br bu
  refine Al ?_
  obtain rfl := AH fl
  exact mi kr ⟨bg, rfl, rfl, z7, aj⟩
 rintro e1 _ _ ⟨ah, rfl, rfl, cv, ax⟩
 refine Az _ cv (AM (uv (As isAgg25 sizeOf25 rfl (Has.own 1 rfl) (Be rfl) rfl) ?_))
 obtain ⟨l5, fm, fo⟩ := Aw cp
 refine c0 call54 (MM aa fm) ?_; rintro _ fp _ bh cw ⟨cx, cy, cz, bn, rfl, rfl, aw⟩
 replace aa := aa.mono (Ad _) bh
 replace az := az.mono (Ad _) bh
 replace ax := ax.mono (Ad _) bh
 replace aw := aw.new fun p hp => cw p (by simp [hp])
 refine AJ (lp (ln rfl)) (kO (kf (fS fO) (kf (fS fO) kr)) ?_)
 refine ua (Aa ?_)
 obtain ⟨fq, fs, da⟩ := Aw fo
 refine AQ (fun e1 F1 L1 => ∃ (bx : Option Addr) (bz : Nat) (ca : Nat) (aq : LH), fp = F1 ∧ L1 = ((b2, ce #[.int .i64 AK, .int .i64 AF] 29) :: ((b1, ce #[.int .i64 wide, .slice Af Ac.length Ae] 25) :: (ak ++ (ah ++ (aq ++ []))))) ∧ e1.sub [(2, .int .i64 n), (3, .pointer (some ⟨b1, 0, none⟩)), (4, .pointer (some ⟨b2, 0, none⟩)), (8, .int .i64 stand), (9, .int .i64 (Int.tmod (Int.tdiv n 3) k)), (11, .slice bo bp bq), (13, .slice ba bb bc), (15, .slice bx bz ca)] ∧ AN K.w0.heap.size 3 1 (iE .i64) F1 bx bz ca fq aq) ?_ ?_
 ·clear da
  obtain ⟨k5, db, cb⟩ := Aw fs
  refine jE (((b2, ce #[.int .i64 AK, .int .i64 AF] 29) :: ((b1, ce #[.int .i64 wide, .slice Af Ac.length Ae] 25) :: (ak ++ (ah ++ (bn ++ [])))))) [(2, .int .i64 n), (3, .pointer (some ⟨b1, 0, none⟩)), (4, .pointer (some ⟨b2, 0, none⟩)), (8, .int .i64 stand), (9, .int .i64 (Int.tmod (Int.tdiv n 3) k)), (11, .slice bo bp bq), (13, .slice ba bb bc), (15, .slice cx cy cz), (106, .bool k5)] ?_ ?_
  ·clear cb
   refine Ak (um ?_)
   refine uv ((AX underlying22 rfl).i (AN.HH aw)) (uv (Ex rfl rfl) (um ?_))
   by_cases av : 1 < (l5.length : Int)
   ·have ft := AO db av
    refine nT av (um (nT av ?_))
    refine uv (EN rfl rfl (by decide)) (nT av (uv (Bv rfl rfl) (uv (Au (A5 rfl av) rfl) (Aa ?_))))
    obtain rfl := AH ft
    exact mi (kc (kc (kg (fS fP) (kg (fS fP) kr)))) ⟨rfl, rfl, (sc rfl z8)⟩
   have fv := AP db av
   refine fF av (fF av (fF av ?_))
   refine uv (At (AZ rfl av) rfl) (Aa ?_)
   obtain rfl := AH fv
   exact mi (kc (kc (kg (fS fP) (kg (fS fP) kr)))) ⟨rfl, rfl, (sc rfl z8)⟩
  refine AU rfl (fun cc => ?_) (fun cc => ?_)
  ·have fw := bt cb cc
   refine Ak (um ?_)
   obtain ⟨fx, fy⟩ := AW fw
   obtain ⟨dd, ga, gb⟩ := B8 fy
   refine MY (l := 1) (h := (l5.length : Int)) (zs := dd) rfl Br (Ad _) rfl (.inr ⟨_, rfl, rfl⟩) (.inl ⟨rfl, rfl⟩) (fun _ => .c (.c (.s (.s .h)))) aw fx ga ?_; intro gg gh gi de gj
   refine ua (Aa ?_)
   obtain rfl := AH gb
   exact mi kr ⟨gg, gh, gi, de, rfl, rfl, z8, gj⟩
  have gk := bf cb cc
  refine Al ?_
  obtain rfl := AH gk
  exact mi kr ⟨cx, cy, cz, bn, rfl, rfl, z8, aw⟩
 rintro e1 _ _ ⟨bx, bz, ca, aq, rfl, rfl, df, ay⟩
 refine Az _ df (AM (uv (As isAgg25 sizeOf25 rfl (Has.own 1 rfl) (Be rfl) rfl) (uv (As isAgg29 sizeOf29 rfl (Has.own 0 rfl) (Be rfl) rfl) (um ?_))))
 obtain ⟨ok, gl, dg⟩ := Aw da
 refine cV call5 (Ek aa gl) (um ?_)
 rcases Bf ok with ab | ab
 ·have gm := bt dg ab
  refine nB ab (uv (As isAgg25 sizeOf25 rfl (Has.own 1 rfl) (Be rfl) rfl) (nB ab (uv (Am GX rfl) (nB ab (uv (Ao isAgg27 rfl (Has.own 0 rfl) rfl) ?_)))))
  refine nB ab (um (nB ab (um (nB ab (um (nB ab ?_))))))
  obtain ⟨la, gn, dh⟩ := Aw gm
  refine Bi (Lt := ak ++ []) (Lr := (b2, ce #[.int .i64 AK, .int .i64 AF] 29) :: ((b1, ce #[.int .i64 wide, .slice Af Ac.length Ae] 25) :: (ah ++ (aq ++ [])))) rfl call6 rfl rfl rfl (pT ((fC (fC fP)).trans (pA pR)) (lp (ln rfl))) (fun F2 h2 h3 => by rw [(AN.Bm az).1]; exact IS (aa.mono (Ad _) h2) (az.row (Ad _) h2 (fun p hp => h3 p (List.mem_append_left _ hp))) gn) ?_
  refine uv (Au (Es rfl ab) rfl) (um ?_)
  rcases Bf la with ad | ad
  ·have gp := bt dh ad
   refine nB ad (uv (As isAgg25 sizeOf25 rfl (Has.own 1 rfl) (Be rfl) rfl) (nB ad (uv (Am GX rfl) (nB ad (uv (Ao isAgg27 rfl (Has.own 0 rfl) rfl) ?_)))))
   refine nB ad (um (nB ad (um (nB ad (um (nB ad ?_))))))
   obtain ⟨lg, gq, di⟩ := Aw gp
   refine Bi (Lt := ah ++ []) (Lr := (b2, ce #[.int .i64 AK, .int .i64 AF] 29) :: ((b1, ce #[.int .i64 wide, .slice Af Ac.length Ae] 25) :: (ak ++ (aq ++ [])))) rfl call7 rfl rfl rfl (pT ((fC (fC (fS fP))).trans (pA pR)) (lp (ln rfl))) (fun F2 h2 h3 => by rw [(AN.Bm ax).1]; exact Ji (aa.mono (Ad _) h2) (ax.row (Ad _) h2 (fun p hp => h3 p (List.mem_append_left _ hp))) gq) ?_
   refine uv (Au (Es rfl ad) rfl) (um ?_)
   rcases Bf lg with af | af
   ·have gr := bt di af
    refine nB af (uv (As isAgg25 sizeOf25 rfl (Has.own 1 rfl) (Be rfl) rfl) (nB af (uv (As isAgg29 sizeOf29 rfl (Has.own 0 rfl) (Be rfl) rfl) ?_)))
    refine nB af (um (nB af (um (nB af ?_))))
    obtain ⟨lh, gu, dk⟩ := Aw gr
    refine cV call8 (E6 aa gu) (uv (Au (Es rfl af) rfl) (um ?_))
    rcases Bf lh with ai | ai
    ·have gv := bt dk ai
     refine nB ai (uv (As isAgg25 sizeOf25 rfl (Has.own 1 rfl) (Be rfl) rfl) (nB ai (uv (As isAgg29 sizeOf29 rfl (Has.own 0 rfl) (Be rfl) rfl) ?_)))
     refine nB ai (um (nB ai ?_))
     obtain ⟨lj, gw, dm⟩ := Aw gv
     refine Bi (Lt := aq ++ []) (Lr := (b2, ce #[.int .i64 AK, .int .i64 AF] 29) :: ((b1, ce #[.int .i64 wide, .slice Af Ac.length Ae] 25) :: (ak ++ (ah ++ [])))) rfl call9 rfl rfl rfl (pT ((fC (fC (fS (fS fP)))).trans (pA pR)) (lp (ln rfl))) (fun F2 h2 h3 => by rw [(AN.Bm ay).1]; exact GK (aa.mono (Ad _) h2) (ay.row (Ad _) h2 (fun p hp => h3 p (List.mem_append_left _ hp))) gw) ?_
     refine uv (Au (Es rfl ai) rfl) (um ?_)
     rcases Bf lj with ae | ae
     ·have gy := bt dm ae
      refine nB ae (uv (As isAgg25 sizeOf25 rfl (Has.own 1 rfl) (Be rfl) rfl) (nB ae (uv (As isAgg29 sizeOf29 rfl (Has.own 0 rfl) (Be rfl) rfl) ?_)))
      refine nB ae (um (nB ae (um (nB ae ?_))))
      refine uv (EN rfl rfl (by decide)) (nB ae ?_)
      obtain ⟨mb, gz, ia⟩ := Aw gy
      refine Bi (Lt := aq ++ []) (Lr := (b2, ce #[.int .i64 AK, .int .i64 AF] 29) :: ((b1, ce #[.int .i64 wide, .slice Af Ac.length Ae] 25) :: (ak ++ (ah ++ [])))) rfl call10 rfl rfl rfl (pT ((fC (fC (fS (fS fP)))).trans (pA pR)) (lp (ln rfl))) (fun F2 h2 h3 => by rw [(AN.Bm ay).1]; exact Hl (aa.mono (Ad _) h2) (ay.row (Ad _) h2 (fun p hp => h3 p (List.mem_append_left _ hp))) gz) ?_
      refine uv (Au (Es rfl ae) rfl) ?_
      refine ua (Aa ?_)
      refine kW kn (Ap (B2 results11 ?_))
      obtain rfl := AH ia
      exact rfl
     have ib := bf dm ae
     refine fB ae (fB ae (fB ae (fB ae (fB ae (fB ae ?_)))))
     refine uv (At (Es rfl ae) rfl) ?_
     refine ua (Aa ?_)
     refine kW kn (Ap (B2 results11 ?_))
     obtain rfl := AH ib
     exact rfl
    have ic := bf dk ai
    refine fB ai (fB ai (fB ai (fB ai ?_)))
    refine uv (At (Es rfl ai) rfl) ?_
    refine um (Ai (b' := false) 144 rfl rfl rfl rfl (Ai (b' := false) 144 rfl rfl rfl rfl (Ai (b' := false) 144 rfl rfl rfl rfl (Ai (b' := false) 144 rfl rfl rfl rfl (Ai (b' := false) 144 rfl rfl rfl rfl (Ai (b' := false) 144 rfl rfl rfl rfl ?_))))))
    refine uv (At rfl rfl) ?_
    refine ua (Aa ?_)
    refine kW kn (Ap (B2 results11 ?_))
    obtain rfl := AH ic
    exact rfl
   have ie := bf di af
   refine fB af (fB af (fB af (fB af (fB af ?_))))
   refine uv (At (Es rfl af) rfl) ?_
   refine um (Ai (b' := false) 138 rfl rfl rfl rfl (Ai (b' := false) 138 rfl rfl rfl rfl (Ai (b' := false) 138 rfl rfl rfl rfl (Ai (b' := false) 138 rfl rfl rfl rfl ?_))))
   refine uv (At rfl rfl) ?_
   refine um (Ai (b' := false) 144 rfl rfl rfl rfl (Ai (b' := false) 144 rfl rfl rfl rfl (Ai (b' := false) 144 rfl rfl rfl rfl (Ai (b' := false) 144 rfl rfl rfl rfl (Ai (b' := false) 144 rfl rfl rfl rfl (Ai (b' := false) 144 rfl rfl rfl rfl ?_))))))
   refine uv (At rfl rfl) ?_
   refine ua (Aa ?_)
   refine kW kn (Ap (B2 results11 ?_))
   obtain rfl := AH ie
   exact rfl
  have ig := bf dh ad
  refine fB ad (fB ad (fB ad (fB ad (fB ad (fB ad (fB ad ?_))))))
  refine uv (At (Es rfl ad) rfl) ?_
  refine um (Ai (b' := false) 131 rfl rfl rfl rfl (Ai (b' := false) 131 rfl rfl rfl rfl (Ai (b' := false) 131 rfl rfl rfl rfl (Ai (b' := false) 131 rfl rfl rfl rfl (Ai (b' := false) 131 rfl rfl rfl rfl ?_)))))
  refine uv (At rfl rfl) ?_
  refine um (Ai (b' := false) 138 rfl rfl rfl rfl (Ai (b' := false) 138 rfl rfl rfl rfl (Ai (b' := false) 138 rfl rfl rfl rfl (Ai (b' := false) 138 rfl rfl rfl rfl ?_))))
  refine uv (At rfl rfl) ?_
  refine um (Ai (b' := false) 144 rfl rfl rfl rfl (Ai (b' := false) 144 rfl rfl rfl rfl (Ai (b' := false) 144 rfl rfl rfl rfl (Ai (b' := false) 144 rfl rfl rfl rfl (Ai (b' := false) 144 rfl rfl rfl rfl (Ai (b' := false) 144 rfl rfl rfl rfl ?_))))))
  refine uv (At rfl rfl) ?_
  refine ua (Aa ?_)
  refine kW kn (Ap (B2 results11 ?_))
  obtain rfl := AH ig
  exact rfl
 have ij := bf dg ab
 refine fB ab (fB ab (fB ab (fB ab (fB ab (fB ab (fB ab ?_))))))
 refine uv (At (Es rfl ab) rfl) ?_
 refine um (Ai (b' := false) 122 rfl rfl rfl rfl (Ai (b' := false) 122 rfl rfl rfl rfl (Ai (b' := false) 122 rfl rfl rfl rfl (Ai (b' := false) 122 rfl rfl rfl rfl (Ai (b' := false) 122 rfl rfl rfl rfl (Ai (b' := false) 122 rfl rfl rfl rfl (Ai (b' := false) 122 rfl rfl rfl rfl ?_)))))))
 refine uv (At rfl rfl) ?_
 refine um (Ai (b' := false) 131 rfl rfl rfl rfl (Ai (b' := false) 131 rfl rfl rfl rfl (Ai (b' := false) 131 rfl rfl rfl rfl (Ai (b' := false) 131 rfl rfl rfl rfl (Ai (b' := false) 131 rfl rfl rfl rfl ?_)))))
 refine uv (At rfl rfl) ?_
 refine um (Ai (b' := false) 138 rfl rfl rfl rfl (Ai (b' := false) 138 rfl rfl rfl rfl (Ai (b' := false) 138 rfl rfl rfl rfl (Ai (b' := false) 138 rfl rfl rfl rfl ?_))))
 refine uv (At rfl rfl) ?_
 refine um (Ai (b' := false) 144 rfl rfl rfl rfl (Ai (b' := false) 144 rfl rfl rfl rfl (Ai (b' := false) 144 rfl rfl rfl rfl (Ai (b' := false) 144 rfl rfl rfl rfl (Ai (b' := false) 144 rfl rfl rfl rfl (Ai (b' := false) 144 rfl rfl rfl rfl ?_))))))
 refine uv (At rfl rfl) ?_
 refine ua (Aa ?_)
 refine kW kn (Ap (B2 results11 ?_))
 obtain rfl := AH ij
 exact rfl
end Go.Proofs.YtkfbbjiniapooaaGreat
