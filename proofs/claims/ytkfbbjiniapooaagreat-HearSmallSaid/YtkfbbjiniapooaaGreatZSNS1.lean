/- The walks that this claim needs, printed by a program of mine; part 1. -/
import Derived.Test.YtkfbbjiniapooaaGreatZSShX
import Derived.Test.YtkfbbjiniapooaaGreatZSShZ
import Derived.Test.YtkfbbjiniapooaaGreatZSTf
import Derived.Test.YtkfbbjiniapooaaGreatZSTd
namespace Go.Proofs.YtkfbbjiniapooaaGreat
open Go.SH Go.PL
open Tryz 
variable {Dk Dm Ur U8 QO Qt : Array Value} {BW : Bool} {F : FS} {Dl UP QI : FuncId} {down hi lo n p Cw Bb G1 stand AF wide AK : Int} {f so : Int → Option Bool} {count : Int → Option Int} {FB : LH} {Bl : List (List Bool)} {AI l Ac : List Int} {OR Cg A4 Mm Ae B9 DS Gq : Nat} {Ub : Nat × Nat} {Ce A3 Mq Af Cp : Option Addr}
set_option maxHeartbeats 1000000 in
theorem EC {aa : Option Addr} {ab : Nat} {rows : List (List Int)} (aq : AL 1 sE F aa ab rows) {r : Int} {r2 : List Int} (hr : Ee rows = some (r, r2)) :
    SH.Spec Tryz.prog 4 #[.slice aa rows.length ab] F [] fun F' L' v => ∃ (cj : Option Addr) (cn : Nat) (cp : Nat) (cq : LH), v = .agg #[.int .i64 r, .slice cj cn cp] ∧ L' = cq ++ [] ∧ AN 0 32 1 (iE .i64) F' cj cn cp r2 cq := by
 refine sp func4 ntmps4 fun K _ _ => ?_
 rw [Ee] at hr
 refine AM ?_
 refine A6 rfl zeroValue25 ?_; intro b1 ei
 refine BX ?_
 refine A6 rfl zeroValue25 ?_; intro b2 ej
 refine Aa ?_
 obtain ⟨ai, aj, h9, cr⟩ := Bs hr
 refine AQ (fun e1 F1 L1 => ∃ (a3 : Option Addr) (n7 : Nat) (c4 : Nat) (bk : LH), F = F1 ∧ L1 = ((b2, ce #[.int .i64 ai, .slice a3 n7 c4] 25) :: ((b1, ce #[.int .i64 0, .slice none 0 0] 25) :: (bk ++ []))) ∧ e1.sub [(2, .pointer (some ⟨b1, 0, none⟩)), (3, .pointer (some ⟨b2, 0, none⟩))] ∧ AN K.w0.heap.size 32 1 (iE .i64) F1 a3 n7 c4 aj bk) ?_ ?_
 ·clear cr
  refine AM (um ?_)
  refine uv (AX underlying41 rfl) ?_
  refine um (Aa ?_)
  refine Aq ?_
  refine A9 (fun ct e1 F1 L1 => LA rows ct fun tl k => ∃ (af : Int) (ad : List Int) (MS : Option Addr) (av : Nat) (Lv : Nat) (ak : LH), Fz tl af ad = some (ai, aj) ∧ F = F1 ∧ L1 = ((b2, ce #[.int .i64 af, .slice MS av Lv] 25) :: ((b1, ce #[.int .i64 0, .slice none 0 0] 25) :: (ak ++ []))) ∧ e1.sub [(2, .pointer (some ⟨b1, 0, none⟩)), (3, .pointer (some ⟨b2, 0, none⟩)), (9, .slice aa rows.length ab), (10, .int .i64 (rows.length : Int)), (11, .int .i64 k)] ∧ AN K.w0.heap.size 32 1 (iE .i64) F1 MS av Lv ad ak) _ (m0 (kc (kc (ke kr))) ⟨_, _, rfl, BO.start _, 0, [], none, 0, 0, [], h9, rfl, rfl, z5, AN.nil _ _ _ _ _⟩) ?_
  rintro ct e1 _ _ ⟨tl, k, bl, au, af, ad, MS, av, Lv, ak, bg, rfl, rfl, bm, ba⟩
  refine Az _ bm (AM (uv (A7 rfl rfl) ?_))
  refine Aa (Ar ?_)
  refine cQ (fun I1 => ?_) fun I1 => ?_
  ·obtain ⟨x, en, rfl, bn, cu, bo⟩ := BO.succ au I1
   rw [Fz] at bg
   refine Al ?_
   obtain ⟨ah, de, cv⟩ := Aw bg
   refine AQ (fun e1 F1 L1 => ∃ (bh : Option Addr) (Pv : Nat) (Mi : Nat) (ar : LH), F = F1 ∧ L1 = ((b2, ce #[.int .i64 (x.length : Int), .slice bh Pv Mi] 25) :: ((b1, ce #[.int .i64 0, .slice none 0 0] 25) :: (ar ++ []))) ∧ e1.sub [(2, .pointer (some ⟨b1, 0, none⟩)), (3, .pointer (some ⟨b2, 0, none⟩)), (9, .slice aa rows.length ab), (10, .int .i64 (rows.length : Int)), (11, .int .i64 k)] ∧ AN K.w0.heap.size 32 1 (iE .i64) F1 bh Pv Mi ah ar) ?_ ?_
   ·clear cv
    refine Aq (AM ?_)
    obtain ⟨eo, ep, er, df, bp, bq, cw, rfl, dg, br⟩ := AL.at Pn aq ((b2, ce #[.int .i64 af, .slice MS av Lv] 25) :: ((b1, ce #[.int .i64 0, .slice none 0 0] 25) :: (ak ++ []))) cu.1 bn
    refine uv (AA underlying41 sizeOf9 rfl bp rfl cu) (uv (Ao isAgg9 rfl bq (br 0 (by decide))) ?_)
    refine ua (BX (um ?_))
    refine uv (T6 underlying9 rfl) (uv (Am Hx rfl) (Bt (i := 0) sizeOf3 rfl rfl rfl rfl (Be rfl) (AJ rfl ?_)))
    refine BX (um ?_)
    refine Sd (s := x) rfl underlying9 rfl ?_; intro aw dh
    refine Aa (Aq ?_)
    refine A9 (fun bj e1 F1 L1 => ∃ (ae : List Int) (pos : Nat) (ax : Option Addr) (ay : Nat) (az : Nat) (ao : LH), Fj x bj ae pos = some ah ∧ F = F1 ∧ L1 = ((aw, .stringIter (sB x) pos) :: ((b2, ce #[.int .i64 (x.length : Int), .slice ax ay az] 25) :: ((b1, ce #[.int .i64 0, .slice none 0 0] 25) :: (ao ++ [])))) ∧ e1.sub [(2, .pointer (some ⟨b1, 0, none⟩)), (3, .pointer (some ⟨b2, 0, none⟩)), (9, .slice aa rows.length ab), (10, .int .i64 (rows.length : Int)), (11, .int .i64 k), (19, .pointer (some ⟨aw, 0, none⟩))] ∧ AN K.w0.heap.size 32 1 (iE .i64) F1 ax ay az ae ao) FU (m0 kr ⟨ad, 0, MS, av, Lv, ak, de, rfl, rfl, z6, ba⟩) ?_
    rintro bj e1 _ _ ⟨ae, pos, ax, ay, az, ao, bb, rfl, rfl, bu, bc⟩
    refine Az _ bu ?_
    rcases bj with _ | bj
    ·rw [Fj] at bb; cases bb
    rw [Fj] at bb
    refine AM ?_
    by_cases bw : pos < x.length
    ·have di := AO bb bw
     obtain ⟨c, et, bx, dk⟩ := Bj di
     obtain ⟨dm, dn⟩ := AW dk
     refine Tm (i := 0) (c := c) rfl rfl rfl (by simpa using bx) dm (AJ rfl ?_)
     refine ox rfl rfl rfl (Aa (Ar ?_))
     refine AU rfl (fun cx => ?_) (fun cx => nomatch cx)
     refine Al (Aq ?_)
     refine AM (ox rfl rfl rfl (ua (BX (ua (Aa ?_)))))
     obtain ⟨p, cy, cz⟩ := Aw dn
     refine jE (((aw, .stringIter (sB x) (pos + 1)) :: ((b2, ce #[.int .i64 (x.length : Int), .slice ax ay az] 25) :: ((b1, ce #[.int .i64 0, .slice none 0 0] 25) :: (ao ++ []))))) [(2, .pointer (some ⟨b1, 0, none⟩)), (3, .pointer (some ⟨b2, 0, none⟩)), (7, .int .i32 c), (8, .int .i64 p), (9, .slice aa rows.length ab), (10, .int .i64 (rows.length : Int)), (11, .int .i64 k), (19, .pointer (some ⟨aw, 0, none⟩))] ?_ ?_
     ·clear cz
      refine AM (um ?_)
      refine uv (Bv rfl rfl) (Aa ?_)
      refine cQ (fun bz => ?_) fun bz => ?_
      ·have dp := AO cy bz
       refine Ak (ua (Aa ?_))
       obtain rfl := AH dp
       exact mi kr ⟨rfl, rfl, z8⟩
      have dq := AP cy bz
      refine Al ?_
      obtain rfl := AH dq
      exact mi kr ⟨rfl, rfl, z8⟩
     obtain ⟨p2, da, db⟩ := Aw cz
     refine jE (((aw, .stringIter (sB x) (pos + 1)) :: ((b2, ce #[.int .i64 (x.length : Int), .slice ax ay az] 25) :: ((b1, ce #[.int .i64 0, .slice none 0 0] 25) :: (ao ++ []))))) [(2, .pointer (some ⟨b1, 0, none⟩)), (3, .pointer (some ⟨b2, 0, none⟩)), (8, .int .i64 p2), (9, .slice aa rows.length ab), (10, .int .i64 (rows.length : Int)), (11, .int .i64 k), (19, .pointer (some ⟨aw, 0, none⟩))] ?_ ?_
     ·clear db
      refine AM (um ?_)
      refine uv (Bv rfl rfl) (Aa ?_)
      refine cQ (fun ca => ?_) fun ca => ?_
      ·have dr := AO da ca
       refine Ak (ua (Aa ?_))
       obtain rfl := AH dr
       exact mi kr ⟨rfl, rfl, z7⟩
      have dt := AP da ca
      refine Al ?_
      obtain rfl := AH dt
      exact mi kr ⟨rfl, rfl, z7⟩
     refine Ak (uv (Am BN rfl) (uv (Ao isAgg23 rfl (Has.own 1 rfl) rfl) (um ?_)))
     refine bA (cs := #[.int .i64 p2]) FF [.int .i64 p2] ?_; intro eu du
     obtain ⟨t, dv, dw, dx⟩ := E9 db
     refine DB (xs := ae) (ys := [p2]) (zs := t) rfl FF rfl rfl (Nat.le_refl _) (fun _ => .c (.c (.c (.c .h)))) bc (GO.box (vss := [[.int .i64 p2]]) (ys := [p2]) 0 rfl (Ad _) (.cons rfl .nil) rfl rfl) dv dw (by decide) ?_; intro dy dz eb cb cc
     refine kO (kd kr) (uv (Am BN rfl) (Bt (i := 1) sizeOf23 rfl rfl rfl rfl (Be rfl) (AJ rfl ?_)))
     refine Aa (Av (id := 3) ?_)
     exact le kr ⟨t, pos + 1, dy, dz, eb, cb, dx, rfl, rfl, z6, cc⟩
    have eg := AP bb bw
    refine Sn (i := 0) (s := x) rfl rfl rfl bw ?_
    refine ox rfl rfl rfl (Aa (Ar ?_))
    refine AU rfl (fun dd => nomatch dd) (fun dd => ?_)
    refine AR (Aj (Aj ?_))
    refine Ay (Av (id := 1) ?_)
    obtain rfl := AH eg
    exact mi (kd kr) ⟨ax, ay, az, ao, rfl, rfl, z5, bc⟩
   rintro e1 _ _ ⟨bh, Pv, Mi, ar, rfl, rfl, cd, cf⟩
   refine Az _ cd (Ak (uv (A1 rfl rfl (BO.DZ au I1 (AL.lt aq))) ?_))
   refine um (Aa ?_)
   subst bl; exact le kr ⟨_, _, rfl, bo, (x.length : Int), ah, bh, Pv, Mi, ar, cv, rfl, rfl, z5, cf⟩
  obtain rfl := BO.zero au I1
  rw [Fz] at bg
  refine AR (Aj (Aj ?_))
  refine Ay ?_
  obtain ⟨rfl, rfl⟩ := BK bg
  exact mi kr ⟨MS, av, Lv, ak, rfl, rfl, z2, ba⟩
 rintro e1 _ _ ⟨a3, n7, c4, bk, rfl, rfl, cg, eh⟩
 refine Az _ cg (AM (uv (As isAgg25 sizeOf25 rfl (Has.own 0 rfl) (Be rfl) rfl) (Bg (i := 1) sizeOf25 rfl rfl rfl (by simp [Value.oneCell']) rfl (Be rfl) (AJ rfl (Aa (kW (kd kr) (Ap ?_)))))))
 refine O2 results4 (Fh (cs := #[.int .i64 ai, .slice a3 n7 c4]) isAgg25 sizeOf25 rfl (Has.own 0 rfl) (Be rfl) rfl) (s1 (s4 sr)) ?_
 obtain ⟨rfl, rfl⟩ := BK cr
 exact ⟨_, _, _, _, rfl, rfl, eh.any⟩
theorem G5 {r : Bool} (hr : GM n lo hi = some r) :
    Bz Tryz.prog 55 #[.int .i64 n, .int .i64 lo, .int .i64 hi] F (.bool r) := by
 refine sp func55 ntmps55 fun K _ _ => ?_
 rw [GM] at hr
 refine AM (ua (BX (um (um ?_))))
 refine uv (JI rfl rfl) (um ?_)
 by_cases c1 : lo ≤ n
 ·have r2 := AO hr c1
  refine nT c1 (um (nT c1 (um (nT c1 ?_))))
  refine uv (Kp rfl rfl) (uv (Au (A5 rfl c1) rfl) ?_)
  refine ua (Aa (Ap ?_))
  refine B2 results55 ?_
  obtain rfl := AH r2
  exact rfl
 have r3 := AP hr c1
 refine fF c1 (fF c1 (fF c1 ?_))
 refine uv (At (AZ rfl c1) rfl) ?_
 refine ua (Aa (Ap ?_))
 refine B2 results55 ?_
 obtain rfl := AH r3
 exact rfl
set_option maxHeartbeats 1000000 in
theorem Ho {s_ : List Int} (aa : AL 1 (iE .i64) F Cp B9 s_) (ai : Mp Tryz.prog F UP Ur U8 (iE .i64) Value.bool f) {r : Int} (hr : Cy s_ f = some r) :
    Bz Tryz.prog 117 #[.slice Cp s_.length B9, .func (.func UP) Ur U8] F (.int .i64 r) := by
 refine sp func117 ntmps117 fun K _ _ => ?_
 rw [Cy] at hr
 refine AM (ua (Aa ?_))
 refine AQ (fun e1 F1 L1 => C3 = some r ∧ F = F1 ∧ L1 = [] ∧ e1.sub []) ?_ ?_
 ·refine AM (um ?_)
  refine uv (AX underlying23 rfl) ?_
  refine um (Aa ?_)
  refine Aq ?_
  refine A9 (fun aj e1 F1 L1 => LA s_ aj fun tl k => Bn f tl k = some r ∧ F = F1 ∧ L1 = [] ∧ e1.sub [(0, .slice Cp s_.length B9), (1, .func (.func UP) Ur U8), (7, .int .i64 (s_.length : Int)), (8, .int .i64 k)]) _ (m0 kr ⟨_, _, rfl, BO.start _, hr, rfl, rfl, z4⟩) ?_
  rintro aj e1 _ _ ⟨tl, k, ar, ab, r3, rfl, rfl, au⟩
  refine Az _ au (AM (uv (A7 rfl rfl) ?_))
  refine Aa (Ar ?_)
  refine cQ (fun c6 => ?_) fun c6 => ?_
  ·obtain ⟨x, bc, rfl, av, g9, aw⟩ := BO.succ ab c6
   rw [Bn] at r3
   refine Al (Ar ?_)
   refine Aq ?_
   refine AM (um (ua (BX (um (um (um ?_))))))
   obtain ⟨LZ, bg, Lv, ax, ad, ae, ak, rfl, ay, af⟩ := AL.at (Ad _) aa ([]) g9.1 av
   refine uv (AA underlying23 sizeOf32 rfl ad rfl g9) (uv (Ao isAgg32 rfl ae (af 0 (by decide))) ?_)
   obtain ⟨ok, az, ao⟩ := Aw r3
   refine LY rfl ai.1 rfl rfl rfl (ai.2 _ (AY.refl _) _ _ _ rfl az) (Aa ?_)
   refine AU rfl (fun Jj => ?_) (fun Jj => ?_)
   ·have ba := bt ao Jj
    refine AM (um (ua (Aa (Ap (AB (Ah (Ah (AB (Ah ?_)))))))))
    refine B2 results117 ?_
    obtain rfl := AH ba
    exact rfl
   have bb := bf ao Jj
   refine Al (Av (id := 1) (Ak ?_))
   refine uv (A1 rfl rfl (BO.DZ ab c6 (AL.lt aa))) ?_
   refine um (Aa ?_)
   subst ar; exact le kr ⟨_, _, rfl, aw, bb, rfl, rfl, z4⟩
  obtain rfl := BO.zero ab c6
  rw [Bn] at r3
  refine AR (Aj (Aj ?_))
  refine Ay ?_
  exact mi kr ⟨r3, rfl, rfl, (sn _)⟩
 rintro e1 _ _ ⟨aq, rfl, rfl, ah⟩
 refine Az _ ah ?_
 rw [C3] at aq
 refine AM (ua (Aa (Ap ?_)))
 refine B2 results117 ?_
 obtain rfl := AH aq
 exact rfl
theorem GY {s_ : List Int} (aa : AL 1 (iE .i64) F Cp B9 s_) (ab : Mp Tryz.prog F UP Ur U8 (iE .i64) Value.bool f) {r : Bool} (hr : Cd s_ f = some r) :
    Bz Tryz.prog 98 #[.slice Cp s_.length B9, .func (.func UP) Ur U8] F (.bool r) := by
 refine sp func98 ntmps98 fun K _ _ => ?_
 rw [Cd] at hr
 refine AM (ua (BX (um (um ?_))))
 obtain ⟨n, h1, r2⟩ := Aw hr
 refine cV call117 (Ho aa ab h1) (uv (JI rfl rfl) ?_)
 refine ua (Aa (Ap ?_))
 refine B2 results98 ?_
 obtain rfl := AH r2
 exact rfl
theorem Mj {x : Int} {aa : Nat} {ab : Nat × Nat} (ad : F aa = some (.cells #[.func (.func QI) QO Qt] 92 ab)) (ae : Mp Tryz.prog F QI QO Qt (iE .i64) Value.bool so) {r : Bool} (hr : EI x so = some r) :
    Bz Tryz.prog 99 #[.int .i64 x, .pointer (some ⟨aa, 0, none⟩)] F (.bool r) := by
 refine sp func99 ntmps99 fun K _ _ => ?_
 rw [EI] at hr
 refine AM (ua (BX ?_))
 refine uv (Ao isAgg92 rfl (Has.frozen ad) rfl) (um ?_)
 obtain ⟨ok, h1, r2⟩ := Aw hr
 refine LY rfl ae.1 rfl rfl rfl (ae.2 _ (AY.refl _) _ _ _ rfl h1) (uv (Cf rfl) ?_)
 refine ua (Aa (Ap ?_))
 refine B2 results99 ?_
 obtain rfl := AH r2
 exact rfl
theorem MV (ab : AL 1 (iE .i64) F Mq Mm l) (aa : Mp Tryz.prog F QI QO Qt (iE .i64) Value.bool so) {r : Bool} (hr : G2 l so = some r) :
    Bz Tryz.prog 56 #[.slice Mq l.length Mm, .func (.func QI) QO Qt] F (.bool r) := by
 refine sp func56 ntmps56 fun K _ _ => ?_
 rw [G2] at hr
 refine AM ?_
 refine Bu rfl rfl ?_; intro b1 af
 refine ua (BX (um ?_))
 refine uv (He rfl rfl) ?_
 refine B1 0 rfl af ?_; intro F2 ad ah
 refine AJ rfl ?_
 replace ab := ab.mono (Ad _) ad
 replace aa := aa.mono ad
 have ai : Mp Tryz.prog F2 99 #[] #[.pointer (some ⟨b1, 0, none⟩)] (iE .i64) Value.bool (fun ae : Int => EI ae so) := ⟨call99, fun F2 h2 vs ae r ha hr => by obtain rfl := ha; exact Mj (h2 _ _ ah) (aa.mono h2) hr⟩
 obtain ⟨ok, h6, r7⟩ := Aw hr
 refine cV call98 (GY ab ai h6) (uv (Cf rfl) ?_)
 refine ua (Aa (Ap ?_))
 refine B2 results56 ?_
 obtain rfl := AH r7
 exact rfl
theorem Pl {r : Bool} (hr : IC p = some r) :
    Bz Tryz.prog 57 #[.int .i64 p] F (.bool r) := by
 refine sp func57 ntmps57 fun K _ _ => ?_
 rw [IC] at hr
 refine AM (ua (BX (um ?_)))
 obtain ⟨ok, h1, r2⟩ := Aw hr
 refine cV call55 (G5 h1) ?_
 refine ua (Aa (Ap ?_))
 refine B2 results57 ?_
 obtain rfl := AH r2
 exact rfl
set_option maxHeartbeats 1000000 in
theorem ME (aa : AL 1 (iE .i64) F Af Ae Ac) {r : Int} (hr : Gt wide Ac = some r) :
    Bz Tryz.prog 58 #[.agg #[.int .i64 wide, .slice Af Ac.length Ae]] F (.int .i64 r) := by
 refine sp func58 ntmps58 fun K _ _ => ?_
 rw [Gt] at hr
 refine AM ?_
 refine Bu rfl rfl ?_; intro b1 ba
 refine ua (BX (ua (Aa ?_)))
 obtain ⟨n, h2, r3⟩ := Aw hr
 refine jE ([]) [(3, .int .i64 n)] ?_ ?_
 ·clear r3
  refine AM (uv (Am BN rfl) (uv (Ao isAgg23 rfl (Has.own 0 rfl) rfl) (uv (AX underlying23 rfl) ?_)))
  refine um (Aa ?_)
  refine Aq (kW kn ?_)
  refine A9 (fun aj e1 F1 L1 => LA Ac aj fun tl k => ∃ (n2 : Int), Cz tl n2 = some n ∧ F = F1 ∧ L1 = [] ∧ e1.sub [(3, .int .i64 n2), (7, .slice Af Ac.length Ae), (8, .int .i64 (Ac.length : Int)), (9, .int .i64 k)]) _ (m0 kr ⟨_, _, rfl, BO.start _, 0, h2, rfl, rfl, z4⟩) ?_
  rintro aj e1 _ _ ⟨tl, k, ak, ad, n2, r6, rfl, rfl, ar⟩
  refine Az _ ar (AM (uv (A7 rfl rfl) ?_))
  refine Aa (Ar ?_)
  refine cQ (fun c9 => ?_) fun c9 => ?_
  ·obtain ⟨x, bb, rfl, ae, ao, ab⟩ := BO.succ ad c9
   rw [Cz] at r6
   refine Al (Ar ?_)
   refine Aq (AM ?_)
   obtain ⟨bc, bg, JH, au, af, ah, aq, rfl, av, ai⟩ := AL.at (Ad _) aa ([]) ao.1 ae
   refine uv (AA underlying23 sizeOf32 rfl af rfl ao) (uv (Ao isAgg32 rfl ah (ai 0 (by decide))) ?_)
   refine ua (BX (um ?_))
   refine uv (Bv rfl rfl) (Aa ?_)
   refine cQ (fun I1 => ?_) fun I1 => ?_
   ·have aw := AO r6 I1
    refine Ak (um ?_)
    obtain ⟨ax, ay⟩ := AW aw
    refine uv (A1 rfl rfl ax) ?_
    refine ua (Aa (Av (id := 1) (Ak ?_)))
    refine uv (A1 rfl rfl (BO.DZ ad c9 (AL.lt aa))) ?_
    refine um (Aa ?_)
    subst ak; exact le kr ⟨_, _, rfl, ab, n2 + 1, ay, rfl, rfl, z4⟩
   have az := AP r6 I1
   refine Al (Av (id := 1) (Ak ?_))
   refine uv (A1 rfl rfl (BO.DZ ad c9 (AL.lt aa))) ?_
   refine um (Aa ?_)
   subst ak; exact le kr ⟨_, _, rfl, ab, n2, az, rfl, rfl, z4⟩
  obtain rfl := BO.zero ad c9
  rw [Cz] at r6
  refine AR (Aj (Aj ?_))
  refine Ay ?_
  obtain rfl := AH r6
  exact mi kr ⟨rfl, rfl, z1⟩
 refine AM (um (ua (Aa (Ap ?_))))
 refine B2 results58 ?_
 obtain rfl := AH r3
 exact rfl
set_option maxHeartbeats 1000000 in
theorem EZ (aa : AL 1 (iE .i64) F Af Ae Ac) {r : Int} (hr : Ep wide Ac = some r) :
    Bz Tryz.prog 12 #[.agg #[.int .i64 wide, .slice Af Ac.length Ae]] F (.int .i64 r) := by
 refine sp func12 ntmps12 fun K _ _ => ?_
 rw [Ep] at hr
 refine AM ?_
 refine Bu rfl rfl ?_; intro b1 bb
 refine ua (Aa (Ar ?_))
 refine Aq ?_
 obtain ⟨k, h2, r3⟩ := Aw hr
 refine jE ([(b1, ce #[.int .i64 wide, .slice Af Ac.length Ae] 25)]) [(1, .pointer (some ⟨b1, 0, none⟩)), (3, .bool k)] ?_ ?_
 ·clear r3
  refine Ak (uv (Am Hx rfl) (uv (Ao isAgg3 rfl (Has.own 0 rfl) rfl) ?_))
  obtain ⟨ok, h4, r5⟩ := Aw h2
  refine cV call55 (G5 h4) (uv (Cf rfl) (um ?_))
  rcases Bf (!ok) with c6 | c6
  ·have r7 := bt r5 c6
   refine fB c6 (fB c6 (fB c6 (fB c6 (fB c6 ?_))))
   refine uv (Au (Es rfl c6) rfl) ?_
   refine um (Ai (b' := true) 15 rfl rfl rfl rfl (Ai (b' := true) 15 rfl rfl rfl rfl (Ai (b' := true) 15 rfl rfl rfl rfl (Ai (b' := true) 15 rfl rfl rfl rfl (Ai (b' := true) 15 rfl rfl rfl rfl (Ai (b' := true) 15 rfl rfl rfl rfl (Ai (b' := true) 15 rfl rfl rfl rfl ?_)))))))
   refine uv (Au rfl rfl) ?_
   refine ua (Aa ?_)
   obtain rfl := AH r7
   exact mi kr ⟨rfl, rfl, z2⟩
  have r8 := bf r5 c6
  refine nB c6 (uv (Am BN rfl) (nB c6 (uv (Ao isAgg23 rfl (Has.own 0 rfl) rfl) (nB c6 (uv (AX underlying23 rfl) (nB c6 ?_))))))
  obtain ⟨ai, h9, ad⟩ := Aw r8
  refine cV call55 (G5 h9) (nB c6 (uv (Cf rfl) (uv (At (Es rfl c6) rfl) (um ?_))))
  rcases Bf (!ai) with FE | FE
  ·have aj := bt ad FE
   refine fB FE (fB FE (fB FE (fB FE (fB FE (fB FE (fB FE ?_))))))
   refine uv (Au (Es rfl FE) rfl) ?_
   refine ua (Aa ?_)
   obtain rfl := AH aj
   exact mi kr ⟨rfl, rfl, z2⟩
  have ak := bf ad FE
  refine nB FE (uv (Am BN rfl) (nB FE (uv (Ao isAgg23 rfl (Has.own 0 rfl) rfl) (nB FE (uv (AX underlying23 rfl) (nB FE (uv (Am Hx rfl) ?_)))))))
  refine nB FE (uv (Ao isAgg3 rfl (Has.own 0 rfl) rfl) (nB FE ?_))
  obtain ⟨ao, aq⟩ := AW ak
  refine uv (EN rfl rfl ao) (nB FE (uv (Bo rfl rfl) (uv (At (Es rfl FE) rfl) ?_)))
  refine ua (Aa ?_)
  obtain rfl := AH aq
  exact mi kr ⟨rfl, rfl, z2⟩
 refine AU rfl (fun FG => ?_) (fun FG => ?_)
 ·have ar := bt r3 FG
  refine AM (ua (Aa ?_))
  refine kW kn ?_
  refine Ap (AB (Ah ?_))
  refine B2 results12 ?_
  obtain rfl := AH ar
  exact rfl
 have au := bf r3 FG
 refine AM (uv (Am BN rfl) (uv (Ao isAgg23 rfl (Has.own 0 rfl) rfl) ?_))
 have ab : Mp Tryz.prog F 57 #[] #[] (iE .i64) Value.bool (fun ae : Int => IC ae) := ⟨call57, fun F2 h2 vs ae r ha hr => by obtain rfl := ha; exact Pl hr⟩
 obtain ⟨bc, av, af⟩ := Aw au
 refine cV call56 (MV aa ab av) (uv (Cf rfl) ?_)
 refine ua (Aa ?_)
 refine AU rfl (fun I0 => ?_) (fun I0 => ?_)
 ·have aw := bt af I0
  refine AM (ua (Aa ?_))
  refine kW kn ?_
  refine Ap (AB (Ah ?_))
  refine B2 results12 ?_
  obtain rfl := AH aw
  exact rfl
 have ax := bf af I0
 refine AM (uv (As isAgg25 sizeOf25 rfl (Has.own 0 rfl) (Be rfl) rfl) ?_)
 obtain ⟨n, ay, ah⟩ := Aw ax
 refine cV call58 (ME aa ay) (uv (Ex rfl rfl) ?_)
 refine ua (Aa ?_)
 refine cQ (fun N3 => ?_) fun N3 => ?_
 ·have az := AO ah N3
  refine AM (ua (Aa ?_))
  refine kW kn ?_
  refine Ap (AB (Ah ?_))
  refine B2 results12 ?_
  obtain rfl := AH az
  exact rfl
 have ba := AP ah N3
 refine Al (Av (id := 0) (AM (ua (Aa ?_))))
 refine kW kn (Ap (B2 results12 ?_))
 obtain rfl := AH ba
 exact rfl
set_option maxHeartbeats 1000000 in
theorem K6 {PH : Option Addr} {PG : Nat} {s1 : List Int} {PE : Option Addr} {PM : Nat} {s2 : List Int} (aa : AL 1 (iE .i64) F PH PG s1) (ab : AL 1 (iE .i64) F PE PM s2) {r : Bool} (hr : FR s1 s2 = some r) :
    Bz Tryz.prog 63 #[.slice PH s1.length PG, .slice PE s2.length PM] F (.bool r) := by
 refine sp func63 ntmps63 fun K _ _ => ?_
 rw [FR] at hr
 refine AM (ua (Aa (Ar (AM (um ?_)))))
 refine uv (AX underlying22 rfl) (um (uv (AX underlying22 rfl) (uv (Bo rfl rfl) (Aa ?_))))
 refine cQ (fun c1 => ?_) fun c1 => ?_
 ·have r2 := AO hr c1
  refine AM (ua (Aa (Ap (Ah ?_))))
  refine B2 results63 ?_
  obtain rfl := AH r2
  exact rfl
 have r3 := AP hr c1
 refine Al ?_
 refine AQ (fun e1 F1 L1 => Gs = some r ∧ F = F1 ∧ L1 = [] ∧ e1.sub []) ?_ ?_
 ·refine AM (um ?_)
  refine uv (AX underlying22 rfl) ?_
  refine um (Aa ?_)
  refine Aq ?_
  refine A9 (fun aw e1 F1 L1 => LA s1 aw fun tl k => C4 s2 tl k = some r ∧ F = F1 ∧ L1 = [] ∧ e1.sub [(0, .slice PH s1.length PG), (1, .slice PE s2.length PM), (12, .int .i64 (s1.length : Int)), (13, .int .i64 k)]) _ (m0 kr ⟨_, _, rfl, BO.start _, r3, rfl, rfl, z4⟩) ?_
  rintro aw e1 _ _ ⟨tl, k, bg, ad, r6, rfl, rfl, bh⟩
  refine Az _ bh (AM (uv (A7 rfl rfl) ?_))
  refine Aa (Ar ?_)
  refine cQ (fun c9 => ?_) fun c9 => ?_
  ·obtain ⟨x, bp, rfl, ae, ax, af⟩ := BO.succ ad c9
   rw [C4] at r6
   refine Al (Ar ?_)
   refine Aq ?_
   refine AM (um (ua ?_))
   refine dN ?_
   refine wm (wm ?_)
   obtain ⟨bq, br, JH, bj, ah, ai, ay, rfl, bk, aj⟩ := AL.at (Ad _) aa ([]) ax.1 ae
   refine wv (AA underlying22 sizeOf3 rfl ah rfl ax) (wv (Ao isAgg3 rfl ai (aj 0 (by decide))) ?_)
   refine wm (wm ?_)
   obtain ⟨x2, az, ak, ba⟩ := Bj r6
   obtain ⟨bu, bw, Mi, bl, ao, aq, bb, rfl, bm, ar⟩ := AL.at (Ad _) ab ([]) az.1 ak
   refine wv (AA underlying22 sizeOf3 rfl ao rfl az) (wv (Ao isAgg3 rfl aq (ar 0 (by decide))) (wv (Bo rfl rfl) (BD ?_)))
   refine cQ (fun au => ?_) fun au => ?_
   ·have bn := AO ba au
    refine AM (ua (Aa (Ap (AB (Ah (Ah (AB (Ah ?_))))))))
    refine B2 results63 ?_
    obtain rfl := AH bn
    exact rfl
   have bo := AP ba au
   refine Al (Av (id := 1) (Ak ?_))
   refine uv (A1 rfl rfl (BO.DZ ad c9 (AL.lt aa))) ?_
   refine um (Aa ?_)
   subst bg; exact le kr ⟨_, _, rfl, af, bo, rfl, rfl, z4⟩
  obtain rfl := BO.zero ad c9
  rw [C4] at r6
  refine AR (Aj (Aj ?_))
  refine Ay ?_
  exact mi kr ⟨r6, rfl, rfl, (sn _)⟩
 rintro e1 _ _ ⟨bc, rfl, rfl, av⟩
 refine Az _ av ?_
 rw [Gs] at bc
 refine AM (ua (Aa (Ap ?_)))
 refine B2 results63 ?_
 obtain rfl := AH bc
 exact rfl
theorem Bq {Wg : Option Addr} {WV : Nat} {a : List Int} {Wu : Option Addr} {WS : Nat} {b : List Int} (aa : AL 1 (iE .i64) F Wg WV a) (ab : AL 1 (iE .i64) F Wu WS b) {r : Bool} (hr : Bk a b = some r) :
    Bz Tryz.prog 22 #[.slice Wg a.length WV, .slice Wu b.length WS] F (.bool r) := by
 refine sp func22 ntmps22 fun K _ _ => ?_
 rw [Bk] at hr
 refine AM (ua (BX (um (um ?_))))
 obtain ⟨ok, h1, r2⟩ := Aw hr
 refine cV call63 (K6 aa ab h1) ?_
 refine ua (Aa (Ap ?_))
 refine B2 results22 ?_
 obtain rfl := AH r2
 exact rfl
theorem IX (_h_plots : AL 1 (iE .i64) F Af Ae Ac) {r : Bool} (hr : Fk wide Ac p = some r) :
    Bz Tryz.prog 65 #[.agg #[.int .i64 wide, .slice Af Ac.length Ae], .int .i64 p] F (.bool r) := by
 refine sp func65 ntmps65 fun K _ _ => ?_
 rw [Fk] at hr
 refine AM ?_
 refine Bu rfl rfl ?_; intro b1 aa
 refine ua (BX (um ?_))
 refine uv (Am BN rfl) (uv (Ao isAgg23 rfl (Has.own 0 rfl) rfl) (uv (AX underlying23 rfl) ?_))
 obtain ⟨g2, r3⟩ := AW hr
 refine uv (FD rfl rfl g2) ?_
 obtain ⟨ok, h4, r5⟩ := Aw r3
 refine cV call55 (G5 h4) ?_
 refine ua (Aa ?_)
 refine kW kn (Ap (B2 results65 ?_))
 obtain rfl := AH r5
 exact rfl
theorem Fl {kind : Int} (aa : AL 1 (iE .i64) F Af Ae Ac) {r : Int} (hr : D9 wide Ac p kind = some r) :
    Bz Tryz.prog 62 #[.agg #[.int .i64 wide, .slice Af Ac.length Ae], .int .i64 p, .int .i64 kind] F (.int .i64 r) := by
 refine sp func62 ntmps62 fun K _ _ => ?_
 rw [D9] at hr
 refine AM ?_
 refine Bu rfl rfl ?_; intro b1 aq
 refine ua (Aa (Ar ?_))
 refine Aq (AM (uv (As isAgg25 sizeOf25 rfl (Has.own 0 rfl) (Be rfl) rfl) (um ?_)))
 obtain ⟨ok, h2, r3⟩ := Aw hr
 refine cV call65 (IX aa h2) (uv (Cf rfl) ?_)
 refine ua (Aa ?_)
 refine AU rfl (fun c4 => ?_) (fun c4 => ?_)
 ·have r5 := bt r3 c4
  refine AM (ua (Aa ?_))
  refine kW kn ?_
  refine Ap (AB (Ah ?_))
  refine B2 results62 ?_
  obtain rfl := AH r5
  exact rfl
 have r6 := bf r3 c4
 refine AM (uv (Am BN rfl) (uv (Ao isAgg23 rfl (Has.own 0 rfl) rfl) (um ?_)))
 obtain ⟨x, g7, ah, r9⟩ := Bj r6
 obtain ⟨LZ, ar, Lv, ai, ab, ad, af, rfl, aj, ae⟩ := AL.at (Ad _) aa ([(b1, ce #[.int .i64 wide, .slice Af Ac.length Ae] 25)]) g7.1 ah
 refine uv (AA underlying23 sizeOf32 rfl ab rfl g7) (uv (Ao isAgg32 rfl ad (ae 0 (by decide))) (um (uv (Bo rfl rfl) ?_)))
 refine ua (Aa ?_)
 refine cQ (fun J5 => ?_) fun J5 => ?_
 ·have ak := AO r9 J5
  refine AM (ua (Aa ?_))
  refine kW kn ?_
  refine Ap (AB (Ah ?_))
  refine B2 results62 ?_
  obtain rfl := AH ak
  exact rfl
 have ao := AP r9 J5
 refine Al (Av (id := 0) (AM (ua (Aa ?_))))
 refine kW kn (Ap (B2 results62 ?_))
 obtain rfl := AH ao
 exact rfl
theorem KI {w : Int} {r : Bool} (hr : Gm w = some r) :
    Bz Tryz.prog 61 #[.int .i64 w] F (.bool r) := by
 refine sp func61 ntmps61 fun K _ _ => ?_
 rw [Gm] at hr
 refine AM (ua (BX (um ?_)))
 obtain ⟨ok, h1, r2⟩ := Aw hr
 refine cV call55 (G5 h1) ?_
 refine ua (Aa (Ap ?_))
 refine B2 results61 ?_
 obtain rfl := AH r2
 exact rfl
theorem QV {r : List (Int × (Int × Int))} (hr : MC = some r) :
    SH.Spec Tryz.prog 103 #[] F [] fun _ L' v => ∃ (rb : Nat) (res : Array MapEntry) (aj : Nat), v = .map (some rb) ∧ L' = [(rb, .map res aj)] ∧ Hh (Value.int .i64) (vA (cP (cI .i64) (cI .i64))) res r := by
 refine sp func103 ntmps103 fun K _ _ => ?_
 rw [MC] at hr
 refine AM (ua (BX ?_))
 refine Qa rfl ?_; intro b1 bc
 refine uv (Bc (v := .agg #[.int .i64 (-1), .int .i64 0]) rfl (by intro w; kernel_rfl)) ?_
 refine Nw (i := 0) (k := 1) (v := (-1, 0)) underlying143 (KJ underlying27) rfl rfl rfl rfl (show Hh (Value.int .i64) (vA (cP (cI .i64) (cI .i64))) #[] ([] : List (Int × (Int × Int))) from Hh.nil) ?_; intro ak bg ah
 obtain ⟨met, h5, r6⟩ := B8 hr
 rw [← h5] at ah
 refine AJ rfl ?_
 refine uv (Bc (v := .agg #[.int .i64 0, .int .i64 1]) rfl (by intro w; kernel_rfl)) ?_
 refine Nw (i := 0) (k := 2) (v := (0, 1)) underlying143 (KJ underlying27) rfl rfl rfl rfl (show Hh (Value.int .i64) (vA (cP (cI .i64) (cI .i64))) ak (met : List (Int × (Int × Int))) from ah) ?_; intro ao bh ai
 obtain ⟨ad, aq, ar⟩ := B8 r6
 rw [← aq] at ai
 refine AJ rfl ?_
 refine uv (Bc (v := .agg #[.int .i64 1, .int .i64 0]) rfl (by intro w; kernel_rfl)) ?_
 refine Nw (i := 0) (k := 3) (v := (1, 0)) underlying143 (KJ underlying27) rfl rfl rfl rfl (show Hh (Value.int .i64) (vA (cP (cI .i64) (cI .i64))) ao (ad : List (Int × (Int × Int))) from ai) ?_; intro ae au aa
 obtain ⟨af, av, aw⟩ := B8 ar
 rw [← av] at aa
 refine AJ rfl ?_
 refine uv (Bc (v := .agg #[.int .i64 0, .int .i64 (-1)]) rfl (by intro w; kernel_rfl)) ?_
 refine Nw (i := 0) (k := 4) (v := (0, -1)) underlying143 (KJ underlying27) rfl rfl rfl rfl (show Hh (Value.int .i64) (vA (cP (cI .i64) (cI .i64))) ae (af : List (Int × (Int × Int))) from aa) ?_; intro ax ay ab
 obtain ⟨az, ba, bb⟩ := B8 aw
 rw [← ba] at ab
 refine AJ rfl ?_
 refine um (ua (Aa (Ap ?_)))
 refine B2 results103 ?_
 obtain rfl := AH bb
 exact ⟨_, _, _, rfl, rfl, ab⟩
set_option maxHeartbeats 1000000 in
theorem I7 (aa : AL 1 (iE .i64) F Af Ae Ac) {r : Option (Int × (List Int) × Int × Int × Bool)} {r2 : Int} (hr : GD wide Ac AK = some (r, r2)) :
    SH.Spec Tryz.prog 73 #[.agg #[.int .i64 wide, .slice Af Ac.length Ae], .int .i64 AK] F [] fun F' L' v => ∃ (rv : Value), v = .tuple #[rv, .int .i64 r2] ∧ L' = [] ∧ Oj 138 (MR (iE .i64) (MR (Ol 1 (iE .i64)) (MR (iE .i64) (MR (iE .i64) bE)))) F' rv r := by
 refine sp func73 ntmps73 fun K _ _ => ?_
 rw [GD] at hr
 refine AM ?_
 refine Bu rfl rfl ?_; intro b1 ax
 refine ua (ua (Aa (Ar (AM ?_))))
 refine uv (As isAgg25 sizeOf25 rfl (Has.own 0 rfl) (Be rfl) rfl) ?_
 obtain ⟨n, h2, r3⟩ := Aw hr
 refine cV call12 (EZ aa h2) ?_
 refine ua (BX (um ?_))
 refine uv (Bo rfl rfl) (Aa ?_)
 refine cQ (fun c4 => ?_) fun c4 => ?_
 ·have r5 := AO r3 c4
  refine AM (um (ua (ua (Aa ?_))))
  refine kW kn ?_
  refine Ap (Ah ?_)
  refine Ba results73 (AG rfl) (AG rfl) (sr) ?_
  obtain ⟨rfl, rfl⟩ := BK r5
  exact ⟨_, rfl, rfl, rfl⟩
 have r6 := AP r3 c4
 refine Al (Ar (AM (um ?_)))
 obtain ⟨ok, h7, r8⟩ := Aw r6
 refine cV call61 (KI h7) (uv (Cf rfl) (Aa ?_))
 refine AU rfl (fun c9 => ?_) (fun c9 => ?_)
 ·have ak := bt r8 c9
  refine AM (ua (ua (Aa ?_)))
  refine kW kn ?_
  refine Ap (Ah ?_)
  refine Ba results73 (AG rfl) (AG rfl) (sr) ?_
  obtain ⟨rfl, rfl⟩ := BK ak
  exact ⟨_, rfl, rfl, rfl⟩
 have ao := bf r8 c9
 refine Al (AM ?_)
 obtain ⟨m, aq, ar⟩ := Aw ao
 refine c0 call103 (QV aq) ?_; rintro _ ay _ ad au ⟨W2, ab, ae, rfl, rfl, af⟩
 replace aa := aa.mono (Ad _) ad
 refine AJ (lb (ln rfl)) (um (uv (FC.eq (v' := .tuple #[.agg #[.int .i64 (((Gi m AK).getD (0, 0)).1), .int .i64 (((Gi m AK).getD (0, 0)).2)], .bool ((Gi m AK).isSome)]) (Q5 (k := AK) (z0 := (0, 0)) rfl underlying143 (KJ underlying27) zeroValue136 rfl rfl (PI.own 0 rfl) (show Hh (Value.int .i64) (vA (cP (cI .i64) (cI .i64))) ab (m : List (Int × (Int × Int))) from af)) rfl) ?_))
 refine um (ox rfl rfl rfl (ox rfl rfl rfl ?_))
 refine A6 rfl zeroValue136 ?_; intro av aw
 refine Bg (i := 0) sizeOf136 rfl rfl rfl (by simp [Value.oneCell']) rfl (Be rfl) (AJ rfl ?_)
 refine ua (BX ?_)
 refine uv (As isAgg25 sizeOf25 rfl (Has.own 2 rfl) (Be rfl) rfl) (uv (As isAgg136 sizeOf136 rfl (Has.own 0 rfl) (Be rfl) rfl) (um ?_))
 refine uv (Bc (v := .agg #[.int .i64 wide, .slice Af Ac.length Ae, .int .i64 (((Gi m AK).getD (0, 0)).1), .int .i64 (((Gi m AK).getD (0, 0)).2), .bool ((Gi m AK).isSome)]) rfl (by intro w; kernel_rfl)) ?_
 refine Bu rfl rfl ?_; intro az ah
 refine ua (ua (Aa ?_))
 refine GI 0 rfl ah ?_; intro ba ai aj
 refine IB (L' := [(av, ce #[.int .i64 (((Gi m AK).getD (0, 0)).1), .int .i64 (((Gi m AK).getD (0, 0)).2)] 136), (W2, .map ab ae), (b1, ce #[.int .i64 wide, .slice Af Ac.length Ae] 25)]) rfl ?_
 replace aa := aa.mono (Ad _) ai
 refine kW kn (Ap (Ba results73 (AG rfl) (AG rfl) (sr) ?_))
 obtain ⟨rfl, rfl⟩ := BK ar
 exact ⟨_, rfl, rfl, ⟨_, _, _, rfl, aj, ⟨_, _, rfl, rfl, ⟨_, _, rfl, ⟨_, _, rfl, aa⟩, ⟨_, _, rfl, rfl, ⟨_, _, rfl, rfl, rfl⟩⟩⟩⟩⟩⟩
theorem Lh (aa : AL 1 (iE .i64) F Af Ae Ac) {r : Option (Int × (List Int) × Int × Int × Bool)} {r2 : Int} (hr : I6 wide Ac AK stand = some (r, r2)) :
    SH.Spec Tryz.prog 66 #[.agg #[.int .i64 wide, .slice Af Ac.length Ae], .int .i64 AK, .int .i64 stand] F [] fun F' L' v => ∃ (rv : Value), v = .tuple #[rv, .int .i64 r2] ∧ L' = [] ∧ Oj 138 (MR (iE .i64) (MR (Ol 1 (iE .i64)) (MR (iE .i64) (MR (iE .i64) bE)))) F' rv r := by
 refine sp func66 ntmps66 fun K _ _ => ?_
 rw [I6] at hr
 refine AM ?_
 refine Bu rfl rfl ?_; intro b1 ao
 refine ua (ua (BX ?_))
 refine uv (As isAgg25 sizeOf25 rfl (Has.own 0 rfl) (Be rfl) rfl) (um ?_)
 obtain ⟨d, n, h2, r3⟩ := Bs hr
 refine c0 call73 (I7 aa h2) ?_; rintro _ F4 _ ad aq ⟨v8, rfl, rfl, ae⟩
 replace aa := aa.mono (Ad _) ad
 refine AJ (ln rfl) ?_
 refine um (ox rfl rfl rfl (ox rfl rfl rfl (ua (ua (Aa (Ar (AM (um ?_))))))))
 refine uv (Bo rfl rfl) (Aa ?_)
 refine cQ (fun H4 => ?_) fun H4 => ?_
 ·have af := AO r3 H4
  refine AM (um (ua (ua (Aa ?_))))
  refine kW kn ?_
  refine Ap (Ah ?_)
  refine Ba results66 (AG rfl) (AG rfl) (sr) ?_
  obtain ⟨rfl, rfl⟩ := BK af
  exact ⟨_, rfl, rfl, rfl⟩
 have ah := AP r3 H4
 refine Al (Ar (AM ?_))
 refine uv (As isAgg25 sizeOf25 rfl (Has.own 0 rfl) (Be rfl) rfl) (um ?_)
 obtain ⟨n2, ai, ab⟩ := Aw ah
 refine cV call62 (Fl aa ai) ?_
 refine ua (BX (um ?_))
 refine uv (Bo rfl rfl) (Aa ?_)
 refine cQ (fun JH => ?_) fun JH => ?_
 ·have aj := AO ab JH
  refine AM (um (ua (ua (Aa ?_))))
  refine kW kn ?_
  refine Ap (Ah ?_)
  refine Ba results66 (AG rfl) (AG rfl) (sr) ?_
  obtain ⟨rfl, rfl⟩ := BK aj
  exact ⟨_, rfl, rfl, rfl⟩
 have ak := AP ab JH
 refine Al (AM (um (ua (ua (Aa ?_)))))
 refine kW kn (Ap (Ba results66 (AG rfl) (AG rfl) (sr) ?_))
 obtain ⟨rfl, rfl⟩ := BK ak
 exact ⟨_, rfl, rfl, ae⟩
theorem KQ (aa : AL 1 (iE .i64) F Af Ae Ac) {r : Bool} (hr : EA wide Ac p = some r) :
    Bz Tryz.prog 71 #[.agg #[.int .i64 wide, .slice Af Ac.length Ae], .int .i64 p] F (.bool r) := by
 refine sp func71 ntmps71 fun K _ _ => ?_
 rw [EA] at hr
 refine AM ?_
 refine Bu rfl rfl ?_; intro b1 aj
 refine ua (BX ?_)
 refine uv (Am BN rfl) (uv (Ao isAgg23 rfl (Has.own 0 rfl) rfl) (um ?_))
 obtain ⟨x, g2, af, r4⟩ := Bj hr
 obtain ⟨b5, o6, c7, ak, ah, ab, ae, rfl, ai, ad⟩ := AL.at (Ad _) aa ([(b1, ce #[.int .i64 wide, .slice Af Ac.length Ae] 25)]) g2.1 af
 refine uv (AA underlying23 sizeOf32 rfl ah rfl g2) (uv (Ao isAgg32 rfl ab (ad 0 (by decide))) (uv (Bv rfl rfl) ?_))
 refine ua (Aa ?_)
 refine kW kn (Ap (B2 results71 ?_))
 obtain rfl := AH r4
 exact rfl
theorem NQ {r r2 : Int} (hr : Iw down Bb = some (r, r2)) :
    Bz Tryz.prog 118 #[.agg #[.int .i64 down, .int .i64 Bb]] F (.agg #[.int .i64 r, .int .i64 r2]) := by
 refine sp func118 ntmps118 fun K _ _ => ?_
 rw [Iw] at hr
 refine AM ?_
 refine Bu rfl rfl ?_; intro b1 aa
 refine A6 rfl zeroValue136 ?_; intro b2 ab
 refine BX (uv (Am Ph rfl) (uv (Ao isAgg3 rfl (Has.own 1 rfl) rfl) ?_))
 obtain ⟨g3, r4⟩ := AW hr
 refine uv (QZ rfl g3) (uv (Am RV rfl) (uv (Ao isAgg3 rfl (Has.own 1 rfl) rfl) ?_))
 obtain ⟨g5, r6⟩ := AW r4
 refine uv (QZ rfl g5) ?_
 refine uv (Bc (v := .agg #[.int .i64 (-down), .int .i64 (-Bb)]) rfl (by intro w; kernel_rfl)) ?_
 refine Bg (i := 0) sizeOf136 rfl rfl rfl (by simp [Value.oneCell']) rfl (Be rfl) (AJ rfl (Aa (kW (kc kn) (Ap (O2 results118 (Fh (cs := #[.int .i64 (-down), .int .i64 (-Bb)]) isAgg136 sizeOf136 rfl (Has.own 0 rfl) (Be rfl) rfl) (s1 sr) ?_)))))
 obtain ⟨rfl, rfl⟩ := BK r6
 exact rfl
set_option maxHeartbeats 1000000 in
theorem J4 {ae aa to : Int} (ab : F OR = some (.cells #[.int .i64 wide, .slice Af Ac.length Ae, .int .i64 down, .int .i64 Bb, .bool BW] 138 Ub)) (ad : AL 1 (iE .i64) F Af Ae Ac) {r : Int} (hr : FI wide Ac down Bb BW ae aa to = some r) :
    Bz Tryz.prog 102 #[.pointer (some ⟨OR, 0, none⟩), .agg #[.int .i64 ae, .int .i64 aa], .int .i64 to] F (.int .i64 r) := by
 refine sp func102 ntmps102 fun K _ _ => ?_
 rw [FI] at hr
 refine AM ?_
 refine Bu rfl rfl ?_; intro b1 bg
 refine ua (BX (ua (Aa ?_)))
 obtain ⟨n, h2, r3⟩ := Aw hr
 refine jE ([]) [(0, .pointer (some ⟨OR, 0, none⟩)), (2, .int .i64 to), (7, .int .i64 n)] ?_ ?_
 ·clear r3
  refine Aq ?_
  refine AM (um ?_)
  refine uv (BU rfl) (uv (Am U0 rfl) (uv (Ao isAgg4 rfl (Has.frozen ab) rfl) (uv (Cf rfl) ?_)))
  refine ua (Aa ?_)
  refine AU rfl (fun c4 => ?_) (fun c4 => ?_)
  ·have r5 := bt h2 c4
   refine Al (Av (id := 0) ?_)
   obtain rfl := AH r5
   exact mi kn ⟨rfl, rfl, z3⟩
  have r6 := bf h2 c4
  refine dW (wv (As isAgg136 sizeOf136 rfl (Has.own 0 rfl) (Be rfl) rfl) (wm (wv (BU rfl) (wv (Am RJ rfl) (wv (As isAgg136 sizeOf136 rfl (Has.frozen ab) (Be rfl) rfl) (wv (Ri (Tc _ _ _ _) (U4 _ _ _ _) rfl rfl) ?_))))))
  refine wa (BD ?_)
  refine cQ (fun c7 => ?_) fun c7 => ?_
  ·have r8 := AO r6 c7
   refine Ak (ua (Aa (Av (id := 0) ?_)))
   obtain rfl := AH r8
   exact mi kn ⟨rfl, rfl, z3⟩
  have r9 := AP r6 c7
  refine dW (wv (As isAgg136 sizeOf136 rfl (Has.own 0 rfl) (Be rfl) rfl) (wm (wv (BU rfl) (wv (Am RJ rfl) (wv (As isAgg136 sizeOf136 rfl (Has.frozen ab) (Be rfl) rfl) ?_)))))
  obtain ⟨n2, n3, au, ak⟩ := Bs r9
  refine Dx rfl call118 rfl rfl rfl (NQ au) (wv (Ri (Tc _ _ _ _) (U4 _ _ _ _) rfl rfl) ?_)
  refine wa (BD ?_)
  refine cQ (fun Lv => ?_) fun Lv => ?_
  ·have av := AO ak Lv
   refine Ak (ua (Aa (Av (id := 0) ?_)))
   obtain rfl := AH av
   exact mi kn ⟨rfl, rfl, z3⟩
  have aw := AP ak Lv
  refine Al (Av (id := 0) ?_)
  obtain rfl := AH aw
  exact mi kn ⟨rfl, rfl, z3⟩
 refine Ar (AM (um ?_))
 refine uv (BU rfl) (uv (Am HS rfl) (uv (Am BN rfl) (uv (Ao isAgg23 rfl (Has.frozen ab) rfl) (um ?_))))
 obtain ⟨x, ao, af, aq⟩ := Bj r3
 obtain ⟨bh, bj, Jj, ax, ah, ai, ar, rfl, ay, aj⟩ := AL.at (Ad _) ad ([]) ao.1 af
 refine uv (AA underlying23 sizeOf32 rfl ah rfl ao) (uv (Ao isAgg32 rfl ai (aj 0 (by decide))) (uv (Bv rfl rfl) (Aa ?_)))
 refine cQ (fun N3 => ?_) fun N3 => ?_
 ·have az := AO aq N3
  refine Ak (um ?_)
  obtain ⟨ba, bb⟩ := AW az
  refine uv (A1 rfl rfl ba) ?_
  refine ua (BX (um (ua (Aa (Ap ?_)))))
  refine B2 results102 ?_
  obtain rfl := AH bb
  exact rfl
 have bc := AP aq N3
 refine Al (AM (um (ua (Aa (Ap ?_)))))
 refine B2 results102 ?_
 obtain rfl := AH bc
 exact rfl
set_option maxHeartbeats 1000000 in
theorem Mv {cg : Nat} {cp : Nat × Nat} {bq : Nat} {br : Nat × Nat} {ai : Nat} {ao : FuncId} {aq ar : Array Value} {closed : Int → Option Bool} {ay : Nat × Nat} (au : F cg = some (.cells #[.int .i64 p] 3 cp)) (ak : F OR = some (.cells #[.pointer (some ⟨bq, 0, none⟩)] 98 Ub)) (af : F bq = some (.cells #[.int .i64 wide, .slice Af Ac.length Ae, .int .i64 down, .int .i64 Bb, .bool BW] 138 br)) (ad : AL 1 (iE .i64) F Af Ae Ac) (ab : F ai = some (.cells #[.func (.func ao) aq ar] 97 ay)) (aa : Mp Tryz.prog F ao aq ar (iE .i64) Value.bool closed) {xs : List (Int × Int)} (hr : Hy p wide Ac down Bb BW closed = some xs) :
    IZ Tryz.prog 101 #[] #[.pointer (some ⟨cg, 0, none⟩), .pointer (some ⟨OR, 0, none⟩), .pointer (some ⟨ai, 0, none⟩)] F (fun x : Int × Int => #[.int .i64 x.1, .int .i64 x.2]) xs := by
 intro G0 bo yv J Jx dx dy hy Fc L0 hG cq
 replace au := (bo.trans hG) _ _ au
 replace ak := (bo.trans hG) _ _ ak
 replace af := (bo.trans hG) _ _ af
 replace ad := ad.mono (Ad _) (bo.trans hG)
 replace ab := (bo.trans hG) _ _ ab
 replace aa := aa.mono (bo.trans hG)
 have bk : xs = [] ++ xs := rfl
 show SH.Spec Tryz.prog 101 #[yv, .pointer (some ⟨cg, 0, none⟩), .pointer (some ⟨OR, 0, none⟩), .pointer (some ⟨ai, 0, none⟩)] Fc L0 _
 refine sp func101 ntmps101 fun K _ _ => ?_
 rw [Hy] at hr; refine IB (L' := L0 ++ []) (by simp) ?_
 refine AM ?_
 refine uv (Bc (v := .agg #[.int .i64 (-1), .int .i64 0]) rfl (by intro w; kernel_rfl)) ?_
 refine uv (Bc (v := .agg #[.int .i64 0, .int .i64 (-1)]) rfl (by intro w; kernel_rfl)) ?_
 refine uv (Bc (v := .agg #[.int .i64 0, .int .i64 1]) rfl (by intro w; kernel_rfl)) ?_
 refine uv (Bc (v := .agg #[.int .i64 1, .int .i64 0]) rfl (by intro w; kernel_rfl)) ?_
 refine bA (cs := #[.int .i64 (-1), .int .i64 0, .int .i64 0, .int .i64 (-1), .int .i64 0, .int .i64 1, .int .i64 1, .int .i64 0]) VH [.agg #[.int .i64 (-1), .int .i64 0], .agg #[.int .i64 0, .int .i64 (-1)], .agg #[.int .i64 0, .int .i64 1], .agg #[.int .i64 1, .int .i64 0]] ?_; intro b1 dz
 refine uv (AX underlying140 rfl) ?_
 refine um (Aa ?_)
 refine Aq ?_
 refine GI 0 rfl dz ?_; intro F2 bh eb
 refine IB (L' := L0 ++ []) rfl ?_
 replace ad := ad.mono (Ad _) bh
 replace aa := aa.mono bh
 replace au := bh _ _ au
 replace af := bh _ _ af
 replace ak := bh _ _ ak
 replace ab := bh _ _ ab
 replace hG := hG.trans bh
 replace cq := dx _ _ _ _ cq bh
 have h5 : AL 2 (MR (iE .i64) (iE .i64)) F2 (some ⟨b1, 0, none⟩) 4 [(-1, 0), (0, -1), (0, 1), (1, 0)] := AL.BS (GS (Ad _) (Ad _)) (vss := [[.int .i64 (-1), .int .i64 0], [.int .i64 0, .int .i64 (-1)], [.int .i64 0, .int .i64 1], [.int .i64 1, .int .i64 0]]) (xs := [(-1, 0), (0, -1), (0, 1), (1, 0)]) eb (.cons ⟨_, _, rfl, rfl, rfl⟩ (.cons ⟨_, _, rfl, rfl, rfl⟩ (.cons ⟨_, _, rfl, rfl, rfl⟩ (.cons ⟨_, _, rfl, rfl, rfl⟩ .nil)))) rfl (by simp [maxLen])
 obtain ⟨bp, eg⟩ := AW hr
 refine A9 (fun cj e1 F1 L1 => ∃ (k : Int), DD 0 4 k cj ∧ ∃ (pre6 : List (Int × Int)) (ax : List (Int × Int)) (bb : LH), BM p wide Ac down Bb BW closed cj k = some ax ∧ AY F2 F1 ∧ L1 = (bb ++ []) ∧ e1.sub [(0, yv), (1, .pointer (some ⟨cg, 0, none⟩)), (2, .pointer (some ⟨OR, 0, none⟩)), (3, .pointer (some ⟨ai, 0, none⟩)), (12, .slice (some ⟨b1, 0, none⟩) [(-1, 0), (0, -1), (0, 1), (1, 0)].length 4), (13, .int .i64 4), (14, .int .i64 k)] ∧ xs = pre6 ++ ax ∧ J pre6 F1 bb ∧ AY G0 F1) _ (m0 kr ⟨_, DD.start _ _, [], xs, L0, eg, AY.refl _, rfl, z7, bk, cq, hG⟩) ?_
 rintro cj e1 ga _ ⟨k, av, pre6, ax, bb, cn, aj, rfl, cr, ae, bl, hG⟩
 refine Az _ cr ?_
 replace ad := ad.mono (Ad _) aj
 replace h5 := h5.mono (GS (Ad _) (Ad _)) aj
 replace aa := aa.mono aj
 replace au := aj _ _ au
 replace af := aj _ _ af
 replace ak := aj _ _ ak
 replace ab := aj _ _ ab
 refine AM (uv (A7 rfl rfl) ?_)
 refine Aa (Ar ?_)
 refine cQ (fun QY => ?_) fun QY => ?_
 ·obtain ⟨cj, rfl, az⟩ := DD.succ av QY
  rw [BM] at cn
  refine Al (Ar ?_)
  refine Aq (AM ?_)
  obtain ⟨x, dm, ct, eh⟩ := Bj cn
  obtain ⟨gb, gg, Mi, ei, cu, cv, bj, ⟨_, _, rfl, rfl, rfl⟩, cw, cx⟩ := AL.at (GS (Ad _) (Ad _)) h5 (bb ++ []) dm.1 ct
  refine uv (AA underlying140 sizeOf136 rfl cu rfl dm) (uv (As isAgg136 sizeOf136 rfl cv bj (CK bj cw cx)) ?_)
  refine A6 rfl zeroValue136 ?_; intro dn ej
  refine Bg (i := 0) sizeOf136 rfl rfl rfl (by simp [Value.oneCell']) rfl (Be rfl) (AJ rfl (dN (wv (Ao isAgg3 rfl (Has.frozen au) rfl) (wv (Am Ph rfl) (wv (Ao isAgg3 rfl (Has.own 0 rfl) rfl) (wv (Ao isAgg98 rfl (Has.frozen ak) rfl) (wv (BU rfl) ?_)))))))
  refine wv (Am HS rfl) (wv (Am Hx rfl) (wv (Ao isAgg3 rfl (Has.frozen af) rfl) ?_))
  obtain ⟨en, eo⟩ := AW eh
  refine wv (PT rfl rfl en) ?_
  obtain ⟨ep, er⟩ := AW eo
  refine wv (A1 rfl rfl ep) (wv (Am RV rfl) (wv (Ao isAgg3 rfl (Has.own 0 rfl) rfl) ?_))
  obtain ⟨et, eu⟩ := AW er
  refine wv (A1 rfl rfl et) ?_
  refine wa (BD (Ar ?_))
  refine dW (wv (Ao isAgg98 rfl (Has.frozen ak) rfl) (wv (BU rfl) (wv (Am HS rfl) (wv (As isAgg25 sizeOf25 rfl (Has.frozen af) (Be rfl) rfl) (wm ?_)))))
  obtain ⟨ok, ew, dp⟩ := Aw eu
  refine Dx rfl call65 rfl rfl rfl (IX ad ew) (wv (Cf rfl) (wm ?_))
  rcases Bf (!ok) with aw | aw
  ·have ey := bt dp aw
   refine AE (b' := true) 38 rfl (Er rfl aw) rfl rfl (AE (b' := true) 38 rfl (Er rfl aw) rfl rfl (AE (b' := true) 38 rfl (Er rfl aw) rfl rfl (AE (b' := true) 38 rfl (Er rfl aw) rfl rfl (BH 42 rfl rfl rfl (BH 42 rfl rfl rfl (BH 42 rfl rfl rfl (BH 42 rfl rfl rfl (BH 42 rfl rfl rfl (BH 42 rfl rfl rfl ?_)))))))))
   refine BH 42 rfl rfl rfl (BH 42 rfl rfl rfl (BH 42 rfl rfl rfl (BH 42 rfl rfl rfl (BH 42 rfl rfl rfl (BH 42 rfl rfl rfl (BH 42 rfl rfl rfl (BH 42 rfl rfl rfl (BH 42 rfl rfl rfl (AE (b' := true) 38 rfl (Er rfl aw) rfl rfl ?_)))))))))
   refine wv (Au (Es rfl aw) rfl) ?_
   refine wm (AE (b' := true) 60 rfl rfl rfl rfl (AE (b' := true) 60 rfl rfl rfl rfl (AE (b' := true) 60 rfl rfl rfl rfl ?_)))
   refine wv (Au rfl rfl) (BD ?_)
   refine AU rfl (fun dq => ?_) (fun dq => nomatch dq)
   refine AR (Aj ?_)
   refine Ay (Ak (uv (A1 rfl rfl (DD.DZ av QY bp)) ?_))
   refine um (Aa ?_)
   exact le (kd kr) ⟨_, az, pre6, ax, bb, ey, aj, rfl, z7, ae, bl, hG⟩
  have dr := bf dp aw
  refine AS (b := false) 38 rfl (Er rfl aw) (wv (Am Ph rfl) (AS (b := false) 38 rfl (Er rfl aw) (wv (Ao isAgg3 rfl (Has.own 0 rfl) rfl) (AS (b := false) 38 rfl (Er rfl aw) (wv (Bv rfl rfl) ?_)))))
  refine AS (b := false) 38 rfl (Er rfl aw) (wm ?_)
  by_cases ah : x.1 = 0
  ·have ez := AO dr ah
   refine AS (b := true) 42 rfl (Env.DX rfl ah) (wm (AS (b := true) 42 rfl (Env.DX rfl ah) ?_))
   refine wv (Ao isAgg98 rfl (Has.frozen ak) rfl) (AS (b := true) 42 rfl (Env.DX rfl ah) (wv (BU rfl) (AS (b := true) 42 rfl (Env.DX rfl ah) (wv (Am HS rfl) (AS (b := true) 42 rfl (Env.DX rfl ah) (wv (Am Hx rfl) (AS (b := true) 42 rfl (Env.DX rfl ah) ?_)))))))
   refine wv (Ao isAgg3 rfl (Has.frozen af) rfl) (AS (b := true) 42 rfl (Env.DX rfl ah) ?_)
   obtain ⟨fa, fb⟩ := AW ez
   refine wv (K8 rfl rfl fa) (AS (b := true) 42 rfl (Env.DX rfl ah) (wv (Ao isAgg3 rfl (Has.frozen au) rfl) (AS (b := true) 42 rfl (Env.DX rfl ah) (wv (Ao isAgg98 rfl (Has.frozen ak) rfl) (AS (b := true) 42 rfl (Env.DX rfl ah) (wv (BU rfl) (AS (b := true) 42 rfl (Env.DX rfl ah) ?_)))))))
   refine wv (Am HS rfl) (AS (b := true) 42 rfl (Env.DX rfl ah) (wv (Am Hx rfl) (AS (b := true) 42 rfl (Env.DX rfl ah) (wv (Ao isAgg3 rfl (Has.frozen af) rfl) (AS (b := true) 42 rfl (Env.DX rfl ah) ?_)))))
   obtain ⟨fe, dt⟩ := AW fb
   refine wv (K8 rfl rfl fe) (AS (b := true) 42 rfl (Env.DX rfl ah) (wv (Bo rfl rfl) (AS (b := false) 38 rfl (Er rfl aw) (wv (Au (A5 rfl ah) rfl) (wv (At (Es rfl aw) rfl) (wm ?_))))))
   by_cases bc : (Int.tdiv ((p + (x.1 * wide)) + x.2) wide) ≠ (Int.tdiv p wide)
   ·have ff := AO dt bc
    refine AE (b' := true) 60 rfl (Env.DX rfl bc) rfl rfl (AE (b' := true) 60 rfl (Env.DX rfl bc) rfl rfl (AE (b' := true) 60 rfl (Env.DX rfl bc) rfl rfl ?_))
    refine wv (Au (A5 rfl bc) rfl) (BD ?_)
    refine AU rfl (fun du => ?_) (fun du => nomatch du)
    refine AR (Aj ?_)
    refine Ay (Ak (uv (A1 rfl rfl (DD.DZ av QY bp)) ?_))
    refine um (Aa ?_)
    exact le (kd kr) ⟨_, az, pre6, ax, bb, ff, aj, rfl, z7, ae, bl, hG⟩
   have fg := AP dt bc
   refine AS (b := false) 60 rfl (Env.DY rfl bc) (wv (Ao isAgg97 rfl (Has.frozen ab) rfl) ?_)
   refine AS (b := false) 60 rfl (Env.DY rfl bc) (wm (AS (b := false) 60 rfl (Env.DY rfl bc) ?_))
   obtain ⟨gh, fh, dv⟩ := Aw fg
   refine Dx rfl aa.1 rfl rfl rfl (aa.2 _ (AY.refl _) _ _ _ rfl fh) (wv (At (AZ rfl bc) rfl) (BD ?_))
   refine AU rfl (fun cy => ?_) (fun cy => ?_)
   ·have fi := bt dv cy
    refine AR (Aj ?_)
    refine Ay (Ak (uv (A1 rfl rfl (DD.DZ av QY bp)) ?_))
    refine um (Aa ?_)
    exact le (kd kr) ⟨_, az, pre6, ax, bb, fi, aj, rfl, z7, ae, bl, hG⟩
   have fj := bf dv cy
   refine Al (AM (um (um ?_)))
   refine uv (Ao isAgg98 rfl (Has.frozen ak) rfl) (uv (As isAgg136 sizeOf136 rfl (Has.own 0 rfl) (Be rfl) rfl) (um ?_))
   obtain ⟨n, fk, fl⟩ := Aw fj
   refine cV call102 (J4 af ad fk) ?_
   obtain ⟨bm, fm, bu⟩ := Uc fl
   refine Qx (Lb := bb) (Lr := [(dn, ce #[.int .i64 x.1, .int .i64 x.2] 136)]) (vs := [.int .i64 ((p + (x.1 * wide)) + x.2), .int .i64 n]) rfl rfl rfl (fC fP) (hy pre6 ((p + (x.1 * wide)) + x.2, n) bm (by rw [ae, bu]) _ _ hG bl) ?_
   rintro gi gj cz bw da; obtain ⟨fo, rfl, bx, bz⟩ := MH da
   replace hG := hG.trans bw
   refine kO (kf (fS fO) kr) (uv (Cf rfl) (Aa ?_))
   refine AU rfl (fun db => ?_) (fun db => ?_)
   ·have dd := bz (by simpa using db)
    refine Ap (AB (Ah (Ah (AB ?_))))
    refine Ma (.inl rfl) results101 (s1 (s4 sr)) ?_
    exact .inr (by rw [List.append_nil]; exact dd)
   have de := bx (by simpa using db)
   have bg : xs = (pre6 ++ [((p + (x.1 * wide)) + x.2, n)]) ++ bm := by rw [ae, bu]; simp
   refine Al (Av (id := 1) (Ak ?_))
   refine uv (A1 rfl rfl (DD.DZ av QY bp)) ?_
   refine um (Aa ?_)
   exact le (kd kr) ⟨_, az, pre6 ++ [((p + (x.1 * wide)) + x.2, n)], bm, cz, fm, (aj.trans bw), rfl, z7, bg, de, hG⟩
  have fp := AP dr ah
  refine AE (b' := false) 42 rfl (Env.DY rfl ah) rfl rfl (AE (b' := false) 42 rfl (Env.DY rfl ah) rfl rfl (AE (b' := false) 42 rfl (Env.DY rfl ah) rfl rfl (AE (b' := false) 42 rfl (Env.DY rfl ah) rfl rfl (AE (b' := false) 42 rfl (Env.DY rfl ah) rfl rfl (AE (b' := false) 42 rfl (Env.DY rfl ah) rfl rfl (AE (b' := false) 42 rfl (Env.DY rfl ah) rfl rfl (AE (b' := false) 42 rfl (Env.DY rfl ah) rfl rfl (AE (b' := false) 42 rfl (Env.DY rfl ah) rfl rfl (AE (b' := false) 42 rfl (Env.DY rfl ah) rfl rfl ?_)))))))))
  refine AE (b' := false) 42 rfl (Env.DY rfl ah) rfl rfl (AE (b' := false) 42 rfl (Env.DY rfl ah) rfl rfl (AE (b' := false) 42 rfl (Env.DY rfl ah) rfl rfl (AE (b' := false) 42 rfl (Env.DY rfl ah) rfl rfl (AE (b' := false) 42 rfl (Env.DY rfl ah) rfl rfl (AS (b := false) 38 rfl (Er rfl aw) ?_)))))
  refine wv (At (AZ rfl ah) rfl) (wv (At (Es rfl aw) rfl) ?_)
  refine wm (AS (b := false) 60 rfl rfl ?_)
  refine wv (Ao isAgg97 rfl (Has.frozen ab) rfl) ?_
  refine AS (b := false) 60 rfl rfl (wm (AS (b := false) 60 rfl rfl ?_))
  obtain ⟨gk, fq, dw⟩ := Aw fp
  refine Dx rfl aa.1 rfl rfl rfl (aa.2 _ (AY.refl _) _ _ _ rfl fq) (wv (At rfl rfl) (BD ?_))
  refine AU rfl (fun df => ?_) (fun df => ?_)
  ·have fs := bt dw df
   refine AR (Aj ?_)
   refine Ay (Ak (uv (A1 rfl rfl (DD.DZ av QY bp)) ?_))
   refine um (Aa ?_)
   exact le (kd kr) ⟨_, az, pre6, ax, bb, fs, aj, rfl, z7, ae, bl, hG⟩
  have ft := bf dw df
  refine Al (AM (um (um ?_)))
  refine uv (Ao isAgg98 rfl (Has.frozen ak) rfl) (uv (As isAgg136 sizeOf136 rfl (Has.own 0 rfl) (Be rfl) rfl) (um ?_))
  obtain ⟨n2, fv, fw⟩ := Aw ft
  refine cV call102 (J4 af ad fv) ?_
  obtain ⟨bn, fx, ca⟩ := Uc fw
  refine Qx (Lb := bb) (Lr := [(dn, ce #[.int .i64 x.1, .int .i64 x.2] 136)]) (vs := [.int .i64 ((p + (x.1 * wide)) + x.2), .int .i64 n2]) rfl rfl rfl (fC fP) (hy pre6 ((p + (x.1 * wide)) + x.2, n2) bn (by rw [ae, ca]) _ _ hG bl) ?_
  rintro gl gm dg cb dh; obtain ⟨fy, rfl, cc, cd⟩ := MH dh
  replace hG := hG.trans cb
  refine kO (kf (fS fO) kr) (uv (Cf rfl) (Aa ?_))
  refine AU rfl (fun di => ?_) (fun di => ?_)
  ·have dk := cd (by simpa using di)
   refine Ap (AB (Ah (Ah (AB ?_))))
   refine Ma (.inl rfl) results101 (s1 (s4 sr)) ?_
   exact .inr (by rw [List.append_nil]; exact dk)
  have cf := cc (by simpa using di)
  have ba : xs = (pre6 ++ [((p + (x.1 * wide)) + x.2, n2)]) ++ bn := by rw [ae, ca]; simp
  refine Al (Av (id := 1) (Ak ?_))
  refine uv (A1 rfl rfl (DD.DZ av QY bp)) ?_
  refine um (Aa ?_)
  exact le (kd kr) ⟨_, az, pre6 ++ [((p + (x.1 * wide)) + x.2, n2)], bn, dg, fx, (aj.trans cb), rfl, z7, ba, cf, hG⟩
 obtain rfl := DD.zero av QY
 rw [BM] at cn
 refine AR (Aj (Aj ?_))
 refine Ay (Ma (.inr rfl) results101 (sr) ?_)
 obtain rfl := AH cn
 exact .inl (by have e1 := ae; rw [List.append_nil] at e1; rw [List.append_nil, e1]; exact bl)
set_option maxHeartbeats 1000000 in
theorem HC (ab : F OR = some (.cells #[.int .i64 wide, .slice Af Ac.length Ae, .int .i64 down, .int .i64 Bb, .bool BW] 138 Ub)) (aa : AL 1 (iE .i64) F Af Ae Ac) {r : List (Int × Int)} (hr : Ew wide Ac down Bb BW p = some r) :
    SH.Spec Tryz.prog 70 #[.pointer (some ⟨OR, 0, none⟩), .int .i64 p] F [] fun F' L' v => ∃ (ao : Array Value), v = .func (.func 101) #[] ao ∧ L' = [] ∧ IZ Tryz.prog 101 #[] ao F' (fun x : Int × Int => #[.int .i64 x.1, .int .i64 x.2]) r := by
 refine sp func70 ntmps70 fun K _ _ => ?_
 rw [Ew] at hr
 refine AM ?_
 refine Bu rfl rfl ?_; intro b1 av
 refine Bu rfl rfl ?_; intro b2 aw
 refine ua (BX ?_)
 refine uv (Ao isAgg98 rfl (Has.own 1 rfl) rfl) (uv (BU rfl) (uv (Am HS rfl) (uv (As isAgg25 sizeOf25 rfl (Has.frozen ab) (Be rfl) rfl) (uv (He rfl rfl) ?_))))
 refine A6 rfl zeroValue97 ?_; intro b3 ax
 refine Bt (i := 0) sizeOf97 rfl rfl rfl rfl (Be rfl) (AJ rfl (BX (uv (He rfl rfl) ?_)))
 refine ua (Aa ?_)
 refine GI 1 rfl aw ?_; intro F4 aq ae
 refine IB (L' := [(b3, ce (#[.func (.func 71) #[.agg #[.int .i64 wide, .slice Af Ac.length Ae]] #[]]) 97), (b1, ce #[.pointer (some ⟨OR, 0, none⟩)] 98)]) rfl ?_
 replace aa := aa.mono (Ad _) aq
 replace ab := aq _ _ ab
 refine GI 1 rfl av ?_; intro F7 ah ai
 refine IB (L' := [(b3, ce (#[.func (.func 71) #[.agg #[.int .i64 wide, .slice Af Ac.length Ae]] #[]]) 97)]) rfl ?_
 replace aa := aa.mono (Ad _) ah
 replace ab := ah _ _ ab
 replace ae := ah _ _ ae
 refine GI 0 rfl ax ?_; intro ar ad aj
 refine IB (L' := []) rfl ?_
 replace aa := aa.mono (Ad _) ad
 replace ab := ad _ _ ab
 replace ae := ad _ _ ae
 replace ai := ad _ _ ai
 have ak : Mp Tryz.prog ar 71 #[.agg #[.int .i64 wide, .slice Af Ac.length Ae]] #[] (iE .i64) Value.bool (fun au : Int => EA wide Ac au) := ⟨call71, fun F2 h2 vs au r ha hr => by obtain rfl := ha; exact KQ (aa.mono (Ad _) h2) hr⟩
 obtain ⟨l, ay, az⟩ := Aw hr
 have af : IZ Tryz.prog 101 #[] #[.pointer (some ⟨b2, 0, none⟩), .pointer (some ⟨b1, 0, none⟩), .pointer (some ⟨b3, 0, none⟩)] ar (fun x : Int × Int => #[.int .i64 x.1, .int .i64 x.2]) l := Mv ae ai ab aa aj ak ay
 refine Ap (B2 results70 ?_)
 obtain rfl := AH az
 exact ⟨_, rfl, rfl, af⟩
set_option maxHeartbeats 1000000 in
theorem IV (ba : F OR = some (.cells #[.int .i64 wide, .slice Af Ac.length Ae, .int .i64 down, .int .i64 Bb, .bool BW] 138 Ub)) (ao : AL 1 (iE .i64) F Af Ae Ac) {r : List Int} (hr : Fi wide Ac down Bb BW stand = some r) :
    SH.Spec Tryz.prog 67 #[.pointer (some ⟨OR, 0, none⟩), .int .i64 stand] F [] fun F' L' v => ∃ (ra : Option Addr) (rn : Nat) (rc : Nat) (rL : LH), v = .slice ra rn rc ∧ L' = rL ++ [] ∧ AN 0 3 1 (iE .i64) F' ra rn rc r rL := by
 refine sp func67 ntmps67 fun K _ _ => ?_
 rw [Fi] at hr
 refine AM (ua (BX (um ?_)))
 refine uv (BU rfl) (uv (Am HS rfl) (uv (Am BN rfl) (uv (Ao isAgg23 rfl (Has.frozen ba) rfl) (uv (AX underlying23 rfl) ?_))))
 obtain ⟨g1, r2⟩ := AW hr
 obtain ⟨l, h3, r4⟩ := B8 r2
 refine Ld (R := (iE .i64)) (z0 := 0) (zs := l) rfl Br (by decide) (Ad _) (fun _ => rfl) rfl g1 h3 (fun _ => .n) ?_; intro a5 n8 jv iw
 refine A6 rfl zeroValue22 ?_; intro LZ jw
 refine Bt (i := 0) sizeOf22 rfl rfl rfl rfl (Be rfl) (AJ rfl (Aa ?_))
 obtain ⟨out, jx, iy⟩ := Aw r4
 refine AQ (fun e1 F1 L1 => ∃ (bb : LH), F = F1 ∧ L1 = ((LZ, ce #[.slice a5 n8 n8] 22) :: (bb ++ [])) ∧ e1.sub [(0, .pointer (some ⟨OR, 0, none⟩)), (1, .int .i64 stand), (5, .pointer (some ⟨LZ, 0, none⟩))] ∧ AN K.w0.heap.size 3 1 (iE .i64) F1 a5 n8 n8 out bb) ?_ ?_
 ·clear iy
  refine AM (uv (Ao isAgg22 rfl (Has.own 0 rfl) rfl) (uv ((AX underlying22 rfl).i (AN.HH iw)) ?_))
  refine um (Aa ?_)
  refine Aq ?_
  obtain ⟨jz, kb⟩ := AW jx
  refine A9 (fun ep e1 F1 L1 => ∃ (k : Int), DD 0 (l.length : Int) k ep ∧ ∃ (bw : List Int) (ax : LH), Dv ep k bw = some out ∧ F = F1 ∧ L1 = ((LZ, ce #[.slice a5 n8 n8] 22) :: (ax ++ [])) ∧ e1.sub [(0, .pointer (some ⟨OR, 0, none⟩)), (1, .int .i64 stand), (5, .pointer (some ⟨LZ, 0, none⟩)), (19, .int .i64 (l.length : Int)), (20, .int .i64 k)] ∧ AN K.w0.heap.size 3 1 (iE .i64) F1 a5 n8 n8 bw ax) _ (m0 kr ⟨_, DD.start _ _, l, jv, kb, rfl, rfl, z5, iw⟩) ?_
  rintro ep e1 _ _ ⟨k, bx, bw, ax, er, rfl, rfl, ez, bc⟩
  refine Az _ ez (AM (uv (A7 rfl rfl) ?_))
  refine Aa (Ar ?_)
  refine cQ (fun VL => ?_) fun VL => ?_
  ·obtain ⟨ep, rfl, fa⟩ := DD.succ bx VL
   rw [Dv] at er
   refine Al (Ar ?_)
   refine Aq ?_
   refine AM (um (ua (Aa (Ak ?_))))
   refine uv (Ao isAgg22 rfl (Has.own 0 rfl) rfl) (um ?_)
   obtain ⟨x, fb, fe, kh⟩ := Bj er
   obtain ⟨ng, nh, ni, kj, cv, kl, iz, rfl, km, ko⟩ := AN.at (Ad _) bc (L := (LZ, ce #[.slice a5 n8 n8] 22) :: (ax ++ [])) (fC fP) fb.1 fe
   refine uv (AA underlying22 sizeOf3 rfl cv rfl (AN.idx bc fb)) ?_
   obtain ⟨ff, kt, ku⟩ := B8 kh
   refine Cv (u := -1) sizeOf3 (Ad _) rfl cv rfl rfl (fun _ => .c .h) bc kt fb ?_; intro fg fh
   refine Aa (Av (id := 1) (Ak ?_))
   refine uv (A1 rfl rfl (DD.DZ bx VL jz)) ?_
   refine um (Aa ?_)
   exact le kr ⟨_, fa, ff, fg, ku, rfl, rfl, z5, fh⟩
  obtain rfl := DD.zero bx VL
  rw [Dv] at er
  refine AR (Aj (Aj ?_))
  refine Ay ?_
  obtain rfl := AH er
  exact mi kr ⟨ax, rfl, rfl, z3, bc⟩
 rintro e1 _ _ ⟨bb, rfl, rfl, fi, bz⟩
 refine Az _ fi (AM (uv (Ao isAgg22 rfl (Has.own 0 rfl) rfl) (um ?_)))
 obtain ⟨x2, fj, fk, kv⟩ := Bj iy
 obtain ⟨nj, nk, nn, kz, cw, l0, j0, rfl, la, lg⟩ := AN.at (Ad _) bz (L := (LZ, ce #[.slice a5 n8 n8] 22) :: (bb ++ [])) (fC fP) fj.1 fk
 refine uv (AA underlying22 sizeOf3 rfl cw rfl (AN.idx bz fj)) ?_
 obtain ⟨fl, lh, lj⟩ := B8 kv
 refine Cv (u := 0) sizeOf3 (Ad _) rfl cw rfl rfl (fun _ => .c .h) bz lh fj ?_; intro ca fm
 refine BX (um ?_)
 refine bA (cs := #[.int .i64 stand]) Br [.int .i64 stand] ?_; intro et fo
 refine A6 rfl zeroValue22 ?_; intro av lk
 have cx : AN K.w0.heap.size 3 1 (iE .i64) F (some ⟨et, 0, none⟩) 1 1 [stand] [(et, ce #[.int .i64 stand] 3)] := AN.BS (vss := [[.int .i64 stand]]) (Ad _) fo (.cons rfl .nil) rfl rfl (by simp [maxLen])
 generalize cb : ([(et, ce #[.int .i64 stand] 3)] : LH) = cc at cx
 refine AV (L' := cc ++ ((av, ce #[.slice none 0 0] 22) :: ((LZ, ce #[.slice a5 n8 n8] 22) :: (ca ++ [])))) (by rw [← cb]; exact (fC fO)) ?_
 refine AV (L' := (av, ce #[.slice none 0 0] 22) :: ((LZ, ce #[.slice a5 n8 n8] 22) :: (cc ++ (ca ++ [])))) (List.Perm.symm (fC (fC fP))) (Bt (i := 0) sizeOf22 rfl rfl rfl rfl (Be rfl) (AJ rfl (Aa ?_)))
 obtain ⟨cd, ll, j4⟩ := Aw lj
 refine AQ (fun e1 F1 L1 => ∃ (cf : LH), AY F F1 ∧ L1 = ((LZ, ce #[.slice a5 n8 n8] 22) :: (cf ++ [])) ∧ e1.sub [(5, .pointer (some ⟨LZ, 0, none⟩))] ∧ AN K.w0.heap.size 3 1 (iE .i64) F1 a5 n8 n8 cd cf) ?_ ?_
 ·clear j4
  refine Aq ?_
  refine A9 (fun cy e1 F1 L1 => ∃ (bg : List Int) (line : List Int) (aw : LH) (eu : Option Addr) (ew : Nat) (ey : Nat) (bh : LH), Ds wide Ac down Bb BW cy bg line = some cd ∧ AY F F1 ∧ L1 = ((av, ce #[.slice eu ew ey] 22) :: ((LZ, ce #[.slice a5 n8 n8] 22) :: (aw ++ (bh ++ [])))) ∧ e1.sub [(0, .pointer (some ⟨OR, 0, none⟩)), (5, .pointer (some ⟨LZ, 0, none⟩)), (7, .pointer (some ⟨av, 0, none⟩))] ∧ AN K.w0.heap.size 3 1 (iE .i64) F1 a5 n8 n8 bg aw ∧ AN K.w0.heap.size 3 1 (iE .i64) F1 eu ew ey line bh) FU (m0 (kc (kc (kg (fS fP) kr))) ⟨fl, [stand], ca, (some ⟨et, 0, none⟩), 1, 1, cc, ll, AY.refl _, rfl, z3, fm, cx⟩) ?_
  rintro cy e1 np _ ⟨bg, line, aw, eu, ew, ey, bh, cz, bj, rfl, fp, bk, bl⟩
  refine Az _ fp ?_
  replace ao := ao.mono (Ad _) bj
  replace ba := bj _ _ ba
  rcases cy with _ | cy
  ·rw [Ds] at cz; cases cz
  rw [Ds] at cz
  refine Ar (AM ?_)
  refine uv (Ao isAgg22 rfl (Has.own 0 rfl) rfl) (uv ((AX underlying22 rfl).i (AN.HH bl)) (uv (Ex rfl rfl) (Aa ?_)))
  refine cQ (fun fq => ?_) fun fq => ?_
  ·have lq := AO cz fq
   refine Al (Aq (AM (uv (Ao isAgg22 rfl (Has.own 0 rfl) rfl) ?_)))
   obtain ⟨x3, j5, fs, lr⟩ := Bj lq
   obtain ⟨nq, nr, ns, lu, ft, fv, j6, rfl, lv, fw⟩ := AN.at (Ad _) bl (L := (av, ce #[.slice eu ew ey] 22) :: ((LZ, ce #[.slice a5 n8 n8] 22) :: (aw ++ (bh ++ [])))) (fC (fC (fS fP))) j5.1 fs
   refine uv (AA underlying22 sizeOf3 rfl ft rfl (AN.idx bl j5)) (uv (Ao isAgg3 rfl fv (fw 0 (by decide))) ?_)
   refine A6 rfl zeroValue3 ?_; intro az lx
   refine Bt (i := 0) sizeOf3 rfl rfl rfl rfl (Be rfl) (AJ rfl (BX (uv (Ao isAgg22 rfl (Has.own 1 rfl) rfl) ?_)))
   obtain ⟨ly, lz⟩ := AW lr
   obtain ⟨bn, ma, fx⟩ := B8 lz
   refine MY (l := 1) (h := (line.length : Int)) (zs := bn) rfl Br (Ad _) rfl (.inr ⟨_, rfl, rfl⟩) (.inl ⟨rfl, rfl⟩) (fun _ => .c (.c (.c (.s .h)))) bl ly ma ?_; intro fy ga gb da cg
   refine Bt (i := 1) sizeOf22 rfl rfl rfl rfl (Be rfl) (AJ rfl ?_)
   refine BX (um ?_)
   refine uv (Ao isAgg3 rfl (Has.own 0 rfl) rfl) ?_
   obtain ⟨y, gg, gh⟩ := Aw fx
   refine c0 call70 (HC ba ao gg) ?_; rintro _ mb _ ay j7 ⟨j8, rfl, rfl, cj⟩
   replace bk := bk.mono (Ad _) ay
   replace cg := cg.mono (Ad _) ay
   refine AJ (ln rfl) (Aa (Aq ?_))
   refine HP (encs := (fun x : Int × Int => #[.int .i64 x.1, .int .i64 x.2])) (xs := y) rfl call101 rfl (fun _ => rfl) cj (fun pre F1 L1 => ∃ (tl : List (Int × Int)) (aq : List Int) (af : List Int) (ab : LH) (ah : Option Addr) (ai : Nat) (aj : Nat) (ae : LH), y = pre ++ tl ∧ Cl x3 (Ds wide Ac down Bb BW cy) tl aq af = some cd ∧ L1 = ((az, ce #[.int .i64 x3] 3) :: ((av, ce #[.slice ah ai aj] 22) :: ((LZ, ce #[.slice a5 n8 n8] 22) :: (ab ++ (ae ++ []))))) ∧ AN K.w0.heap.size 3 1 (iE .i64) F1 a5 n8 n8 aq ab ∧ AN K.w0.heap.size 3 1 (iE .i64) F1 ah ai aj af ae) (fun _ _ _ => False) ?_ ?_ ?_ ?_ ?_ ?_
   ·rintro pre F1 F2 L1 ⟨tl, aq, af, ab, ah, ai, aj, ae, ar, gi, rfl, ad, ak⟩ hx; exact ⟨tl, aq, af, ab, ah, ai, aj, ae, ar, gi, rfl, ad.mono (Ad _) hx, ak.mono (Ad _) hx⟩
   ·intro c F1 F2 L1 h hx; exact h
   ·exact ⟨_, bg, bn, aw, fy, ga, gb, da, rfl, gh, rfl, bk, cg⟩
   ·rintro mc j9 ja jb jc jd cn je pre x4 nt au me _ jf ⟨tl, aq, af, ab, ah, ai, aj, ae, ar, db, rfl, ad, ak⟩
    obtain rfl := KB ar au
    rw [Cl] at db
    refine Az [(0, .pointer (some ⟨OR, 0, none⟩)), (5, .pointer (some ⟨LZ, 0, none⟩)), (7, .pointer (some ⟨av, 0, none⟩)), (8, .pointer (some ⟨az, 0, none⟩)), (43, .int .i64 x4.1), (44, .int .i64 x4.2)] (by exact z6) ?_
    refine AM (ua (Aa (Ak (ua (Aa ?_)))))
    refine ⟨rfl, ?_⟩
    refine Aq ?_
    obtain ⟨k2, gj, cp⟩ := Aw db
    refine jE (((az, ce #[.int .i64 x3] 3) :: ((av, ce #[.slice ah ai aj] 22) :: ((LZ, ce #[.slice a5 n8 n8] 22) :: (ab ++ (ae ++ [])))))) [(0, .pointer (some ⟨OR, 0, none⟩)), (5, .pointer (some ⟨LZ, 0, none⟩)), (7, .pointer (some ⟨av, 0, none⟩)), (8, .pointer (some ⟨az, 0, none⟩)), (9, .int .i64 x4.1), (10, .int .i64 x4.2), (43, .int .i64 x4.1), (44, .int .i64 x4.2), (62, .bool k2)] ?_ ?_
    ·clear cp
     refine Iv (by kernel_rfl) (by kernel_rfl) (by kernel_rfl) (wv (Ao isAgg22 rfl (Has.own 2 rfl) rfl) (wm ?_))
     obtain ⟨x5, bm, bo, dd⟩ := Bj gj
     obtain ⟨mg, mh, mj, jg, de, df, gk, rfl, jh, dg⟩ := AN.at (Ad _) ad (L := (az, ce #[.int .i64 x3] 3) :: ((av, ce #[.slice ah ai aj] 22) :: ((LZ, ce #[.slice a5 n8 n8] 22) :: (ab ++ (ae ++ []))))) (fC (fC (fC fP))) bm.1 bo
     refine wv (AA underlying22 sizeOf3 rfl de rfl (AN.idx ad bm)) (wv (Ao isAgg3 rfl df (dg 0 (by decide))) (wv (Bv rfl rfl) (wm ?_)))
     by_cases aa : x5 = (-1)
     ·have gl := AO dd aa
      refine AE (b' := true) 50 rfl (Env.DX rfl aa) rfl rfl (AE (b' := true) 50 rfl (Env.DX rfl aa) rfl rfl (AE (b' := true) 50 rfl (Env.DX rfl aa) rfl rfl (AE (b' := true) 50 rfl (Env.DX rfl aa) rfl rfl (AE (b' := true) 50 rfl (Env.DX rfl aa) rfl rfl (AE (b' := true) 50 rfl (Env.DX rfl aa) rfl rfl (AE (b' := true) 50 rfl (Env.DX rfl aa) rfl rfl (AE (b' := true) 50 rfl (Env.DX rfl aa) rfl rfl (AE (b' := true) 50 rfl (Env.DX rfl aa) rfl rfl (AE (b' := true) 50 rfl (Env.DX rfl aa) rfl rfl ?_)))))))))
      refine AE (b' := true) 50 rfl (Env.DX rfl aa) rfl rfl (wv (Au (A5 rfl aa) rfl) (BD ?_))
      obtain rfl := AH gl
      exact mi kr ⟨rfl, rfl, (sc rfl z8)⟩
     have gm := AP dd aa
     refine AS (b := false) 50 rfl (Env.DY rfl aa) (wv (Ao isAgg22 rfl (Has.own 2 rfl) rfl) (AS (b := false) 50 rfl (Env.DY rfl aa) (wv (Ao isAgg3 rfl (Has.own 0 rfl) rfl) (AS (b := false) 50 rfl (Env.DY rfl aa) ?_))))
     obtain ⟨x6, dh, di, gn⟩ := Bj gm
     obtain ⟨ml, mn, mo, ji, dk, dm, gp, rfl, jj, dn⟩ := AN.at (Ad _) ad (L := (az, ce #[.int .i64 x3] 3) :: ((av, ce #[.slice ah ai aj] 22) :: ((LZ, ce #[.slice a5 n8 n8] 22) :: (ab ++ (ae ++ []))))) (fC (fC (fC fP))) dh.1 di
     refine wv (AA underlying22 sizeOf3 rfl dk rfl (AN.idx ad dh)) (AS (b := false) 50 rfl (Env.DY rfl aa) (wv (Ao isAgg3 rfl dm (dn 0 (by decide))) ?_))
     refine AS (b := false) 50 rfl (Env.DY rfl aa) (wm (AS (b := false) 50 rfl (Env.DY rfl aa) ?_))
     obtain ⟨gq, gr⟩ := AW gn
     refine wv (A1 rfl rfl gq) (AS (b := false) 50 rfl (Env.DY rfl aa) (wv (Ao isAgg22 rfl (Has.own 2 rfl) rfl) ?_))
     refine AS (b := false) 50 rfl (Env.DY rfl aa) (wm (AS (b := false) 50 rfl (Env.DY rfl aa) ?_))
     obtain ⟨mq, mr, mv, jk, dp, dq, gu, rfl, jl, dr⟩ := AN.at (Ad _) ad (L := (az, ce #[.int .i64 x3] 3) :: ((av, ce #[.slice ah ai aj] 22) :: ((LZ, ce #[.slice a5 n8 n8] 22) :: (ab ++ (ae ++ []))))) (fC (fC (fC fP))) bm.1 bo
     refine wv (AA underlying22 sizeOf3 rfl dp rfl (AN.idx ad bm)) (AS (b := false) 50 rfl (Env.DY rfl aa) (wv (Ao isAgg3 rfl dq (dr 0 (by decide))) (AS (b := false) 50 rfl (Env.DY rfl aa) (wv (A7 rfl rfl) (wv (At (AZ rfl aa) rfl) (BD ?_))))))
     obtain rfl := AH gr
     exact mi kr ⟨rfl, rfl, (sc rfl z8)⟩
    refine AU rfl (fun cq => ?_) (fun cq => ?_)
    ·have gv := bt cp cq
     refine Ar (CF [(.still, 0), (.still, 1), (.still, 2), (.still, 3), (.still, 4), (.still, 5), (.still, 6), (.still, 7), (.still, 8), (.seq, 9)] (by kernel_rfl) (by kernel_rfl) (trivial) (by rfl) (by kernel_rfl) (mL [5] ([(LZ, ce #[.slice a5 n8 n8] 22)]) rfl (s0 (s1 (s1 (s2 (s3 (s3 sr)))))) (fun H F' L' cr ct => Ao isAgg22 rfl ((Has.own 0 rfl).ext cr ct) rfl) (mS [9] rfl (Bh rfl) (mL [5] ([(LZ, ce #[.slice a5 n8 n8] 22)]) rfl (s0 (s1 (s1 (s2 (s3 (s3 sr)))))) (fun H F' L' cr ct => Ao isAgg22 rfl ((Has.own 0 rfl).ext cr ct) rfl) (mL [8] ([(az, ce #[.int .i64 x3] 3)]) rfl (s0 (s2 (s1 (s1 (s3 (s3 sr)))))) (fun H F' L' cr ct => Ao isAgg3 rfl ((Has.own 0 rfl).ext cr ct) rfl) ?_)))))
     obtain ⟨x7, dt, du, gw⟩ := Bj gv
     obtain ⟨mw, mx, my, jm, dv, dw, gy, rfl, jn, dx⟩ := AN.at (Ad _) ad (L := ab ++ []) fP dt.1 du
     refine mS [65, 66] rfl (AA underlying22 sizeOf3 rfl dv rfl (AN.idx ad dt)) (mL [67] (ab ++ []) rfl (s0 (s1 (s1 (s1 (s4 (s3 sr)))))) (fun H F' L' cr ct => Ao isAgg3 rfl (dw.ext cr ct) (dx 0 (by decide))) (mS [10] rfl (Bh rfl) ?_))
     obtain ⟨gz, ia⟩ := AW gw
     refine mS (v := .int .i64 (x7 + x4.2)) [68, 69] rfl (A1 rfl rfl gz) ?_
     obtain ⟨x8, cu, dy, ib⟩ := Bj ia
     obtain ⟨ic, ie, mz, jo, bp, jq, ig, rfl, jr, js⟩ := AN.at (Ad _) ad (L := ab ++ []) fP cu.1 dy
     refine mS [63, 64] rfl (AA underlying22 sizeOf3 rfl bp rfl (AN.idx ad cu)) ?_
     refine ⟨_, [(70, .int .i64 (x7 + x4.2)), (71, .pointer (some ⟨ic, ie + (x4.1 : Int).toNat * 1, none⟩))], rfl, rfl, z2, by kernel_rfl, ?_⟩; intro H
     obtain ⟨l2, ij, ik⟩ := B8 ib
     refine Cv (u := x7 + x4.2) sizeOf3 (Ad _) rfl bp rfl rfl (fun _ => .c (.c (.c .h))) ad ij cu ?_; intro bq dz
     refine Aa ⟨undef, rfl, AY.refl _, [], by kernel_rfl, .inl (.inl rfl), nm, ?_⟩
     refine DI (Ak (uv (Ao isAgg22 rfl (Has.own 1 rfl) rfl) (um ?_)))
     refine bA (cs := #[.int .i64 x4.1]) Br [.int .i64 x4.1] ?_; intro na jt
     obtain ⟨br, il, im, iq⟩ := E9 ik
     refine DB (xs := af) (ys := [x4.1]) (zs := br) rfl Br rfl rfl cn (fun _ => .c (.c (.c (.c (.s .h))))) ak (GO.box (vss := [[.int .i64 x4.1]]) (ys := [x4.1]) 0 rfl (Ad _) (.cons rfl .nil) rfl rfl) il im (by decide) ?_; intro eb eg eh bu ei
     refine kO (kd kr) (Bt (i := 1) sizeOf22 rfl rfl rfl rfl (Be rfl) (AJ rfl ?_))
     refine Aa (Av (id := 5) ?_)
     refine ⟨(az, ce #[.int .i64 x3] 3) :: ((av, ce #[.slice eb eg eh] 22) :: ((LZ, ce #[.slice a5 n8 n8] 22) :: (bq ++ (bu ++ [])))), ⟨_, .refl _, sr⟩, ?_⟩; exact ⟨_, l2, br, bq, eb, eg, eh, bu, (by rw [au]; simp), iq, rfl, dz, ei⟩
    have ir := bf cp cq
    refine Al (Av (id := 5) ?_)
    refine ⟨(az, ce #[.int .i64 x3] 3) :: ((av, ce #[.slice ah ai aj] 22) :: ((LZ, ce #[.slice a5 n8 n8] 22) :: (ab ++ (ae ++ [])))), ⟨_, .refl _, sr⟩, ?_⟩; exact ⟨_, aq, af, ab, ah, ai, aj, ae, (by rw [au]; simp), ir, rfl, ad, ak⟩
   ·rintro nc _ ej ⟨tl, aq, af, ab, ah, ai, aj, ae, ar, en, rfl, ad, ak⟩
    obtain rfl := LJ ar; rw [Cl] at en
    refine Av (id := 4) (Av (id := 3) ?_)
    exact le (kd kr) ⟨aq, af, ab, ah, ai, aj, ae, en, ((bj.trans ay).trans ej), rfl, z3, ad, ak⟩
   intro c F1 L1 hx h; exact h.elim
  have iu := AP cz fq
  refine AR (Aj (Aj ?_))
  refine Ay ?_
  obtain rfl := AH iu
  exact mi (kd (kc (ka kn))) ⟨aw, bj, rfl, z1, bk⟩
 rintro e1 nf _ ⟨cf, ju, rfl, eo, iv⟩
 refine Az _ eo (AM (uv (Ao isAgg22 rfl (Has.own 0 rfl) rfl) ?_))
 refine ua (Aa ?_)
 refine kW (kd kr) (Ap (B2 results67 ?_))
 obtain rfl := AH j4
 exact ⟨_, _, _, _, rfl, rfl, iv.any⟩
theorem IL (aa : AL 1 (iE .i64) F Af Ae Ac) {r : List Int} {r2 : Int} (hr : Hm wide Ac AK stand = some (r, r2)) :
    SH.Spec Tryz.prog 27 #[.agg #[.int .i64 wide, .slice Af Ac.length Ae], .int .i64 AK, .int .i64 stand] F [] fun F' L' v => ∃ (ra : Option Addr) (rn : Nat) (rc : Nat) (rL : LH), v = .tuple #[.slice ra rn rc, .int .i64 r2] ∧ L' = rL ++ [] ∧ AN 0 3 1 (iE .i64) F' ra rn rc r rL := by
 refine sp func27 ntmps27 fun K _ _ => ?_
 rw [Hm] at hr
 refine AM ?_
 refine Bu rfl rfl ?_; intro b1 bg
 refine ua (ua (BX ?_))
 refine uv (As isAgg25 sizeOf25 rfl (Has.own 0 rfl) (Be rfl) rfl) ?_
 refine um (um ?_)
 obtain ⟨d, n, h2, r3⟩ := Bs hr
 refine c0 call66 (Lh aa h2) ?_; rintro _ F4 _ bh bj ⟨v8, rfl, rfl, ak⟩
 refine AJ (ln rfl) ?_
 refine um (ox rfl rfl rfl (ox rfl rfl rfl (ua (ua (Aa (Ar (AM (um ?_))))))))
 refine uv (Bo rfl rfl) (Aa ?_)
 refine cQ (fun H4 => ?_) fun H4 => ?_
 ·have ao := AO r3 H4
  refine AM (um (ua (ua (Aa ?_))))
  refine kW kn ?_
  refine Ap (Ah ?_)
  refine Ba results27 (AG rfl) (AG rfl) (sr) ?_
  obtain ⟨rfl, rfl⟩ := BK ao
  exact ⟨_, _, _, [], rfl, rfl, AN.nil _ _ _ _ _⟩
 have aq := AP r3 H4
 refine Al (AM (um (um ?_)))
 obtain ⟨af, ab, down, Bb, BW, ar, au⟩ := Rx aq
 have aj := ak; rw [ar] at aj; obtain ⟨av, UT, aw, ah, ad, ⟨_, _, rfl, rfl, ⟨_, _, rfl, ⟨ax, Jj, rfl, ay⟩, ⟨_, _, rfl, rfl, ⟨_, _, rfl, rfl, rfl⟩⟩⟩⟩⟩ := aj; subst ah
 have ad : F4 av = some (.cells #[.int .i64 af, .slice ax ab.length Jj, .int .i64 down, .int .i64 Bb, .bool BW] 138 aw) := ad
 obtain ⟨l, az, ba⟩ := Aw au
 refine c0 call67 (IV ad ay az) ?_; rintro _ bk _ bb ai ⟨bl, bm, bn, bc, rfl, rfl, ae⟩
 replace ae := ae.new fun p hp => ai p (by simp [hp])
 refine AJ (lp (ln rfl)) (kO (kf (fS fO) kr) ?_)
 refine ua (ua (Aa ?_))
 refine kW (kd kr) (Ap (Ba results27 (AG rfl) (AG rfl) (sr) ?_))
 obtain ⟨rfl, rfl⟩ := BK ba
 exact ⟨_, _, _, _, rfl, rfl, ae.any⟩
set_option maxHeartbeats 1000000 in
theorem J3 (aa : AL 1 (iE .i64) F Af Ae Ac) {r r2 : Int} (hr : JG wide Ac AK stand Cw = some (r, r2)) :
    Bz Tryz.prog 25 #[.agg #[.int .i64 wide, .slice Af Ac.length Ae], .int .i64 AK, .int .i64 stand, .int .i64 Cw] F (.tuple #[.int .i64 r, .int .i64 r2]) := by
 refine sp func25 ntmps25 fun K _ _ => ?_
 rw [JG] at hr
 refine AM ?_
 refine Bu rfl rfl ?_; intro b1 bp
 refine ua (ua (BX ?_))
 refine uv (As isAgg25 sizeOf25 rfl (Has.own 0 rfl) (Be rfl) rfl) ?_
 refine um (um ?_)
 obtain ⟨l, n, h2, r3⟩ := Bs hr
 refine c0 call27 (IL aa h2) ?_; rintro _ F4 _ ay az ⟨a8, bq, c9, ad, rfl, rfl, ab⟩
 replace aa := aa.mono (Ad _) ay
 replace ab := ab.new fun p hp => az p (by simp [hp])
 refine AJ (lp (ln rfl)) (kO (kf (fS fO) kr) ?_)
 refine um (ox rfl rfl rfl (ox rfl rfl rfl (ua (ua (Aa (Ar ?_))))))
 refine Aq ?_
 refine AM (um ?_)
 refine uv (Bo rfl rfl) ?_
 refine ua (Aa ?_)
 refine cQ (fun OV => ?_) fun OV => ?_
 ·have ba := AO r3 OV
  refine AM (um (ua (ua (Aa ?_))))
  refine kW kn ?_
  refine Ap (AB (Ah ?_))
  refine Ba results25 (AG rfl) (AG rfl) (sr) ?_
  obtain ⟨rfl, rfl⟩ := BK ba
  exact rfl
 have bb := AP r3 OV
 refine AM (uv (As isAgg25 sizeOf25 rfl (Has.own 0 rfl) (Be rfl) rfl) (um ?_))
 obtain ⟨ok, bc, au⟩ := Aw bb
 refine cV call65 (IX aa bc) (uv (Cf rfl) ?_)
 refine ua (Aa ?_)
 refine AU rfl (fun J5 => ?_) (fun J5 => ?_)
 ·have bg := bt au J5
  refine AM (ua (ua (Aa ?_)))
  refine kW kn ?_
  refine Ap (AB (Ah ?_))
  refine Ba results25 (AG rfl) (AG rfl) (sr) ?_
  obtain ⟨rfl, rfl⟩ := BK bg
  exact rfl
 have bh := bf au J5
 refine AM (um (um ?_))
 obtain ⟨x, af, ae, av⟩ := Bj bh
 obtain ⟨br, bu, Mi, bj, ah, ai, aw, rfl, bk, aj⟩ := AN.at (Ad _) ab (L := (b1, ce #[.int .i64 wide, .slice Af Ac.length Ae] 25) :: (ad ++ [])) (fC fP) af.1 ae
 refine uv (AA underlying22 sizeOf3 rfl ah rfl (AN.idx ab af)) (uv (Ao isAgg3 rfl ai (aj 0 (by decide))) (uv (Bv rfl rfl) ?_))
 refine ua (Aa ?_)
 refine cQ (fun ak => ?_) fun ak => ?_
 ·have bl := AO av ak
  refine AM (ua (ua (Aa ?_)))
  refine kW kn ?_
  refine Ap (AB (Ah ?_))
  refine Ba results25 (AG rfl) (AG rfl) (sr) ?_
  obtain ⟨rfl, rfl⟩ := BK bl
  exact rfl
 have bm := AP av ak
 refine Al (Av (id := 0) (AM (um (um ?_))))
 obtain ⟨bw, bx, bz, bn, ao, aq, ax, rfl, bo, ar⟩ := AN.at (Ad _) ab (L := (b1, ce #[.int .i64 wide, .slice Af Ac.length Ae] 25) :: (ad ++ [])) (fC fP) af.1 ae
 refine uv (AA underlying22 sizeOf3 rfl ao rfl (AN.idx ab af)) (uv (Ao isAgg3 rfl aq (ar 0 (by decide))) ?_)
 refine ua (ua (Aa ?_))
 refine kW kn (Ap (Ba results25 (AG rfl) (AG rfl) (sr) ?_))
 obtain ⟨rfl, rfl⟩ := BK bm
 exact rfl
set_option maxHeartbeats 1000000 in
theorem MT {DH : Option Addr} {DF : Nat} {table : List Int} (aa : AL 1 (iE .i64) F Af Ae Ac) (ab : AL 1 (iE .i64) F DH DF table) {r : Bool} {r2 : Int} (hr : K5 wide Ac AK stand table = some (r, r2)) :
    Bz Tryz.prog 29 #[.agg #[.int .i64 wide, .slice Af Ac.length Ae], .int .i64 AK, .int .i64 stand, .slice DH table.length DF] F (.tuple #[.bool r, .int .i64 r2]) := by
 refine sp func29 ntmps29 fun K _ _ => ?_
 rw [K5] at hr
 refine AM ?_
 refine Bu rfl rfl ?_; intro b1 il
 refine Bu rfl rfl ?_; intro b2 im
 refine A6 rfl zeroValue4 ?_; intro b3 iq
 refine A6 rfl zeroValue38 ?_; intro b4 ir
 refine BX (uv (As isAgg25 sizeOf25 rfl (Has.own 3 rfl) (Be rfl) rfl) ?_)
 refine um (um ?_)
 obtain ⟨d, n, h5, r6⟩ := Bs hr
 refine c0 call66 (Lh aa h5) ?_; rintro _ F7 _ dt iu ⟨v11, rfl, rfl, cq⟩
 replace aa := aa.mono (Ad _) dt
 replace ab := ab.mono (Ad _) dt
 refine AJ (ln rfl) ?_
 refine um (ox rfl rfl rfl (ox rfl rfl rfl (ua (ua (Aa (Ar ?_))))))
 refine Aq ?_
 refine AM (um ?_)
 refine uv (Bo rfl rfl) ?_
 refine ua (Aa ?_)
 refine cQ (fun LB => ?_) fun LB => ?_
 ·have fa := AO r6 LB
  refine AM (um ?_)
  refine Bt (i := 1) sizeOf4 rfl rfl rfl rfl (Be rfl) (AJ rfl (Bt (i := 0) sizeOf38 rfl rfl rfl rfl (Be rfl) (AJ rfl (Aa (kW (kc (kc kn)) ?_)))))
  refine Ap (AB (Ah ?_))
  refine Ba results29 (HT isAgg4 rfl (Has.own 1 rfl) rfl) (HT isAgg38 rfl (Has.own 0 rfl) rfl) (s1 (s1 sr)) ?_
  obtain ⟨rfl, rfl⟩ := BK fa
  exact rfl
 have du := AP r6 LB
 refine AM (uv (Ao isAgg22 rfl (Has.own 2 rfl) rfl) (uv (AX underlying22 rfl) (uv (Am BN rfl) (uv (Ao isAgg23 rfl (Has.own 3 rfl) rfl) (uv (AX underlying23 rfl) (uv (Bo rfl rfl) ?_))))))
 refine ua (Aa ?_)
 refine cQ (fun UT => ?_) fun UT => ?_
 ·have fb := AO du UT
  refine AM (Bt (i := 1) sizeOf4 rfl rfl rfl rfl (Be rfl) (AJ rfl (Bt (i := 0) sizeOf38 rfl rfl rfl rfl (Be rfl) (AJ rfl (Aa (kW (kc (kc kn)) ?_))))))
  refine Ap (AB (Ah ?_))
  refine Ba results29 (HT isAgg4 rfl (Has.own 1 rfl) rfl) (HT isAgg38 rfl (Has.own 0 rfl) rfl) (s1 (s1 sr)) ?_
  obtain ⟨rfl, rfl⟩ := BK fb
  exact rfl
 have fe := AP du UT
 refine AM (uv (Ao isAgg22 rfl (Has.own 2 rfl) rfl) (um ?_))
 obtain ⟨x, dv, cr, dw⟩ := Bj fe
 obtain ⟨iv, iw, VL, ff, ct, cu, dx, rfl, fg, cv⟩ := AL.at (Ad _) ab ([(b4, ce #[.int .i64 0] 38), (b3, ce #[.bool false] 4), (b2, ce #[.slice DH table.length DF] 22), (b1, ce #[.int .i64 wide, .slice Af Ac.length Ae] 25)]) dv.1 cr
 refine uv (AA underlying22 sizeOf3 rfl ct rfl dv) (uv (Ao isAgg3 rfl cu (cv 0 (by decide))) (uv (Bo rfl rfl) ?_))
 refine ua (Aa ?_)
 refine cQ (fun cw => ?_) fun cw => ?_
 ·have fh := AO dw cw
  refine AM (Bt (i := 1) sizeOf4 rfl rfl rfl rfl (Be rfl) (AJ rfl (Bt (i := 0) sizeOf38 rfl rfl rfl rfl (Be rfl) (AJ rfl (Aa (kW (kc (kc kn)) ?_))))))
  refine Ap (AB (Ah ?_))
  refine Ba results29 (HT isAgg4 rfl (Has.own 1 rfl) rfl) (HT isAgg38 rfl (Has.own 0 rfl) rfl) (s1 (s1 sr)) ?_
  obtain ⟨rfl, rfl⟩ := BK fh
  exact rfl
 have fi := AP dw cw
 refine Al (Av (id := 0) ?_)
 refine AQ (fun e1 F1 L1 => Ku = some (r, r2) ∧ AY F7 F1 ∧ L1 = [(b4, ce #[.int .i64 0] 38), (b3, ce #[.bool false] 4)] ∧ e1.sub [(8, .pointer (some ⟨b3, 0, none⟩)), (9, .pointer (some ⟨b4, 0, none⟩))]) ?_ ?_
 ·refine AM (uv (Am BN rfl) (uv (Ao isAgg23 rfl (Has.own 3 rfl) rfl) (uv (AX underlying23 rfl) ?_)))
  refine um (Aa ?_)
  refine Aq ?_
  refine A9 (fun dy e1 F1 L1 => LA Ac dy fun tl k => ∃ (cx : Value), Gg wide Ac table d tl k = some (r, r2) ∧ AY F7 F1 ∧ L1 = [(b4, ce #[.int .i64 0] 38), (b3, ce #[.bool false] 4), (b2, ce #[.slice DH table.length DF] 22), (b1, ce #[.int .i64 wide, .slice Af Ac.length Ae] 25)] ∧ e1.sub [(4, .pointer (some ⟨b1, 0, none⟩)), (7, .pointer (some ⟨b2, 0, none⟩)), (8, .pointer (some ⟨b3, 0, none⟩)), (9, .pointer (some ⟨b4, 0, none⟩)), (10, cx), (41, .int .i64 (Ac.length : Int)), (42, .int .i64 k)] ∧ Oj 138 (MR (iE .i64) (MR (Ol 1 (iE .i64)) (MR (iE .i64) (MR (iE .i64) bE)))) F1 cx d) _ (m0 kr ⟨_, _, rfl, BO.start _, v11, fi, AY.refl _, rfl, z7, cq⟩) ?_
  rintro dy e1 dz _ ⟨tl, k, cy, aw, cx, cf, ai, rfl, cz, af⟩
  refine Az _ cz ?_
  replace aa := aa.mono (Ad _) ai
  replace ab := ab.mono (Ad _) ai
  refine AM (uv (A7 rfl rfl) ?_)
  refine Aa (Ar ?_)
  refine cQ (fun cg => ?_) fun cg => ?_
  ·obtain ⟨x2, eb, rfl, fj, iy, da⟩ := BO.succ aw cg
   rw [Gg] at cf
   refine Al ?_
   refine AQ (fun e1 F1 L1 => ∃ (cj : Value), Kr k (Gg wide Ac table d eb) = some (r, r2) ∧ AY dz F1 ∧ L1 = [(b4, ce #[.int .i64 0] 38), (b3, ce #[.bool false] 4), (b2, ce #[.slice DH table.length DF] 22), (b1, ce #[.int .i64 wide, .slice Af Ac.length Ae] 25)] ∧ e1.sub [(4, .pointer (some ⟨b1, 0, none⟩)), (7, .pointer (some ⟨b2, 0, none⟩)), (8, .pointer (some ⟨b3, 0, none⟩)), (9, .pointer (some ⟨b4, 0, none⟩)), (10, cj), (41, .int .i64 (Ac.length : Int)), (42, .int .i64 k)] ∧ Oj 138 (MR (iE .i64) (MR (Ol 1 (iE .i64)) (MR (iE .i64) (MR (iE .i64) bE)))) F1 cj d) ?_ ?_
   ·refine Aq ?_
    refine AM (um ?_)
    refine A6 rfl zeroValue3 ?_; intro aj fk
    refine Bt (i := 0) sizeOf3 rfl rfl rfl rfl (Be rfl) (AJ rfl ?_)
    refine BX (um ?_)
    refine uv (Ao isAgg3 rfl (Has.own 0 rfl) rfl) ?_
    obtain ⟨bb, ax, down, Bb, BW, fl, fm⟩ := Rx cf
    have eg := af; rw [fl] at eg; obtain ⟨cn, iz, fo, db, ay, ⟨_, _, rfl, rfl, ⟨_, _, rfl, ⟨fp, fq, rfl, fs⟩, ⟨_, _, rfl, rfl, ⟨_, _, rfl, rfl, rfl⟩⟩⟩⟩⟩ := eg; subst db
    have ay : dz cn = some (.cells #[.int .i64 bb, .slice fp ax.length fq, .int .i64 down, .int .i64 Bb, .bool BW] 138 fo) := ay
    obtain ⟨y, ft, fv⟩ := Aw fm
    refine c0 call70 (HC ay fs ft) ?_; rintro _ j0 _ ak fw ⟨fx, rfl, rfl, bc⟩
    replace aa := aa.mono (Ad _) ak
    replace ab := ab.mono (Ad _) ak
    replace af := af.mono (GS (Ad _) (GS (CP (Ad _)) (GS (Ad _) (GS (Ad _) SD)))) ak
    refine AJ (ln rfl) (Aa (Aq ?_))
    refine HP (encs := (fun x : Int × Int => #[.int .i64 x.1, .int .i64 x.2])) (xs := y) rfl call101 rfl (fun _ => rfl) bc (fun pre F1 L1 => ∃ (ba : List (Int × Int)), y = pre ++ ba ∧ HL wide Ac table k (Gg wide Ac table d eb) ba = some (r, r2) ∧ L1 = [(aj, ce #[.int .i64 k] 3), (b4, ce #[.int .i64 0] 38), (b3, ce #[.bool false] 4), (b2, ce #[.slice DH table.length DF] 22), (b1, ce #[.int .i64 wide, .slice Af Ac.length Ae] 25)]) (fun c F1 L1 => c = .ret ∧ Kv = some (r, r2) ∧ L1 = [(b4, ce #[.int .i64 0] 38), (b3, ce #[.bool false] 4)]) ?_ ?_ ?_ ?_ ?_ ?_
    ·rintro pre F1 F2 L1 ⟨ba, ah, fy, rfl⟩ hx; exact ⟨ba, ah, fy, rfl⟩
    ·rintro c F1 F2 L1 ⟨rfl, hq, rfl⟩ hx; exact ⟨rfl, hq, rfl⟩
    ·exact ⟨_, rfl, fv, rfl⟩
    ·rintro j4 ga gb gg gh gi eh gj pre x3 j5 aq j6 _ bg ⟨ba, ah, ei, rfl⟩
     obtain rfl := KB ah aq
     rw [HL] at ei
     replace aa := aa.mono (Ad _) bg
     replace ab := ab.mono (Ad _) bg
     refine Az [(4, .pointer (some ⟨b1, 0, none⟩)), (7, .pointer (some ⟨b2, 0, none⟩)), (8, .pointer (some ⟨b3, 0, none⟩)), (9, .pointer (some ⟨b4, 0, none⟩)), (10, .pointer (some ⟨cn, 0, none⟩)), (12, .pointer (some ⟨aj, 0, none⟩)), (41, .int .i64 (Ac.length : Int)), (42, .int .i64 k), (48, .int .i64 x3.1), (49, .int .i64 x3.2)] (by exact (sc rfl (sc rfl z8))) ?_
     refine AM (ua (Aa (Ak (ua (Aa ?_)))))
     refine ⟨rfl, ?_⟩
     refine Aq ?_
     obtain ⟨k2, gk, dd⟩ := Aw ei
     refine jE ([(aj, ce #[.int .i64 k] 3), (b4, ce #[.int .i64 0] 38), (b3, ce #[.bool false] 4), (b2, ce #[.slice DH table.length DF] 22), (b1, ce #[.int .i64 wide, .slice Af Ac.length Ae] 25)]) [(4, .pointer (some ⟨b1, 0, none⟩)), (7, .pointer (some ⟨b2, 0, none⟩)), (8, .pointer (some ⟨b3, 0, none⟩)), (9, .pointer (some ⟨b4, 0, none⟩)), (10, .pointer (some ⟨cn, 0, none⟩)), (12, .pointer (some ⟨aj, 0, none⟩)), (41, .int .i64 (Ac.length : Int)), (42, .int .i64 k), (48, .int .i64 x3.1), (49, .int .i64 x3.2), (80, .bool k2)] ?_ ?_
     ·clear dd
      refine Iv (by kernel_rfl) (by kernel_rfl) (by kernel_rfl) (wv (As isAgg25 sizeOf25 rfl (Has.own 4 rfl) (Be rfl) rfl) (wv (Ao isAgg3 rfl (Has.own 0 rfl) rfl) ?_))
      obtain ⟨ok, gl, ej⟩ := Aw gk
      refine Dx rfl call71 rfl rfl rfl (KQ aa gl) (wv (Cf rfl) (wm ?_))
      rcases Bf (!ok) with ae | ae
      ·have gm := bt ej ae
       refine AS (b := true) 54 rfl (Er rfl ae) (wv (Ao isAgg22 rfl (Has.own 3 rfl) rfl) ?_)
       refine AS (b := true) 54 rfl (Er rfl ae) (wm (AS (b := true) 54 rfl (Er rfl ae) ?_))
       obtain ⟨x4, cp, bh, gn⟩ := Bj gm
       obtain ⟨j7, j8, j9, gp, de, df, en, rfl, gq, bj⟩ := AL.at (Ad _) ab ([(aj, ce #[.int .i64 k] 3), (b4, ce #[.int .i64 0] 38), (b3, ce #[.bool false] 4), (b2, ce #[.slice DH table.length DF] 22), (b1, ce #[.int .i64 wide, .slice Af Ac.length Ae] 25)]) cp.1 bh
       refine wv (AA underlying22 sizeOf3 rfl de rfl cp) (AS (b := true) 54 rfl (Er rfl ae) (wv (Ao isAgg3 rfl df (bj 0 (by decide))) (AS (b := true) 54 rfl (Er rfl ae) (wv (Ao isAgg22 rfl (Has.own 3 rfl) rfl) (AS (b := true) 54 rfl (Er rfl ae) (wv (Ao isAgg3 rfl (Has.own 0 rfl) rfl) (AS (b := true) 54 rfl (Er rfl ae) ?_)))))))
       obtain ⟨x5, ao, ar, bk⟩ := Bj gn
       obtain ⟨gr, gu, gv, eo, bl, bm, dg, rfl, ep, bn⟩ := AL.at (Ad _) ab ([(aj, ce #[.int .i64 k] 3), (b4, ce #[.int .i64 0] 38), (b3, ce #[.bool false] 4), (b2, ce #[.slice DH table.length DF] 22), (b1, ce #[.int .i64 wide, .slice Af Ac.length Ae] 25)]) ao.1 ar
       refine wv (AA underlying22 sizeOf3 rfl bl rfl ao) (AS (b := true) 54 rfl (Er rfl ae) (wv (Ao isAgg3 rfl bm (bn 0 (by decide))) (AS (b := true) 54 rfl (Er rfl ae) (wv (Ex rfl rfl) (wv (Au (Es rfl ae) rfl) (wm ?_))))))
       by_cases ad : x5 < x4
       ·have dh := AO bk ad
        refine AS (b := true) 65 rfl (Env.DX rfl ad) (wv (Ao isAgg22 rfl (Has.own 3 rfl) rfl) ?_)
        refine AS (b := true) 65 rfl (Env.DX rfl ad) (wm (AS (b := true) 65 rfl (Env.DX rfl ad) ?_))
        obtain ⟨gw, gy, gz, er, bo, bp, di, rfl, et, bq⟩ := AL.at (Ad _) ab ([(aj, ce #[.int .i64 k] 3), (b4, ce #[.int .i64 0] 38), (b3, ce #[.bool false] 4), (b2, ce #[.slice DH table.length DF] 22), (b1, ce #[.int .i64 wide, .slice Af Ac.length Ae] 25)]) cp.1 bh
        refine wv (AA underlying22 sizeOf3 rfl bo rfl cp) (AS (b := true) 65 rfl (Env.DX rfl ad) (wv (Ao isAgg3 rfl bp (bq 0 (by decide))) (AS (b := true) 65 rfl (Env.DX rfl ad) (wv (O5 rfl underlying3 underlying106 rfl) (AS (b := true) 65 rfl (Env.DX rfl ad) (wv (Ao isAgg22 rfl (Has.own 3 rfl) rfl) (AS (b := true) 65 rfl (Env.DX rfl ad) ?_)))))))
        refine wv (Ao isAgg3 rfl (Has.own 0 rfl) rfl) (AS (b := true) 65 rfl (Env.DX rfl ad) ?_)
        obtain ⟨ia, ib, ic, eu, br, bu, dk, rfl, ew, bw⟩ := AL.at (Ad _) ab ([(aj, ce #[.int .i64 k] 3), (b4, ce #[.int .i64 0] 38), (b3, ce #[.bool false] 4), (b2, ce #[.slice DH table.length DF] 22), (b1, ce #[.int .i64 wide, .slice Af Ac.length Ae] 25)]) ao.1 ar
        refine wv (AA underlying22 sizeOf3 rfl br rfl ao) (AS (b := true) 65 rfl (Env.DX rfl ad) (wv (Ao isAgg3 rfl bu (bw 0 (by decide))) (AS (b := true) 65 rfl (Env.DX rfl ad) (wv (O5 rfl underlying3 underlying106 rfl) (AS (b := true) 65 rfl (Env.DX rfl ad) (wv (Xd rfl rfl rfl) ?_))))))
        refine AS (b := true) 65 rfl (Env.DX rfl ad) (wm (AS (b := true) 65 rfl (Env.DX rfl ad) ?_))
        refine wv (O5 rfl underlying3 underlying106 rfl) (AS (b := true) 65 rfl (Env.DX rfl ad) (wv (Ex rfl rfl) (wv (Au (A5 rfl ad) rfl) (BD ?_))))
        obtain rfl := AH dh
        exact mi kr ⟨rfl, rfl, (sc rfl (sc rfl (sc rfl z8)))⟩
       have dm := AP bk ad
       refine AE (b' := false) 65 rfl (Env.DY rfl ad) rfl rfl (AE (b' := false) 65 rfl (Env.DY rfl ad) rfl rfl (AE (b' := false) 65 rfl (Env.DY rfl ad) rfl rfl (AE (b' := false) 65 rfl (Env.DY rfl ad) rfl rfl (AE (b' := false) 65 rfl (Env.DY rfl ad) rfl rfl (AE (b' := false) 65 rfl (Env.DY rfl ad) rfl rfl (AE (b' := false) 65 rfl (Env.DY rfl ad) rfl rfl (AE (b' := false) 65 rfl (Env.DY rfl ad) rfl rfl (AE (b' := false) 65 rfl (Env.DY rfl ad) rfl rfl (AE (b' := false) 65 rfl (Env.DY rfl ad) rfl rfl ?_)))))))))
       refine AE (b' := false) 65 rfl (Env.DY rfl ad) rfl rfl (AE (b' := false) 65 rfl (Env.DY rfl ad) rfl rfl (AE (b' := false) 65 rfl (Env.DY rfl ad) rfl rfl (AE (b' := false) 65 rfl (Env.DY rfl ad) rfl rfl ?_)))
       refine wv (At (AZ rfl ad) rfl) (BD ?_)
       obtain rfl := AH dm
       exact mi kr ⟨rfl, rfl, (sc rfl (sc rfl (sc rfl z8)))⟩
      have dn := bf ej ae
      refine AE (b' := false) 54 rfl (Er rfl ae) rfl rfl (AE (b' := false) 54 rfl (Er rfl ae) rfl rfl (AE (b' := false) 54 rfl (Er rfl ae) rfl rfl (AE (b' := false) 54 rfl (Er rfl ae) rfl rfl (AE (b' := false) 54 rfl (Er rfl ae) rfl rfl (AE (b' := false) 54 rfl (Er rfl ae) rfl rfl (AE (b' := false) 54 rfl (Er rfl ae) rfl rfl (AE (b' := false) 54 rfl (Er rfl ae) rfl rfl (AE (b' := false) 54 rfl (Er rfl ae) rfl rfl ?_))))))))
      refine wv (At (Es rfl ae) rfl) ?_
      refine wm (AE (b' := false) 65 rfl rfl rfl rfl (AE (b' := false) 65 rfl rfl rfl rfl (AE (b' := false) 65 rfl rfl rfl rfl (AE (b' := false) 65 rfl rfl rfl rfl (AE (b' := false) 65 rfl rfl rfl rfl (AE (b' := false) 65 rfl rfl rfl rfl (AE (b' := false) 65 rfl rfl rfl rfl (AE (b' := false) 65 rfl rfl rfl rfl (AE (b' := false) 65 rfl rfl rfl rfl ?_)))))))))
      refine AE (b' := false) 65 rfl rfl rfl rfl (AE (b' := false) 65 rfl rfl rfl rfl (AE (b' := false) 65 rfl rfl rfl rfl (AE (b' := false) 65 rfl rfl rfl rfl (AE (b' := false) 65 rfl rfl rfl rfl ?_))))
      refine wv (At rfl rfl) (BD ?_)
      obtain rfl := AH dn
      exact mi kr ⟨rfl, rfl, (sc rfl (sc rfl (sc rfl z8)))⟩
     refine AU rfl (fun az => ?_) (fun az => ?_)
     ·have dp := bt dd az
      refine AM (Bt (i := 2) sizeOf4 rfl rfl rfl rfl (Be rfl) (AJ rfl (Bt (i := 1) sizeOf38 rfl rfl rfl rfl (Be rfl) (AJ rfl ?_))))
      refine Aa (Ap (AB ?_))
      refine ⟨[(b4, ce #[.int .i64 0] 38), (b3, ce #[.bool false] 4)], ⟨_, .refl _, s1 (s2 (s2 (s1 (s1 sr))))⟩, ?_⟩; exact ⟨rfl, dp, rfl⟩
     have dq := bf dd az
     refine Al (Av (id := 4) ?_)
     refine ⟨[(aj, ce #[.int .i64 k] 3), (b4, ce #[.int .i64 0] 38), (b3, ce #[.bool false] 4), (b2, ce #[.slice DH table.length DF] 22), (b1, ce #[.int .i64 wide, .slice Af Ac.length Ae] 25)], ⟨_, .refl _, sr⟩, ?_⟩; exact ⟨_, (by rw [aq]; simp), dq, rfl⟩
    ·rintro ie _ au ⟨ba, ah, bx, rfl⟩
     obtain rfl := LJ ah; rw [HL] at bx
     replace af := af.mono (GS (Ad _) (GS (CP (Ad _)) (GS (Ad _) (GS (Ad _) SD)))) au
     refine Av (id := 3) (Av (id := 2) ?_)
     exact mi (kd kr) ⟨.pointer (some ⟨cn, 0, none⟩), bx, (ak.trans au), rfl, z7, af⟩
    rintro _ ig _ ey ⟨rfl, bz, rfl⟩
    rw [Kv] at bz
    refine Ap (AB (AB (Ah (Ah (AB (Ah ?_))))))
    refine Ba results29 (HT isAgg4 rfl (Has.own 1 rfl) rfl) (HT isAgg38 rfl (Has.own 0 rfl) rfl) (s1 (s1 sr)) ?_
    obtain ⟨rfl, rfl⟩ := BK bz
    exact rfl
   rintro e1 ij _ ⟨cj, ca, av, rfl, cb, dr⟩
   refine Az _ cb ?_
   replace aa := aa.mono (Ad _) av
   rw [Kr] at ca
   refine Ak (uv (A1 rfl rfl (BO.DZ aw cg (AL.lt aa))) ?_)
   refine um (Aa ?_)
   subst cy; exact le kr ⟨_, _, rfl, da, cj, ca, (ai.trans av), rfl, z7, dr⟩
  obtain rfl := BO.zero aw cg
  rw [Gg] at cf
  refine AR (Aj (Aj ?_))
  refine Ay ?_
  exact mi (kc (kc kn)) ⟨cf, ai, rfl, z2⟩
 rintro e1 ik _ ⟨cc, ez, rfl, cd⟩
 refine Az _ cd ?_
 rw [Ku] at cc
 refine AM (Bt (i := 1) sizeOf4 rfl rfl rfl rfl (Be rfl) (AJ rfl (Bt (i := 0) sizeOf38 rfl rfl rfl rfl (Be rfl) (AJ rfl ?_))))
 refine Aa (Ap ?_)
 refine Ba results29 (HT isAgg4 rfl (Has.own 1 rfl) rfl) (HT isAgg38 rfl (Has.own 0 rfl) rfl) (s1 (s1 sr)) ?_
 obtain ⟨rfl, rfl⟩ := BK cc
 exact rfl
set_option maxHeartbeats 1000000 in
theorem Ks {s_ : List Int} (ae : AN Gq 3 1 (iE .i64) F Cp DS B9 s_ FB) {r : List Int} (hr : GR s_ = some r) :
    SH.Spec Tryz.prog 74 #[.slice Cp DS B9] F (FB ++ []) fun F' L' v => ∃ (rL : LH), v = .tuple #[] ∧ L' = rL ++ [] ∧ AN Gq 3 1 (iE .i64) F' Cp DS B9 r rL := by
 refine sp func74 ntmps74 fun K _ _ => ?_
 rw [GR] at hr
 refine IB (L' := FB ++ []) (by simp) ?_
 refine AM (um ?_)
 refine uv ((AX underlying22 rfl).i (AN.HH ae)) ?_
 obtain ⟨g1, r2⟩ := AW hr
 refine uv (FD rfl rfl g1) ?_
 refine ua (ua (Aa ?_))
 refine Aq ?_
 refine A9 (fun ak e1 F1 L1 => ∃ (ao : List Int) (i : Int) (j : Int) (aa : LH), Dn ak ao i j = some r ∧ F = F1 ∧ L1 = (aa ++ []) ∧ e1.sub [(0, .slice Cp DS B9), (2, .int .i64 i), (3, .int .i64 j)] ∧ AN Gq 3 1 (iE .i64) F1 Cp DS B9 ao aa) FU (m0 kr ⟨s_, 0, (s_.length : Int) - 1, FB, r2, rfl, rfl, z3, ae⟩) ?_
 rintro ak e1 _ _ ⟨ao, i, j, aa, r7, rfl, rfl, bp, ab⟩
 refine Az _ bp ?_
 rcases ak with _ | ak
 ·rw [Dn] at r7; cases r7
 rw [Dn] at r7
 refine Ar (AM (um (um ?_)))
 refine uv (A7 rfl rfl) (Aa ?_)
 refine cQ (fun c9 => ?_) fun c9 => ?_
 ·have bq := AO r7 c9
  refine Al (Ar ?_)
  refine Aq (CF [(.still, 0), (.still, 1), (.still, 2), (.still, 3), (.still, 4), (.still, 5), (.still, 6), (.still, 7), (.still, 8), (.still, 9), (.still, 10), (.still, 11), (.still, 12), (.seq, 13), (.still, 14), (.seq, 15)] (by kernel_rfl) (by kernel_rfl) (trivial) (by rfl) (by kernel_rfl) (mS [0] rfl (Bh rfl) (mS [2] rfl (Bh rfl) (mS [0] rfl (Bh rfl) (mS [3] rfl (Bh rfl) (mS [0] rfl (Bh rfl) (mS [3] rfl (Bh rfl) ?_)))))))
  obtain ⟨x, bk, aq, br⟩ := Bj bq
  obtain ⟨dg, dh, UT, bu, ar, au, bl, rfl, bw, av⟩ := AN.at (Ad _) ab (L := aa ++ []) fP bk.1 aq
  refine mS [18, 19] rfl (AA underlying22 sizeOf3 rfl ar rfl (AN.idx ab bk)) (mL [20] (aa ++ []) rfl (s0 sr) (fun H F' L' aw ax => Ao isAgg3 rfl (au.ext aw ax) (av 0 (by decide))) (mS [0] rfl (Bh rfl) (mS [2] rfl (Bh rfl) ?_)))
  obtain ⟨x2, af, ah, bx⟩ := Bj br
  obtain ⟨di, dk, N3, bz, ay, az, bm, rfl, ca, ba⟩ := AN.at (Ad _) ab (L := aa ++ []) fP af.1 ah
  refine mS [22, 23] rfl (AA underlying22 sizeOf3 rfl ay rfl (AN.idx ab af)) (mL [24] (aa ++ []) rfl (s0 sr) (fun H F' L' aw ax => Ao isAgg3 rfl (az.ext aw ax) (ba 0 (by decide))) ?_)
  obtain ⟨cb, cc, dm, cd, ai, cf, bn, rfl, cg, cj⟩ := AN.at (Ad _) ab (L := aa ++ []) fP af.1 ah
  refine mS [14, 15] rfl (AA underlying22 sizeOf3 rfl ai rfl (AN.idx ab af)) ?_
  refine ⟨_, [(21, .int .i64 x), (26, .pointer (some ⟨cb, cc + (i : Int).toNat * 1, none⟩))], rfl, rfl, z2, by kernel_rfl, ?_⟩; intro H
  obtain ⟨l, cn, cp⟩ := B8 bx
  refine Cv (u := x) sizeOf3 (Ad _) rfl ai rfl rfl (fun _ => .h) ab cn af ?_; intro bb ad
  refine Aa ⟨undef, rfl, AY.refl _, [3, 2], by kernel_rfl, .inl (.inr (fun d h => by cases h)), (fc sm (fc sm nm)), ?_⟩
  obtain ⟨x3, bc, bg, cq⟩ := Bj cp
  obtain ⟨cr, ct, dn, cu, aj, cv, bo, rfl, cw, cx⟩ := AN.at (Ad _) ad (L := bb ++ []) fP bc.1 bg
  refine mS [16, 17] rfl (AA underlying22 sizeOf3 rfl aj rfl (AN.idx ad bc)) ?_
  refine ⟨_, [(25, .int .i64 x2), (27, .pointer (some ⟨cr, ct + (j : Int).toNat * 1, none⟩))], rfl, rfl, z2, by kernel_rfl, ?_⟩; intro H
  obtain ⟨l2, cy, cz⟩ := B8 cq
  refine Cv (u := x2) sizeOf3 (Ad _) rfl aj rfl rfl (fun _ => .h) ad cy bc ?_; intro bh bj
  refine Aa ⟨undef, rfl, AY.refl _, [], by kernel_rfl, .inl (.inl rfl), nm, ?_⟩
  refine DI ?_
  refine Av (id := 1) (Ak (um ?_))
  obtain ⟨da, db⟩ := AW cz
  refine uv (A1 rfl rfl da) (um ?_)
  obtain ⟨dd, de⟩ := AW db
  refine uv (FD rfl rfl dd) ?_
  refine ua (ua (Aa ?_))
  exact le kr ⟨l2, i + 1, j - 1, bh, de, rfl, rfl, z3, bj⟩
 have df := AP r7 c9
 refine AR (Aj (Aj ?_))
 refine Ay (QJ (.inr rfl) results74 ?_)
 obtain rfl := AH df
 exact ⟨_, rfl, rfl, ab⟩
set_option maxHeartbeats 1000000 in
theorem MO (aa : AL 1 (iE .i64) F Af Ae Ac) {r : List Int} {r2 : Int} (hr : KC wide Ac AK stand Cw = some (r, r2)) :
    SH.Spec Tryz.prog 33 #[.agg #[.int .i64 wide, .slice Af Ac.length Ae], .int .i64 AK, .int .i64 stand, .int .i64 Cw] F [] fun F' L' v => ∃ (ra : Option Addr) (rn : Nat) (rc : Nat) (rL : LH), v = .tuple #[.slice ra rn rc, .int .i64 r2] ∧ L' = rL ++ [] ∧ AN 0 3 1 (iE .i64) F' ra rn rc r rL := by
 refine sp func33 ntmps33 fun K _ _ => ?_
 rw [KC] at hr
 refine AM ?_
 refine Bu rfl rfl ?_; intro b1 lg
 refine ua (ua (Aa (Ar (AM ?_))))
 refine uv (As isAgg25 sizeOf25 rfl (Has.own 0 rfl) (Be rfl) rfl) ?_
 refine um (um (um ?_))
 obtain ⟨n, n2, h2, r3⟩ := Bs hr
 refine cV call25 (J3 aa h2) ?_
 refine um (ox rfl rfl rfl (ox rfl rfl rfl (ua (ua (BX (um ?_))))))
 refine uv (Bo rfl rfl) (Aa ?_)
 refine cQ (fun c4 => ?_) fun c4 => ?_
 ·have r5 := AO r3 c4
  refine AM (um (ua (ua (Aa ?_))))
  refine kW kn ?_
  refine Ap (Ah ?_)
  refine Ba results33 (AG rfl) (AG rfl) (sr) ?_
  obtain ⟨rfl, rfl⟩ := BK r5
  exact ⟨_, _, _, [], rfl, rfl, AN.nil _ _ _ _ _⟩
 have r6 := AP r3 c4
 refine Al (AM ?_)
 refine uv (As isAgg25 sizeOf25 rfl (Has.own 0 rfl) (Be rfl) rfl) (um ?_)
 obtain ⟨d, n3, h7, r8⟩ := Bs r6
 refine c0 call73 (I7 aa h7) ?_; rintro _ F9 _ ej j6 ⟨lh, rfl, rfl, en⟩
 replace aa := aa.mono (Ad _) ej
 refine AJ (ln rfl) ?_
 refine um (ox rfl rfl rfl (ox rfl rfl rfl (ua (ua (BX (um (um ?_)))))))
 obtain ⟨bg, av, down, Bb, BW, j7, j8⟩ := Rx r8
 have gr := en; rw [j7] at gr; obtain ⟨br, KW, j9, eo, ak, ⟨_, _, rfl, rfl, ⟨_, _, rfl, ⟨ja, I0, rfl, bu⟩, ⟨_, _, rfl, rfl, ⟨_, _, rfl, rfl, rfl⟩⟩⟩⟩⟩ := gr; subst eo
 have ak : F9 br = some (.cells #[.int .i64 bg, .slice ja av.length I0, .int .i64 down, .int .i64 Bb, .bool BW] 138 j9) := ak
 obtain ⟨l, jb, jc⟩ := Aw j8
 refine c0 call67 (IV ak bu jb) ?_; rintro _ ep _ ca er ⟨ay, az, ba, af, rfl, rfl, ae⟩
 replace aa := aa.mono (Ad _) ca
 replace bu := bu.mono (Ad _) ca
 replace ak := ca _ _ ak
 replace ae := ae.new fun p hp => er p (by simp [hp])
 refine AJ (lp (ln rfl)) (kO (kf (fS fO) kr) ?_)
 refine A6 rfl zeroValue22 ?_; intro ao jd
 refine Bt (i := 0) sizeOf22 rfl rfl rfl rfl (Be rfl) (AJ rfl ?_)
 refine BX (um ?_)
 refine bA (cs := #[.int .i64 Cw]) Br [.int .i64 Cw] ?_; intro dx et
 have cp : AN K.w0.heap.size 3 1 (iE .i64) ep (some ⟨dx, 0, none⟩) 1 1 [Cw] [(dx, ce #[.int .i64 Cw] 3)] := AN.BS (vss := [[.int .i64 Cw]]) (Ad _) et (.cons rfl .nil) rfl rfl (by simp [maxLen])
 generalize cb : ([(dx, ce #[.int .i64 Cw] 3)] : LH) = cc at cp
 refine AV (L' := cc ++ ((ao, ce #[.slice ay az ba] 22) :: ((b1, ce #[.int .i64 wide, .slice Af Ac.length Ae] 25) :: (af ++ [])))) (by rw [← cb]; exact fO) ?_
 refine AV (L' := (ao, ce #[.slice ay az ba] 22) :: ((b1, ce #[.int .i64 wide, .slice Af Ac.length Ae] 25) :: (cc ++ (af ++ [])))) (List.Perm.symm (fC (fC fP))) ?_
 refine ua (Aa ?_)
 obtain ⟨out, je, gu⟩ := Aw jc
 refine AQ (fun e1 F1 L1 => ∃ (eu : Option Addr) (ew : Nat) (ey : Nat) (bh : LH), AY ep F1 ∧ L1 = (bh ++ []) ∧ e1.sub [(15, .slice eu ew ey)] ∧ AN K.w0.heap.size 3 1 (iE .i64) F1 eu ew ey out bh) ?_ ?_
 ·clear gu
  refine AM (um ?_)
  refine A6 rfl zeroValue3 ?_; intro jf ez
  refine Bt (i := 0) sizeOf3 rfl rfl rfl rfl (Be rfl) (AJ rfl (Aa (Aq ?_)))
  refine A9 (fun dy e1 F1 L1 => ∃ (bj : List Int) (p : Int) (bk : Option Addr) (bl : Nat) (bm : Nat) (ah : LH) (aq : Nat), Jg Ac stand bg av down Bb BW l dy bj p = some out ∧ AY ep F1 ∧ L1 = ((aq, ce #[.int .i64 p] 3) :: ((ao, ce #[.slice ay az ba] 22) :: ((b1, ce #[.int .i64 wide, .slice Af Ac.length Ae] 25) :: (af ++ (ah ++ []))))) ∧ e1.sub [(2, .int .i64 stand), (4, .pointer (some ⟨b1, 0, none⟩)), (12, .pointer (some ⟨br, 0, none⟩)), (14, .pointer (some ⟨ao, 0, none⟩)), (15, .slice bk bl bm), (16, .pointer (some ⟨aq, 0, none⟩))] ∧ AN K.w0.heap.size 3 1 (iE .i64) F1 bk bl bm bj ah ∧ K.w0.heap.size ≤ aq) FU (m0 (kc (kc (kc (kg (fS fP) kr)))) ⟨[Cw], Cw, (some ⟨dx, 0, none⟩), 1, 1, cc, jf, je, AY.refl _, rfl, z6, cp, ez⟩) ?_
  rintro dy e1 gv _ ⟨bj, p, bk, bl, bm, ah, aq, cq, bb, rfl, fa, bn, jg⟩
  refine Az _ fa ?_
  replace aa := aa.mono (Ad _) bb
  replace bu := bu.mono (Ad _) bb
  replace ae := ae.mono (Ad _) bb
  replace ak := bb _ _ ak
  rcases dy with _ | dy
  ·rw [Jg] at cq; cases cq
  rw [Jg] at cq
  refine Ar (AM ?_)
  refine uv (Ao isAgg3 rfl (Has.own 0 rfl) rfl) (um (uv (Bo rfl rfl) (Aa ?_)))
  refine cQ (fun fb => ?_) fun fb => ?_
  ·have jh := AO cq fb
   refine Al ?_
   obtain ⟨cr, p2, ji, gw⟩ := Bs jh
   refine AQ (fun e1 F1 L1 => ∃ (dz : Option Addr) (eb : Nat) (eg : Nat) (bo : LH), AY gv F1 ∧ L1 = ((aq, ce #[.int .i64 p2] 3) :: ((ao, ce #[.slice ay az ba] 22) :: ((b1, ce #[.int .i64 wide, .slice Af Ac.length Ae] 25) :: (af ++ (bo ++ []))))) ∧ e1.sub [(2, .int .i64 stand), (4, .pointer (some ⟨b1, 0, none⟩)), (12, .pointer (some ⟨br, 0, none⟩)), (14, .pointer (some ⟨ao, 0, none⟩)), (15, .slice dz eb eg), (16, .pointer (some ⟨aq, 0, none⟩))] ∧ AN K.w0.heap.size 3 1 (iE .i64) F1 dz eb eg cr bo) ?_ ?_
   ·clear gw
    refine Aq (AM ?_)
    refine A6 rfl zeroValue3 ?_; intro aw jj
    refine Bt (i := 0) sizeOf3 rfl rfl rfl rfl (Be rfl) (AJ rfl (Aa ?_))
    obtain ⟨before, jk, gy⟩ := Aw ji
    refine jF (((aw, ce #[.int .i64 before] 3) :: ((aq, ce #[.int .i64 p] 3) :: ((ao, ce #[.slice ay az ba] 22) :: ((b1, ce #[.int .i64 wide, .slice Af Ac.length Ae] 25) :: (af ++ (ah ++ []))))))) [(2, .int .i64 stand), (4, .pointer (some ⟨b1, 0, none⟩)), (12, .pointer (some ⟨br, 0, none⟩)), (14, .pointer (some ⟨ao, 0, none⟩)), (15, .slice bk bl bm), (16, .pointer (some ⟨aq, 0, none⟩)), (17, .pointer (some ⟨aw, 0, none⟩))] ?_ fun jl bw => ?_
    ·clear gy
     refine AM (uv (Am BN rfl) (uv (Ao isAgg23 rfl (Has.own 3 rfl) rfl) (uv (AX underlying23 rfl) ?_)))
     refine um (Aa ?_)
     refine Aq ?_
     refine A9 (fun gz e1 F1 L1 => LA Ac gz fun tl k => ∃ (aj : Int), Je bg av down Bb BW l p tl k aj = some before ∧ AY gv F1 ∧ L1 = ((aw, ce #[.int .i64 aj] 3) :: ((aq, ce #[.int .i64 p] 3) :: ((ao, ce #[.slice ay az ba] 22) :: ((b1, ce #[.int .i64 wide, .slice Af Ac.length Ae] 25) :: (af ++ (ah ++ [])))))) ∧ e1.sub [(2, .int .i64 stand), (4, .pointer (some ⟨b1, 0, none⟩)), (12, .pointer (some ⟨br, 0, none⟩)), (14, .pointer (some ⟨ao, 0, none⟩)), (15, .slice bk bl bm), (16, .pointer (some ⟨aq, 0, none⟩)), (17, .pointer (some ⟨aw, 0, none⟩)), (49, .int .i64 (Ac.length : Int)), (50, .int .i64 k)]) _ (m0 kr ⟨_, _, rfl, BO.start _, -1, jk, AY.refl _, rfl, (sc rfl z8)⟩) ?_
     rintro gz e1 lj _ ⟨tl, k, fe, cd, aj, eh, bc, rfl, ff⟩
     refine Az _ ff ?_
     replace aa := aa.mono (Ad _) bc
     replace bu := bu.mono (Ad _) bc
     replace ae := ae.mono (Ad _) bc
     replace ak := bc _ _ ak
     refine AM (uv (A7 rfl rfl) ?_)
     refine Aa (Ar ?_)
     refine cQ (fun ei => ?_) fun ei => ?_
     ·obtain ⟨x, lk, rfl, jm, ll, fg⟩ := BO.succ cd ei
      rw [Je] at eh
      refine Al ?_
      obtain ⟨ar, jn, ia⟩ := Aw eh
      refine jF (((aw, ce #[.int .i64 ar] 3) :: ((aq, ce #[.int .i64 p] 3) :: ((ao, ce #[.slice ay az ba] 22) :: ((b1, ce #[.int .i64 wide, .slice Af Ac.length Ae] 25) :: (af ++ (ah ++ []))))))) [(2, .int .i64 stand), (4, .pointer (some ⟨b1, 0, none⟩)), (12, .pointer (some ⟨br, 0, none⟩)), (14, .pointer (some ⟨ao, 0, none⟩)), (15, .slice bk bl bm), (16, .pointer (some ⟨aq, 0, none⟩)), (17, .pointer (some ⟨aw, 0, none⟩)), (49, .int .i64 (Ac.length : Int)), (50, .int .i64 k)] ?_ fun jo bx => ?_
      ·clear ia
       refine Aq ?_
       refine AM (um ?_)
       refine A6 rfl zeroValue3 ?_; intro bp jq
       refine Bt (i := 0) sizeOf3 rfl rfl rfl rfl (Be rfl) (AJ rfl ?_)
       refine BX (um ?_)
       refine uv (Ao isAgg3 rfl (Has.own 0 rfl) rfl) ?_
       obtain ⟨y, jr, js⟩ := Aw jn
       refine c0 call70 (HC ak bu jr) ?_; rintro _ lq _ ct jt ⟨ju, rfl, rfl, cf⟩
       replace ae := ae.mono (Ad _) ct
       refine AJ (ln rfl) (Aa (Aq ?_))
       refine HP (encs := (fun x : Int × Int => #[.int .i64 x.1, .int .i64 x.2])) (xs := y) rfl call101 rfl (fun _ => rfl) cf (fun pre F1 L1 => ∃ (cn : List (Int × Int)) (ab : Int), y = pre ++ cn ∧ Io l p k cn ab = some ar ∧ L1 = ((bp, ce #[.int .i64 k] 3) :: ((aw, ce #[.int .i64 ab] 3) :: ((aq, ce #[.int .i64 p] 3) :: ((ao, ce #[.slice ay az ba] 22) :: ((b1, ce #[.int .i64 wide, .slice Af Ac.length Ae] 25) :: (af ++ (ah ++ [])))))))) (fun _ _ _ => False) ?_ ?_ ?_ ?_ ?_ ?_
       ·rintro pre F1 F2 L1 ⟨cn, ab, au, fh, rfl⟩ hx; exact ⟨cn, ab, au, fh, rfl⟩
       ·intro c F1 F2 L1 h hx; exact h
       ·exact ⟨_, aj, rfl, js, rfl⟩
       ·rintro jv ib ic ie ig ij fi ik pre x2 lr ax jw _ cu ⟨cn, ab, au, cv, rfl⟩
        obtain rfl := KB au ax
        rw [Io] at cv
        replace ae := ae.mono (Ad _) cu
        refine Az [(2, .int .i64 stand), (4, .pointer (some ⟨b1, 0, none⟩)), (12, .pointer (some ⟨br, 0, none⟩)), (14, .pointer (some ⟨ao, 0, none⟩)), (15, .slice bk bl bm), (16, .pointer (some ⟨aq, 0, none⟩)), (17, .pointer (some ⟨aw, 0, none⟩)), (18, .pointer (some ⟨bp, 0, none⟩)), (49, .int .i64 (Ac.length : Int)), (50, .int .i64 k), (56, .int .i64 x2.1), (57, .int .i64 x2.2)] (by exact (sc rfl (sc rfl (sc rfl (sc rfl z8))))) ?_
        refine AM (ua (Aa (Ak (ua (Aa ?_)))))
        refine ⟨rfl, ?_⟩
        refine Aq ?_
        obtain ⟨k2, cw, cg⟩ := Aw cv
        refine jE (((bp, ce #[.int .i64 k] 3) :: ((aw, ce #[.int .i64 ab] 3) :: ((aq, ce #[.int .i64 p] 3) :: ((ao, ce #[.slice ay az ba] 22) :: ((b1, ce #[.int .i64 wide, .slice Af Ac.length Ae] 25) :: (af ++ (ah ++ [])))))))) [(2, .int .i64 stand), (4, .pointer (some ⟨b1, 0, none⟩)), (12, .pointer (some ⟨br, 0, none⟩)), (14, .pointer (some ⟨ao, 0, none⟩)), (15, .slice bk bl bm), (16, .pointer (some ⟨aq, 0, none⟩)), (17, .pointer (some ⟨aw, 0, none⟩)), (18, .pointer (some ⟨bp, 0, none⟩)), (49, .int .i64 (Ac.length : Int)), (50, .int .i64 k), (56, .int .i64 x2.1), (57, .int .i64 x2.2), (80, .bool k2)] ?_ ?_
        ·clear cg
         refine Iv (by kernel_rfl) (by kernel_rfl) (by kernel_rfl) (wm (wv (Ao isAgg3 rfl (Has.own 2 rfl) rfl) (wv (Bv rfl rfl) (wm ?_))))
         by_cases ai : x2.1 = p
         ·have fj := AO cw ai
          refine AS (b := true) 61 rfl (Env.DX rfl ai) (wv (Ao isAgg22 rfl (Has.own 3 rfl) rfl) (AS (b := true) 61 rfl (Env.DX rfl ai) (wv (Ao isAgg3 rfl (Has.own 0 rfl) rfl) (AS (b := true) 61 rfl (Env.DX rfl ai) ?_))))
          obtain ⟨x3, bq, bz, cx⟩ := Bj fj
          obtain ⟨jx, jz, kb, il, cy, cz, fk, rfl, im, da⟩ := AN.at (Ad _) ae (L := (bp, ce #[.int .i64 k] 3) :: ((aw, ce #[.int .i64 ab] 3) :: ((aq, ce #[.int .i64 p] 3) :: ((ao, ce #[.slice ay az ba] 22) :: ((b1, ce #[.int .i64 wide, .slice Af Ac.length Ae] 25) :: (af ++ (ah ++ []))))))) (fC (fC (fC (fC (fC fP))))) bq.1 bz
          refine wv (AA underlying22 sizeOf3 rfl cy rfl (AN.idx ae bq)) (AS (b := true) 61 rfl (Env.DX rfl ai) (wv (Ao isAgg3 rfl cz (da 0 (by decide))) (AS (b := true) 61 rfl (Env.DX rfl ai) (wv (Bo rfl rfl) (wv (Au (A5 rfl ai) rfl) (wm ?_))))))
          by_cases ad : x3 ≠ (-1)
          ·have fl := AO cx ad
           refine AS (b := true) 68 rfl (Env.DX rfl ad) (wv (Ao isAgg22 rfl (Has.own 3 rfl) rfl) (AS (b := true) 68 rfl (Env.DX rfl ad) (wv (Ao isAgg3 rfl (Has.own 0 rfl) rfl) (AS (b := true) 68 rfl (Env.DX rfl ad) ?_))))
           obtain ⟨kh, kj, kl, iq, db, dd, fm, rfl, ir, de⟩ := AN.at (Ad _) ae (L := (bp, ce #[.int .i64 k] 3) :: ((aw, ce #[.int .i64 ab] 3) :: ((aq, ce #[.int .i64 p] 3) :: ((ao, ce #[.slice ay az ba] 22) :: ((b1, ce #[.int .i64 wide, .slice Af Ac.length Ae] 25) :: (af ++ (ah ++ []))))))) (fC (fC (fC (fC (fC fP))))) bq.1 bz
           refine wv (AA underlying22 sizeOf3 rfl db rfl (AN.idx ae bq)) (AS (b := true) 68 rfl (Env.DX rfl ad) (wv (Ao isAgg3 rfl dd (de 0 (by decide))) ?_))
           refine AS (b := true) 68 rfl (Env.DX rfl ad) (wm (AS (b := true) 68 rfl (Env.DX rfl ad) ?_))
           obtain ⟨fo, fp⟩ := AW fl
           refine wv (A1 rfl rfl fo) (AS (b := true) 68 rfl (Env.DX rfl ad) (wv (Ao isAgg22 rfl (Has.own 3 rfl) rfl) (AS (b := true) 68 rfl (Env.DX rfl ad) (wv (Ao isAgg3 rfl (Has.own 2 rfl) rfl) (AS (b := true) 68 rfl (Env.DX rfl ad) ?_)))))
           obtain ⟨x4, df, dg, fq⟩ := Bj fp
           obtain ⟨km, ko, kt, iu, dh, di, fs, rfl, iv, dk⟩ := AN.at (Ad _) ae (L := (bp, ce #[.int .i64 k] 3) :: ((aw, ce #[.int .i64 ab] 3) :: ((aq, ce #[.int .i64 p] 3) :: ((ao, ce #[.slice ay az ba] 22) :: ((b1, ce #[.int .i64 wide, .slice Af Ac.length Ae] 25) :: (af ++ (ah ++ []))))))) (fC (fC (fC (fC (fC fP))))) df.1 dg
           refine wv (AA underlying22 sizeOf3 rfl dh rfl (AN.idx ae df)) (AS (b := true) 68 rfl (Env.DX rfl ad) (wv (Ao isAgg3 rfl di (dk 0 (by decide))) (AS (b := true) 68 rfl (Env.DX rfl ad) (wv (Bv rfl rfl) (wv (Au (A5 rfl ad) rfl) (BD ?_))))))
           obtain rfl := AH fq
           exact mi kr ⟨rfl, rfl, (sc rfl (sc rfl (sc rfl (sc rfl (sc rfl z8)))))⟩
          have ft := AP cx ad
          refine AE (b' := false) 68 rfl (Env.DY rfl ad) rfl rfl (AE (b' := false) 68 rfl (Env.DY rfl ad) rfl rfl (AE (b' := false) 68 rfl (Env.DY rfl ad) rfl rfl (AE (b' := false) 68 rfl (Env.DY rfl ad) rfl rfl (AE (b' := false) 68 rfl (Env.DY rfl ad) rfl rfl (AE (b' := false) 68 rfl (Env.DY rfl ad) rfl rfl (AE (b' := false) 68 rfl (Env.DY rfl ad) rfl rfl (AE (b' := false) 68 rfl (Env.DY rfl ad) rfl rfl (AE (b' := false) 68 rfl (Env.DY rfl ad) rfl rfl (AE (b' := false) 68 rfl (Env.DY rfl ad) rfl rfl ?_)))))))))
          refine AE (b' := false) 68 rfl (Env.DY rfl ad) rfl rfl (wv (At (AZ rfl ad) rfl) (BD ?_))
          obtain rfl := AH ft
          exact mi kr ⟨rfl, rfl, (sc rfl (sc rfl (sc rfl (sc rfl (sc rfl z8)))))⟩
         have fv := AP cw ai
         refine AE (b' := false) 61 rfl (Env.DY rfl ai) rfl rfl (AE (b' := false) 61 rfl (Env.DY rfl ai) rfl rfl (AE (b' := false) 61 rfl (Env.DY rfl ai) rfl rfl (AE (b' := false) 61 rfl (Env.DY rfl ai) rfl rfl (AE (b' := false) 61 rfl (Env.DY rfl ai) rfl rfl ?_))))
         refine wv (At (AZ rfl ai) rfl) ?_
         refine wm (AE (b' := false) 68 rfl rfl rfl rfl (AE (b' := false) 68 rfl rfl rfl rfl (AE (b' := false) 68 rfl rfl rfl rfl (AE (b' := false) 68 rfl rfl rfl rfl (AE (b' := false) 68 rfl rfl rfl rfl (AE (b' := false) 68 rfl rfl rfl rfl (AE (b' := false) 68 rfl rfl rfl rfl (AE (b' := false) 68 rfl rfl rfl rfl (AE (b' := false) 68 rfl rfl rfl rfl ?_)))))))))
         refine AE (b' := false) 68 rfl rfl rfl rfl (AE (b' := false) 68 rfl rfl rfl rfl ?_)
         refine wv (At rfl rfl) (BD ?_)
         obtain rfl := AH fv
         exact mi kr ⟨rfl, rfl, (sc rfl (sc rfl (sc rfl (sc rfl (sc rfl z8)))))⟩
        refine AU rfl (fun cj => ?_) (fun cj => ?_)
        ·have fw := bt cg cj
         refine Ak (uv (Ao isAgg3 rfl (Has.own 0 rfl) rfl) (Bt (i := 1) sizeOf3 rfl rfl rfl rfl (Be rfl) (AJ rfl ?_)))
         refine Aa (Av (id := 5) ?_)
         refine ⟨(bp, ce #[.int .i64 k] 3) :: ((aw, ce #[.int .i64 k] 3) :: ((aq, ce #[.int .i64 p] 3) :: ((ao, ce #[.slice ay az ba] 22) :: ((b1, ce #[.int .i64 wide, .slice Af Ac.length Ae] 25) :: (af ++ (ah ++ [])))))), ⟨_, .refl _, sr⟩, ?_⟩; exact ⟨_, k, (by rw [ax]; simp), fw, rfl⟩
        have fx := bf cg cj
        refine Al (Av (id := 5) ?_)
        refine ⟨(bp, ce #[.int .i64 k] 3) :: ((aw, ce #[.int .i64 ab] 3) :: ((aq, ce #[.int .i64 p] 3) :: ((ao, ce #[.slice ay az ba] 22) :: ((b1, ce #[.int .i64 wide, .slice Af Ac.length Ae] 25) :: (af ++ (ah ++ [])))))), ⟨_, .refl _, sr⟩, ?_⟩; exact ⟨_, ab, (by rw [ax]; simp), fx, rfl⟩
       ·rintro ku _ dm ⟨cn, ab, au, dn, rfl⟩
        obtain rfl := LJ au; rw [Io] at dn
        refine Av (id := 4) (Av (id := 3) ?_)
        obtain rfl := AH dn
        exact mi (kd kr) ⟨(ct.trans dm), rfl, (sc rfl z8)⟩
       intro c F1 L1 hx h; exact h.elim
      replace aa := aa.mono (Ad _) bx
      refine Ak (uv (A1 rfl rfl (BO.DZ cd ei (AL.lt aa))) ?_)
      refine um (Aa ?_)
      subst fe; exact le kr ⟨_, _, rfl, fg, ar, ia, (bc.trans bx), rfl, (sc rfl z8)⟩
     obtain rfl := BO.zero cd ei
     rw [Je] at eh
     refine AR (Aj (Aj ?_))
     refine Ay ?_
     obtain rfl := AH eh
     exact mi kr ⟨bc, rfl, z7⟩
    replace bn := bn.mono (Ad _) bw
    refine AM (uv (Ao isAgg3 rfl (Has.own 0 rfl) rfl) (Bt (i := 1) sizeOf3 rfl rfl rfl rfl (Be rfl) (AJ rfl ?_)))
    refine Aa (Ak (um ?_))
    refine uv (Ao isAgg3 rfl (Has.own 1 rfl) rfl) ?_
    refine bA (cs := #[.int .i64 before]) Br [.int .i64 before] ?_; intro kv iw
    obtain ⟨fy, ga, gb, gg⟩ := E9 gy
    refine DB (xs := bj) (ys := [before]) (zs := fy) rfl Br rfl rfl (Nat.le_refl _) (fun _ => .c (.c (.c (.c (.c (.s .h)))))) bn (GO.box (vss := [[.int .i64 before]]) (ys := [before]) 0 rfl (Ad _) (.cons rfl .nil) rfl rfl) ga gb (by decide) ?_; intro gh gi gj dp dq
    refine kO (kd kr) ?_
    refine ua (Aa (Av (id := 1) ?_))
    obtain ⟨rfl, rfl⟩ := BK gg
    exact mi (kd kr) ⟨gh, gi, gj, dp, bw, rfl, z6, dq⟩
   rintro e1 kz _ ⟨dz, eb, eg, bo, dr, rfl, dt, gk⟩
   refine Az _ dt (AM (uv (Ao isAgg3 rfl (Has.own 0 rfl) rfl) ?_))
   refine Aa (Ak ?_)
   refine A6 rfl zeroValue3 ?_; intro gl du
   refine Bt (i := 0) sizeOf3 rfl rfl rfl rfl (Be rfl) (AJ rfl (Aa ?_))
   exact le (kc (kd kr)) ⟨cr, p2, dz, eb, eg, bo, gl, gw, (bb.trans dr), rfl, z6, gk, du⟩
  have gm := AP cq fb
  refine AR (Aj (Aj ?_))
  refine Ay ?_
  obtain rfl := AH gm
  exact mi (kd (kd (kd (kx kr)))) ⟨bk, bl, bm, ah, bb, rfl, z1, bn⟩
 rintro e1 l0 _ ⟨eu, ew, ey, bh, iy, rfl, dv, gn⟩
 refine Az _ dv ?_
 refine AM (um ?_)
 obtain ⟨s_, gp, gq⟩ := Aw gu
 refine IG (Lb := bh ++ []) (Lr := []) rfl call74 rfl rfl rfl (pT pR (lp (ln rfl))) (Ks gn gp) ?_; rintro _ la _ iz j0 j4 ⟨j5, rfl, rfl, dw⟩
 refine AJ (lp (ln rfl)) ?_
 refine BX (um (ua (ua (Aa (Ap ?_)))))
 refine Ba results33 (AG rfl) (AG rfl) (sr) ?_
 obtain ⟨rfl, rfl⟩ := BK gq
 exact ⟨_, _, _, _, rfl, rfl, dw.any⟩
theorem HZ {r : Int} (hr : Fa AK AF = some r) :
    Bz Tryz.prog 18 #[.agg #[.int .i64 AK, .int .i64 AF]] F (.int .i64 r) := by
 refine sp func18 ntmps18 fun K _ _ => ?_
 rw [Fa] at hr
 refine AM ?_
 refine Bu rfl rfl ?_; intro b1 ae
 refine ua (Aa (Ar ?_))
 obtain ⟨k, h2, r3⟩ := Aw hr
 refine jE ([]) [(12, .bool k)] ?_ ?_
 ·clear r3
  refine Ak (uv (Am GX rfl) (uv (Ao isAgg27 rfl (Has.own 0 rfl) rfl) ?_))
  obtain ⟨ok, h4, r5⟩ := Aw h2
  refine cV call61 (KI h4) (uv (Cf rfl) (um ?_))
  rcases Bf (!ok) with c6 | c6
  ·have r7 := bt r5 c6
   refine fB c6 (fB c6 (fB c6 (fB c6 ?_)))
   refine uv (Au (Es rfl c6) rfl) (Aa ?_)
   obtain rfl := AH r7
   exact mi kn ⟨rfl, rfl, z1⟩
  have r8 := bf r5 c6
  refine nB c6 (uv (Am GW rfl) (nB c6 (uv (Ao isAgg3 rfl (Has.own 0 rfl) rfl) (nB c6 ?_))))
  obtain ⟨af, h9, aa⟩ := Aw r8
  refine cV call55 (G5 h9) (nB c6 (uv (Cf rfl) (uv (At (Es rfl c6) rfl) (Aa ?_))))
  obtain rfl := AH aa
  exact mi kn ⟨rfl, rfl, z1⟩
 refine AU rfl (fun Lv => ?_) (fun Lv => ?_)
 ·have ab := bt r3 Lv
  refine AM (ua (Aa (Ap (Ah ?_))))
  refine B2 results18 ?_
  obtain rfl := AH ab
  exact rfl
 have ad := bf r3 Lv
 refine Al (AM (ua (Aa (Ap ?_))))
 refine B2 results18 ?_
 obtain rfl := AH ad
 exact rfl
set_option maxHeartbeats 1000000 in
theorem Nf (ad : F OR = some (.cells #[.int .i64 wide, .slice Af Ac.length Ae, .int .i64 down, .int .i64 Bb, .bool BW] 138 Ub)) (aa : AL 1 (iE .i64) F Af Ae Ac) {r : List (List Bool)} (hr : GZ wide Ac down Bb BW AF = some r) :
    SH.Spec Tryz.prog 104 #[.pointer (some ⟨OR, 0, none⟩), .int .i64 AF] F [] fun F' L' v => ∃ (ra : Option Addr) (rn : Nat) (rc : Nat) (rL : LH), v = .slice ra rn rc ∧ L' = rL ++ [] ∧ AN 0 113 30 (Mo 30 cB) F' ra rn rc r rL := by
 refine sp func104 ntmps104 fun K _ _ => ?_
 rw [GZ] at hr
 refine AM (ua (BX (um ?_)))
 refine uv (BU rfl) (uv (Am HS rfl) (uv (Am BN rfl) (uv (Ao isAgg23 rfl (Has.frozen ad) rfl) (uv (AX underlying23 rfl) ?_))))
 obtain ⟨g1, r2⟩ := AW hr
 obtain ⟨l, h3, r4⟩ := B8 r2
 refine Ld (R := (Mo 30 cB)) (z0 := List.replicate 30 false) (zs := l) rfl Lf (by decide) (BP (n := 30) (sz := 1) BY) (fun _ => ⟨rfl, rfl⟩) rfl g1 h3 (fun _ => .n) ?_; intro a5 n8 er et
 refine ua (Aa ?_)
 obtain ⟨out, eu, di⟩ := Aw r4
 refine AQ (fun e1 F1 L1 => ∃ (az : LH), AY F F1 ∧ L1 = (az ++ []) ∧ e1.sub [(5, .slice a5 n8 n8)] ∧ AN K.w0.heap.size 113 30 (Mo 30 cB) F1 a5 n8 n8 out az) ?_ ?_
 ·clear di
  refine AM (um ?_)
  refine uv (BU rfl) (uv (Am HS rfl) (uv (Am BN rfl) (uv (Ao isAgg23 rfl (Has.frozen ad) rfl) (uv (AX underlying23 rfl) ?_))))
  refine um (Aa ?_)
  refine Aq ?_
  refine A9 (fun dk e1 F1 L1 => LA Ac dk fun tl k => ∃ (ao : List (List Bool)) (ae : LH), Df wide Ac down Bb BW AF tl k ao = some out ∧ AY F F1 ∧ L1 = (ae ++ []) ∧ e1.sub [(0, .pointer (some ⟨OR, 0, none⟩)), (1, .int .i64 AF), (5, .slice a5 n8 n8), (21, .slice Af Ac.length Ae), (22, .int .i64 (Ac.length : Int)), (23, .int .i64 k)] ∧ AN K.w0.heap.size 113 30 (Mo 30 cB) F1 a5 n8 n8 ao ae) _ (m0 kr ⟨_, _, rfl, BO.start _, l, er, eu, AY.refl _, rfl, z6, et⟩) ?_
  rintro dk e1 ew _ ⟨tl, k, bw, ba, ao, ae, br, aq, rfl, bx, ah⟩
  refine Az _ bx ?_
  replace aa := aa.mono (Ad _) aq
  replace ad := aq _ _ ad
  refine AM (uv (A7 rfl rfl) ?_)
  refine Aa (Ar ?_)
  refine cQ (fun I0 => ?_) fun I0 => ?_
  ·obtain ⟨x, gb, rfl, bz, dm, ca⟩ := BO.succ ba I0
   rw [Df] at br
   refine Al ?_
   obtain ⟨bb, dn, dp⟩ := Aw br
   refine AQ (fun e1 F1 L1 => ∃ (ar : LH), AY ew F1 ∧ L1 = (ar ++ []) ∧ e1.sub [(0, .pointer (some ⟨OR, 0, none⟩)), (1, .int .i64 AF), (5, .slice a5 n8 n8), (21, .slice Af Ac.length Ae), (22, .int .i64 (Ac.length : Int)), (23, .int .i64 k)] ∧ AN K.w0.heap.size 113 30 (Mo 30 cB) F1 a5 n8 n8 bb ar) ?_ ?_
   ·clear dp
    refine Aq ?_
    refine AM (um ?_)
    obtain ⟨gg, gh, gi, ey, cb, cc, dq, rfl, ez, cd⟩ := AL.at (Ad _) aa (ae ++ []) dm.1 bz
    refine uv (AA underlying23 sizeOf32 rfl cb rfl dm) (uv (Ao isAgg32 rfl cc (cd 0 (by decide))) ?_)
    refine ua (ua (Aa (Ar (AM (um ?_)))))
    refine uv (Bo rfl rfl) (Aa ?_)
    refine cQ (fun cf => ?_) fun cf => ?_
    ·have fa := AO dn cf
     refine AR (Aj ?_)
     refine Ay ?_
     obtain rfl := AH fa
     exact mi kr ⟨ae, AY.refl _, rfl, z6, ah⟩
    have fb := AP dn cf
    refine Al (AM (um (um ?_)))
    obtain ⟨l2, fe, ff⟩ := Aw fb
    refine c0 call67 (IV ad aa fe) ?_; rintro _ fg _ au cg ⟨dr, dt, du, ai, rfl, rfl, af⟩
    replace aa := aa.mono (Ad _) au
    replace ah := ah.mono (BP (n := 30) (sz := 1) BY) au
    replace ad := au _ _ ad
    replace af := af.new fun p hp => cg p (by simp [hp])
    refine AJ (lp (ln rfl)) (uv ((AX underlying22 rfl).i (AN.HH af)) ?_)
    refine um (Aa ?_)
    refine Aq ?_
    refine A9 (fun dv e1 F1 L1 => LA l2 dv fun dw k2 => ∃ (av : List (List Bool)) (ab : LH), Cq Ac AF k dw k2 av = some bb ∧ fg = F1 ∧ L1 = (ab ++ (ai ++ [])) ∧ e1.sub [(0, .pointer (some ⟨OR, 0, none⟩)), (1, .int .i64 AF), (5, .slice a5 n8 n8), (6, .int .i64 k), (21, .slice Af Ac.length Ae), (22, .int .i64 (Ac.length : Int)), (23, .int .i64 k), (32, .slice dr dt du), (33, .int .i64 (l2.length : Int)), (34, .int .i64 k2)] ∧ AN K.w0.heap.size 113 30 (Mo 30 cB) F1 a5 n8 n8 av ab) _ (m0 (kg (fS fP) kr) ⟨_, _, rfl, BO.start _, ao, ae, ff, rfl, rfl, (sc rfl (sc rfl z8)), ah⟩) ?_
    rintro dv e1 _ _ ⟨dw, k2, bh, aw, av, ab, bu, rfl, rfl, cj, aj⟩
    refine Az _ cj (AM (uv (A7 rfl rfl) ?_))
    refine Aa (Ar ?_)
    refine cQ (fun bj => ?_) fun bj => ?_
    ·obtain ⟨x2, gj, rfl, cn, dx, bk⟩ := BO.succ aw bj
     rw [Cq] at bu
     refine Al (Ar ?_)
     refine Aq ?_
     refine AM (um ?_)
     obtain ⟨gk, gl, gm, fh, cp, cq, dy, rfl, fi, cr⟩ := AN.at (Ad _) af (L := ab ++ (ai ++ [])) (fS fP) dx.1 cn
     refine uv (AA underlying22 sizeOf3 rfl cp rfl (AN.idx af dx)) (uv (Ao isAgg3 rfl cq (cr 0 (by decide))) ?_)
     refine ua (ua (Aa ?_))
     obtain ⟨k3, fj, ct⟩ := Aw bu
     refine jE ((ab ++ (ai ++ []))) [(0, .pointer (some ⟨OR, 0, none⟩)), (1, .int .i64 AF), (5, .slice a5 n8 n8), (6, .int .i64 k), (8, .int .i64 k2), (21, .slice Af Ac.length Ae), (22, .int .i64 (Ac.length : Int)), (23, .int .i64 k), (32, .slice dr dt du), (33, .int .i64 (l2.length : Int)), (34, .int .i64 k2), (52, .bool k3)] ?_ ?_
     ·clear ct
      refine Ak (um ?_)
      refine uv (BU rfl) (uv (Am HS rfl) (uv (Am BN rfl) (uv (Ao isAgg23 rfl (Has.frozen ad) rfl) (um ?_))))
      obtain ⟨x3, dz, cu, eb⟩ := Bj fj
      obtain ⟨gn, gp, gq, fk, cv, cw, eg, rfl, fl, cx⟩ := AL.at (Ad _) aa (ab ++ (ai ++ [])) dz.1 cu
      refine uv (AA underlying23 sizeOf32 rfl cv rfl dz) (uv (Ao isAgg32 rfl cw (cx 0 (by decide))) (uv (Bv rfl rfl) (um ?_)))
      by_cases ak : x3 = 1
      ·have fm := AO eb ak
       refine nT ak (um (nT ak (um (nT ak ?_))))
       obtain ⟨ok, fo, fp⟩ := Aw fm
       refine cV call55 (G5 fo) (uv (Au (A5 rfl ak) rfl) (Aa ?_))
       obtain rfl := AH fp
       exact mi kr ⟨rfl, rfl, (sc rfl (sc rfl (sc rfl (sc rfl z8))))⟩
      have fq := AP eb ak
      refine fF ak (fF ak (fF ak ?_))
      refine uv (At (AZ rfl ak) rfl) (Aa ?_)
      obtain rfl := AH fq
      exact mi kr ⟨rfl, rfl, (sc rfl (sc rfl (sc rfl (sc rfl z8))))⟩
     refine AU rfl (fun cy => ?_) (fun cy => ?_)
     ·have fs := bt ct cy
      refine Ak (um (um (um ?_)))
      obtain ⟨x4, cz, bl, ft⟩ := Bj fs
      obtain ⟨fv, fw, fx, eh, ax, ei, da, ⟨rfl, bc⟩, ej, en⟩ := AN.at (BP (n := 30) (sz := 1) BY) aj (L := ab ++ (ai ++ [])) fP cz.1 bl
      refine uv (AA underlying109 sizeOf113 rfl ax rfl (AN.idx aj cz)) ?_
      obtain ⟨x5, bg, eo, db⟩ := Bj ft
      refine uv (MX underlying113 sizeOf4 rfl rfl (NG bc bg)) ?_
      obtain ⟨bm, dd, de⟩ := B8 db
      refine TI (zs := bm) (off := (k : Int).toNat * 1) (x0 := x4) (u := x4.set (k : Int).toNat true) sizeOf4 (BP (n := 30) (sz := 1) BY) rfl ax rfl rfl (VU (NG bc bg)) bl (fun vs h => Vw BY h (VW (NG bc bg)) rfl) (fun _ => .h) aj dd cz ?_; intro bn bo
      refine Aa (Av (id := 3) (Ak ?_))
      refine uv (A1 rfl rfl (BO.DZ aw bj (AN.R5 af))) ?_
      refine um (Aa ?_)
      subst bh; exact le kr ⟨_, _, rfl, bk, bm, bn, de, rfl, rfl, (sc rfl (sc rfl z8)), bo⟩
     have df := bf ct cy
     refine Al (Av (id := 3) (Ak ?_))
     refine uv (A1 rfl rfl (BO.DZ aw bj (AN.R5 af))) ?_
     refine um (Aa ?_)
     subst bh; exact le kr ⟨_, _, rfl, bk, av, ab, df, rfl, rfl, (sc rfl (sc rfl z8)), aj⟩
    obtain rfl := BO.zero aw bj
    rw [Cq] at bu
    refine AR (Aj (Aj ?_))
    refine Ay (Av (id := 1) ?_)
    obtain rfl := AH bu
    exact mi (ka kn) ⟨ab, au, rfl, z6, aj⟩
   rintro e1 fy _ ⟨ar, ay, rfl, bp, dg⟩
   refine Az _ bp ?_
   replace aa := aa.mono (Ad _) ay
   refine Ak (uv (A1 rfl rfl (BO.DZ ba I0 (AL.lt aa))) ?_)
   refine um (Aa ?_)
   subst bw; exact le kr ⟨_, _, rfl, ca, bb, ar, dp, (aq.trans ay), rfl, z6, dg⟩
  obtain rfl := BO.zero ba I0
  rw [Df] at br
  refine AR (Aj (Aj ?_))
  refine Ay ?_
  obtain rfl := AH br
  exact mi kr ⟨ae, aq, rfl, z1, ah⟩
 rintro e1 ga _ ⟨az, ep, rfl, bq, dh⟩
 refine Az _ bq ?_
 refine AM (um (ua (Aa (Ap ?_))))
 refine B2 results104 ?_
 obtain rfl := AH di
 exact ⟨_, _, _, _, rfl, rfl, dh.any⟩
set_option maxHeartbeats 1000000 in
theorem K1 (aa : AL 1 (iE .i64) F Af Ae Ac) {r : List (List Bool)} {r2 : Int} (hr : Ib wide Ac AK AF = some (r, r2)) :
    SH.Spec Tryz.prog 75 #[.agg #[.int .i64 wide, .slice Af Ac.length Ae], .agg #[.int .i64 AK, .int .i64 AF]] F [] fun F' L' v => ∃ (ra : Option Addr) (rn : Nat) (rc : Nat) (rL : LH), v = .tuple #[.slice ra rn rc, .int .i64 r2] ∧ L' = rL ++ [] ∧ AN 0 113 30 (Mo 30 cB) F' ra rn rc r rL := by
 refine sp func75 ntmps75 fun K _ _ => ?_
 rw [Ib] at hr
 refine AM ?_
 refine Bu rfl rfl ?_; intro b1 bm
 refine Bu rfl rfl ?_; intro b2 bn
 refine ua (ua (Aa (Ar (AM ?_))))
 refine uv (As isAgg25 sizeOf25 rfl (Has.own 1 rfl) (Be rfl) rfl) ?_
 obtain ⟨n, h3, r4⟩ := Aw hr
 refine cV call12 (EZ aa h3) ?_
 refine ua (BX (um ?_))
 refine uv (Bo rfl rfl) (Aa ?_)
 refine cQ (fun c5 => ?_) fun c5 => ?_
 ·have r6 := AO r4 c5
  refine AM (um (ua (ua (Aa ?_))))
  refine kW kn ?_
  refine Ap (Ah ?_)
  refine Ba results75 (AG rfl) (AG rfl) (sr) ?_
  obtain ⟨rfl, rfl⟩ := BK r6
  exact ⟨_, _, _, [], rfl, rfl, AN.nil _ _ _ _ _⟩
 have r7 := AP r4 c5
 refine Al (Ar (AM ?_))
 refine uv (As isAgg29 sizeOf29 rfl (Has.own 0 rfl) (Be rfl) rfl) ?_
 obtain ⟨n2, h8, r9⟩ := Aw r7
 refine cV call18 (HZ h8) ?_
 refine ua (BX (um ?_))
 refine uv (Bo rfl rfl) (Aa ?_)
 refine cQ (fun H4 => ?_) fun H4 => ?_
 ·have ao := AO r9 H4
  refine AM (um (ua (ua (Aa ?_))))
  refine kW kn ?_
  refine Ap (Ah ?_)
  refine Ba results75 (AG rfl) (AG rfl) (sr) ?_
  obtain ⟨rfl, rfl⟩ := BK ao
  exact ⟨_, _, _, [], rfl, rfl, AN.nil _ _ _ _ _⟩
 have aq := AP r9 H4
 refine Al (AM ?_)
 refine uv (As isAgg25 sizeOf25 rfl (Has.own 1 rfl) (Be rfl) rfl) (uv (Am GX rfl) (uv (Ao isAgg27 rfl (Has.own 0 rfl) rfl) ?_))
 obtain ⟨d, n3, ar, au⟩ := Bs aq
 refine c0 call73 (I7 aa ar) ?_; rintro _ av _ aw ax ⟨bo, rfl, rfl, ah⟩
 refine AJ (ln rfl) ?_
 refine um (ox rfl rfl rfl (ox rfl rfl rfl (ua (ua (BX (um ?_))))))
 refine uv (Am GW rfl) (uv (Ao isAgg3 rfl (Has.own 0 rfl) rfl) ?_)
 obtain ⟨af, ab, down, Bb, BW, ay, az⟩ := Rx au
 have ak := ah; rw [ay] at ak; obtain ⟨ba, VL, bb, ai, ad, ⟨_, _, rfl, rfl, ⟨_, _, rfl, ⟨bc, Jl, rfl, bg⟩, ⟨_, _, rfl, rfl, ⟨_, _, rfl, rfl, rfl⟩⟩⟩⟩⟩ := ak; subst ai
 have ad : av ba = some (.cells #[.int .i64 af, .slice bc ab.length Jl, .int .i64 down, .int .i64 Bb, .bool BW] 138 bb) := ad
 obtain ⟨l, bh, bj⟩ := Aw az
 refine c0 call104 (Nf ad bg bh) ?_; rintro _ bp _ bk aj ⟨bq, br, bu, bl, rfl, rfl, ae⟩
 replace ae := ae.new fun p hp => aj p (by simp [hp])
 refine AJ (lp (ln rfl)) (kO (kf (fS fO) (kf (fS fO) kr)) ?_)
 refine ua (ua (Aa ?_))
 refine kW (kd (kd kr)) (Ap (Ba results75 (AG rfl) (AG rfl) (sr) ?_))
 obtain ⟨rfl, rfl⟩ := BK bj
 exact ⟨_, _, _, _, rfl, rfl, ae.any⟩
theorem K2 {s_ : List Int} {v : Int} (aa : AL 1 (iE .i64) F Cp B9 s_) {r : Int} (hr : FQ s_ v = some r) :
    Bz Tryz.prog 134 #[.slice Cp s_.length B9, .int .i64 v] F (.int .i64 r) := by
 refine sp func134 ntmps134 fun K _ _ => ?_
 rw [FQ] at hr
 refine AM (ua (Aa ?_))
 refine AQ (fun e1 F1 L1 => GA = some r ∧ F = F1 ∧ L1 = [] ∧ e1.sub []) ?_ ?_
 ·refine AM (um ?_)
  refine uv (AX underlying22 rfl) ?_
  refine um (Aa ?_)
  refine Aq ?_
  refine A9 (fun ai e1 F1 L1 => LA s_ ai fun tl k => CD v tl k = some r ∧ F = F1 ∧ L1 = [] ∧ e1.sub [(0, .slice Cp s_.length B9), (1, .int .i64 v), (7, .int .i64 (s_.length : Int)), (8, .int .i64 k)]) _ (m0 kr ⟨_, _, rfl, BO.start _, hr, rfl, rfl, z4⟩) ?_
  rintro ai e1 _ _ ⟨tl, k, ao, ab, r3, rfl, rfl, aq⟩
  refine Az _ aq (AM (uv (A7 rfl rfl) ?_))
  refine Aa (Ar ?_)
  refine cQ (fun c6 => ?_) fun c6 => ?_
  ·obtain ⟨x, az, rfl, ar, g9, au⟩ := BO.succ ab c6
   rw [CD] at r3
   refine Al (Ar ?_)
   refine Aq ?_
   refine AM (um (ua (BX (um (um (um ?_))))))
   obtain ⟨LZ, ba, Lv, av, ad, ae, aj, rfl, aw, af⟩ := AL.at (Ad _) aa ([]) g9.1 ar
   refine uv (AA underlying22 sizeOf3 rfl ad rfl g9) (uv (Ao isAgg3 rfl ae (af 0 (by decide))) (uv (Bv rfl rfl) (Aa ?_)))
   refine cQ (fun J5 => ?_) fun J5 => ?_
   ·have ax := AO r3 J5
    refine AM (um (ua (Aa (Ap (AB (Ah (Ah (AB (Ah ?_)))))))))
    refine B2 results134 ?_
    obtain rfl := AH ax
    exact rfl
   have ay := AP r3 J5
   refine Al (Av (id := 1) (Ak ?_))
   refine uv (A1 rfl rfl (BO.DZ ab c6 (AL.lt aa))) ?_
   refine um (Aa ?_)
   subst ao; exact le kr ⟨_, _, rfl, au, ay, rfl, rfl, z4⟩
  obtain rfl := BO.zero ab c6
  rw [CD] at r3
  refine AR (Aj (Aj ?_))
  refine Ay ?_
  exact mi kr ⟨r3, rfl, rfl, (sn _)⟩
 rintro e1 _ _ ⟨ak, rfl, rfl, ah⟩
 refine Az _ ah ?_
 rw [GA] at ak
 refine AM (ua (Aa (Ap ?_)))
 refine B2 results134 ?_
 obtain rfl := AH ak
 exact rfl
theorem JZ {s_ : List Int} {v : Int} (aa : AL 1 (iE .i64) F Cp B9 s_) {r : Bool} (hr : DN s_ v = some r) :
    Bz Tryz.prog 119 #[.slice Cp s_.length B9, .int .i64 v] F (.bool r) := by
 refine sp func119 ntmps119 fun K _ _ => ?_
 rw [DN] at hr
 refine AM (ua (BX (um (um ?_))))
 obtain ⟨n, h1, r2⟩ := Aw hr
 refine cV call134 (K2 aa h1) (uv (JI rfl rfl) ?_)
 refine ua (Aa (Ap ?_))
 refine B2 results119 ?_
 obtain rfl := AH r2
 exact rfl
set_option maxHeartbeats 1000000 in
theorem Nm (ab : AL 1 (iE .i64) F Af Ae Ac) (aa : AL 1 (iE .i64) F A3 A4 AI) {r : Int} (hr : H2 wide Ac AI = some r) :
    Bz Tryz.prog 105 #[.agg #[.int .i64 wide, .slice Af Ac.length Ae], .slice A3 AI.length A4] F (.int .i64 r) := by
 refine sp func105 ntmps105 fun K _ _ => ?_
 rw [H2] at hr
 refine AM ?_
 refine Bu rfl rfl ?_; intro b1 bw
 refine ua (Aa ?_)
 refine AQ (fun e1 F1 L1 => H8 = some r ∧ F = F1 ∧ L1 = [] ∧ e1.sub []) ?_ ?_
 ·refine AM (um ?_)
  refine uv (AX underlying22 rfl) ?_
  refine um (Aa ?_)
  refine Aq ?_
  refine A9 (fun aq e1 F1 L1 => LA AI aq fun tl k => DL wide Ac AI tl k = some r ∧ F = F1 ∧ L1 = [(b1, ce #[.int .i64 wide, .slice Af Ac.length Ae] 25)] ∧ e1.sub [(1, .slice A3 AI.length A4), (2, .pointer (some ⟨b1, 0, none⟩)), (8, .slice A3 AI.length A4), (9, .int .i64 (AI.length : Int)), (10, .int .i64 k)]) _ (m0 kr ⟨_, _, rfl, BO.start _, hr, rfl, rfl, z5⟩) ?_
  rintro aq e1 _ _ ⟨tl, k, ay, af, r4, rfl, rfl, az⟩
  refine Az _ az (AM (uv (A7 rfl rfl) ?_))
  refine Aa (Ar ?_)
  refine cQ (fun c7 => ?_) fun c7 => ?_
  ·obtain ⟨x, bx, rfl, ba, ar, bb⟩ := BO.succ af c7
   rw [DL] at r4
   refine Al (Ar ?_)
   refine Aq ?_
   refine AM (um ?_)
   obtain ⟨Yh, bz, LB, bc, ah, ai, au, rfl, bg, aj⟩ := AL.at (Ad _) aa ([(b1, ce #[.int .i64 wide, .slice Af Ac.length Ae] 25)]) ar.1 ba
   refine uv (AA underlying22 sizeOf3 rfl ah rfl ar) (uv (Ao isAgg3 rfl ai (aj 0 (by decide))) ?_)
   refine ua (ua (Aa (Ar (AM ?_))))
   refine uv (As isAgg25 sizeOf25 rfl (Has.own 0 rfl) (Be rfl) rfl) (um ?_)
   obtain ⟨n, bh, av⟩ := Aw r4
   refine cV call62 (Fl ab bh) ?_
   refine ua (BX (um ?_))
   refine uv (Bo rfl rfl) (Aa ?_)
   refine cQ (fun I1 => ?_) fun I1 => ?_
   ·have bj := AO av I1
    refine AM (um (ua (Aa ?_)))
    refine kW kn ?_
    refine Ap (Ah (AB (Ah (Ah (AB (Ah ?_))))))
    refine B2 results105 ?_
    obtain rfl := AH bj
    exact rfl
   have bk := AP av I1
   refine Al (AM (um (um ?_)))
   obtain ⟨bl, bm⟩ := AW bk
   obtain ⟨ae, bn, bo⟩ := B8 bm
   obtain ⟨ca, cb, bp, ad⟩ := AL.slice (Ad _) aa bl bn
   refine uv ((IE (l := 0) (h := k) underlying22 sizeOf3 rfl (.inl ⟨rfl, rfl⟩) (.inr ⟨_, rfl, rfl⟩) ad.1).eq ad.2) (um ?_)
   obtain ⟨ok, bq, aw⟩ := Aw bo
   refine cV call119 (JZ bp bq) (Aa ?_)
   refine AU rfl (fun ak => ?_) (fun ak => ?_)
   ·have br := bt aw ak
    refine AM (ua (Aa ?_))
    refine kW kn ?_
    refine Ap (AB (Ah (Ah (AB (Ah ?_)))))
    refine B2 results105 ?_
    obtain rfl := AH br
    exact rfl
   have bu := bf aw ak
   refine Al (Av (id := 1) (Ak ?_))
   refine uv (A1 rfl rfl (BO.DZ af c7 (AL.lt aa))) ?_
   refine um (Aa ?_)
   subst ay; exact le kr ⟨_, _, rfl, bb, bu, rfl, rfl, z5⟩
  obtain rfl := BO.zero af c7
  rw [DL] at r4
  refine AR (Aj (Aj ?_))
  refine Ay ?_
  exact mi kn ⟨r4, rfl, rfl, (sn _)⟩
 rintro e1 _ _ ⟨ax, rfl, rfl, ao⟩
 refine Az _ ao ?_
 rw [H8] at ax
 refine AM (ua (Aa (Ap ?_)))
 refine B2 results105 ?_
 obtain rfl := AH ax
 exact rfl
theorem Jf {r : Int} (hr : Dw G1 = some r) :
    Bz Tryz.prog 106 #[.int .i64 G1] F (.int .i64 r) := by
 refine sp func106 ntmps106 fun K _ _ => ?_
 rw [Dw] at hr
 refine AM (ua (BX (ua (Aa ?_))))
 obtain ⟨n, h1, r2⟩ := Aw hr
 refine jE ([]) [(3, .int .i64 n)] ?_ ?_
 ·clear r2
  refine Aq ?_
  refine A9 (fun ab e1 F1 L1 => ∃ (aa : Int) (n2 : Int), FX ab aa n2 = some n ∧ F = F1 ∧ L1 = [] ∧ e1.sub [(0, .int .i64 aa), (3, .int .i64 n2)]) FU (m0 kr ⟨G1, 0, h1, rfl, rfl, z2⟩) ?_
  rintro ab e1 _ _ ⟨aa, n2, r5, rfl, rfl, ad⟩
  refine Az _ ad ?_
  rcases ab with _ | ab
  ·rw [FX] at r5; cases r5
  rw [FX] at r5
  refine Ar (AM (um ?_))
  refine uv (Ex rfl rfl) (Aa ?_)
  refine cQ (fun c7 => ?_) fun c7 => ?_
  ·have r8 := AO r5 c7
   refine Al (Ar ?_)
   refine Aq ?_
   refine Ak (um (um ?_))
   refine uv (EN rfl rfl (by decide)) ?_
   obtain ⟨g9, ae⟩ := AW r8
   refine uv (A1 rfl rfl g9) ?_
   refine ua (Aa (Av (id := 1) (Ak (um ?_))))
   obtain ⟨af, ah⟩ := AW ae
   refine uv (K8 rfl rfl af) ?_
   refine ua (Aa ?_)
   exact le kr ⟨Int.tdiv aa 2, n2 + (Int.tmod aa 2), ah, rfl, rfl, z2⟩
  have ai := AP r5 c7
  refine AR (Aj (Aj ?_))
  refine Ay ?_
  obtain rfl := AH ai
  exact mi kr ⟨rfl, rfl, z1⟩
 refine AM (um (ua (Aa (Ap ?_))))
 refine B2 results106 ?_
 obtain rfl := AH r2
 exact rfl
set_option maxHeartbeats 1000000 in
theorem GP (ab : AL 1 (iE .i64) F Af Ae Ac) (aa : AL 1 (iE .i64) F A3 A4 AI) {r : List (List Bool)} {r2 : Bool} {r3 : Int} (hr : Ft wide Ac AK AF AI = some (r, r2, r3)) :
    SH.Spec Tryz.prog 78 #[.agg #[.int .i64 wide, .slice Af Ac.length Ae], .agg #[.int .i64 AK, .int .i64 AF], .slice A3 AI.length A4] F [] fun F' L' v => ∃ (ra : Option Addr) (rn : Nat) (rc : Nat) (rL : LH) (cb : Value), v = .tuple #[.agg #[.slice ra rn rc, cb], .int .i64 r3] ∧ L' = rL ++ [] ∧ AN 0 113 30 (Mo 30 cB) F' ra rn rc r rL ∧ RT cb r2 106 := by
 refine sp func78 ntmps78 fun K _ _ => ?_
 rw [Ft] at hr
 refine AM ?_
 refine Bu rfl rfl ?_; intro b1 dr
 refine Bu rfl rfl ?_; intro b2 dt
 refine A6 rfl zeroValue118 ?_; intro b3 du
 refine ua (BX ?_)
 refine uv (As isAgg25 sizeOf25 rfl (Has.own 2 rfl) (Be rfl) rfl) (uv (As isAgg29 sizeOf29 rfl (Has.own 1 rfl) (Be rfl) rfl) ?_)
 obtain ⟨l, n, h4, r5⟩ := Bs hr
 refine c0 call75 (K1 ab h4) ?_; rintro _ F6 _ cc cv ⟨Nv, cw, FE, ah, rfl, rfl, ai⟩
 replace ab := ab.mono (Ad _) cc
 replace aa := aa.mono (Ad _) cc
 replace ai := ai.new fun p hp => cv p (by simp [hp])
 refine AJ (lp (ln rfl)) (kO (kf (fS fO) (kf (fS fO) (kf (fS fO) kr))) ?_)
 refine um (ox rfl rfl rfl (ox rfl rfl rfl (ua (ua (Aa (Ar (AM (um ?_))))))))
 refine uv (Bo rfl rfl) (Aa ?_)
 refine cQ (fun UT => ?_) fun UT => ?_
 ·have cx := AO r5 UT
  refine AM ?_
  refine uv (Bc (v := .agg #[.slice none 0 0, .nilFunc]) rfl (by intro w; kernel_rfl)) ?_
  refine um (Bg (i := 0) sizeOf118 rfl rfl rfl (by simp [Value.oneCell']) rfl (Be rfl) (AJ rfl ?_))
  refine ua (Aa ?_)
  refine kW (kc kn) ?_
  refine Ap (Ah ?_)
  refine Ba results78 (Fh (cs := #[.slice none 0 0, .nilFunc]) isAgg118 sizeOf118 rfl (Has.own 0 rfl) (Be rfl) rfl) (AG rfl) (s1 sr) ?_
  obtain ⟨rfl, rfl, rfl⟩ := Me cx
  exact ⟨_, _, _, [], _, rfl, rfl, AN.nil _ _ _ _ _, RT.nil _⟩
 have cy := AP r5 UT
 refine Al (Ar (AM ?_))
 refine uv (As isAgg25 sizeOf25 rfl (Has.own 2 rfl) (Be rfl) rfl) (um ?_)
 obtain ⟨n2, cz, cd⟩ := Aw cy
 refine cV call105 (Nm ab aa cz) ?_
 refine ua (BX (um ?_))
 refine uv (Bo rfl rfl) (Aa ?_)
 refine cQ (fun Jj => ?_) fun Jj => ?_
 ·have da := AO cd Jj
  refine AM ?_
  refine uv (Bc (v := .agg #[.slice none 0 0, .nilFunc]) rfl (by intro w; kernel_rfl)) ?_
  refine um (Bg (i := 0) sizeOf118 rfl rfl rfl (by simp [Value.oneCell']) rfl (Be rfl) (AJ rfl ?_))
  refine ua (Aa ?_)
  refine kW (kc kn) ?_
  refine Ap (Ah ?_)
  refine Ba results78 (Fh (cs := #[.slice none 0 0, .nilFunc]) isAgg118 sizeOf118 rfl (Has.own 0 rfl) (Be rfl) rfl) (AG rfl) (s1 sr) ?_
  obtain ⟨rfl, rfl, rfl⟩ := Me da
  exact ⟨_, _, _, [], _, rfl, rfl, AN.nil _ _ _ _ _, RT.nil _⟩
 have db := AP cd Jj
 refine Al (AM ?_)
 refine uv (Bc (v := .agg (#[.slice none 0 0, .func (.func 106) #[] #[]])) rfl (by intro w; kernel_rfl)) ?_
 refine A6 rfl zeroValue118 ?_; intro ak dd
 refine Bg (i := 0) sizeOf118 rfl rfl rfl (by simp [Value.oneCell']) rfl (Be rfl) (AJ rfl (Aa ?_))
 obtain ⟨ae, de, cf⟩ := Aw db
 refine AQ (fun e1 F1 L1 => ∃ (ax : Option Addr) (ay : Nat) (JE : Nat) (ao : LH), F6 = F1 ∧ L1 = ((ak, ce (#[.slice ax ay JE, .func (.func 106) #[] #[]]) 118) :: ((b3, ce #[.slice none 0 0, .nilFunc] 118) :: (ao ++ []))) ∧ e1.sub [(6, .pointer (some ⟨b3, 0, none⟩)), (11, .pointer (some ⟨ak, 0, none⟩))] ∧ AN K.w0.heap.size 113 30 (Mo 30 cB) F1 ax ay JE ae ao) ?_ ?_
 ·clear cf
  refine AM (um ?_)
  refine uv (AX underlying22 rfl) ?_
  refine um (Aa ?_)
  refine Aq (kW (kc (kc (kd (kd kr)))) ?_)
  refine A9 (fun cg e1 F1 L1 => LA AI cg fun tl k => ∃ (ad : List (List Bool)) (aq : Option Addr) (ar : Nat) (au : Nat) (af : LH), E7 l tl ad = some ae ∧ F6 = F1 ∧ L1 = ((ak, ce (#[.slice aq ar au, .func (.func 106) #[] #[]]) 118) :: ((b3, ce #[.slice none 0 0, .nilFunc] 118) :: (ah ++ (af ++ [])))) ∧ e1.sub [(6, .pointer (some ⟨b3, 0, none⟩)), (8, .slice Nv cw FE), (11, .pointer (some ⟨ak, 0, none⟩)), (32, .slice A3 AI.length A4), (33, .int .i64 (AI.length : Int)), (34, .int .i64 k)] ∧ AN K.w0.heap.size 113 30 (Mo 30 cB) F1 aq ar au ad af) _ (m0 (kc (kc (ka (ke kr)))) ⟨_, _, rfl, BO.start _, [], none, 0, 0, [], de, rfl, rfl, z6, AN.nil _ _ _ _ _⟩) ?_
  rintro cg e1 _ _ ⟨tl, k, bb, av, ad, aq, ar, au, af, az, rfl, rfl, bc, aw⟩
  refine Az _ bc (AM (uv (A7 rfl rfl) ?_))
  refine Aa (Ar ?_)
  refine cQ (fun ba => ?_) fun ba => ?_
  ·obtain ⟨x, dv, rfl, bg, cj, bh⟩ := BO.succ av ba
   rw [E7] at az
   refine Al (Ar ?_)
   refine Aq (AM ?_)
   obtain ⟨dw, dx, dy, df, bj, bk, cn, rfl, dg, bl⟩ := AL.at (Ad _) aa ((ak, ce (#[.slice aq ar au, .func (.func 106) #[] #[]]) 118) :: ((b3, ce #[.slice none 0 0, .nilFunc] 118) :: (ah ++ (af ++ [])))) cj.1 bg
   refine uv (AA underlying22 sizeOf3 rfl bj rfl cj) (uv (Ao isAgg3 rfl bk (bl 0 (by decide))) ?_)
   refine ua (Aa ?_)
   refine CF [(.still, 0), (.still, 1), (.still, 2), (.still, 3), (.still, 4), (.still, 5), (.seq, 6), (.seq, 7), (.still, 8), (.seq, 9)] (by kernel_rfl) (by kernel_rfl) (trivial) (by rfl) (by kernel_rfl) (mS [11] rfl (Am Hn rfl) (mL [38] ([(ak, ce (#[.slice aq ar au, .func (.func 106) #[] #[]]) 118)]) rfl (s0 (s2 (s1 (s3 (s3 sr))))) (fun H F' L' bm bn => Ao isAgg109 rfl ((Has.own 0 rfl).ext bm bn) rfl) (mS [8] rfl (Bh rfl) (mS [13] rfl (Bh rfl) ?_))))
   obtain ⟨x2, cp, bo, dh⟩ := Bj az
   obtain ⟨dz, eb, eg, di, bp, bq, aj, ⟨rfl, cq⟩, br, bu⟩ := AN.at (BP (n := 30) (sz := 1) BY) ai (L := ah ++ []) fP cp.1 bo
   refine mS [40, 41] rfl (AA underlying109 sizeOf113 rfl bp rfl (AN.idx ai cp)) (mL [42] (ah ++ []) rfl (s0 (s1 (s1 (s4 (s3 sr))))) (fun H F' L' bm bn => As isAgg113 sizeOf113 rfl (bq.ext bm bn) aj (CK aj br bu)) ?_)
   refine ⟨_, [(43, .agg (arr cB x2))], rfl, rfl, z1, by kernel_rfl, ?_⟩; intro H
   refine HB (cs := arr cB x2) rfl rfl (OJ Lf BY cq rfl (by decide)) ?_; intro dk dm
   refine Aa ⟨_, rfl, AY.refl _, [1, 0], by kernel_rfl, .inl (.inr (fun d h => by cases h; rfl)), (fc (s0 (s1 (s2 (s1 (s3 (s3 sr)))))) (fc sm nm)), ?_⟩
   refine ⟨_, [(39, .slice aq ar au), (44, .slice (some ⟨dk, 0, none⟩) 1 1)], rfl, rfl, z2, by kernel_rfl, ?_⟩; intro H
   obtain ⟨l2, dn, dp, dq⟩ := E9 dh
   refine DB (xs := ad) (ys := [x2]) (zs := l2) rfl Lf rfl rfl (Nat.le_refl _) (fun _ => .c (.c (.c (.s .h)))) aw (GO.box (vss := [(arr cB x2).toList]) (ys := [x2]) 0 rfl (BP (n := 30) (sz := 1) BY) (.cons ⟨rfl, cq⟩ .nil) (by simp) rfl) dn dp (by decide) ?_; intro cr ct cu bw bx
   refine kO (kd kr) ?_
   refine Aa ⟨_, rfl, AY.refl _, [], by kernel_rfl, .inl (.inl rfl), nm, ?_⟩
   refine mS [11] rfl (Am Hn rfl) ?_
   refine ⟨_, [(45, .slice cr ct cu), (46, .pointer (some ⟨ak, 0, none⟩))], rfl, rfl, z2, by kernel_rfl, ?_⟩; intro H
   refine Bt (i := 0) sizeOf109 rfl rfl rfl rfl (Be rfl) (AJ rfl ?_)
   refine Aa ⟨undef, rfl, AY.refl _, [], by kernel_rfl, .inl (.inl rfl), nm, ?_⟩
   refine DI ?_
   refine Av (id := 1) (Ak ?_)
   refine uv (A1 rfl rfl (BO.DZ av ba (AL.lt aa))) ?_
   refine um (Aa ?_)
   subst bb; exact le kr ⟨_, _, rfl, bh, l2, cr, ct, cu, bw, dq, rfl, rfl, z6, bx⟩
  obtain rfl := BO.zero av ba
  rw [E7] at az
  refine AR (Aj (Aj ?_))
  refine Ay ?_
  obtain rfl := AH az
  exact mi (kc (kc (kx kr))) ⟨aq, ar, au, af, rfl, rfl, z2, aw⟩
 rintro e1 _ _ ⟨ax, ay, JE, ao, rfl, rfl, bz, ca⟩
 refine Az _ bz (AM (uv (As isAgg118 sizeOf118 rfl (Has.own 0 rfl) (Be rfl) rfl) (Bg (i := 1) sizeOf118 rfl rfl rfl (by simp [Value.oneCell']) rfl (Be rfl) (AJ rfl ?_))))
 refine ua (Aa ?_)
 refine kW (kd kr) (Ap (Ba results78 (Fh (cs := #[.slice ax ay JE, .func (.func 106) #[] #[]]) isAgg118 sizeOf118 rfl (Has.own 0 rfl) (Be rfl) rfl) (AG rfl) (s1 (s4 sr)) ?_))
 obtain ⟨rfl, rfl, rfl⟩ := Me cf
 exact ⟨_, _, _, _, _, rfl, rfl, ca.any, RT.fn _⟩
set_option maxHeartbeats 1000000 in
theorem Ij {s_ : List (List Bool)} {v : List Bool} (ab : AL 30 (Mo 30 cB) F Cp B9 s_) (ak : v.length = 30) {r : Int} (hr : CZ s_ v = some r) :
    Bz Tryz.prog 120 #[.slice Cp s_.length B9, .agg (arr cB v)] F (.int .i64 r) := by
 refine sp func120 ntmps120 fun K _ _ => ?_
 rw [CZ] at hr
 refine AM ?_
 refine Bu rfl rfl ?_; intro b1 bc
 refine ua (Aa ?_)
 refine AQ (fun e1 F1 L1 => DC = some r ∧ F = F1 ∧ L1 = [] ∧ e1.sub []) ?_ ?_
 ·refine AM (um ?_)
  refine uv (AX underlying109 rfl) ?_
  refine um (Aa ?_)
  refine Aq ?_
  refine A9 (fun ao e1 F1 L1 => LA s_ ao fun tl k => Bx v tl k = some r ∧ F = F1 ∧ L1 = [(b1, ce (arr cB v) 113)] ∧ e1.sub [(0, .slice Cp s_.length B9), (3, .pointer (some ⟨b1, 0, none⟩)), (7, .int .i64 (s_.length : Int)), (8, .int .i64 k)]) _ (m0 kr ⟨_, _, rfl, BO.start _, hr, rfl, rfl, z4⟩) ?_
  rintro ao e1 _ _ ⟨tl, k, au, ad, r4, rfl, rfl, av⟩
  refine Az _ av (AM (uv (A7 rfl rfl) ?_))
  refine Aa (Ar ?_)
  refine cQ (fun c7 => ?_) fun c7 => ?_
  ·obtain ⟨x, bg, rfl, aw, aq, ax⟩ := BO.succ ad c7
   rw [Bx] at r4
   refine Al (Ar ?_)
   refine Aq ?_
   refine AM (um (ua ?_))
   refine dN (wv (Ow isAgg113 sizeOf113 rfl (Has.own 0 rfl) (Kw BY ak)) ?_)
   refine wm (wm ?_)
   obtain ⟨Yh, bh, LB, ay, ae, af, aa, ⟨rfl, az⟩, ah, ai⟩ := AL.at (BP (n := 30) (sz := 1) BY) ab ([(b1, ce (arr cB v) 113)]) aq.1 aw
   refine wv (AA underlying109 sizeOf113 rfl ae rfl aq) (wv (As isAgg113 sizeOf113 rfl af aa (CK aa ah ai)) (wv (Ri (OO _ _ _ _) (QE ak az) rfl rfl) (BD ?_)))
   refine cQ (fun Jj => ?_) fun Jj => ?_
   ·have ba := AO r4 Jj
    refine AM (um (ua (Aa ?_)))
    refine kW kn ?_
    refine Ap (AB (Ah (Ah (AB (Ah ?_)))))
    refine B2 results120 ?_
    obtain rfl := AH ba
    exact rfl
   have bb := AP r4 Jj
   refine Al (Av (id := 1) (Ak ?_))
   refine uv (A1 rfl rfl (BO.DZ ad c7 (AL.lt ab))) ?_
   refine um (Aa ?_)
   subst au; exact le kr ⟨_, _, rfl, ax, bb, rfl, rfl, z4⟩
  obtain rfl := BO.zero ad c7
  rw [Bx] at r4
  refine AR (Aj (Aj ?_))
  refine Ay ?_
  exact mi kn ⟨r4, rfl, rfl, (sn _)⟩
 rintro e1 _ _ ⟨ar, rfl, rfl, aj⟩
 refine Az _ aj ?_
 rw [DC] at ar
 refine AM (ua (Aa (Ap ?_)))
 refine B2 results120 ?_
 obtain rfl := AH ar
 exact rfl
theorem Hv {s_ : List (List Bool)} {v : List Bool} (aa : AL 30 (Mo 30 cB) F Cp B9 s_) (ab : v.length = 30) {r : Bool} (hr : CH s_ v = some r) :
    Bz Tryz.prog 107 #[.slice Cp s_.length B9, .agg (arr cB v)] F (.bool r) := by
 refine sp func107 ntmps107 fun K _ _ => ?_
 rw [CH] at hr
 refine AM ?_
 refine Bu rfl rfl ?_; intro b1 ad
 refine ua (BX (um ?_))
 refine uv (Ow isAgg113 sizeOf113 rfl (Has.own 0 rfl) (Kw BY ab)) ?_
 obtain ⟨n, h2, r3⟩ := Aw hr
 refine cV call120 (Ij aa ab h2) (uv (JI rfl rfl) ?_)
 refine ua (Aa ?_)
 refine kW kn (Ap (B2 results107 ?_))
 obtain rfl := AH r3
 exact rfl
theorem Jt (aa : AL 30 (Mo 30 cB) F Ce Cg Bl) (_h_count : Mp Tryz.prog F Dl Dk Dm (iE .i64) (Value.int .i64) count) {r : Bool} (hr : EH Bl count = some r) :
    Bz Tryz.prog 79 #[.agg #[.slice Ce Bl.length Cg, .func (.func Dl) Dk Dm]] F (.bool r) := by
 refine sp func79 ntmps79 fun K _ _ => ?_
 rw [EH] at hr
 refine AM ?_
 refine Bu rfl rfl ?_; intro b1 ab
 refine ua (BX ?_)
 refine uv (Am Hn rfl) (uv (Ao isAgg109 rfl (Has.own 0 rfl) rfl) ?_)
 refine uv (Bc (v := .agg (arr cB (List.replicate 30 false))) rfl (by intro w; kernel_rfl)) ?_
 obtain ⟨ok, h2, r3⟩ := Aw hr
 refine cV call107 (Hv aa List.length_replicate h2) ?_
 refine ua (Aa ?_)
 refine kW kn (Ap (B2 results79 ?_))
 obtain rfl := AH r3
 exact rfl
set_option maxHeartbeats 1000000 in
theorem HI {s_ : List (List Bool)} (ab : AN Gq 113 30 (Mo 30 cB) F Cp DS B9 s_ FB) {r : List (List Bool)} (hr : B4 s_ = some r) :
    SH.Spec Tryz.prog 80 #[.slice Cp DS B9] F (FB ++ []) fun F' L' v => ∃ (ra : Option Addr) (rn : Nat) (rc : Nat) (rL : LH), v = .slice ra rn rc ∧ L' = rL ++ [] ∧ AN Gq 113 30 (Mo 30 cB) F' ra rn rc r rL := by
 refine sp func80 ntmps80 fun K _ _ => ?_
 rw [B4] at hr
 refine IB (L' := FB ++ []) (by simp) ?_
 refine AM (ua (Aa (Ar (AM (um ?_)))))
 refine uv ((AX underlying109 rfl).i (AN.HH ab)) (uv (A7 rfl rfl) (Aa ?_))
 refine cQ (fun c1 => ?_) fun c1 => ?_
 ·have r2 := AO hr c1
  refine AM (um (ua (Aa (Ap (Ah ?_)))))
  refine B2 results80 ?_
  obtain rfl := AH r2
  exact ⟨_, _, _, _, rfl, rfl, ab⟩
 have r3 := AP hr c1
 refine Al ?_
 refine AQ (fun e1 F1 L1 => Cs s_ = some r ∧ F = F1 ∧ L1 = (FB ++ []) ∧ e1.sub [(0, .slice Cp DS B9)]) ?_ ?_
 ·refine AM (ua (Aa ?_))
  refine Aq ?_
  obtain ⟨g4, r5⟩ := AW r3
  refine A9 (fun aw e1 F1 L1 => ∃ (k : Int), DD 1 (s_.length : Int) k aw ∧ Bd s_ aw k = some r ∧ F = F1 ∧ L1 = (FB ++ []) ∧ e1.sub [(0, .slice Cp DS B9), (3, .int .i64 k)]) _ (m0 kr ⟨_, DD.start _ _, r5, rfl, rfl, z2⟩) ?_
  rintro aw e1 _ _ ⟨k, bo, r8, rfl, rfl, fh⟩
  refine Az _ fh ?_
  refine Ar (AM (um (um ?_)))
  refine uv ((AX underlying109 rfl).i (AN.HH ab)) (uv (A7 rfl rfl) (Aa ?_))
  refine cQ (fun FE => ?_) fun FE => ?_
  ·obtain ⟨aw, rfl, bp⟩ := DD.succ bo FE
   rw [Bd] at r8
   refine Al ?_
   refine AQ (fun e1 F1 L1 => Ct k (Bd s_ aw) = some r ∧ F = F1 ∧ L1 = (FB ++ []) ∧ e1.sub [(0, .slice Cp DS B9), (3, .int .i64 k)]) ?_ ?_
   ·refine Aq (dW ?_)
    refine wm (wm ?_)
    obtain ⟨x, eo, bq, fi⟩ := Bj r8
    obtain ⟨ia, ib, KW, fj, br, bu, ah, ⟨rfl, fk⟩, bw, bx⟩ := AN.at (BP (n := 30) (sz := 1) BY) ab (L := FB ++ []) fP eo.1 bq
    refine wv (AA underlying109 sizeOf113 rfl br rfl (AN.idx ab eo)) (wv (As isAgg113 sizeOf113 rfl bu ah (CK ah bw bx)) ?_)
    refine wm (wm ?_)
    obtain ⟨fl, fm⟩ := AW fi
    refine wv (FD rfl rfl fl) ?_
    obtain ⟨x2, ep, bz, er⟩ := Bj fm
    obtain ⟨ic, ie, ig, fo, ca, cb, ai, ⟨rfl, fp⟩, cc, cd⟩ := AN.at (BP (n := 30) (sz := 1) BY) ab (L := FB ++ []) fP ep.1 bz
    refine wv (AA underlying109 sizeOf113 rfl ca rfl (AN.idx ab ep)) (wv (As isAgg113 sizeOf113 rfl cb ai (CK ai cc cd)) (wv (Ri (OO _ _ _ _) (QE fk fp) rfl rfl) (BD ?_)))
    refine cQ (fun cf => ?_) fun cf => ?_
    ·have fq := AO er cf
     refine AM (um (um ?_))
     obtain ⟨fs, ft⟩ := AW fq
     have af := AN.gV ab fs
     refine uv (FC.eq (v' := .slice (UR Cp B9 (Int.toNat k) 30) (DS - Int.toNat k) (B9 - Int.toNat k)) (IE (l := k) (h := (DS : Nat)) underlying109 sizeOf113 rfl (.inr ⟨_, rfl, rfl⟩) (.inl ⟨rfl, rfl⟩) (AN.VA ab af)) rfl) ?_
     refine ua (Aa ?_)
     obtain ⟨et, k2, fv, eu⟩ := Bs ft
     refine AQ (fun e1 F1 L1 => ∃ (au : LH), F = F1 ∧ L1 = (au ++ []) ∧ e1.sub [(0, .slice Cp DS B9), (3, .int .i64 k2)] ∧ AN Gq 113 30 (Mo 30 cB) F1 Cp DS B9 et au) ?_ ?_
     ·clear eu
      refine AM (ua (Aa ?_))
      refine Aq ?_
      refine A9 (fun bl e1 F1 L1 => ∃ (bm : List (List Bool)) (k3 : Int) (ae : Int) (ad : LH), A8 k bl bm k3 ae = some (et, k2) ∧ F = F1 ∧ L1 = (ad ++ []) ∧ e1.sub [(0, .slice Cp DS B9), (3, .int .i64 k3), (4, .slice (UR Cp B9 (Int.toNat k) 30) (DS - Int.toNat k) (B9 - Int.toNat k)), (5, .int .i64 ae)] ∧ AN Gq 113 30 (Mo 30 cB) F1 Cp DS B9 bm ad) FU (m0 kr ⟨s_, k, 1, FB, fv, rfl, rfl, z4, ab⟩) ?_
      rintro bl e1 _ _ ⟨bm, k3, ae, ad, ax, rfl, rfl, cg, aa⟩
      refine Az _ cg ?_
      rcases bl with _ | bl
      ·rw [A8] at ax; cases ax
      rw [A8] at ax
      refine Ar (AM (um (um ?_)))
      refine uv ((AX underlying109 rfl).i (AN.Xa aa).symm) (uv (A7 rfl rfl) (Aa ?_))
      refine cQ (fun cj => ?_) fun cj => ?_
      ·have fw := AO ax cj
       refine Al (Ar ?_)
       refine Aq (dW ?_)
       refine wm (wm ?_)
       obtain ⟨x3, bn, ay, fx⟩ := Bj fw
       obtain ⟨ij, ik, il, fy, cn, cp, aj, ⟨rfl, ga⟩, cq, cr⟩ := AN.W3 (BP (n := 30) (sz := 1) BY) aa (L := ad ++ []) fP af bn.1 ay
       refine wv (AA underlying109 sizeOf113 rfl cn rfl (AN.Tw aa bn)) (wv (As isAgg113 sizeOf113 rfl cp aj (CK aj cq cr)) ?_)
       refine wm (wm ?_)
       obtain ⟨gb, gg⟩ := AW fx
       refine wv (FD rfl rfl gb) ?_
       obtain ⟨x4, ew, ct, ey⟩ := Bj gg
       obtain ⟨im, iq, ir, gh, cu, cv, ak, ⟨rfl, gi⟩, cw, cx⟩ := AN.W3 (BP (n := 30) (sz := 1) BY) aa (L := ad ++ []) fP af ew.1 ct
       refine wv (AA underlying109 sizeOf113 rfl cu rfl (AN.Tw aa ew)) (wv (As isAgg113 sizeOf113 rfl cv ak (CK ak cw cx)) (wv (Xm (Tq _ _ _ _) (V0 ga gi) rfl rfl) (BD ?_)))
       refine cQ (fun cy => ?_) fun cy => ?_
       ·have gj := AO ey cy
        refine AM (um (um (um (um ?_))))
        obtain ⟨iu, iv, iw, gk, cz, da, ao, ⟨rfl, gl⟩, db, dd⟩ := AN.W3 (BP (n := 30) (sz := 1) BY) aa (L := ad ++ []) fP af bn.1 ay
        refine uv (AA underlying109 sizeOf113 rfl cz rfl (AN.Tw aa bn)) (uv (As isAgg113 sizeOf113 rfl da ao (CK ao db dd)) ?_)
        obtain ⟨x5, de, df, dg⟩ := Bj gj
        obtain ⟨gm, gn, gp, ez, aq, fa, dh, ⟨rfl, gq⟩, fb, fe⟩ := AN.at (BP (n := 30) (sz := 1) BY) aa (L := ad ++ []) fP de.1 df
        refine uv (AA underlying109 sizeOf113 rfl aq rfl (AN.idx aa de)) ?_
        obtain ⟨gr, di, dk⟩ := B8 dg
        refine Cv (u := x3) sizeOf113 (BP (n := 30) (sz := 1) BY) rfl aq rfl ⟨rfl, gl⟩ (fun _ => .h) aa di de ?_; intro az ba
        refine Aa (Ak (um ?_))
        obtain ⟨dm, dn⟩ := AW dk
        refine uv (A1 rfl rfl dm) ?_
        refine ua (Aa (Av (id := 3) (Ak (um ?_))))
        obtain ⟨dp, dq⟩ := AW dn
        refine uv (A1 rfl rfl dp) ?_
        refine ua (Aa ?_)
        exact le kr ⟨gr, k3 + 1, ae + 1, az, dq, rfl, rfl, z4, ba⟩
       have dr := AP ey cy
       refine Al (Av (id := 3) (Ak (um ?_)))
       obtain ⟨dt, du⟩ := AW dr
       refine uv (A1 rfl rfl dt) ?_
       refine ua (Aa ?_)
       exact le kr ⟨bm, k3, ae + 1, ad, du, rfl, rfl, z4, aa⟩
      have dv := AP ax cj
      refine AR (Aj (Aj ?_))
      refine Ay ?_
      obtain ⟨rfl, rfl⟩ := BK dv
      exact mi kr ⟨ad, rfl, rfl, z2, aa⟩
     rintro e1 _ _ ⟨au, rfl, rfl, bb, av⟩
     refine Az _ bb ?_
     refine AM (um (um ?_))
     obtain ⟨dw, dx⟩ := AW eu
     have ar := AN.gV av dw
     refine uv (FC.eq (v' := .slice (UR Cp B9 (Int.toNat k2) 30) (DS - Int.toNat k2) (B9 - Int.toNat k2)) (IE (l := k2) (h := (DS : Nat)) underlying109 sizeOf113 rfl (.inr ⟨_, rfl, rfl⟩) (.inl ⟨rfl, rfl⟩) (AN.VA av ar)) rfl) ?_
     obtain ⟨gu, dy, dz⟩ := B8 dx
     refine Rd (z0 := List.replicate 30 false) (zs := gu) (l := k2) rfl Lf (by decide) (BP (n := 30) (sz := 1) BY) (fun _ => ⟨rfl, rfl⟩) rfl (fun _ => .h) av ar dy ?_; intro ff bc
     refine BX (um (um ?_))
     obtain ⟨eb, eg⟩ := AW dz
     obtain ⟨gv, eh, ei⟩ := B8 eg
     refine MY (l := 0) (h := k2) (zs := gv) rfl Lf (BP (n := 30) (sz := 1) BY) rfl (.inl ⟨rfl, rfl⟩) (.inr ⟨_, rfl, rfl⟩) (fun _ => .h) bc eb eh ?_; intro gw gy gz fg ej
     refine ua (Aa (Ap (AB (Ah (Ah (AB (Ah ?_)))))))
     refine B2 results80 ?_
     obtain rfl := AH ei
     exact ⟨_, _, _, _, rfl, rfl, ej⟩
    have en := AP er cf
    refine Al (Av (id := 1) ?_)
    exact mi kr ⟨en, rfl, rfl, z2⟩
   rintro e1 _ _ ⟨bg, rfl, rfl, bh⟩
   refine Az _ bh ?_
   rw [Ct] at bg
   refine Ak (um ?_)
   refine uv (A1 rfl rfl (DD.DZ bo FE g4)) ?_
   refine ua (Aa ?_)
   exact le kr ⟨_, bp, bg, rfl, rfl, z2⟩
  obtain rfl := DD.zero bo FE
  rw [Bd] at r8
  refine AR (Aj (Aj ?_))
  refine Ay ?_
  exact mi kr ⟨r8, rfl, rfl, z1⟩
 rintro e1 _ _ ⟨bj, rfl, rfl, bk⟩
 refine Az _ bk ?_
 rw [Cs] at bj
 refine AM (um (ua (Aa (Ap ?_))))
 refine B2 results80 ?_
 obtain rfl := AH bj
 exact ⟨_, _, _, _, rfl, rfl, ab⟩
theorem Ia {s_ : List (List Bool)} (aa : AL 30 (Mo 30 cB) F Cp B9 s_) {r : List (List Bool)} (hr : Ch s_ = some r) :
    SH.Spec Tryz.prog 81 #[.slice Cp s_.length B9] F [] fun F' L' v => ∃ (ra : Option Addr) (rn : Nat) (rc : Nat) (rL : LH), v = .slice ra rn rc ∧ L' = rL ++ [] ∧ AN 0 113 30 (Mo 30 cB) F' ra rn rc r rL := by
 refine sp func81 ntmps81 fun K _ _ => ?_
 rw [Ch] at hr
 refine AM (ua (Aa (Ar (AM (um ?_)))))
 refine uv (Rh underlying109 rfl) (Aa ?_)
 refine AU rfl (fun c1 => ?_) (fun c1 => ?_)
 ·have r2 := SJ hr (AL.isNone aa c1)
  refine AM (ua (Aa (Ap (Ah ?_))))
  refine B2 results81 ?_
  obtain rfl := AH r2
  exact ⟨_, _, _, [], rfl, rfl, AN.nil _ _ _ _ _⟩
 have r3 := Sz hr
 refine Al (AM ?_)
 refine HB (cs := #[]) rfl rfl (HV Lf) ?_; intro b4 af
 refine um ?_
 have ae : AN K.w0.heap.size 113 30 (Mo 30 cB) F (some ⟨b4, 0, none⟩) 0 0 ([] : List (List Bool)) [(b4, ce #[] 113)] := AN.BS (vss := []) (BP (n := 30) (sz := 1) BY) af .nil rfl rfl (by simp [maxLen])
 generalize ab : ([(b4, ce #[] 113)] : LH) = ah at ae
 refine AV (L' := ah ++ []) (by rw [← ab]; exact fO) ?_
 obtain ⟨l, h8, g9, ai⟩ := E9 r3
 refine DB (xs := ([] : List (List Bool))) (ys := s_) (zs := l) rfl Lf rfl rfl (Nat.le_refl _) (fun _ => .h) ae (AL.src aa) h8 g9 (by decide) ?_; intro MS ak Lv aj ad
 refine ua (Aa (Ap ?_))
 refine B2 results81 ?_
 obtain rfl := AH ai
 exact ⟨_, _, _, _, rfl, rfl, ad.any⟩
set_option maxHeartbeats 1000000 in
theorem IA (ab : AL 30 (Mo 30 cB) F Ce Cg Bl) (_h_count : Mp Tryz.prog F Dl Dk Dm (iE .i64) (Value.int .i64) count) {r : Int} (hr : EO Bl count stand = some r) :
    Bz Tryz.prog 109 #[.agg #[.slice Ce Bl.length Cg, .func (.func Dl) Dk Dm], .int .i64 stand] F (.int .i64 r) := by
 refine sp func109 ntmps109 fun K _ _ => ?_
 rw [EO] at hr
 refine AM ?_
 refine Bu rfl rfl ?_; intro b1 bm
 refine ua (BX (ua (Aa ?_)))
 obtain ⟨G1, h2, r3⟩ := Aw hr
 refine jE ([]) [(5, .int .i64 G1)] ?_ ?_
 ·clear r3
  refine AM (uv (Am Hn rfl) (uv (Ao isAgg109 rfl (Has.own 0 rfl) rfl) (uv (AX underlying109 rfl) ?_)))
  refine um (Aa ?_)
  refine Aq (kW kn ?_)
  refine A9 (fun av e1 F1 L1 => LA Bl av fun tl k => ∃ (aa : Int), Cn stand tl k aa = some G1 ∧ F = F1 ∧ L1 = [] ∧ e1.sub [(1, .int .i64 stand), (5, .int .i64 aa), (9, .slice Ce Bl.length Cg), (10, .int .i64 (Bl.length : Int)), (11, .int .i64 k)]) _ (m0 kr ⟨_, _, rfl, BO.start _, 0, h2, rfl, rfl, z5⟩) ?_
  rintro av e1 _ _ ⟨tl, k, aw, af, aa, r6, rfl, rfl, ba⟩
  refine Az _ ba (AM (uv (A7 rfl rfl) ?_))
  refine Aa (Ar ?_)
  refine cQ (fun c9 => ?_) fun c9 => ?_
  ·obtain ⟨x, bn, rfl, ah, ax, ae⟩ := BO.succ af c9
   rw [Cn] at r6
   refine Al (Ar ?_)
   refine Aq ?_
   refine AM (um ?_)
   obtain ⟨bo, bp, JH, bb, ai, aj, ad, ⟨rfl, ak⟩, ao, aq⟩ := AL.at (BP (n := 30) (sz := 1) BY) ab ([]) ax.1 ah
   refine uv (AA underlying109 sizeOf113 rfl ai rfl ax) (uv (As isAgg113 sizeOf113 rfl aj ad (CK ad ao aq)) ?_)
   refine A6 rfl zeroValue113 ?_; intro ay bc
   refine AJ (L' := [(ay, ce (arr cB (List.replicate 30 false)) 113)]) rfl (ua (Ru (i := 0) sizeOf113 rfl rfl rfl (Kw BY List.length_replicate) (Kw BY ak) (SS BY) (AJ (L' := [(ay, ce (arr cB x) 113)]) rfl ?_)))
   refine BX (um ?_)
   obtain ⟨x2, bg, ar, az⟩ := Bj r6
   have au := Sa BY ak ar
   refine uv (MX underlying113 sizeOf4 rfl rfl (NG ak bg)) (uv (Ao isAgg4 rfl (Has.own 0 rfl) ((au).2.2 0 (by decide))) (Aa ?_))
   refine AU rfl (fun N3 => ?_) (fun N3 => ?_)
   ·have bh := bt az N3
    refine Ak (um (um ?_))
    obtain ⟨bj, bk⟩ := AW bh
    refine uv (W7 rfl rfl bj) (uv (Vr rfl rfl) ?_)
    refine ua (Aa (Av (id := 1) (Ak ?_)))
    refine uv (A1 rfl rfl (BO.DZ af c9 (AL.lt ab))) ?_
    refine um (Aa ?_)
    subst aw; exact le kn ⟨_, _, rfl, ae, Ps aa (shl 1 k), bk, rfl, rfl, z5⟩
   have bl := bf az N3
   refine Al (Av (id := 1) (Ak ?_))
   refine uv (A1 rfl rfl (BO.DZ af c9 (AL.lt ab))) ?_
   refine um (Aa ?_)
   subst aw; exact le kn ⟨_, _, rfl, ae, aa, bl, rfl, rfl, z5⟩
  obtain rfl := BO.zero af c9
  rw [Cn] at r6
  refine AR (Aj (Aj ?_))
  refine Ay ?_
  obtain rfl := AH r6
  exact mi kr ⟨rfl, rfl, z1⟩
 refine AM (um (ua (Aa (Ap ?_))))
 refine B2 results109 ?_
 obtain rfl := AH r3
 exact rfl
theorem Qz {aa : Option Addr} {ab : Nat} {more : List Int} (ad : AL 1 (iE .i64) F aa ab more) {r : Int} (hr : JX n more = some r) :
    Bz Tryz.prog 110 #[.int .i64 n, .slice aa more.length ab] F (.int .i64 r) := by
 refine sp func110 ntmps110 fun K _ _ => ?_
 rw [JX] at hr
 refine AM (ua (Aa ?_))
 obtain ⟨n2, h1, r2⟩ := Aw hr
 refine jE ([]) [(0, .int .i64 n2)] ?_ ?_
 ·clear r2
  refine AM (um ?_)
  refine uv (AX underlying22 rfl) ?_
  refine um (Aa ?_)
  refine Aq ?_
  refine A9 (fun ak e1 F1 L1 => LA more ak fun tl k => ∃ (n3 : Int), Ge tl n3 = some n2 ∧ F = F1 ∧ L1 = [] ∧ e1.sub [(0, .int .i64 n3), (7, .slice aa more.length ab), (8, .int .i64 (more.length : Int)), (9, .int .i64 k)]) _ (m0 kr ⟨_, _, rfl, BO.start _, n, h1, rfl, rfl, z4⟩) ?_
  rintro ak e1 _ _ ⟨tl, k, ar, ae, n3, r5, rfl, rfl, au⟩
  refine Az _ au (AM (uv (A7 rfl rfl) ?_))
  refine Aa (Ar ?_)
  refine cQ (fun c8 => ?_) fun c8 => ?_
  ·obtain ⟨x, ay, rfl, af, ao, av⟩ := BO.succ ae c8
   rw [Ge] at r5
   refine Al (Ar ?_)
   refine Aq (AM ?_)
   obtain ⟨Yr, az, OV, aw, ah, ai, aq, rfl, ax, aj⟩ := AL.at (Ad _) ad ([]) ao.1 af
   refine uv (AA underlying22 sizeOf3 rfl ah rfl ao) (uv (Ao isAgg3 rfl ai (aj 0 (by decide))) ?_)
   refine ua (Aa (Ak (um (um ?_))))
   refine uv (Wo rfl rfl) ?_
   refine ua (Aa (Av (id := 1) (Ak ?_)))
   refine uv (A1 rfl rfl (BO.DZ ae c8 (AL.lt ad))) ?_
   refine um (Aa ?_)
   subst ar; exact le kr ⟨_, _, rfl, av, if x < n3 then x else n3, r5, rfl, rfl, z4⟩
  obtain rfl := BO.zero ae c8
  rw [Ge] at r5
  refine AR (Aj (Aj ?_))
  refine Ay ?_
  obtain rfl := AH r5
  exact mi kr ⟨rfl, rfl, z1⟩
 refine AM (um (ua (Aa (Ap ?_))))
 refine B2 results110 ?_
 obtain rfl := AH r2
 exact rfl
set_option maxHeartbeats 1000000 in
theorem Kj {rec_ : Int → Int → Int → (List (List Bool)) → (Int → Option Int) → (List ((Int × Int × Int) × Int)) → Option (Int × (List ((Int × Int × Int) × Int)))} (bc : ∀ {from_ aa G1 : Int} {ba : Nat} {Ce : Option Addr} {Cg : Nat} {Bl : List (List Bool)} {Dl : FuncId} {Dk Dm : Array Value} {count : Int → Option Int} {bb : Nat × Nat} {ah af : Nat} {ad : Array MapEntry} {aj : Nat} {met : List ((Int × Int × Int) × Int)} {au : Nat × Nat} {ar : Nat} {ax : Nat × Nat} {F : FS} (_ : F ba = some (.cells #[.slice Ce Bl.length Cg, .func (.func Dl) Dk Dm] 118 bb)) (_ : AL 30 (Mo 30 cB) F Ce Cg Bl) (_ : Mp Tryz.prog F Dl Dk Dm (iE .i64) (Value.int .i64) count) (_ : F ah = some (.cells #[.map (some af)] 148 au)) (_ : Hh (vA (cP (cI .i64) (cP (cI .i64) (cI .i64)))) (Value.int .i64) ad met) (_ : F ar = some (.cells (#[.func (.func 108) #[] #[.pointer (some ⟨ba, 0, none⟩), .pointer (some ⟨ah, 0, none⟩), .pointer (some ⟨ar, 0, none⟩)]]) 149 ax)) {r : Int} {r2 : List ((Int × Int × Int) × Int)} , rec_ from_ aa G1 Bl count met = some (r, r2) → SH.Spec Tryz.prog 108 #[.agg #[.int .i64 from_, .int .i64 aa, .int .i64 G1], .pointer (some ⟨ba, 0, none⟩), .pointer (some ⟨ah, 0, none⟩), .pointer (some ⟨ar, 0, none⟩)] F [(af, .map ad aj)] fun _ L' v => ∃ (ai : Array MapEntry) (aq : Nat), v = .int .i64 r ∧ L' = [(af, .map ai aq)] ∧ Hh (vA (cP (cI .i64) (cP (cI .i64) (cI .i64)))) (Value.int .i64) ai r2) {from_ aa : Int} {ba : Nat} {bb : Nat × Nat} {ah af : Nat} {ad : Array MapEntry} {aj : Nat} {met : List ((Int × Int × Int) × Int)} {au : Nat × Nat} {ar : Nat} {ax : Nat × Nat} (aw : F ba = some (.cells #[.slice Ce Bl.length Cg, .func (.func Dl) Dk Dm] 118 bb)) (ak : AL 30 (Mo 30 cB) F Ce Cg Bl) (ab : Mp Tryz.prog F Dl Dk Dm (iE .i64) (Value.int .i64) count) (ae : F ah = some (.cells #[.map (some af)] 148 au)) (av : Hh (vA (cP (cI .i64) (cP (cI .i64) (cI .i64)))) (Value.int .i64) ad met) (ao : F ar = some (.cells (#[.func (.func 108) #[] #[.pointer (some ⟨ba, 0, none⟩), .pointer (some ⟨ah, 0, none⟩), .pointer (some ⟨ar, 0, none⟩)]]) 149 ax)) {r : Int} {r2 : List ((Int × Int × Int) × Int)} (hr : E5 rec_ from_ aa G1 Bl count met = some (r, r2)) :
    SH.Spec Tryz.prog 108 #[.agg #[.int .i64 from_, .int .i64 aa, .int .i64 G1], .pointer (some ⟨ba, 0, none⟩), .pointer (some ⟨ah, 0, none⟩), .pointer (some ⟨ar, 0, none⟩)] F [(af, .map ad aj)] fun _ L' v => ∃ (ai : Array MapEntry) (aq : Nat), v = .int .i64 r ∧ L' = [(af, .map ai aq)] ∧ Hh (vA (cP (cI .i64) (cP (cI .i64) (cI .i64)))) (Value.int .i64) ai r2 := by
 refine sp func108 ntmps108 fun K _ _ => ?_
 rw [E5] at hr
 refine AM ?_
 refine Bu rfl rfl ?_; intro b1 du
 refine ua (Aa (Ar ?_))
 obtain ⟨k, h2, r3⟩ := Aw hr
 refine jE ([(b1, ce #[.int .i64 from_, .int .i64 aa, .int .i64 G1] 151), (af, .map ad aj)]) [(1, .pointer (some ⟨ba, 0, none⟩)), (2, .pointer (some ⟨ah, 0, none⟩)), (3, .pointer (some ⟨ar, 0, none⟩)), (4, .pointer (some ⟨b1, 0, none⟩)), (17, .bool k)] ?_ ?_
 ·clear r3
  refine Ak (uv (Am Iu rfl) (uv (Ao isAgg3 rfl (Has.own 0 rfl) rfl) (uv (Bv rfl rfl) (um ?_))))
  by_cases c4 : aa = 0
  ·have r5 := AO h2 c4
   refine fT c4 (fT c4 (fT c4 ?_))
   refine uv (Au (A5 rfl c4) rfl) (Aa ?_)
   obtain rfl := AH r5
   exact mi kr ⟨rfl, rfl, z5⟩
  have r6 := AP h2 c4
  refine nF c4 (uv (Am Hq rfl) (nF c4 (uv (Ao isAgg3 rfl (Has.own 0 rfl) rfl) (nF c4 (uv (Bv rfl rfl) (uv (At (AZ rfl c4) rfl) (Aa ?_)))))))
  obtain rfl := AH r6
  exact mi kr ⟨rfl, rfl, z5⟩
 refine AU rfl (fun c8 => ?_) (fun c8 => ?_)
 ·have r9 := bt r3 c8
  refine AM (uv (Am Va rfl) (uv (Ao isAgg116 rfl (Has.frozen aw) rfl) (uv (Am KS rfl) (uv (Ao isAgg3 rfl (Has.own 0 rfl) rfl) ?_))))
  obtain ⟨n, cb, cc⟩ := Aw r9
  refine LY rfl ab.1 rfl rfl rfl (ab.2 _ (AY.refl _) _ _ _ rfl cb) ?_
  refine ua (Aa ?_)
  refine kW (kd kr) ?_
  refine Ap (Ah ?_)
  refine B2 results108 ?_
  obtain ⟨rfl, rfl⟩ := BK cc
  exact ⟨_, _, rfl, rfl, av⟩
 have cd := bf r3 c8
 refine Al (Ar (AM ?_))
 refine uv (Ao isAgg148 rfl (Has.frozen ae) rfl) (uv (As isAgg151 sizeOf151 rfl (Has.own 0 rfl) (Be rfl) rfl) (uv (FC.eq (v' := .tuple #[.int .i64 ((Gi met (from_, aa, G1)).getD 0), .bool ((Gi met (from_, aa, G1)).isSome)]) (Q5 (k := (from_, aa, G1)) (z0 := 0) rfl underlying148 SI zeroValue3 rfl rfl (PI.own 1 rfl) (show Hh (vA (cP (cI .i64) (cP (cI .i64) (cI .i64)))) (Value.int .i64) ad (met : List ((Int × Int × Int) × Int)) from av)) rfl) ?_))
 refine um (ox rfl rfl rfl (ox rfl rfl rfl ?_))
 obtain ⟨n2, cf, bx⟩ := B8 cd
 refine uv ((Ej rfl).i cf) ?_
 refine ua (BX (um (Aa ?_)))
 refine AU rfl (fun JH => ?_) (fun JH => ?_)
 ·have cg := bt bx JH
  refine AM (um (ua (Aa ?_)))
  refine kW (kd kr) ?_
  refine Ap (Ah ?_)
  refine B2 results108 ?_
  obtain ⟨rfl, rfl⟩ := BK cg
  exact ⟨_, _, rfl, rfl, av⟩
 have cj := bf bx JH
 refine Al (AM ?_)
 refine uv (Ao isAgg149 rfl (Has.frozen ao) rfl) (uv (Am Hq rfl) (uv (Ao isAgg3 rfl (Has.own 0 rfl) rfl) ?_))
 obtain ⟨cn, cp⟩ := AW cj
 refine uv (A1 rfl rfl cn) (uv (Am Iu rfl) (uv (Ao isAgg3 rfl (Has.own 0 rfl) rfl) (uv (Am KS rfl) (uv (Ao isAgg3 rfl (Has.own 0 rfl) rfl) ?_))))
 refine uv (Bc (v := .agg #[.int .i64 (from_ + 1), .int .i64 aa, .int .i64 G1]) rfl (by intro w; kernel_rfl)) ?_
 obtain ⟨n3, cq, cr, ct⟩ := Bs cp
 refine IG (Lb := [(af, .map ad aj)]) (Lr := [(b1, ce #[.int .i64 from_, .int .i64 aa, .int .i64 G1] 151)]) rfl call108 rfl rfl rfl (((fC fO).trans (pC pR))) (bc aw ak ab ae av ao cr) ?_; rintro _ cu _ ay cv cw ⟨bk, bl, rfl, rfl, bg⟩
 replace ak := ak.mono (BP (n := 30) (sz := 1) BY) ay
 replace ab := ab.mono ay
 replace aw := ay _ _ aw
 replace ae := ay _ _ ae
 replace ao := ay _ _ ao
 refine AJ (lb (ln rfl)) ?_
 refine ua (Aa ?_)
 obtain ⟨m, n4, cx, bz⟩ := Bs ct
 refine AQ (fun e1 F1 L1 => ∃ (az : Array MapEntry) (bh : Nat), AY cu F1 ∧ L1 = [(af, .map az bh), (b1, ce #[.int .i64 from_, .int .i64 aa, .int .i64 G1] 151)] ∧ e1.sub [(2, .pointer (some ⟨ah, 0, none⟩)), (4, .pointer (some ⟨b1, 0, none⟩)), (8, .int .i64 n4)] ∧ Hh (vA (cP (cI .i64) (cP (cI .i64) (cI .i64)))) (Value.int .i64) az m) ?_ ?_
 ·clear bz
  refine dW (wv (Am KS rfl) (wv (Ao isAgg3 rfl (Has.own 1 rfl) rfl) (wv (As isAgg118 sizeOf118 rfl (Has.frozen aw) (Be rfl) rfl) (wv (Am Hq rfl) (wv (Ao isAgg3 rfl (Has.own 1 rfl) rfl) ?_)))))
  obtain ⟨n5, cy, ca⟩ := Aw cx
  refine Dx rfl call109 rfl rfl rfl (IA ak ab cy) (wv (Vr rfl rfl) ?_)
  refine wa (XT (um ?_))
  refine uv (Am KS rfl) (uv (Ao isAgg3 rfl (Has.own 1 rfl) rfl) (uv (Bo rfl rfl) (Aa ?_)))
  refine cQ (fun bm => ?_) fun bm => ?_
  ·have cz := AO ca bm
   refine Ak (um ?_)
   refine uv (Ao isAgg149 rfl (Has.frozen ao) rfl) (uv (Am Hq rfl) (uv (Ao isAgg3 rfl (Has.own 1 rfl) rfl) ?_))
   obtain ⟨da, db⟩ := AW cz
   refine uv (A1 rfl rfl da) (uv (Am Iu rfl) (uv (Ao isAgg3 rfl (Has.own 1 rfl) rfl) ?_))
   obtain ⟨dd, de⟩ := AW db
   refine uv (FD rfl rfl dd) (um ?_)
   refine uv (Bc (v := .agg #[.int .i64 (from_ + 1), .int .i64 (aa - 1), .int .i64 (Ps G1 n5)]) rfl (by intro w; kernel_rfl)) ?_
   obtain ⟨n6, df, dg, dh⟩ := Bs de
   refine cG call108 (bc aw ak ab ae bg ao dg) ?_; rintro _ dv _ bn di dk ⟨bo, bp, rfl, rfl, bq⟩
   refine AJ (lb (ln rfl)) (uv (Uj rfl rfl) ?_)
   refine ua (Aa ?_)
   obtain ⟨rfl, rfl⟩ := BK dh
   exact mi kr ⟨bo, bp, bn, rfl, z3, bq⟩
  have dm := AP ca bm
  refine Al ?_
  obtain ⟨rfl, rfl⟩ := BK dm
  exact mi kr ⟨bk, bl, AY.refl _, rfl, z3, bg⟩
 rintro e1 dw _ ⟨az, bh, br, rfl, bu, bw⟩
 refine Az _ bu ?_
 replace ae := br _ _ ae
 refine AM (uv (Ao isAgg148 rfl (Has.frozen ae) rfl) (uv (As isAgg151 sizeOf151 rfl (Has.own 1 rfl) (Be rfl) rfl) (um ?_)))
 refine RC (i := 0) (k := (from_, aa, G1)) (v := n4) underlying148 SI rfl rfl rfl rfl (show Hh (vA (cP (cI .i64) (cP (cI .i64) (cI .i64)))) (Value.int .i64) az (m : List ((Int × Int × Int) × Int)) from bw) ?_; intro dn dp bj
 obtain ⟨dq, dr, dt⟩ := B8 bz
 rw [← dr] at bj
 refine AJ rfl ?_
 refine BX (um (ua (Aa ?_)))
 refine kW (kc kn) (Ap (B2 results108 ?_))
 obtain ⟨rfl, rfl⟩ := BK dt
 exact ⟨_, _, rfl, rfl, bj⟩
theorem Gn : ∀ (fu : Nat) {from_ ah G1 : Int} {aq : Nat} {Ce : Option Addr} {Cg : Nat} {Bl : List (List Bool)} {Dl : FuncId} {Dk Dm : Array Value} {count : Int → Option Int} {ar : Nat × Nat} {ab ad : Nat} {ae : Array MapEntry} {ai : Nat} {met : List ((Int × Int × Int) × Int)} {aj : Nat × Nat} {ak : Nat} {ao : Nat × Nat} {F : FS} (_ : F aq = some (.cells #[.slice Ce Bl.length Cg, .func (.func Dl) Dk Dm] 118 ar)) (_ : AL 30 (Mo 30 cB) F Ce Cg Bl) (_ : Mp Tryz.prog F Dl Dk Dm (iE .i64) (Value.int .i64) count) (_ : F ab = some (.cells #[.map (some ad)] 148 aj)) (_ : Hh (vA (cP (cI .i64) (cP (cI .i64) (cI .i64)))) (Value.int .i64) ae met) (_ : F ak = some (.cells (#[.func (.func 108) #[] #[.pointer (some ⟨aq, 0, none⟩), .pointer (some ⟨ab, 0, none⟩), .pointer (some ⟨ak, 0, none⟩)]]) 149 ao)) {r : Int} {r2 : List ((Int × Int × Int) × Int)} , BB fu from_ ah G1 Bl count met = some (r, r2) → SH.Spec Tryz.prog 108 #[.agg #[.int .i64 from_, .int .i64 ah, .int .i64 G1], .pointer (some ⟨aq, 0, none⟩), .pointer (some ⟨ab, 0, none⟩), .pointer (some ⟨ak, 0, none⟩)] F [(ad, .map ae ai)] fun _ L' v => ∃ (aa : Array MapEntry) (af : Nat), v = .int .i64 r ∧ L' = [(ad, .map aa af)] ∧ Hh (vA (cP (cI .i64) (cP (cI .i64) (cI .i64)))) (Value.int .i64) aa r2 := by
  intro fu
  induction fu with
  | zero => intros; rename_i hr; rw [BB] at hr; cases hr
  | succ fu ih => intros; rename_i hr; rw [BB] at hr; exact Kj ih (by assumption) (by assumption) (by assumption) (by assumption) (by assumption) (by assumption) hr
set_option maxHeartbeats 1000000 in
theorem G7 {most : Int} (ad : AL 30 (Mo 30 cB) F Ce Cg Bl) (aa : Mp Tryz.prog F Dl Dk Dm (iE .i64) (Value.int .i64) count) {r : List Int} {r2 : Int} (hr : Dr Bl count most = some (r, r2)) :
    SH.Spec Tryz.prog 82 #[.agg #[.slice Ce Bl.length Cg, .func (.func Dl) Dk Dm], .int .i64 most] F [] fun F' L' v => ∃ (ra : Option Addr) (rn : Nat) (rc : Nat) (rL : LH), v = .tuple #[.slice ra rn rc, .int .i64 r2] ∧ L' = rL ++ [] ∧ AN 0 3 1 (iE .i64) F' ra rn rc r rL := by
 refine sp func82 ntmps82 fun K _ _ => ?_
 rw [Dr] at hr
 refine AM ?_
 refine Bu rfl rfl ?_; intro b1 gn
 refine ua (ua (BX ?_))
 refine Qa rfl ?_; intro b2 j5
 refine A6 rfl zeroValue148 ?_; intro b3 gp
 refine Bt (i := 0) sizeOf148 rfl rfl rfl rfl (Be rfl) (AJ rfl (BX ?_))
 refine A6 rfl zeroValue149 ?_; intro b4 gq
 refine BX (uv (He rfl rfl) (Bt (i := 0) sizeOf149 rfl rfl rfl rfl (Be rfl) (AJ rfl ?_)))
 refine BX (um ?_)
 refine uv (Am Hn rfl) (uv (Ao isAgg109 rfl (Has.own 3 rfl) rfl) (uv (AX underlying109 rfl) ?_))
 refine bA (cs := #[.int .i64 (Bl.length : Int)]) Br [.int .i64 (Bl.length : Int)] ?_; intro b5 gr
 refine B1 0 rfl gr ?_; intro F6 fw gu
 refine AJ rfl ?_
 replace ad := ad.mono (BP (n := 30) (sz := 1) BY) fw
 replace aa := aa.mono fw
 have h9 : AL 1 (iE .i64) F6 (some ⟨b5, 0, none⟩) 1 [(Bl.length : Int)] := AL.BS (Ad _) (vss := [[.int .i64 (Bl.length : Int)]]) (xs := [(Bl.length : Int)]) gu (.cons rfl .nil) rfl (by simp [maxLen])
 obtain ⟨n, gv, gw⟩ := Aw hr
 refine cV call110 (Qz h9 gv) ?_
 refine ua (BX ?_)
 refine uv (Ao isAgg149 rfl (Has.own 0 rfl) rfl) (um ?_)
 refine uv (Bc (v := .agg #[.int .i64 0, .int .i64 n, .int .i64 0]) rfl (by intro w; kernel_rfl)) ?_
 refine B1 3 rfl gn ?_; intro j6 cp ai
 refine AJ rfl ?_
 replace ad := ad.mono (BP (n := 30) (sz := 1) BY) cp
 replace aa := aa.mono cp
 refine B1 1 rfl gp ?_; intro j7 bw ak
 refine AJ rfl ?_
 replace ad := ad.mono (BP (n := 30) (sz := 1) BY) bw
 replace aa := aa.mono bw
 replace ai := bw _ _ ai
 refine B1 0 rfl gq ?_; intro j8 bj ao
 refine AJ rfl ?_
 replace ad := ad.mono (BP (n := 30) (sz := 1) BY) bj
 replace aa := aa.mono bj
 replace ai := bj _ _ ai
 replace ak := bj _ _ ak
 obtain ⟨n2, met, gy, gz⟩ := Bs gw
 refine cG call108 ((Gn FU) ai ad aa ak Hh.nil ao gy) ?_; rintro _ fx _ bc ia ib ⟨dk, dm, rfl, rfl, dn⟩
 replace ad := ad.mono (BP (n := 30) (sz := 1) BY) bc
 replace aa := aa.mono bc
 replace ai := bc _ _ ai
 replace ak := bc _ _ ak
 replace ao := bc _ _ ao
 refine AJ (lb (ln rfl)) ?_
 refine ua (BX ?_)
 refine uv (Bc (v := .agg #[.int .i64 0, .int .i64 0, .int .i64 0]) rfl (by intro w; kernel_rfl)) ?_
 refine A6 rfl zeroValue151 ?_; intro av ic
 refine Bg (i := 0) sizeOf151 rfl rfl rfl (by simp [Value.oneCell']) rfl (Be rfl) (AJ rfl (Aa ?_))
 obtain ⟨m, ay, ie, fy⟩ := Bs gz
 refine AQ (fun e1 F1 L1 => ∃ (bk : Array MapEntry) (bx : Nat), AY fx F1 ∧ L1 = [(b2, .map bk bx), (av, ce #[.int .i64 0, .int .i64 ay, .int .i64 0] 151)] ∧ e1.sub [(2, .pointer (some ⟨b1, 0, none⟩)), (7, .pointer (some ⟨b4, 0, none⟩)), (8, .int .i64 n2), (9, .pointer (some ⟨av, 0, none⟩))] ∧ Hh (vA (cP (cI .i64) (cP (cI .i64) (cI .i64)))) (Value.int .i64) bk m) ?_ ?_
 ·clear fy
  refine Aq ?_
  refine A9 (fun de e1 F1 L1 => ∃ (m2 : List ((Int × Int × Int) × Int)) (aj : Int) (bl : Array MapEntry) (bz : Nat), Ci Bl count n2 de m2 aj = some (m, ay) ∧ AY fx F1 ∧ L1 = [(av, ce #[.int .i64 0, .int .i64 aj, .int .i64 0] 151), (b2, .map bl bz)] ∧ e1.sub [(2, .pointer (some ⟨b1, 0, none⟩)), (7, .pointer (some ⟨b4, 0, none⟩)), (8, .int .i64 n2), (9, .pointer (some ⟨av, 0, none⟩))] ∧ Hh (vA (cP (cI .i64) (cP (cI .i64) (cI .i64)))) (Value.int .i64) bl m2) FU (m0 kr ⟨met, 0, dk, dm, ie, AY.refl _, rfl, z4, dn⟩) ?_
  rintro de e1 j9 _ ⟨m2, aj, bl, bz, df, az, rfl, dp, dq⟩
  refine Az _ dp ?_
  replace ad := ad.mono (BP (n := 30) (sz := 1) BY) az
  replace aa := aa.mono az
  replace ai := az _ _ ai
  replace ak := az _ _ ak
  replace ao := az _ _ ao
  rcases de with _ | de
  ·rw [Ci] at df; cases df
  rw [Ci] at df
  refine Ar (AM ?_)
  refine uv (Ao isAgg149 rfl (Has.frozen ao) rfl) (uv (Am Iu rfl) (uv (Ao isAgg3 rfl (Has.own 0 rfl) rfl) ?_))
  refine uv (Bc (v := .agg #[.int .i64 0, .int .i64 aj, .int .i64 0]) rfl (by intro w; kernel_rfl)) ?_
  obtain ⟨n3, dr, ig, ga⟩ := Bs df
  refine IG (Lb := [(b2, .map bl bz)]) (Lr := [(av, ce #[.int .i64 0, .int .i64 aj, .int .i64 0] 151)]) rfl call108 rfl rfl rfl (((fC fO).trans (pC pR))) ((Gn FU) ai ad aa ak dq ao ig) ?_; rintro _ ja _ cq ij ik ⟨cr, ct, rfl, rfl, cu⟩
  refine AJ (lb (ln rfl)) (um (uv (A7 rfl rfl) (Aa ?_)))
  refine cQ (fun dt => ?_) fun dt => ?_
  ·have il := AO ga dt
   refine Al (Aq (Ak (uv (Am Iu rfl) (uv (Ao isAgg3 rfl (Has.own 1 rfl) rfl) ?_))))
   obtain ⟨im, iq⟩ := AW il
   refine uv (A1 rfl rfl im) (uv (Am Iu rfl) (Bt (i := 1) sizeOf3 rfl rfl rfl rfl (Be rfl) (AJ rfl ?_)))
   refine Aa (Av (id := 1) ?_)
   exact le (kf (fC fO) kr) ⟨dr, aj + 1, cr, ct, iq, (az.trans cq), rfl, z4, cu⟩
  have ir := AP ga dt
  refine AR (Aj (Aj ?_))
  refine Ay ?_
  obtain ⟨rfl, rfl⟩ := BK ir
  exact mi kr ⟨cr, ct, (az.trans cq), rfl, z4, cu⟩
 rintro e1 gb _ ⟨bk, bx, bg, rfl, du, dv⟩
 refine Az _ du ?_
 replace ad := ad.mono (BP (n := 30) (sz := 1) BY) bg
 replace aa := aa.mono bg
 replace ai := bg _ _ ai
 replace ak := bg _ _ ak
 replace ao := bg _ _ ao
 refine AM (ua (Aa ?_))
 obtain ⟨out, iu, gg⟩ := Aw fy
 refine AQ (fun e1 F1 L1 => ∃ (dw : Option Addr) (dx : Nat) (dy : Nat) (ca : LH), AY gb F1 ∧ L1 = (ca ++ []) ∧ e1.sub [(8, .int .i64 n2), (10, .slice dw dx dy)] ∧ AN K.w0.heap.size 3 1 (iE .i64) F1 dw dx dy out ca) ?_ ?_
 ·clear gg
  refine Aq ?_
  refine A9 (fun dg e1 F1 L1 => ∃ (m3 : List ((Int × Int × Int) × Int)) (aw : Int) (ab : Int) (af : Int) (bm : List Int) (bn : Array MapEntry) (cb : Nat) (cg : Option Addr) (cj : Nat) (cn : Nat) (bb : LH), B0 Bl count n2 dg m3 aw ab af bm = some out ∧ AY gb F1 ∧ L1 = ((b2, .map bn cb) :: ((av, ce #[.int .i64 aw, .int .i64 ab, .int .i64 af] 151) :: (bb ++ []))) ∧ e1.sub [(2, .pointer (some ⟨b1, 0, none⟩)), (7, .pointer (some ⟨b4, 0, none⟩)), (8, .int .i64 n2), (9, .pointer (some ⟨av, 0, none⟩)), (10, .slice cg cj cn)] ∧ Hh (vA (cP (cI .i64) (cP (cI .i64) (cI .i64)))) (Value.int .i64) bn m3 ∧ AN K.w0.heap.size 3 1 (iE .i64) F1 cg cj cn bm bb) FU (m0 (kc (kc (ke kr))) ⟨m, 0, ay, 0, [], bk, bx, none, 0, 0, [], iu, AY.refl _, rfl, z5, dv, AN.nil _ _ _ _ _⟩) ?_
  rintro dg e1 gh _ ⟨m3, aw, ab, af, bm, bn, cb, cg, cj, cn, bb, cv, ba, rfl, dz, eb, bo⟩
  refine Az _ dz ?_
  replace ad := ad.mono (BP (n := 30) (sz := 1) BY) ba
  replace aa := aa.mono ba
  replace ai := ba _ _ ai
  replace ak := ba _ _ ak
  replace ao := ba _ _ ao
  rcases dg with _ | dg
  ·rw [B0] at cv; cases cv
  rw [B0] at cv
  refine Ar (AM ?_)
  refine uv (Am Iu rfl) (uv (Ao isAgg3 rfl (Has.own 1 rfl) rfl) (uv (Ex rfl rfl) (Aa ?_)))
  refine cQ (fun eg => ?_) fun eg => ?_
  ·have iv := AO cv eg
   refine Al (Aq ?_)
   obtain ⟨m4, ae, iw, gi⟩ := Bs iv
   refine AQ (fun e1 F1 L1 => ∃ (bp : Array MapEntry) (cc : Nat), AY gh F1 ∧ L1 = ((b2, .map bp cc) :: ((av, ce #[.int .i64 ae, .int .i64 ab, .int .i64 af] 151) :: (bb ++ []))) ∧ e1.sub [(2, .pointer (some ⟨b1, 0, none⟩)), (7, .pointer (some ⟨b4, 0, none⟩)), (8, .int .i64 n2), (9, .pointer (some ⟨av, 0, none⟩)), (10, .slice cg cj cn)] ∧ Hh (vA (cP (cI .i64) (cP (cI .i64) (cI .i64)))) (Value.int .i64) bp m4) ?_ ?_
   ·clear gi
    refine Aq ?_
    refine A9 (fun dh e1 F1 L1 => ∃ (m5 : List ((Int × Int × Int) × Int)) (ah : Int) (cd : Array MapEntry) (cw : Nat), CL Bl count n2 ab af dh m5 ah = some (m4, ae) ∧ AY gh F1 ∧ L1 = ((b2, .map cd cw) :: ((av, ce #[.int .i64 ah, .int .i64 ab, .int .i64 af] 151) :: (bb ++ []))) ∧ e1.sub [(2, .pointer (some ⟨b1, 0, none⟩)), (7, .pointer (some ⟨b4, 0, none⟩)), (8, .int .i64 n2), (9, .pointer (some ⟨av, 0, none⟩)), (10, .slice cg cj cn)] ∧ Hh (vA (cP (cI .i64) (cP (cI .i64) (cI .i64)))) (Value.int .i64) cd m5) FU (m0 kr ⟨m3, aw, bn, cb, iw, AY.refl _, rfl, z5, eb⟩) ?_
    rintro dh e1 jb _ ⟨m5, ah, cd, cw, di, aq, rfl, eh, ei⟩
    refine Az _ eh ?_
    replace ad := ad.mono (BP (n := 30) (sz := 1) BY) aq
    replace aa := aa.mono aq
    replace ai := aq _ _ ai
    replace ak := aq _ _ ak
    replace ao := aq _ _ ao
    rcases dh with _ | dh
    ·rw [CL] at di; cases di
    rw [CL] at di
    refine Ar (Ar ?_)
    refine CF [(.still, 0), (.still, 1), (.still, 2), (.still, 3), (.still, 4), (.still, 5), (.still, 6), (.still, 7), (.still, 8), (.still, 9), (.still, 10), (.still, 11), (.still, 16), (.seq, 12), (.still, 13), (.still, 14), (.seq, 15), (.still, 17)] (by kernel_rfl) (by kernel_rfl) (trivial) (by rfl) (by kernel_rfl) (mL [7] ([]) rfl sm (fun H F' L' ar au => Ao isAgg149 rfl ((Has.frozen ao).ext ar au) rfl) (mS [9] rfl (Am Hq rfl) (mL [39] ([(av, ce #[.int .i64 ah, .int .i64 ab, .int .i64 af] 151)]) rfl (s0 (s1 (s2 (s3 sr)))) (fun H F' L' ar au => Ao isAgg3 rfl ((Has.own 0 rfl).ext ar au) rfl) ?_)))
    obtain ⟨ej, en⟩ := AW di
    refine mS (v := .int .i64 (ah + 1)) [40] rfl (A1 rfl rfl ej) (mS [9] rfl (Am Iu rfl) (mL [42] ([(av, ce #[.int .i64 ah, .int .i64 ab, .int .i64 af] 151)]) rfl (s0 (s1 (s2 (s3 sr)))) (fun H F' L' ar au => Ao isAgg3 rfl ((Has.own 0 rfl).ext ar au) rfl) ?_))
    obtain ⟨eo, ep⟩ := AW en
    refine mS (v := .int .i64 (ab - 1)) [43] rfl (FD rfl rfl eo) (mS [9] rfl (Am KS rfl) (mL [45] ([(av, ce #[.int .i64 ah, .int .i64 ab, .int .i64 af] 151)]) rfl (s0 (s1 (s2 (s3 sr)))) (fun H F' L' ar au => Ao isAgg3 rfl ((Has.own 0 rfl).ext ar au) rfl) (mL [2] ([]) rfl sm (fun H F' L' ar au => As isAgg118 sizeOf118 rfl ((Has.frozen ai).ext ar au) (Be rfl) rfl) (mS [9] rfl (Am Hq rfl) (mL [48] ([(av, ce #[.int .i64 ah, .int .i64 ab, .int .i64 af] 151)]) rfl (s0 (s1 (s2 (s3 sr)))) (fun H F' L' ar au => Ao isAgg3 rfl ((Has.own 0 rfl).ext ar au) rfl) (mS [8] rfl (Bh rfl) ?_))))))
    refine ⟨_, [(47, .agg #[.slice Ce Bl.length Cg, .func (.func Dl) Dk Dm]), (49, .int .i64 ah)], rfl, rfl, z2, by kernel_rfl, ?_⟩; intro H
    obtain ⟨n4, er, et⟩ := Aw ep
    refine cV call109 (IA ad aa er) ?_
    refine Aa ⟨_, rfl, AY.refl _, [16, 8, 7, 6, 5, 4, 3, 2, 1, 0], by kernel_rfl, .inl (.inr (fun d h => by cases h; rfl)), (fc sm (fc (s0 (s1 (s2 (s3 sr)))) (fc sm (fc sm (fc (s0 (s1 (s2 (s3 sr)))) (fc sm (fc sm (fc (s0 (s1 (s2 (s3 sr)))) (fc sm (fc sm nm)))))))))), ?_⟩
    refine mS (v := .int .i64 (Ps af n4)) [46, 50] rfl (Vr rfl rfl) ?_
    refine mS (v := .agg #[.int .i64 (ah + 1), .int .i64 (ab - 1), .int .i64 (Ps af n4)]) [41, 44, 51] rfl (Bc (v := .agg #[.int .i64 (ah + 1), .int .i64 (ab - 1), .int .i64 (Ps af n4)]) rfl (by intro w; kernel_rfl)) ?_
    refine ⟨_, [(38, .func (.func 108) #[] #[.pointer (some ⟨b1, 0, none⟩), .pointer (some ⟨b3, 0, none⟩), .pointer (some ⟨b4, 0, none⟩)]), (52, .agg #[.int .i64 (ah + 1), .int .i64 (ab - 1), .int .i64 (Ps af n4)])], rfl, rfl, z2, by kernel_rfl, ?_⟩; intro H
    obtain ⟨n5, eu, ew, cx⟩ := Bs et
    refine cG call108 ((Gn FU) ai ad aa ak ei ao ew) ?_; rintro _ iy _ bh gj gk ⟨bq, br, rfl, rfl, bu⟩
    refine AJ (lb (ln rfl)) ?_
    refine Aa ⟨_, rfl, bh, [16], by kernel_rfl, .inl (.inr (fun d h => by cases h; rfl)), (fc sm nm), ?_⟩
    refine mS (v := .bool (decide (n5 < n2))) [53, 54] rfl (A7 rfl rfl) (DI ?_)
    refine cQ (fun cf => ?_) fun cf => ?_
    ·have ey := AO cx cf
     refine Al (Aq (Ak (uv (Am Hq rfl) (uv (Ao isAgg3 rfl (Has.own 1 rfl) rfl) ?_))))
     obtain ⟨ez, fa⟩ := AW ey
     refine uv (A1 rfl rfl ez) (uv (Am Hq rfl) (Bt (i := 1) sizeOf3 rfl rfl rfl rfl (Be rfl) (AJ rfl ?_)))
     refine Aa (Av (id := 5) ?_)
     exact le kr ⟨eu, ah + 1, bq, br, fa, (aq.trans bh), rfl, z5, bu⟩
    have fb := AP cx cf
    refine AR (Aj (Aj ?_))
    refine Ay ?_
    obtain ⟨rfl, rfl⟩ := BK fb
    exact mi kr ⟨bq, br, (aq.trans bh), rfl, z5, bu⟩
   rintro e1 iz _ ⟨bp, cc, ax, rfl, cy, fe⟩
   refine Az _ cy ?_
   replace ad := ad.mono (BP (n := 30) (sz := 1) BY) ax
   replace aa := aa.mono ax
   replace bo := bo.mono (Ad _) ax
   replace ai := ax _ _ ai
   refine AM (um ?_)
   refine uv (Am Hq rfl) (uv (Ao isAgg3 rfl (Has.own 1 rfl) rfl) ?_)
   refine bA (cs := #[.int .i64 ae]) Br [.int .i64 ae] ?_; intro j0 gl
   obtain ⟨cz, ff, fg, fh⟩ := E9 gi
   refine DB (xs := bm) (ys := [ae]) (zs := cz) rfl Br rfl rfl (Nat.le_refl _) (fun _ => .c (.c (.c .h))) bo (GO.box (vss := [[.int .i64 ae]]) (ys := [ae]) 0 rfl (Ad _) (.cons rfl .nil) rfl rfl) ff fg (by decide) ?_; intro fi fj fk da db
   refine kO (kd kr) ?_
   refine ua (Aa ?_)
   refine CF [(.still, 0), (.still, 1), (.still, 2), (.still, 3), (.still, 4), (.still, 5), (.still, 6), (.still, 7), (.still, 8), (.still, 9), (.still, 10), (.seq, 11), (.still, 12), (.still, 13), (.seq, 14)] (by kernel_rfl) (by kernel_rfl) (trivial) (by rfl) (by kernel_rfl) (mS [9] rfl (Am Hq rfl) (mL [65] ([(av, ce #[.int .i64 ae, .int .i64 ab, .int .i64 af] 151)]) rfl (s0 (s1 (s2 (s3 sr)))) (fun H F' L' ar au => Ao isAgg3 rfl ((Has.own 0 rfl).ext ar au) rfl) ?_))
   obtain ⟨fl, fm⟩ := AW fh
   refine mS (v := .int .i64 (ae + 1)) [66] rfl (A1 rfl rfl fl) (mS [9] rfl (Am Iu rfl) (mL [68] ([(av, ce #[.int .i64 ae, .int .i64 ab, .int .i64 af] 151)]) rfl (s0 (s1 (s2 (s3 sr)))) (fun H F' L' ar au => Ao isAgg3 rfl ((Has.own 0 rfl).ext ar au) rfl) ?_))
   obtain ⟨fo, fp⟩ := AW fm
   refine mS (v := .int .i64 (ab - 1)) [69] rfl (FD rfl rfl fo) (mS [9] rfl (Am KS rfl) (mL [71] ([(av, ce #[.int .i64 ae, .int .i64 ab, .int .i64 af] 151)]) rfl (s0 (s1 (s2 (s3 sr)))) (fun H F' L' ar au => Ao isAgg3 rfl ((Has.own 0 rfl).ext ar au) rfl) (mL [2] ([]) rfl sm (fun H F' L' ar au => As isAgg118 sizeOf118 rfl ((Has.frozen ai).ext ar au) (Be rfl) rfl) (mS [9] rfl (Am Hq rfl) (mL [74] ([(av, ce #[.int .i64 ae, .int .i64 ab, .int .i64 af] 151)]) rfl (s0 (s1 (s2 (s3 sr)))) (fun H F' L' ar au => Ao isAgg3 rfl ((Has.own 0 rfl).ext ar au) rfl) ?_)))))
   refine ⟨_, [(73, .agg #[.slice Ce Bl.length Cg, .func (.func Dl) Dk Dm]), (75, .int .i64 ae)], rfl, rfl, z2, by kernel_rfl, ?_⟩; intro H
   obtain ⟨n6, fq, fs⟩ := Aw fp
   refine cV call109 (IA ad aa fq) ?_
   refine Aa ⟨_, rfl, AY.refl _, [7, 6, 5, 4, 3, 2, 1, 0], by kernel_rfl, .inl (.inr (fun d h => by cases h; rfl)), (fc (s0 (s1 (s2 (s3 sr)))) (fc sm (fc sm (fc (s0 (s1 (s2 (s3 sr)))) (fc sm (fc sm (fc (s0 (s1 (s2 (s3 sr)))) (fc sm nm)))))))), ?_⟩
   refine mS (v := .int .i64 (Ps af n6)) [72, 76] rfl (Vr rfl rfl) ?_
   refine mS (v := .agg #[.int .i64 (ae + 1), .int .i64 (ab - 1), .int .i64 (Ps af n6)]) [67, 70, 77] rfl (Bc (v := .agg #[.int .i64 (ae + 1), .int .i64 (ab - 1), .int .i64 (Ps af n6)]) rfl (by intro w; kernel_rfl)) ?_
   refine ⟨_, [(9, .pointer (some ⟨av, 0, none⟩)), (78, .agg #[.int .i64 (ae + 1), .int .i64 (ab - 1), .int .i64 (Ps af n6)])], rfl, rfl, z2, by kernel_rfl, ?_⟩; intro H
   refine Bg (i := 1) sizeOf151 rfl rfl rfl (by simp [Value.oneCell']) rfl (Be rfl) (AJ rfl ?_)
   refine Aa ⟨undef, rfl, AY.refl _, [], by kernel_rfl, .inl (.inl rfl), nm, ?_⟩
   refine DI (Av (id := 3) ?_)
   exact le kr ⟨m4, ae + 1, ab - 1, Ps af n6, cz, bp, cc, fi, fj, fk, da, fs, (ba.trans ax), rfl, z5, fe, db⟩
  have ft := AP cv eg
  refine AR (Aj (Aj ?_))
  refine Ay ?_
  obtain rfl := AH ft
  exact mi (kd (kd kr)) ⟨cg, cj, cn, bb, ba, rfl, z2, bo⟩
 rintro e1 j4 _ ⟨dw, dx, dy, ca, gm, rfl, dd, fv⟩
 refine Az _ dd ?_
 refine AM (um (um (ua (ua (Aa (Ap ?_))))))
 refine Ba results82 (AG rfl) (AG rfl) (sr) ?_
 obtain ⟨rfl, rfl⟩ := BK gg
 exact ⟨_, _, _, _, rfl, rfl, fv.any⟩
set_option maxHeartbeats 1000000 in
theorem Kl (ah : AL 1 (iE .i64) F Af Ae Ac) (ad : AL 1 (iE .i64) F A3 A4 AI) {r : List Int} {r2 : Int} (hr : DQ wide Ac AK AF AI = some (r, r2)) :
    SH.Spec Tryz.prog 43 #[.agg #[.int .i64 wide, .slice Af Ac.length Ae], .agg #[.int .i64 AK, .int .i64 AF], .slice A3 AI.length A4] F [] fun F' L' v => ∃ (ra : Option Addr) (rn : Nat) (rc : Nat) (rL : LH), v = .tuple #[.slice ra rn rc, .int .i64 r2] ∧ L' = rL ++ [] ∧ AN 0 3 1 (iE .i64) F' ra rn rc r rL := by
 refine sp func43 ntmps43 fun K _ _ => ?_
 rw [DQ] at hr
 refine AM ?_
 refine Bu rfl rfl ?_; intro b1 cx
 refine Bu rfl rfl ?_; intro b2 cy
 refine ua (ua (BX ?_))
 refine uv (As isAgg25 sizeOf25 rfl (Has.own 1 rfl) (Be rfl) rfl) (uv (As isAgg29 sizeOf29 rfl (Has.own 0 rfl) (Be rfl) rfl) (um ?_))
 obtain ⟨l, y, n, h3, r4⟩ := Lg hr
 refine c0 call78 (GP ah ad h3) ?_; rintro _ F5 _ cz bk ⟨a9, ar, H4, ai, da, rfl, rfl, aa, ak⟩
 replace aa := aa.new fun p hp => bk p (by simp [hp])
 refine AJ (lp (ln rfl)) (kO (kf (fS fO) (kf (fS fO) kr)) ?_)
 refine um (ox rfl rfl rfl (ox rfl rfl rfl ?_))
 refine A6 rfl zeroValue118 ?_; intro aq bl
 refine Bg (i := 0) sizeOf118 rfl rfl rfl (fc rfl (fc (ak.1) nm)) rfl (Be rfl) (AJ rfl ?_)
 refine ua (Aa (Ar ?_))
 refine Aq ?_
 refine AM (um ?_)
 refine uv (Bo rfl rfl) ?_
 refine ua (Aa ?_)
 refine cQ (fun KW => ?_) fun KW => ?_
 ·have bm := AO r4 KW
  refine AM (um (ua (ua (Aa ?_))))
  refine kW kn ?_
  refine Ap (AB (Ah ?_))
  refine Ba results43 (AG rfl) (AG rfl) (sr) ?_
  obtain ⟨rfl, rfl⟩ := BK bm
  exact ⟨_, _, _, [], rfl, rfl, AN.nil _ _ _ _ _⟩
 have bn := AP r4 KW
 refine AM (uv (As isAgg118 sizeOf118 rfl (Has.own 0 rfl) (Be rfl) rfl) ?_)
 obtain ⟨bo, bp⟩ := AW bn
 obtain rfl := ak.2 bo
 have ab : Mp Tryz.prog F5 106 #[] #[] (iE .i64) (Value.int .i64) (fun bh : Int => Dw bh) := ⟨call106, fun F2 h2 vs bh r ha hr => by obtain rfl := ha; exact Jf hr⟩
 obtain ⟨ok, bq, bj⟩ := Aw bp
 refine Bi (Lt := ai ++ []) (Lr := [(aq, ce (#[.slice a9 ar H4, .func (.func 106) #[] #[]]) 118), (b2, ce #[.int .i64 AK, .int .i64 AF] 29), (b1, ce #[.int .i64 wide, .slice Af Ac.length Ae] 25)]) rfl call79 rfl rfl rfl (pT ((fC (fC (fC fP))).trans (pA pR)) (lp (ln rfl))) (fun F2 h2 h3 => by rw [(AN.Bm aa).1]; exact Jt (aa.row (BP (n := 30) (sz := 1) BY) h2 (fun p hp => h3 p (List.mem_append_left _ hp))) (ab.mono h2) bq) ?_
 refine ua (Aa ?_)
 refine AU rfl (fun JE => ?_) (fun JE => ?_)
 ·have br := bt bj JE
  refine AM (ua (ua (Aa ?_)))
  refine kW kn ?_
  refine Ap (AB (Ah ?_))
  refine Ba results43 (AG rfl) (AG rfl) (sr) ?_
  obtain ⟨rfl, rfl⟩ := BK br
  exact ⟨_, _, _, [], rfl, rfl, AN.nil _ _ _ _ _⟩
 have bu := bf bj JE
 refine Al (Av (id := 0) (AM ?_))
 refine uv (Am Hn rfl) (uv (Ao isAgg109 rfl (Has.own 0 rfl) rfl) ?_)
 obtain ⟨l2, bw, bx⟩ := Aw bu
 refine Dh (Lb := []) (Lt := ai ++ []) (Lr := [(aq, ce (#[.slice a9 ar H4, .func (.func 106) #[] #[]]) 118), (b2, ce #[.int .i64 AK, .int .i64 AF] 29), (b1, ce #[.int .i64 wide, .slice Af Ac.length Ae] 25)]) rfl call81 rfl rfl rfl (pT ((fC (fC (fC fP))).trans (pA pR)) (ln (lp (ln rfl)))) (fun F2 h2 h3 => by rw [(AN.Bm aa).1]; exact Ia (aa.row (BP (n := 30) (sz := 1) BY) h2 (fun p hp => h3 p (List.mem_append_left _ hp))) bw) (fun _ _ _ _ hq => by obtain ⟨bz, ca, cb, ao, rfl, rfl, ae⟩ := hq; exact ⟨_, _, _, _, rfl, rfl, ae.flat (fun _ _ h => h)⟩) ?_; rintro _ db _ au av aw ⟨bz, ca, cb, ao, rfl, rfl, ae⟩
 replace ab := ab.mono au
 have ax := J1 (Lb' := []) (by rfl) av aw
 replace ae := ae.new fun p hp => ax p (by simp [hp])
 refine AJ (lp (ln (lp (ln rfl)))) (kO (kf (fS (fS fO)) (kf (fS (fS fO)) (kf (fS (fS fO)) kr))) ?_)
 obtain ⟨l3, cc, cd⟩ := Aw bx
 refine IG (Lb := ao ++ []) (Lr := (aq, ce (#[.slice a9 ar H4, .func (.func 106) #[] #[]]) 118) :: ((b2, ce #[.int .i64 AK, .int .i64 AF] 29) :: ((b1, ce #[.int .i64 wide, .slice Af Ac.length Ae] 25) :: (ai ++ [])))) rfl call80 rfl rfl rfl (pT ((fC (fC (fC fP))).trans (pA pR)) (lp (ln rfl))) (HI ae cc) ?_; rintro _ dd _ ay cf cg ⟨cj, cn, cp, az, rfl, rfl, aj⟩
 replace ab := ab.mono ay
 refine AJ (lp (ln rfl)) (kO (kf (fS fO) (kf (fS fO) (kf (fS fO) kr))) (uv (Am Hn rfl) (Bt (i := 0) sizeOf109 rfl rfl rfl rfl (Be rfl) (AJ rfl (BX (uv (As isAgg118 sizeOf118 rfl (Has.own 0 rfl) (Be rfl) rfl) (uv (Am Hn rfl) ?_)))))))
 refine uv (Ao isAgg109 rfl (Has.own 0 rfl) rfl) (uv ((AX underlying109 rfl).i (AN.HH aj)) ?_)
 obtain ⟨l4, n2, cq, cr⟩ := Bs cd
 refine Dh (Lb := []) (Lt := az ++ []) (Lr := (aq, ce (#[.slice cj cn cp, .func (.func 106) #[] #[]]) 118) :: ((b2, ce #[.int .i64 AK, .int .i64 AF] 29) :: ((b1, ce #[.int .i64 wide, .slice Af Ac.length Ae] 25) :: (ai ++ [])))) rfl call82 rfl rfl rfl (pT ((fC (fC (fC fP))).trans (pA pR)) (ln (lp (ln rfl)))) (fun F2 h2 h3 => by rw [(AN.Bm aj).1]; exact G7 (aj.row (BP (n := 30) (sz := 1) BY) h2 (fun p hp => h3 p (List.mem_append_left _ hp))) (ab.mono h2) cq) (fun _ _ _ _ hq => by obtain ⟨ct, cu, cv, ba, rfl, rfl, af⟩ := hq; exact ⟨_, _, _, _, rfl, rfl, af.flat (fun _ _ h => h)⟩) ?_; rintro _ de _ cw bb bc ⟨ct, cu, cv, ba, rfl, rfl, af⟩
 have bg := J1 (Lb' := []) (by rfl) bb bc
 replace af := af.new fun p hp => bg p (by simp [hp])
 refine AJ (lp (ln (lp (ln rfl)))) (kO (kf (fS (fS fO)) (kf (fS (fS fO)) (kf (fS (fS fO)) kr))) ?_)
 refine um (ox rfl rfl rfl (ox rfl rfl rfl (ua (ua (BX (um (ua (ua (Aa ?_)))))))))
 refine kW (kd (kd (kd (ka kn)))) (Ap (Ba results43 (AG rfl) (AG rfl) (sr) ?_))
 obtain ⟨rfl, rfl⟩ := BK cr
 exact ⟨_, _, _, _, rfl, rfl, af.any⟩
set_option maxHeartbeats 1000000 in
theorem Mn {BC : Int} (ab : AL 1 (iE .i64) F Af Ae Ac) (aa : AL 1 (iE .i64) F A3 A4 AI) {r r2 : Int} (hr : J2 wide Ac AK AI BC = some (r, r2)) :
    Bz Tryz.prog 50 #[.agg #[.int .i64 wide, .slice Af Ac.length Ae], .int .i64 AK, .slice A3 AI.length A4, .int .i64 BC] F (.tuple #[.int .i64 r, .int .i64 r2]) := by
 refine sp func50 ntmps50 fun K _ _ => ?_
 rw [J2] at hr
 refine AM ?_
 refine Bu rfl rfl ?_; intro b1 df
 refine ua (ua (Aa ?_))
 refine TF ?_
 refine Ar (AM ?_)
 refine uv (As isAgg25 sizeOf25 rfl (Has.own 0 rfl) (Be rfl) rfl) (um ?_)
 refine uv (Bc (v := .agg #[.int .i64 AK, .int .i64 40]) rfl (by intro w; kernel_rfl)) ?_
 refine um ?_
 obtain ⟨l, y, n, h2, r3⟩ := Lg hr
 refine c0 call78 (GP ab aa h2) ?_; rintro _ F4 _ bj dg ⟨a8, dh, c9, bn, di, rfl, rfl, bo, au⟩
 replace ab := ab.mono (Ad _) bj
 replace aa := aa.mono (Ad _) bj
 refine AJ (lp (ln rfl)) (kO (kf (fS fO) kr) ?_)
 refine um (ox rfl rfl rfl (ox rfl rfl rfl ?_))
 refine A6 rfl zeroValue118 ?_; intro dk bp
 refine Bg (i := 0) sizeOf118 rfl rfl rfl (fc rfl (fc (au.1) nm)) rfl (Be rfl) (AJ rfl ?_)
 refine ua (BX (um ?_))
 refine uv (Bo rfl rfl) (Aa ?_)
 refine cQ (fun FG => ?_) fun FG => ?_
 ·have bq := AO r3 FG
  refine AM (um (ua (ua (Aa ?_))))
  refine kW kn ?_
  refine Ap (Ah (noGoto_ret ?_))
  refine Ba results50 (AG rfl) (AG rfl) (sr) ?_
  obtain ⟨rfl, rfl⟩ := BK bq
  exact rfl
 have br := AP r3 FG
 refine Al (Ar (AM (um ?_)))
 obtain ⟨ok, bu, bk⟩ := Aw br
 refine cV call55 (G5 bu) (uv (Cf rfl) (Aa ?_))
 refine AU rfl (fun I1 => ?_) (fun I1 => ?_)
 ·have bw := bt bk I1
  refine AM (ua (ua (Aa ?_)))
  refine kW kn ?_
  refine Ap (Ah (noGoto_ret ?_))
  refine Ba results50 (AG rfl) (AG rfl) (sr) ?_
  obtain ⟨rfl, rfl⟩ := BK bw
  exact rfl
 have bx := bf bk I1
 refine Al (AM (ua (Aa (Ar ?_))))
 refine Tn ?_
 obtain ⟨out, bz, av⟩ := Aw bx
 refine jF ([]) [(12, .int .i64 out)] ?_ fun dm ca => ?_
 ·clear av
  refine AM (um (Aa ?_))
  refine Aq (kW (kd (kc kn)) ?_)
  obtain ⟨aw, cb⟩ := AW bz
  refine A9 (fun aq e1 F1 L1 => ∃ (k : Int), DD 0 40 k aq ∧ Ht wide Ac AK AI BC aq k = some out ∧ AY F4 F1 ∧ L1 = [(b1, ce #[.int .i64 wide, .slice Af Ac.length Ae] 25)] ∧ e1.sub [(1, .int .i64 AK), (2, .slice A3 AI.length A4), (3, .int .i64 BC), (4, .pointer (some ⟨b1, 0, none⟩)), (12, .int .i64 0), (32, .int .i64 k)]) _ (m0 kr ⟨_, DD.start _ _, cb, AY.refl _, rfl, z6⟩) ?_
  rintro aq e1 dn _ ⟨k, ad, ar, ae, rfl, ax⟩
  refine Az _ ax ?_
  replace ab := ab.mono (Ad _) ae
  replace aa := aa.mono (Ad _) ae
  refine AM (uv (A7 rfl rfl) ?_)
  refine Aa (Ar ?_)
  refine cQ (fun ah => ?_) fun ah => ?_
  ·obtain ⟨aq, rfl, ay⟩ := DD.succ ad ah
   rw [Ht] at ar
   refine Al (Ar ?_)
   refine Aq ?_
   refine AM (um (ua (BX ?_)))
   refine uv (As isAgg25 sizeOf25 rfl (Has.own 0 rfl) (Be rfl) rfl) ?_
   refine um (um ?_)
   refine uv (A1 rfl rfl (DD.DZ ad ah aw)) ?_
   refine uv (Bc (v := .agg #[.int .i64 AK, .int .i64 (k + 1)]) rfl (by intro w; kernel_rfl)) ?_
   refine um ?_
   obtain ⟨l2, y2, n2, cc, cd⟩ := Lg ar
   refine c0 call78 (GP ab aa cc) ?_; rintro _ cf _ ai az ⟨cg, cj, cn, ba, dp, rfl, rfl, af, aj⟩
   replace af := af.new fun p hp => az p (by simp [hp])
   refine AJ (lp (ln rfl)) (kO (kf (fS fO) kr) ?_)
   refine um (ox rfl rfl rfl (ox rfl rfl rfl ?_))
   refine A6 rfl zeroValue118 ?_; intro cp cq
   refine Bg (i := 0) sizeOf118 rfl rfl rfl (fc rfl (fc (aj.1) nm)) rfl (Be rfl) (AJ rfl ?_)
   refine ua (BX ?_)
   refine uv (As isAgg118 sizeOf118 rfl (Has.own 0 rfl) (Be rfl) rfl) (um ?_)
   obtain ⟨cr, ct⟩ := AW cd
   obtain rfl := aj.2 cr
   have bb : Mp Tryz.prog cf 106 #[] #[] (iE .i64) (Value.int .i64) (fun bl : Int => Dw bl) := ⟨call106, fun F2 h2 vs bl r ha hr => by obtain rfl := ha; exact Jf hr⟩
   obtain ⟨l3, n3, cu, bm⟩ := Bs ct
   refine Dh (Lb := []) (Lt := ba ++ []) (Lr := [(cp, ce (#[.slice cg cj cn, .func (.func 106) #[] #[]]) 118), (b1, ce #[.int .i64 wide, .slice Af Ac.length Ae] 25)]) rfl call82 rfl rfl rfl (pT ((fC (fC fP)).trans (pA pR)) (ln (lp (ln rfl)))) (fun F2 h2 h3 => by rw [(AN.Bm af).1]; exact G7 (af.row (BP (n := 30) (sz := 1) BY) h2 (fun p hp => h3 p (List.mem_append_left _ hp))) (bb.mono h2) cu) (fun _ _ _ _ hq => by obtain ⟨cv, cw, cx, bc, rfl, rfl, ak⟩ := hq; exact ⟨_, _, _, _, rfl, rfl, ak.flat (fun _ _ h => h)⟩) ?_; rintro _ dq _ ao cy cz ⟨cv, cw, cx, bc, rfl, rfl, ak⟩
   refine AJ (lp (ln (lp (ln rfl)))) (kO (kf (fS (fS fO)) (kf (fS (fS fO)) kr)) ?_)
   refine um (ox rfl rfl rfl (ox rfl rfl rfl (ua (ua (BX (um (um ?_)))))))
   refine uv (AX underlying22 rfl) (uv (Bv rfl rfl) (Aa ?_))
   refine cQ (fun bg => ?_) fun bg => ?_
   ·have da := AO bm bg
    refine AM (um ?_)
    refine uv (A1 rfl rfl (DD.DZ ad ah aw)) ?_
    refine ua (Aa (AR ?_))
    refine PN rfl ?_
    refine Aj (Aj ?_)
    refine Ay ?_
    obtain rfl := AH da
    exact mi kn ⟨((ae.trans ai).trans ao), rfl, z1⟩
   have db := AP bm bg
   refine Al (Av (id := 1) (Ak ?_))
   refine uv (A1 rfl rfl (DD.DZ ad ah aw)) ?_
   refine um (Aa ?_)
   exact le (kd (kc kn)) ⟨_, ay, db, ((ae.trans ai).trans ao), rfl, z6⟩
  obtain rfl := DD.zero ad ah
  rw [Ht] at ar
  refine AR (Aj (Aj ?_))
  refine Ay ?_
  obtain rfl := AH ar
  exact mi kn ⟨ae, rfl, z1⟩
 refine Ar (AM (um ?_))
 refine uv (Bv rfl rfl) (Aa ?_)
 refine cQ (fun bh => ?_) fun bh => ?_
 ·have dd := AO av bh
  refine AM (ua (ua (Aa (Ap (Ah (noGoto_ret ?_))))))
  refine Ba results50 (AG rfl) (AG rfl) (sr) ?_
  obtain ⟨rfl, rfl⟩ := BK dd
  exact rfl
 have de := AP av bh
 refine Al (AM (um (ua (ua (Aa (Ap (noGoto_ret ?_)))))))
 refine Ba results50 (AG rfl) (AG rfl) (sr) ?_
 obtain ⟨rfl, rfl⟩ := BK de
 exact rfl
set_option maxHeartbeats 1000000 in
theorem BR {r : Bool} (hr : BL = some r) :
    Bz Tryz.prog 13 #[] F (.bool r) := by
 refine sp func13 ntmps13 fun K _ _ => ?_
 rw [BL] at hr
 refine AM (ua (BX ?_))
 refine bA (cs := #[.string (sB [115, 104, 115, 104])]) NB [.string (sB [115, 104, 115, 104])] ?_; intro b1 j4
 refine B1 0 rfl j4 ?_; intro F2 lk j5
 refine AJ rfl ?_
 have h5 : AL 1 sE F2 (some ⟨b1, 0, none⟩) 1 [[115, 104, 115, 104]] := AL.BS Pn (vss := [[.string (sB [115, 104, 115, 104])]]) (xs := [[115, 104, 115, 104]]) j5 (.cons rfl .nil) rfl (by simp [maxLen])
 obtain ⟨n, l, h6, r7⟩ := Bs hr
 refine c0 call4 (EC h5 h6) ?_; rintro _ F8 _ ll dv ⟨PR, bj, LB, ao, rfl, rfl, aa⟩
 replace aa := aa.new fun p hp => dv p (by simp [hp])
 refine AJ (lp (ln rfl)) ?_
 refine bA (cs := #[.string (sB [104, 115, 104]), .string (sB [115, 119, 115])]) NB [.string (sB [104, 115, 104]), .string (sB [115, 119, 115])] ?_; intro W2 dw
 refine B1 0 rfl dw ?_; intro j6 dx dy
 refine AJ rfl ?_
 replace aa := aa.mono (Ad _) dx
 have j7 : AL 1 sE j6 (some ⟨W2, 0, none⟩) 2 [[104, 115, 104], [115, 119, 115]] := AL.BS Pn (vss := [[.string (sB [104, 115, 104])], [.string (sB [115, 119, 115])]]) (xs := [[104, 115, 104], [115, 119, 115]]) dy (.cons rfl (.cons rfl .nil)) rfl (by simp [maxLen])
 obtain ⟨n2, l2, j8, j9⟩ := Bs r7
 refine c0 call4 (EC j7 j8) ?_; rintro _ lq _ dz eb ⟨bk, bl, bm, aq, rfl, rfl, ab⟩
 replace aa := aa.mono (Ad _) dz
 replace ab := ab.new fun p hp => eb p (by simp [hp])
 refine AJ (lp (ln rfl)) ?_
 refine A6 rfl zeroValue25 ?_; intro bg ja
 refine A6 rfl zeroValue25 ?_; intro Qr jb
 refine Bg (i := 1) sizeOf25 rfl rfl rfl (by simp [Value.oneCell']) rfl (Be rfl) (AJ rfl (Bg (i := 0) sizeOf25 rfl rfl rfl (by simp [Value.oneCell']) rfl (Be rfl) (AJ rfl (BX (uv (As isAgg25 sizeOf25 rfl (Has.own 1 rfl) (Be rfl) rfl) ?_)))))
 obtain ⟨l3, n3, jc, jd⟩ := Bs j9
 refine Dh (Lb := []) (Lt := ao ++ []) (Lr := (Qr, ce #[.int .i64 n2, .slice bk bl bm] 25) :: ((bg, ce #[.int .i64 n, .slice PR bj LB] 25) :: (aq ++ []))) rfl call27 rfl rfl rfl (pT ((fC (fC (fS fP))).trans (pA pR)) (ln (lp (ln rfl)))) (fun F2 h2 h3 => by rw [(AN.Bm aa).1]; exact IL (aa.row (Ad _) h2 (fun p hp => h3 p (List.mem_append_left _ hp))) jc) (fun _ _ _ _ hq => by obtain ⟨je, jf, jg, ba, rfl, rfl, ae⟩ := hq; exact ⟨_, _, _, _, rfl, rfl, ae.flat (fun _ _ h => h)⟩) ?_; rintro _ lr _ cg eg eh ⟨je, jf, jg, ba, rfl, rfl, ae⟩
 replace aa := aa.mono (Ad _) cg
 replace ab := ab.mono (Ad _) cg
 have ei := J1 (Lb' := []) (by rfl) eg eh
 replace ae := ae.new fun p hp => ei p (by simp [hp])
 refine AJ (lp (ln (lp (ln rfl)))) (kO (kf (fS (fS fO)) (kf (fS (fS fO)) kr)) ?_)
 refine um (ox rfl rfl rfl (ox rfl rfl rfl (ua (ua (BX ?_)))))
 refine uv (As isAgg25 sizeOf25 rfl (Has.own 1 rfl) (Be rfl) rfl) ?_
 refine uv (Bc (v := .agg #[.int .i64 0, .int .i64 5]) rfl (by intro w; kernel_rfl)) ?_
 refine bA (cs := #[.int .i64 1, .int .i64 3]) Br [.int .i64 1, .int .i64 3] ?_; intro jh ej
 refine B1 0 rfl ej ?_; intro ji cc en
 refine AJ rfl ?_
 replace aa := aa.mono (Ad _) cc
 replace ab := ab.mono (Ad _) cc
 replace ae := ae.mono (Ad _) cc
 have jj : AL 1 (iE .i64) ji (some ⟨jh, 0, none⟩) 2 [1, 3] := AL.BS (Ad _) (vss := [[.int .i64 1], [.int .i64 3]]) (xs := [1, 3]) en (.cons rfl (.cons rfl .nil)) rfl (by simp [maxLen])
 obtain ⟨l4, n4, jk, jl⟩ := Bs jd
 refine Dh (Lb := []) (Lt := ao ++ []) (Lr := (Qr, ce #[.int .i64 n2, .slice bk bl bm] 25) :: ((bg, ce #[.int .i64 n, .slice PR bj LB] 25) :: (ba ++ (aq ++ [])))) rfl call43 rfl rfl rfl (pT ((fC (fC (fS fP))).trans (pA pR)) (ln (lp (ln rfl)))) (fun F2 h2 h3 => by rw [(AN.Bm aa).1]; exact Kl (aa.row (Ad _) h2 (fun p hp => h3 p (List.mem_append_left _ hp))) (jj.mono (Ad _) h2) jk) (fun _ _ _ _ hq => by obtain ⟨jm, jn, jo, bh, rfl, rfl, af⟩ := hq; exact ⟨_, _, _, _, rfl, rfl, af.flat (fun _ _ h => h)⟩) ?_; rintro _ lu _ cd eo ep ⟨jm, jn, jo, bh, rfl, rfl, af⟩
 replace aa := aa.mono (Ad _) cd
 replace ab := ab.mono (Ad _) cd
 replace ae := ae.mono (Ad _) cd
 have er := J1 (Lb' := []) (by rfl) eo ep
 replace af := af.new fun p hp => er p (by simp [hp])
 refine AJ (lp (ln (lp (ln rfl)))) (kO (kf (fS (fS fO)) (kf (fS (fS fO)) kr)) ?_)
 refine um (ox rfl rfl rfl (ox rfl rfl rfl (ua (ua (BX ?_)))))
 refine uv (As isAgg25 sizeOf25 rfl (Has.own 0 rfl) (Be rfl) rfl) ?_
 refine uv (Bc (v := .agg #[.int .i64 0, .int .i64 3]) rfl (by intro w; kernel_rfl)) ?_
 refine bA (cs := #[.int .i64 0, .int .i64 2]) Br [.int .i64 0, .int .i64 2] ?_; intro jq et
 refine B1 0 rfl et ?_; intro jr bq eu
 refine AJ rfl ?_
 replace aa := aa.mono (Ad _) bq
 replace ab := ab.mono (Ad _) bq
 replace ae := ae.mono (Ad _) bq
 replace af := af.mono (Ad _) bq
 have js : AL 1 (iE .i64) jr (some ⟨jq, 0, none⟩) 2 [0, 2] := AL.BS (Ad _) (vss := [[.int .i64 0], [.int .i64 2]]) (xs := [0, 2]) eu (.cons rfl (.cons rfl .nil)) rfl (by simp [maxLen])
 obtain ⟨l5, n5, jt, ju⟩ := Bs jl
 refine Dh (Lb := []) (Lt := aq ++ []) (Lr := (Qr, ce #[.int .i64 n2, .slice bk bl bm] 25) :: ((bg, ce #[.int .i64 n, .slice PR bj LB] 25) :: (bh ++ (ao ++ (ba ++ []))))) rfl call43 rfl rfl rfl (pT ((fC (fC (fS (fS (fS fP))))).trans (pA pR)) (ln (lp (ln rfl)))) (fun F2 h2 h3 => by rw [(AN.Bm ab).1]; exact Kl (ab.row (Ad _) h2 (fun p hp => h3 p (List.mem_append_left _ hp))) (js.mono (Ad _) h2) jt) (fun _ _ _ _ hq => by obtain ⟨jv, jw, jx, bn, rfl, rfl, ah⟩ := hq; exact ⟨_, _, _, _, rfl, rfl, ah.flat (fun _ _ h => h)⟩) ?_; rintro _ lv _ br ew ey ⟨jv, jw, jx, bn, rfl, rfl, ah⟩
 replace aa := aa.mono (Ad _) br
 replace ab := ab.mono (Ad _) br
 replace ae := ae.mono (Ad _) br
 replace af := af.mono (Ad _) br
 have ez := J1 (Lb' := []) (by rfl) ew ey
 replace ah := ah.new fun p hp => ez p (by simp [hp])
 refine AJ (lp (ln (lp (ln rfl)))) (kO (kf (fS (fS fO)) (kf (fS (fS fO)) kr)) ?_)
 refine um (ox rfl rfl rfl (ox rfl rfl rfl (ua (ua (BX ?_)))))
 refine uv (As isAgg25 sizeOf25 rfl (Has.own 0 rfl) (Be rfl) rfl) ?_
 refine bA (cs := #[.int .i64 3, .int .i64 0, .int .i64 3, .int .i64 5, .int .i64 0, .int .i64 5]) Br [.int .i64 3, .int .i64 0, .int .i64 3, .int .i64 5, .int .i64 0, .int .i64 5] ?_; intro jz fa
 refine B1 0 rfl fa ?_; intro kb bo fb
 refine AJ rfl ?_
 replace aa := aa.mono (Ad _) bo
 replace ab := ab.mono (Ad _) bo
 replace ae := ae.mono (Ad _) bo
 replace af := af.mono (Ad _) bo
 replace ah := ah.mono (Ad _) bo
 have kh : AL 1 (iE .i64) kb (some ⟨jz, 0, none⟩) 6 [3, 0, 3, 5, 0, 5] := AL.BS (Ad _) (vss := [[.int .i64 3], [.int .i64 0], [.int .i64 3], [.int .i64 5], [.int .i64 0], [.int .i64 5]]) (xs := [3, 0, 3, 5, 0, 5]) fb (.cons rfl (.cons rfl (.cons rfl (.cons rfl (.cons rfl (.cons rfl .nil)))))) rfl (by simp [maxLen])
 obtain ⟨ok, n6, kj, kl⟩ := Bs ju
 refine Bi (Lt := aq ++ []) (Lr := (Qr, ce #[.int .i64 n2, .slice bk bl bm] 25) :: ((bg, ce #[.int .i64 n, .slice PR bj LB] 25) :: (bn ++ (bh ++ (ao ++ (ba ++ [])))))) rfl call29 rfl rfl rfl (pT ((fC (fC (fS fP))).trans (pA pR)) (lp (ln rfl))) (fun F2 h2 h3 => by rw [(AN.Bm ab).1]; exact MT (ab.row (Ad _) h2 (fun p hp => h3 p (List.mem_append_left _ hp))) (kh.mono (Ad _) h2) kj) ?_
 refine um (ox rfl rfl rfl (ox rfl rfl rfl (ua (ua (Aa (Ar ?_))))))
 obtain ⟨k, iy, fe⟩ := Aw kl
 refine jF (((Qr, ce #[.int .i64 n2, .slice bk bl bm] 25) :: ((bg, ce #[.int .i64 n, .slice PR bj LB] 25) :: (ao ++ (aq ++ []))))) [(1, .pointer (some ⟨bg, 0, none⟩)), (2, .pointer (some ⟨Qr, 0, none⟩)), (77, .bool k)] ?_ fun km bu => ?_
 ·clear fe
  refine Ak (um ?_)
  refine uv (Bo rfl rfl) (um ?_)
  by_cases bw : n3 ≠ 0
  ·have ko := AO iy bw
   refine fT bw (fT bw ?_)
   refine uv (Au (A5 rfl bw) rfl) ?_
   refine um (Ai (b' := true) 48 rfl rfl rfl rfl (Ai (b' := true) 48 rfl rfl rfl rfl ?_))
   refine uv (Au rfl rfl) ?_
   refine um (Ai (b' := true) 52 rfl rfl rfl rfl (Ai (b' := true) 52 rfl rfl rfl rfl ?_))
   refine uv (Au rfl rfl) ?_
   refine um (Ai (b' := true) 56 rfl rfl rfl rfl (Ai (b' := true) 56 rfl rfl rfl rfl ?_))
   refine uv (Au rfl rfl) ?_
   refine um (Ai (b' := true) 60 rfl rfl rfl rfl (Ai (b' := true) 60 rfl rfl rfl rfl (Ai (b' := true) 60 rfl rfl rfl rfl (Ai (b' := true) 60 rfl rfl rfl rfl ?_))))
   refine uv (Au rfl rfl) ?_
   refine um (Ai (b' := true) 66 rfl rfl rfl rfl (Ai (b' := true) 66 rfl rfl rfl rfl (Ai (b' := true) 66 rfl rfl rfl rfl (Ai (b' := true) 66 rfl rfl rfl rfl ?_))))
   refine uv (Au rfl rfl) ?_
   refine um (Ai (b' := true) 72 rfl rfl rfl rfl (Ai (b' := true) 72 rfl rfl rfl rfl (Ai (b' := true) 72 rfl rfl rfl rfl (Ai (b' := true) 72 rfl rfl rfl rfl ?_))))
   refine uv (Au rfl rfl) (Aa ?_)
   obtain rfl := AH ko
   exact mi (kc (kc (kx (kg (fS (fS fP)) (ka kn))))) ⟨AY.refl _, rfl, z3⟩
  have iz := AP iy bw
  refine nF bw (um (nF bw ?_))
  refine uv (Bo rfl rfl) (uv (At (AZ rfl bw) rfl) (um ?_))
  by_cases bx : n4 ≠ 0
  ·have kt := AO iz bx
   refine fT bx (fT bx ?_)
   refine uv (Au (A5 rfl bx) rfl) ?_
   refine um (Ai (b' := true) 52 rfl rfl rfl rfl (Ai (b' := true) 52 rfl rfl rfl rfl ?_))
   refine uv (Au rfl rfl) ?_
   refine um (Ai (b' := true) 56 rfl rfl rfl rfl (Ai (b' := true) 56 rfl rfl rfl rfl ?_))
   refine uv (Au rfl rfl) ?_
   refine um (Ai (b' := true) 60 rfl rfl rfl rfl (Ai (b' := true) 60 rfl rfl rfl rfl (Ai (b' := true) 60 rfl rfl rfl rfl (Ai (b' := true) 60 rfl rfl rfl rfl ?_))))
   refine uv (Au rfl rfl) ?_
   refine um (Ai (b' := true) 66 rfl rfl rfl rfl (Ai (b' := true) 66 rfl rfl rfl rfl (Ai (b' := true) 66 rfl rfl rfl rfl (Ai (b' := true) 66 rfl rfl rfl rfl ?_))))
   refine uv (Au rfl rfl) ?_
   refine um (Ai (b' := true) 72 rfl rfl rfl rfl (Ai (b' := true) 72 rfl rfl rfl rfl (Ai (b' := true) 72 rfl rfl rfl rfl (Ai (b' := true) 72 rfl rfl rfl rfl ?_))))
   refine uv (Au rfl rfl) (Aa ?_)
   obtain rfl := AH kt
   exact mi (kc (kc (kx (kg (fS (fS fP)) (ka kn))))) ⟨AY.refl _, rfl, z3⟩
  have cj := AP iz bx
  refine nF bx (um (nF bx ?_))
  refine uv (Bo rfl rfl) (uv (At (AZ rfl bx) rfl) (um ?_))
  by_cases aw : n5 ≠ 0
  ·have ff := AO cj aw
   refine fT aw (fT aw ?_)
   refine uv (Au (A5 rfl aw) rfl) ?_
   refine um (Ai (b' := true) 56 rfl rfl rfl rfl (Ai (b' := true) 56 rfl rfl rfl rfl ?_))
   refine uv (Au rfl rfl) ?_
   refine um (Ai (b' := true) 60 rfl rfl rfl rfl (Ai (b' := true) 60 rfl rfl rfl rfl (Ai (b' := true) 60 rfl rfl rfl rfl (Ai (b' := true) 60 rfl rfl rfl rfl ?_))))
   refine uv (Au rfl rfl) ?_
   refine um (Ai (b' := true) 66 rfl rfl rfl rfl (Ai (b' := true) 66 rfl rfl rfl rfl (Ai (b' := true) 66 rfl rfl rfl rfl (Ai (b' := true) 66 rfl rfl rfl rfl ?_))))
   refine uv (Au rfl rfl) ?_
   refine um (Ai (b' := true) 72 rfl rfl rfl rfl (Ai (b' := true) 72 rfl rfl rfl rfl (Ai (b' := true) 72 rfl rfl rfl rfl (Ai (b' := true) 72 rfl rfl rfl rfl ?_))))
   refine uv (Au rfl rfl) (Aa ?_)
   obtain rfl := AH ff
   exact mi (kc (kc (kx (kg (fS (fS fP)) (ka kn))))) ⟨AY.refl _, rfl, z3⟩
  have cn := AP cj aw
  refine nF aw (um (nF aw ?_))
  refine uv (Bo rfl rfl) (uv (At (AZ rfl aw) rfl) (um ?_))
  by_cases ax : n6 ≠ 0
  ·have fg := AO cn ax
   refine fT ax (fT ax ?_)
   refine uv (Au (A5 rfl ax) rfl) ?_
   refine um (Ai (b' := true) 60 rfl rfl rfl rfl (Ai (b' := true) 60 rfl rfl rfl rfl (Ai (b' := true) 60 rfl rfl rfl rfl (Ai (b' := true) 60 rfl rfl rfl rfl ?_))))
   refine uv (Au rfl rfl) ?_
   refine um (Ai (b' := true) 66 rfl rfl rfl rfl (Ai (b' := true) 66 rfl rfl rfl rfl (Ai (b' := true) 66 rfl rfl rfl rfl (Ai (b' := true) 66 rfl rfl rfl rfl ?_))))
   refine uv (Au rfl rfl) ?_
   refine um (Ai (b' := true) 72 rfl rfl rfl rfl (Ai (b' := true) 72 rfl rfl rfl rfl (Ai (b' := true) 72 rfl rfl rfl rfl (Ai (b' := true) 72 rfl rfl rfl rfl ?_))))
   refine uv (Au rfl rfl) (Aa ?_)
   obtain rfl := AH fg
   exact mi (kc (kc (kx (kg (fS (fS fP)) (ka kn))))) ⟨AY.refl _, rfl, z3⟩
  have cp := AP cn ax
  refine nF ax (um (nF ax ?_))
  refine uv (Cf rfl) (uv (At (AZ rfl ax) rfl) (um ?_))
  rcases Bf (!ok) with ai | ai
  ·have fh := bt cp ai
   refine fB ai (fB ai (fB ai (fB ai ?_)))
   refine uv (Au (Es rfl ai) rfl) ?_
   refine um (Ai (b' := true) 66 rfl rfl rfl rfl (Ai (b' := true) 66 rfl rfl rfl rfl (Ai (b' := true) 66 rfl rfl rfl rfl (Ai (b' := true) 66 rfl rfl rfl rfl ?_))))
   refine uv (Au rfl rfl) ?_
   refine um (Ai (b' := true) 72 rfl rfl rfl rfl (Ai (b' := true) 72 rfl rfl rfl rfl (Ai (b' := true) 72 rfl rfl rfl rfl (Ai (b' := true) 72 rfl rfl rfl rfl ?_))))
   refine uv (Au rfl rfl) (Aa ?_)
   obtain rfl := AH fh
   exact mi (kc (kc (kx (kg (fS (fS fP)) (ka kn))))) ⟨AY.refl _, rfl, z3⟩
  have fi := bf cp ai
  refine nB ai (um (nB ai ?_))
  refine bA (cs := #[.int .i64 0, .int .i64 5, .int .i64 9, .int .i64 14]) Br [.int .i64 0, .int .i64 5, .int .i64 9, .int .i64 14] ?_; intro fj cq
  refine nB ai ?_
  refine B1 0 rfl cq ?_; intro fk au cr
  refine AJ rfl ?_
  replace ae := ae.mono (Ad _) au
  replace af := af.mono (Ad _) au
  replace ah := ah.mono (Ad _) au
  have fl : AL 1 (iE .i64) fk (some ⟨fj, 0, none⟩) 4 [0, 5, 9, 14] := AL.BS (Ad _) (vss := [[.int .i64 0], [.int .i64 5], [.int .i64 9], [.int .i64 14]]) (xs := [0, 5, 9, 14]) cr (.cons rfl (.cons rfl (.cons rfl (.cons rfl .nil)))) rfl (by simp [maxLen])
  obtain ⟨ku, fm, ct⟩ := Aw fi
  refine Bi (Lt := ba ++ []) (Lr := (Qr, ce #[.int .i64 n2, .slice bk bl bm] 25) :: ((bg, ce #[.int .i64 n, .slice PR bj LB] 25) :: (bn ++ (aq ++ (bh ++ (ao ++ [])))))) rfl call22 rfl rfl rfl (pT ((fC (fC (fS (fS (fS (fS fP)))))).trans (pA pR)) (lp (ln rfl))) (fun F2 h2 h3 => by rw [(AN.Bm ae).1]; exact Bq (ae.row (Ad _) h2 (fun p hp => h3 p (List.mem_append_left _ hp))) (fl.mono (Ad _) h2) fm) ?_
  refine nB ai (uv (Cf rfl) (uv (At (Es rfl ai) rfl) (um ?_)))
  rcases Bf (!ku) with aj | aj
  ·have fo := bt ct aj
   refine fB aj (fB aj (fB aj (fB aj ?_)))
   refine uv (Au (Es rfl aj) rfl) ?_
   refine um (Ai (b' := true) 72 rfl rfl rfl rfl (Ai (b' := true) 72 rfl rfl rfl rfl (Ai (b' := true) 72 rfl rfl rfl rfl (Ai (b' := true) 72 rfl rfl rfl rfl ?_))))
   refine uv (Au rfl rfl) (Aa ?_)
   obtain rfl := AH fo
   exact mi (kc (kc (kx (kg (fS (fS fP)) (ka kn))))) ⟨au, rfl, z3⟩
  have fp := bf ct aj
  refine nB aj (um (nB aj ?_))
  refine bA (cs := #[.int .i64 2]) Br [.int .i64 2] ?_; intro fq cu
  refine nB aj ?_
  refine B1 0 rfl cu ?_; intro fs bb cv
  refine AJ rfl ?_
  replace af := af.mono (Ad _) bb
  replace ah := ah.mono (Ad _) bb
  have ft : AL 1 (iE .i64) fs (some ⟨fq, 0, none⟩) 1 [2] := AL.BS (Ad _) (vss := [[.int .i64 2]]) (xs := [2]) cv (.cons rfl .nil) rfl (by simp [maxLen])
  obtain ⟨kv, fv, cw⟩ := Aw fp
  refine Bi (Lt := bh ++ []) (Lr := (Qr, ce #[.int .i64 n2, .slice bk bl bm] 25) :: ((bg, ce #[.int .i64 n, .slice PR bj LB] 25) :: (bn ++ (aq ++ (ao ++ (ba ++ [])))))) rfl call22 rfl rfl rfl (pT ((fC (fC (fS (fS fP)))).trans (pA pR)) (lp (ln rfl))) (fun F2 h2 h3 => by rw [(AN.Bm af).1]; exact Bq (af.row (Ad _) h2 (fun p hp => h3 p (List.mem_append_left _ hp))) (ft.mono (Ad _) h2) fv) ?_
  refine nB aj (uv (Cf rfl) (uv (At (Es rfl aj) rfl) (um ?_)))
  rcases Bf (!kv) with ak | ak
  ·have fw := bt cw ak
   refine fB ak (fB ak (fB ak (fB ak ?_)))
   refine uv (Au (Es rfl ak) rfl) (Aa ?_)
   obtain rfl := AH fw
   exact mi (kc (kc (kx (kg (fS (fS fP)) (ka kn))))) ⟨(au.trans bb), rfl, z3⟩
  have fx := bf cw ak
  refine nB ak (um (nB ak ?_))
  refine bA (cs := #[.int .i64 1]) Br [.int .i64 1] ?_; intro fy cx
  refine nB ak ?_
  refine B1 0 rfl cx ?_; intro ga bz cy
  refine AJ rfl ?_
  replace ah := ah.mono (Ad _) bz
  have gb : AL 1 (iE .i64) ga (some ⟨fy, 0, none⟩) 1 [1] := AL.BS (Ad _) (vss := [[.int .i64 1]]) (xs := [1]) cy (.cons rfl .nil) rfl (by simp [maxLen])
  obtain ⟨lx, gg, gh⟩ := Aw fx
  refine Bi (Lt := bn ++ []) (Lr := (Qr, ce #[.int .i64 n2, .slice bk bl bm] 25) :: ((bg, ce #[.int .i64 n, .slice PR bj LB] 25) :: (aq ++ (bh ++ (ao ++ (ba ++ [])))))) rfl call22 rfl rfl rfl (pT ((fC (fC fP)).trans (pA pR)) (lp (ln rfl))) (fun F2 h2 h3 => by rw [(AN.Bm ah).1]; exact Bq (ah.row (Ad _) h2 (fun p hp => h3 p (List.mem_append_left _ hp))) (gb.mono (Ad _) h2) gg) ?_
  refine nB ak (uv (Cf rfl) (uv (At (Es rfl ak) rfl) (Aa ?_)))
  obtain rfl := AH gh
  exact mi (kc (kc (kx (kg (fS (fS fP)) (ka kn))))) ⟨((au.trans bb).trans bz), rfl, z3⟩
 replace aa := aa.mono (Ad _) bu
 replace ab := ab.mono (Ad _) bu
 refine AU rfl (fun cf => ?_) (fun cf => ?_)
 ·have gi := bt fe cf
  refine AM (ua (Aa ?_))
  refine kW kn ?_
  refine Ap (Ah ?_)
  refine B2 results13 ?_
  obtain rfl := AH gi
  exact rfl
 have gj := bf fe cf
 refine Al (AM ?_)
 refine uv (As isAgg25 sizeOf25 rfl (Has.own 1 rfl) (Be rfl) rfl) ?_
 refine bA (cs := #[.int .i64 1, .int .i64 3]) Br [.int .i64 1, .int .i64 3] ?_; intro gk cz
 refine B1 0 rfl cz ?_; intro gl ca da
 refine AJ rfl ?_
 replace aa := aa.mono (Ad _) ca
 replace ab := ab.mono (Ad _) ca
 have gm : AL 1 (iE .i64) gl (some ⟨gk, 0, none⟩) 2 [1, 3] := AL.BS (Ad _) (vss := [[.int .i64 1], [.int .i64 3]]) (xs := [1, 3]) da (.cons rfl (.cons rfl .nil)) rfl (by simp [maxLen])
 obtain ⟨n7, n8, gn, gp⟩ := Bs gj
 refine Bi (Lt := ao ++ []) (Lr := (Qr, ce #[.int .i64 n2, .slice bk bl bm] 25) :: ((bg, ce #[.int .i64 n, .slice PR bj LB] 25) :: (aq ++ []))) rfl call50 rfl rfl rfl (pT ((fC (fC fP)).trans (pA pR)) (lp (ln rfl))) (fun F2 h2 h3 => by rw [(AN.Bm aa).1]; exact Mn (aa.row (Ad _) h2 (fun p hp => h3 p (List.mem_append_left _ hp))) (gm.mono (Ad _) h2) gn) ?_
 refine um (ox rfl rfl rfl (ox rfl rfl rfl (ua (ua (BX ?_)))))
 refine uv (As isAgg25 sizeOf25 rfl (Has.own 0 rfl) (Be rfl) rfl) ?_
 obtain ⟨l6, n9, gq, gr⟩ := Bs gp
 refine Dh (Lb := []) (Lt := aq ++ []) (Lr := (Qr, ce #[.int .i64 n2, .slice bk bl bm] 25) :: ((bg, ce #[.int .i64 n, .slice PR bj LB] 25) :: (ao ++ []))) rfl call33 rfl rfl rfl (pT ((fC (fC (fS fP))).trans (pA pR)) (ln (lp (ln rfl)))) (fun F2 h2 h3 => by rw [(AN.Bm ab).1]; exact MO (ab.row (Ad _) h2 (fun p hp => h3 p (List.mem_append_left _ hp))) gq) (fun _ _ _ _ hq => by obtain ⟨gu, gv, gw, bp, rfl, rfl, ad⟩ := hq; exact ⟨_, _, _, _, rfl, rfl, ad.flat (fun _ _ h => h)⟩) ?_; rintro _ kz _ j0 db dd ⟨gu, gv, gw, bp, rfl, rfl, ad⟩
 have de := J1 (Lb' := []) (by rfl) db dd
 replace ad := ad.new fun p hp => de p (by simp [hp])
 refine AJ (lp (ln (lp (ln rfl)))) (kO (kf (fS (fS fO)) (kf (fS (fS fO)) kr)) ?_)
 refine um (ox rfl rfl rfl (ox rfl rfl rfl (ua (ua (BX ?_)))))
 refine bA (cs := #[.string (sB [115, 104, 119, 104])]) NB [.string (sB [115, 104, 119, 104])] ?_; intro gy df
 refine B1 0 rfl df ?_; intro gz dg dh
 refine AJ rfl ?_
 replace ad := ad.mono (Ad _) dg
 have ia : AL 1 sE gz (some ⟨gy, 0, none⟩) 1 [[115, 104, 119, 104]] := AL.BS Pn (vss := [[.string (sB [115, 104, 119, 104])]]) (xs := [[115, 104, 119, 104]]) dh (.cons rfl .nil) rfl (by simp [maxLen])
 obtain ⟨ly, l7, ib, ic⟩ := Bs gr
 refine c0 call4 (EC ia ib) ?_; rintro _ l0 _ di dk ⟨la, lg, lh, cb, rfl, rfl, bc⟩
 replace ad := ad.mono (Ad _) di
 replace bc := bc.new fun p hp => dk p (by simp [hp])
 refine AJ (lp (ln rfl)) (kO (kf (fS fO) (kf (fS fO) kr)) ?_)
 obtain ⟨lz, ma, ie, dm⟩ := Bs ic
 refine Bi (Lt := cb ++ []) (Lr := (Qr, ce #[.int .i64 n2, .slice bk bl bm] 25) :: ((bg, ce #[.int .i64 n, .slice PR bj LB] 25) :: (bp ++ (aq ++ (ao ++ []))))) rfl call25 rfl rfl rfl (pT ((fC (fC fP)).trans (pA pR)) (lp (ln rfl))) (fun F2 h2 h3 => by rw [(AN.Bm bc).1]; exact J3 (bc.row (Ad _) h2 (fun p hp => h3 p (List.mem_append_left _ hp))) ie) ?_
 refine um (ox rfl rfl rfl (ox rfl rfl rfl (ua (BX (um ?_)))))
 refine uv (Bv rfl rfl) (um ?_)
 by_cases ay : n8 = 0
 ·have dn := AO dm ay
  refine nT ay (um (nT ay ?_))
  refine uv (Bv rfl rfl) (uv (Au (A5 rfl ay) rfl) (um ?_))
  by_cases az : n9 = 0
  ·have dp := AO dn az
   refine nT az (um (nT az ?_))
   refine uv (Bv rfl rfl) (uv (Au (A5 rfl az) rfl) (um ?_))
   by_cases ar : n7 = 5
   ·have ig := AO dp ar
    refine nT ar (um (nT ar ?_))
    refine bA (cs := #[.int .i64 3, .int .i64 0, .int .i64 1, .int .i64 2]) Br [.int .i64 3, .int .i64 0, .int .i64 1, .int .i64 2] ?_; intro ij dq
    refine nT ar ?_
    refine B1 0 rfl dq ?_; intro ik dr dt
    refine AJ rfl ?_
    replace ad := ad.mono (Ad _) dr
    have il : AL 1 (iE .i64) ik (some ⟨ij, 0, none⟩) 4 [3, 0, 1, 2] := AL.BS (Ad _) (vss := [[.int .i64 3], [.int .i64 0], [.int .i64 1], [.int .i64 2]]) (xs := [3, 0, 1, 2]) dt (.cons rfl (.cons rfl (.cons rfl (.cons rfl .nil)))) rfl (by simp [maxLen])
    obtain ⟨lj, im, du⟩ := Aw ig
    refine Bi (Lt := bp ++ []) (Lr := (Qr, ce #[.int .i64 n2, .slice bk bl bm] 25) :: ((bg, ce #[.int .i64 n, .slice PR bj LB] 25) :: (cb ++ (aq ++ (ao ++ []))))) rfl call22 rfl rfl rfl (pT ((fC (fC (fS fP))).trans (pA pR)) (lp (ln rfl))) (fun F2 h2 h3 => by rw [(AN.Bm ad).1]; exact Bq (ad.row (Ad _) h2 (fun p hp => h3 p (List.mem_append_left _ hp))) (il.mono (Ad _) h2) im) ?_
    refine uv (Au (A5 rfl ar) rfl) (um ?_)
    rcases Bf lj with av | av
    ·have iq := bt du av
     refine nB av (um (nB av ?_))
     refine uv (Bv rfl rfl) (uv (Au (Es rfl av) rfl) ?_)
     refine ua (Aa ?_)
     refine kW kn (Ap (B2 results13 ?_))
     obtain rfl := AH iq
     exact rfl
    have ir := bf du av
    refine fB av (fB av ?_)
    refine uv (At (Es rfl av) rfl) ?_
    refine ua (Aa ?_)
    refine kW kn (Ap (B2 results13 ?_))
    obtain rfl := AH ir
    exact rfl
   have iu := AP dp ar
   refine fF ar (fF ar (fF ar ?_))
   refine uv (At (AZ rfl ar) rfl) ?_
   refine um (Ai (b' := false) 110 rfl rfl rfl rfl (Ai (b' := false) 110 rfl rfl rfl rfl ?_))
   refine uv (At rfl rfl) ?_
   refine ua (Aa ?_)
   refine kW kn (Ap (B2 results13 ?_))
   obtain rfl := AH iu
   exact rfl
  have iv := AP dn az
  refine fF az (fF az ?_)
  refine uv (At (AZ rfl az) rfl) ?_
  refine um (Ai (b' := false) 105 rfl rfl rfl rfl (Ai (b' := false) 105 rfl rfl rfl rfl (Ai (b' := false) 105 rfl rfl rfl rfl ?_)))
  refine uv (At rfl rfl) ?_
  refine um (Ai (b' := false) 110 rfl rfl rfl rfl (Ai (b' := false) 110 rfl rfl rfl rfl ?_))
  refine uv (At rfl rfl) ?_
  refine ua (Aa ?_)
  refine kW kn (Ap (B2 results13 ?_))
  obtain rfl := AH iv
  exact rfl
 have iw := AP dm ay
 refine fF ay (fF ay ?_)
 refine uv (At (AZ rfl ay) rfl) ?_
 refine um (Ai (b' := false) 101 rfl rfl rfl rfl (Ai (b' := false) 101 rfl rfl rfl rfl ?_))
 refine uv (At rfl rfl) ?_
 refine um (Ai (b' := false) 105 rfl rfl rfl rfl (Ai (b' := false) 105 rfl rfl rfl rfl (Ai (b' := false) 105 rfl rfl rfl rfl ?_)))
 refine uv (At rfl rfl) ?_
 refine um (Ai (b' := false) 110 rfl rfl rfl rfl (Ai (b' := false) 110 rfl rfl rfl rfl ?_))
 refine uv (At rfl rfl) ?_
 refine ua (Aa ?_)
 refine kW kn (Ap (B2 results13 ?_))
 obtain rfl := AH iw
 exact rfl
theorem FO (_h_plots : AL 1 (iE .i64) F Af Ae Ac) {r : Bool} (hr : Ed wide Ac = some r) :
    Bz Tryz.prog 14 #[.agg #[.int .i64 wide, .slice Af Ac.length Ae]] F (.bool r) := by
 refine sp func14 ntmps14 fun K _ _ => ?_
 rw [Ed] at hr
 refine AM ?_
 refine Bu rfl rfl ?_; intro b1 aa
 refine ua (BX ?_)
 refine uv (Am BN rfl) (uv (Ao isAgg23 rfl (Has.own 0 rfl) rfl) (uv (AX underlying23 rfl) (uv (Ex rfl rfl) ?_)))
 refine ua (Aa ?_)
 refine kW kn (Ap (B2 results14 ?_))
 obtain rfl := AH hr
 exact rfl
theorem Mg (ab : AL 1 (iE .i64) F Mq Mm l) {r : List Int} (hr : Ga l = some r) :
    SH.Spec Tryz.prog 59 #[.slice Mq l.length Mm] F [] fun F' L' v => ∃ (ra : Option Addr) (rn : Nat) (rc : Nat) (rL : LH), v = .slice ra rn rc ∧ L' = rL ++ [] ∧ AN 0 32 1 (iE .i64) F' ra rn rc r rL := by
 refine sp func59 ntmps59 fun K _ _ => ?_
 rw [Ga] at hr
 refine AM (ua (BX (um ?_)))
 refine uv (AX underlying23 rfl) ?_
 obtain ⟨g1, r2⟩ := AW hr
 obtain ⟨l2, h3, r4⟩ := B8 r2
 refine Ld (R := (iE .i64)) (z0 := 0) (zs := l2) rfl FF (by decide) (Ad _) (fun _ => rfl) rfl g1 h3 (fun _ => .n) ?_; intro a5 n8 ai ad
 refine ua (BX (um (um ?_)))
 obtain ⟨out, ae, af⟩ := B8 r4
 refine QS (ys := l) (zs := out) rfl FF (Ad _) rfl rfl (fun _ => .h) ad (AL.src ab) ae ?_; intro ah aa
 refine BX (um (ua (Aa (Ap ?_))))
 refine B2 results59 ?_
 obtain rfl := AH af
 exact ⟨_, _, _, _, rfl, rfl, aa.any⟩
set_option maxHeartbeats 1000000 in
theorem FJ (aa : AL 1 (iE .i64) F Af Ae Ac) {r : Int} {r2 : List Int} (hr : D0 wide Ac = some (r, r2)) :
    SH.Spec Tryz.prog 15 #[.agg #[.int .i64 wide, .slice Af Ac.length Ae]] F [] fun F' L' v => ∃ (ah : Option Addr) (ai : Nat) (aj : Nat) (ak : LH), v = .agg #[.int .i64 r, .slice ah ai aj] ∧ L' = ak ++ [] ∧ AN 0 32 1 (iE .i64) F' ah ai aj r2 ak := by
 refine sp func15 ntmps15 fun K _ _ => ?_
 rw [D0] at hr
 refine AM ?_
 refine Bu rfl rfl ?_; intro b1 au
 refine A6 rfl zeroValue25 ?_; intro b2 av
 refine Aa (Ar ?_)
 refine CF [(.still, 0), (.still, 1), (.still, 2), (.still, 3), (.seq, 4), (.still, 5), (.seq, 6)] (by kernel_rfl) (by kernel_rfl) (trivial) (by rfl) (by kernel_rfl) (mS [1] rfl (Am Hx rfl) (mL [3] ([(b1, ce #[.int .i64 wide, .slice Af Ac.length Ae] 25)]) rfl (s0 (s1 (s2 sr))) (fun H F' L' ae af => Ao isAgg3 rfl ((Has.own 0 rfl).ext ae af) rfl) (mS [1] rfl (Am BN rfl) (mL [5] ([(b1, ce #[.int .i64 wide, .slice Af Ac.length Ae] 25)]) rfl (s0 (s1 (s2 sr))) (fun H F' L' ae af => Ao isAgg23 rfl ((Has.own 0 rfl).ext ae af) rfl) ?_))))
 refine ⟨_, [(6, .slice Af Ac.length Ae)], rfl, rfl, z1, by kernel_rfl, ?_⟩; intro H
 obtain ⟨l, h3, r4⟩ := Aw hr
 refine c0 call59 (Mg aa h3) ?_; rintro _ F5 _ ao aq ⟨a9, ad, H4, ar, rfl, rfl, ab⟩
 replace ab := ab.new fun p hp => aq p (by simp [hp])
 refine AJ (lp (ln rfl)) (kO (kf (fS fO) (kf (fS fO) kr)) ?_)
 refine Aa ⟨_, rfl, ao, [1, 0], by kernel_rfl, .inl (.inr (fun d h => by cases h; rfl)), (fc (s0 (s1 (s2 (s3 sr)))) (fc sm nm)), ?_⟩
 refine mS (v := .agg #[.int .i64 wide, .slice a9 ad H4]) [4, 7] rfl (Bc (v := .agg #[.int .i64 wide, .slice a9 ad H4]) rfl (by intro w; kernel_rfl)) ?_
 refine ⟨_, [(2, .pointer (some ⟨b2, 0, none⟩)), (8, .agg #[.int .i64 wide, .slice a9 ad H4])], rfl, rfl, z2, by kernel_rfl, ?_⟩; intro H
 refine Bg (i := 0) sizeOf25 rfl rfl rfl (by simp [Value.oneCell']) rfl (Be rfl) (AJ rfl ?_)
 refine Aa ⟨undef, rfl, AY.refl _, [], by kernel_rfl, .inl (.inl rfl), nm, ?_⟩
 refine DI (kW (kc (kd kr)) (Ap (O2 results15 (Fh (cs := #[.int .i64 wide, .slice a9 ad H4]) isAgg25 sizeOf25 rfl (Has.own 0 rfl) (Be rfl) rfl) (s1 (s4 sr)) ?_)))
 obtain ⟨rfl, rfl⟩ := BK r4
 exact ⟨_, _, _, _, rfl, rfl, ab.any⟩
set_option maxHeartbeats 1000000 in
theorem DK (ad : AL 1 (iE .i64) F Af Ae Ac) {r : Int} {r2 : List Int} (hr : CG wide Ac = some (r, r2)) :
    SH.Spec Tryz.prog 16 #[.agg #[.int .i64 wide, .slice Af Ac.length Ae]] F [] fun F' L' v => ∃ (bb : Option Addr) (bc : Nat) (bg : Nat) (bh : LH), v = .agg #[.int .i64 r, .slice bb bc bg] ∧ L' = bh ++ [] ∧ AN 0 3 1 (iE .i64) F' bb bc bg r2 bh := by
 refine sp func16 ntmps16 fun K _ _ => ?_
 rw [CG] at hr
 refine AM ?_
 refine Bu rfl rfl ?_; intro b1 cc
 refine A6 rfl zeroValue45 ?_; intro b2 cd
 refine BX (uv (Am Hx rfl) (uv (Ao isAgg3 rfl (Has.own 1 rfl) rfl) ?_))
 refine uv (Bc (v := .agg #[.int .i64 wide, .slice none 0 0]) rfl (by intro w; kernel_rfl)) ?_
 refine A6 rfl zeroValue45 ?_; intro b3 cf
 refine Bg (i := 0) sizeOf45 rfl rfl rfl (by simp [Value.oneCell']) rfl (Be rfl) (AJ rfl (Aa ?_))
 obtain ⟨ab, bn, bj⟩ := Aw hr
 refine AQ (fun e1 F1 L1 => ∃ (a4 : Option Addr) (n8 : Nat) (c5 : Nat) (ak : LH), F = F1 ∧ L1 = ((b3, ce #[.int .i64 wide, .slice a4 n8 c5] 45) :: ((b2, ce #[.int .i64 0, .slice none 0 0] 45) :: (ak ++ []))) ∧ e1.sub [(2, .pointer (some ⟨b2, 0, none⟩)), (3, .pointer (some ⟨b3, 0, none⟩))] ∧ AN K.w0.heap.size 3 1 (iE .i64) F1 a4 n8 c5 ab ak) ?_ ?_
 ·clear bj
  refine AM (uv (Am BN rfl) (uv (Ao isAgg23 rfl (Has.own 2 rfl) rfl) (uv (AX underlying23 rfl) ?_)))
  refine um (Aa ?_)
  refine Aq (kW (kc (kc kn)) ?_)
  refine A9 (fun bk e1 F1 L1 => LA Ac bk fun tl k => ∃ (aa : List Int) (PR : Option Addr) (ah : Nat) (LB : Nat) (ae : LH), CS tl aa = some ab ∧ F = F1 ∧ L1 = ((b3, ce #[.int .i64 wide, .slice PR ah LB] 45) :: ((b2, ce #[.int .i64 0, .slice none 0 0] 45) :: (ae ++ []))) ∧ e1.sub [(2, .pointer (some ⟨b2, 0, none⟩)), (3, .pointer (some ⟨b3, 0, none⟩)), (10, .slice Af Ac.length Ae), (11, .int .i64 (Ac.length : Int)), (12, .int .i64 k)] ∧ AN K.w0.heap.size 3 1 (iE .i64) F1 PR ah LB aa ae) _ (m0 (kc (kc (ke kr))) ⟨_, _, rfl, BO.start _, [], none, 0, 0, [], bn, rfl, rfl, z5, AN.nil _ _ _ _ _⟩) ?_
  rintro bk e1 _ _ ⟨tl, k, ao, af, aa, PR, ah, LB, ae, aj, rfl, rfl, aq, ai⟩
  refine Az _ aq (AM (uv (A7 rfl rfl) ?_))
  refine Aa (Ar ?_)
  refine cQ (fun I0 => ?_) fun I0 => ?_
  ·obtain ⟨x, cg, rfl, ar, bl, au⟩ := BO.succ af I0
   rw [CS] at aj
   refine Al (Ar ?_)
   refine Aq (AM ?_)
   obtain ⟨Xj, cj, Jl, bo, av, aw, bm, rfl, bp, ax⟩ := AL.at (Ad _) ad ((b3, ce #[.int .i64 wide, .slice PR ah LB] 45) :: ((b2, ce #[.int .i64 0, .slice none 0 0] 45) :: (ae ++ []))) bl.1 ar
   refine uv (AA underlying23 sizeOf32 rfl av rfl bl) (uv (Ao isAgg32 rfl aw (ax 0 (by decide))) ?_)
   refine ua (Aa (Ak ?_))
   refine uv (Am C0 rfl) (uv (Ao isAgg22 rfl (Has.own 0 rfl) rfl) (um ?_))
   refine bA (cs := #[.int .i64 x]) Br [.int .i64 x] ?_; intro Qr bq
   obtain ⟨out, br, bu, bw⟩ := E9 aj
   refine DB (xs := aa) (ys := [x]) (zs := out) rfl Br rfl rfl (Nat.le_refl _) (fun _ => .c (.c (.c .h))) ai (GO.box (vss := [[.int .i64 x]]) (ys := [x]) 0 rfl (Ad _) (.cons rfl .nil) rfl rfl) br bu (by decide) ?_; intro bx bz ca ay az
   refine kO (kd kr) (uv (Am C0 rfl) (Bt (i := 0) sizeOf22 rfl rfl rfl rfl (Be rfl) (AJ rfl ?_)))
   refine Aa (Av (id := 1) (Ak ?_))
   refine uv (A1 rfl rfl (BO.DZ af I0 (AL.lt ad))) ?_
   refine um (Aa ?_)
   subst ao; exact le kr ⟨_, _, rfl, au, out, bx, bz, ca, ay, bw, rfl, rfl, z5, az⟩
  obtain rfl := BO.zero af I0
  rw [CS] at aj
  refine AR (Aj (Aj ?_))
  refine Ay ?_
  obtain rfl := AH aj
  exact mi kr ⟨PR, ah, LB, ae, rfl, rfl, z2, ai⟩
 rintro e1 _ _ ⟨a4, n8, c5, ak, rfl, rfl, ba, cb⟩
 refine Az _ ba (AM (uv (As isAgg45 sizeOf45 rfl (Has.own 0 rfl) (Be rfl) rfl) (Bg (i := 1) sizeOf45 rfl rfl rfl (by simp [Value.oneCell']) rfl (Be rfl) (AJ rfl (Aa (kW (kd kr) (Ap ?_)))))))
 refine O2 results16 (Fh (cs := #[.int .i64 wide, .slice a4 n8 c5]) isAgg45 sizeOf45 rfl (Has.own 0 rfl) (Be rfl) rfl) (s1 (s4 sr)) ?_
 obtain ⟨rfl, rfl⟩ := BK bj
 exact ⟨_, _, _, _, rfl, rfl, cb.any⟩
theorem CQ {r : Bool} (hr : Cr n lo hi = some r) :
    Bz Tryz.prog 60 #[.int .i64 n, .int .i64 lo, .int .i64 hi] F (.bool r) := by
 refine sp func60 ntmps60 fun K _ _ => ?_
 rw [Cr] at hr
 refine AM (ua (BX (um (um ?_))))
 refine uv (A7 rfl rfl) (um ?_)
 by_cases c1 : n < lo
 ·have r2 := AO hr c1
  refine fT c1 (fT c1 (fT c1 ?_))
  refine uv (Au (A5 rfl c1) rfl) ?_
  refine ua (Aa (Ap ?_))
  refine B2 results60 ?_
  obtain rfl := AH r2
  exact rfl
 have r3 := AP hr c1
 refine nF c1 (um (nF c1 (um (nF c1 ?_))))
 refine uv (Ex rfl rfl) (uv (At (AZ rfl c1) rfl) ?_)
 refine ua (Aa (Ap ?_))
 refine B2 results60 ?_
 obtain rfl := AH r3
 exact rfl
set_option maxHeartbeats 1000000 in
theorem D4 (aa : AL 1 (iE .i64) F Af Ae Ac) {r : Int} (hr : CR wide Ac = some r) :
    Bz Tryz.prog 17 #[.agg #[.int .i64 wide, .slice Af Ac.length Ae]] F (.int .i64 r) := by
 refine sp func17 ntmps17 fun K _ _ => ?_
 rw [CR] at hr
 refine AM ?_
 refine Bu rfl rfl ?_; intro b1 de
 refine ua (Aa (Ar ?_))
 obtain ⟨k, h2, r3⟩ := Aw hr
 refine jE ([(b1, ce #[.int .i64 wide, .slice Af Ac.length Ae] 45)]) [(1, .pointer (some ⟨b1, 0, none⟩)), (23, .bool k)] ?_ ?_
 ·clear r3
  refine Ak (uv (Am Kg rfl) (uv (Ao isAgg3 rfl (Has.own 0 rfl) rfl) ?_))
  obtain ⟨ok, h4, r5⟩ := Aw h2
  refine cV call60 (CQ h4) (um ?_)
  rcases Bf ok with c6 | c6
  ·have r7 := bt r5 c6
   refine fB c6 (fB c6 (fB c6 (fB c6 ?_)))
   refine uv (Au (Es rfl c6) rfl) ?_
   refine um (Ai (b' := true) 15 rfl rfl rfl rfl (Ai (b' := true) 15 rfl rfl rfl rfl (Ai (b' := true) 15 rfl rfl rfl rfl (Ai (b' := true) 15 rfl rfl rfl rfl (Ai (b' := true) 15 rfl rfl rfl rfl (Ai (b' := true) 15 rfl rfl rfl rfl (Ai (b' := true) 15 rfl rfl rfl rfl ?_)))))))
   refine uv (Au rfl rfl) (Aa ?_)
   obtain rfl := AH r7
   exact mi kr ⟨rfl, rfl, z2⟩
  have r8 := bf r5 c6
  refine nB c6 (uv (Am C0 rfl) (nB c6 (uv (Ao isAgg22 rfl (Has.own 0 rfl) rfl) (nB c6 (uv (AX underlying22 rfl) (nB c6 ?_))))))
  obtain ⟨ca, h9, bm⟩ := Aw r8
  refine cV call60 (CQ h9) (uv (At (Es rfl c6) rfl) (um ?_))
  rcases Bf ca with FE | FE
  ·have cb := bt bm FE
   refine fB FE (fB FE (fB FE (fB FE (fB FE (fB FE (fB FE ?_))))))
   refine uv (Au (Es rfl FE) rfl) (Aa ?_)
   obtain rfl := AH cb
   exact mi kr ⟨rfl, rfl, z2⟩
  have cc := bf bm FE
  refine nB FE (uv (Am C0 rfl) (nB FE (uv (Ao isAgg22 rfl (Has.own 0 rfl) rfl) (nB FE (uv (AX underlying22 rfl) (nB FE (uv (Am Kg rfl) ?_)))))))
  refine nB FE (uv (Ao isAgg3 rfl (Has.own 0 rfl) rfl) (nB FE ?_))
  obtain ⟨cd, cf⟩ := AW cc
  refine uv (EN rfl rfl cd) (nB FE (uv (Bo rfl rfl) (uv (At (Es rfl FE) rfl) (Aa ?_))))
  obtain rfl := AH cf
  exact mi kr ⟨rfl, rfl, z2⟩
 refine AU rfl (fun FG => ?_) (fun FG => ?_)
 ·have cg := bt r3 FG
  refine AM (ua (Aa ?_))
  refine kW kn ?_
  refine Ap (Ah ?_)
  refine B2 results17 ?_
  obtain rfl := AH cg
  exact rfl
 have cj := bf r3 FG
 refine Al (AM (ua (Aa ?_)))
 refine AQ (fun e1 F1 L1 => GH Ac = some r ∧ F = F1 ∧ L1 = [(b1, ce #[.int .i64 wide, .slice Af Ac.length Ae] 45)] ∧ e1.sub [(1, .pointer (some ⟨b1, 0, none⟩)), (3, .int .i64 0)]) ?_ ?_
 ·refine AM (ua (Aa ?_))
  refine Aq ?_
  refine A9 (fun bn e1 F1 L1 => LA Ac bn fun tl p => Dg Ac tl = some r ∧ F = F1 ∧ L1 = [(b1, ce #[.int .i64 wide, .slice Af Ac.length Ae] 45)] ∧ e1.sub [(1, .pointer (some ⟨b1, 0, none⟩)), (3, .int .i64 0), (4, .int .i64 p)]) _ (m0 kr ⟨_, _, rfl, BO.start _, cj, rfl, rfl, z3⟩) ?_
  rintro bn e1 _ _ ⟨tl, p, ao, ae, ak, rfl, rfl, aq⟩
  refine Az _ aq ?_
  refine Ar (AM (um ?_))
  refine uv (Am C0 rfl) (uv (Ao isAgg22 rfl (Has.own 0 rfl) rfl) (uv (AX underlying22 rfl) (uv (A7 rfl rfl) (Aa ?_))))
  refine cQ (fun Jk => ?_) fun Jk => ?_
  ·obtain ⟨x, df, rfl, ar, bo, au⟩ := BO.succ ae Jk
   rw [Dg] at ak
   refine Al (Ar ?_)
   refine Aq (AM (uv (Am C0 rfl) (uv (Ao isAgg22 rfl (Has.own 0 rfl) rfl) (um ?_))))
   obtain ⟨dg, dh, di, cn, av, aw, bp, rfl, cp, ax⟩ := AL.at (Ad _) aa ([(b1, ce #[.int .i64 wide, .slice Af Ac.length Ae] 45)]) bo.1 ar
   refine uv (AA underlying22 sizeOf3 rfl av rfl bo) (uv (Ao isAgg3 rfl aw (ax 0 (by decide))) ?_)
   obtain ⟨dk, cq, bq⟩ := Aw ak
   refine cV call60 (CQ cq) (Aa ?_)
   refine AU rfl (fun ay => ?_) (fun ay => ?_)
   ·have cr := bt bq ay
    refine AM (ua (Aa ?_))
    refine kW kn ?_
    refine Ap (AB (Ah (Ah (AB (Ah ?_)))))
    refine B2 results17 ?_
    obtain rfl := AH cr
    exact rfl
   have ct := bf bq ay
   refine Al (Av (id := 1) (Ak (um ?_)))
   refine uv (A1 rfl rfl (BO.DZ ae Jk (AL.lt aa))) ?_
   refine ua (Aa ?_)
   subst ao; exact le kr ⟨_, _, rfl, au, ct, rfl, rfl, z3⟩
  obtain rfl := BO.zero ae Jk
  rw [Dg] at ak
  refine AR (Aj (Aj ?_))
  refine Ay ?_
  exact mi kr ⟨ak, rfl, rfl, z2⟩
 rintro e1 _ _ ⟨br, rfl, rfl, az⟩
 refine Az _ az ?_
 rw [GH] at br
 obtain ⟨AI, cu, ba⟩ := Aw br
 refine jE ([]) [(3, .int .i64 AI)] ?_ ?_
 ·clear ba
  refine AM (ua (Aa ?_))
  refine Aq ?_
  refine A9 (fun bu e1 F1 L1 => LA Ac bu fun bw p2 => ∃ (ab : Int), CN bw ab = some AI ∧ F = F1 ∧ L1 = [(b1, ce #[.int .i64 wide, .slice Af Ac.length Ae] 45)] ∧ e1.sub [(1, .pointer (some ⟨b1, 0, none⟩)), (3, .int .i64 ab), (5, .int .i64 p2)]) _ (m0 kr ⟨_, _, rfl, BO.start _, 0, cu, rfl, rfl, z3⟩) ?_
  rintro bu e1 _ _ ⟨bw, p2, af, ad, ab, ah, rfl, rfl, bb⟩
  refine Az _ bb ?_
  refine Ar (AM (um ?_))
  refine uv (Am C0 rfl) (uv (Ao isAgg22 rfl (Has.own 0 rfl) rfl) (uv (AX underlying22 rfl) (uv (A7 rfl rfl) (Aa ?_))))
  refine cQ (fun ai => ?_) fun ai => ?_
  ·obtain ⟨x2, dm, rfl, bc, bx, aj⟩ := BO.succ ad ai
   rw [CN] at ah
   refine Al (Ar ?_)
   refine Aq (AM (uv (Am C0 rfl) (uv (Ao isAgg22 rfl (Has.own 0 rfl) rfl) (um ?_))))
   obtain ⟨dn, dp, dq, cv, bg, bh, bz, rfl, cw, bj⟩ := AL.at (Ad _) aa ([(b1, ce #[.int .i64 wide, .slice Af Ac.length Ae] 45)]) bx.1 bc
   refine uv (AA underlying22 sizeOf3 rfl bg rfl bx) (uv (Ao isAgg3 rfl bh (bj 0 (by decide))) (uv (Bv rfl rfl) (Aa ?_)))
   refine cQ (fun bk => ?_) fun bk => ?_
   ·have cx := AO ah bk
    refine Ak (um ?_)
    obtain ⟨cy, cz⟩ := AW cx
    refine uv (A1 rfl rfl cy) ?_
    refine ua (Aa (Av (id := 3) (Ak (um ?_))))
    refine uv (A1 rfl rfl (BO.DZ ad ai (AL.lt aa))) ?_
    refine ua (Aa ?_)
    subst af; exact le kr ⟨_, _, rfl, aj, ab + 1, cz, rfl, rfl, z3⟩
   have da := AP ah bk
   refine Al (Av (id := 3) (Ak (um ?_)))
   refine uv (A1 rfl rfl (BO.DZ ad ai (AL.lt aa))) ?_
   refine ua (Aa ?_)
   subst af; exact le kr ⟨_, _, rfl, aj, ab, da, rfl, rfl, z3⟩
  obtain rfl := BO.zero ad ai
  rw [CN] at ah
  refine AR (Aj (Aj ?_))
  refine Ay ?_
  obtain rfl := AH ah
  exact mi kn ⟨rfl, rfl, z1⟩
 refine Ar (AM (um ?_))
 refine uv (Ex rfl rfl) (Aa ?_)
 refine cQ (fun bl => ?_) fun bl => ?_
 ·have db := AO ba bl
  refine AM (ua (Aa (Ap (Ah ?_))))
  refine B2 results17 ?_
  obtain rfl := AH db
  exact rfl
 have dd := AP ba bl
 refine Al (AM (ua (Aa (Ap ?_))))
 refine B2 results17 ?_
 obtain rfl := AH dd
 exact rfl
theorem FZ {r : Int} (hr : Da AK AF = some r) :
    Bz Tryz.prog 19 #[.int .i64 AK, .int .i64 AF] F (.int .i64 r) := by
 refine sp func19 ntmps19 fun K _ _ => ?_
 rw [Da] at hr
 refine AM (ua (Aa (Ar ?_)))
 obtain ⟨k, h1, r2⟩ := Aw hr
 refine jE ([]) [(10, .bool k)] ?_ ?_
 ·clear r2
  refine Ak (um ?_)
  obtain ⟨ok, h3, r4⟩ := Aw h1
  refine cV call60 (CQ h3) (um ?_)
  rcases Bf ok with c5 | c5
  ·have r6 := bt r4 c5
   refine fB c5 (fB c5 ?_)
   refine uv (Au (Es rfl c5) rfl) (Aa ?_)
   obtain rfl := AH r6
   exact mi kr ⟨rfl, rfl, z1⟩
  have r7 := bf r4 c5
  refine nB c5 (um (nB c5 ?_))
  obtain ⟨ad, h8, r9⟩ := Aw r7
  refine cV call60 (CQ h8) (uv (At (Es rfl c5) rfl) (Aa ?_))
  obtain rfl := AH r9
  exact mi kr ⟨rfl, rfl, z1⟩
 refine AU rfl (fun FE => ?_) (fun FE => ?_)
 ·have aa := bt r2 FE
  refine AM (ua (Aa (Ap (Ah ?_))))
  refine B2 results19 ?_
  obtain rfl := AH aa
  exact rfl
 have ab := bf r2 FE
 refine Al (AM (ua (Aa (Ap ?_))))
 refine B2 results19 ?_
 obtain rfl := AH ab
 exact rfl
end Go.Proofs.YtkfbbjiniapooaaGreat
