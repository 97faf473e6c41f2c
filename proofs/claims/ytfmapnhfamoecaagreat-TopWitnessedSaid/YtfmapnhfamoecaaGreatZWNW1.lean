/- The walks that this claim needs, printed by a program of mine; part 1. -/
import Derived.Test.YtfmapnhfamoecaaGreatZWShX
import Derived.Test.YtfmapnhfamoecaaGreatZWTf
import Derived.Test.YtfmapnhfamoecaaGreatZWTd
namespace Go.Proofs.YtfmapnhfamoecaaGreat
open Go.SH Go.PL
open Tryz 
variable {so : (List Int) → Option Bool} {KU KT Qv Ql Ih Ii : Array Value} {F : FS} {KS Lj Ij : FuncId} {a b hour An last n Eh start v Dy : Int} {I8 : LH} {Ba : List (Int × Int × Int)} {Ca : List (Int × Int)} {walks : List (List Int)} {RS : List Bool} {HC HG Av seq BR : List Int} {Mv VZ GZ SN Hf Bx Ax J0 AA El A8 Ck HD IK AQ : Nat} {Tk WM IZ Sm : Nat × Nat} {G1 Bv Aw Ko Az Ej A9 Cj AR : Option Addr}
theorem QL {B6 : Option Addr} {B3 : Nat} {metal : List Int} (aa : As 1 (iE .u8) F B6 B3 metal) {r : List Int} {r2 r3 : Int} (hr : JL metal = some (r, r2, r3)) :
    SH.Spec Tryz.prog 6 #[.slice B6 metal.length B3] F [] fun F' L' v => ∃ (rb : Nat) (ra : Option Addr) (rc : Nat), v = .pointer (some ⟨rb, 0, none⟩) ∧ L' = [(rb, ce #[.slice ra r.length rc, .int .i64 r2, .int .u32 r3] 137)] ∧ As 1 (iE .u8) F' ra rc r := by
 refine sp func6 ntmps6 fun K _ _ => ?_
 rw [JL] at hr
 refine AJ (ua (BU (um ?_)))
 refine uv (BM (v := .agg #[.slice B6 metal.length B3, .int .i64 0, .int .u32 0]) rfl (by intro w; kernel_rfl)) ?_
 refine BJ rfl rfl ?_; intro b1 ab
 refine ua (Aa (Aj ?_))
 refine BZ results6 ?_
 obtain ⟨rfl, rfl, rfl⟩ := H2 hr
 exact ⟨_, _, _, rfl, rfl, aa⟩
theorem LM {s_ : List Int} (aa : As 1 (iE .i64) F Cj Ck s_) {r : Int} (hr : FD s_ v = some r) :
    Bl Tryz.prog 58 #[.slice Cj s_.length Ck, .int .i64 v] F (.int .i64 r) := by
 refine sp func58 ntmps58 fun K _ _ => ?_
 rw [FD] at hr
 refine AJ (ua (Aa ?_))
 refine A5 (fun e1 F1 L1 => Gb = some r ∧ F = F1 ∧ L1 = [] ∧ e1.sub []) ?_ ?_
 ·refine AJ (um ?_)
  refine uv (A2 underlying33 rfl) ?_
  refine um (Aa ?_)
  refine Ak ?_
  refine Br (fun aj e1 F1 L1 => LA s_ aj fun tl k => CL v tl k = some r ∧ F = F1 ∧ L1 = [] ∧ e1.sub [(0, .slice Cj s_.length Ck), (1, .int .i64 v), (7, .int .i64 (s_.length : Int)), (8, .int .i64 k)]) _ (m0 kr ⟨_, _, rfl, BI.start _, hr, rfl, rfl, z4⟩) ?_
  rintro aj e1 _ _ ⟨tl, k, ao, ab, r3, rfl, rfl, aq⟩
  refine AB _ aq (AJ (uv (Bp rfl rfl) ?_))
  refine Aa (Aq ?_)
  refine cQ (fun c6 => ?_) fun c6 => ?_
  ·obtain ⟨x, az, rfl, ar, g9, au⟩ := BI.succ ab c6
   rw [CL] at r3
   refine Al (Aq ?_)
   refine Ak ?_
   refine AJ (um (ua (BU (um (um (um ?_))))))
   obtain ⟨Jn, ba, bb, av, ad, ae, ak, rfl, aw, af⟩ := As.at (Ac _) aa ([]) g9.1 ar
   refine uv (AT underlying33 sizeOf3 rfl ad rfl g9) (uv (Ah isAgg3 rfl ae (af 0 (by decide))) (uv (Cx rfl rfl) (Aa ?_)))
   refine cQ (fun ah => ?_) fun ah => ?_
   ·have ax := Bi r3 ah
    refine AJ (um (ua (Aa (Aj (AD (Ai (Ai (AD (Ai ?_)))))))))
    refine BZ results58 ?_
    obtain rfl := AH ax
    exact rfl
   have ay := Bk r3 ah
   refine Al (At (id := 1) (Af ?_))
   refine uv (Bf rfl rfl (BI.Ed ab c6 (As.lt aa))) ?_
   refine um (Aa ?_)
   subst ao; exact le kr ⟨_, _, rfl, au, ay, rfl, rfl, z4⟩
  obtain rfl := BI.zero ab c6
  rw [CL] at r3
  refine AW (Ae (Ae ?_))
  refine Au ?_
  exact mi kr ⟨r3, rfl, rfl, (sn _)⟩
 rintro e1 _ _ ⟨al, rfl, rfl, ai⟩
 refine AB _ ai ?_
 rw [Gb] at al
 refine AJ (ua (Aa (Aj ?_)))
 refine BZ results58 ?_
 obtain rfl := AH al
 exact rfl
theorem En {s_ : List Int} (aa : As 1 (iE .i64) F Cj Ck s_) {r : Bool} (hr : Cm s_ v = some r) :
    Bl Tryz.prog 18 #[.slice Cj s_.length Ck, .int .i64 v] F (.bool r) := by
 refine sp func18 ntmps18 fun K _ _ => ?_
 rw [Cm] at hr
 refine AJ (ua (BU (um (um ?_))))
 obtain ⟨n, h1, r2⟩ := AF hr
 refine cV call58 (LM aa h1) (uv (FX rfl rfl) ?_)
 refine ua (Aa (Aj ?_))
 refine BZ results18 ?_
 obtain rfl := AH r2
 exact rfl
theorem He {lo hi : Int} {r : Bool} (hr : HO n lo hi = some r) :
    Bl Tryz.prog 50 #[.int .i64 n, .int .i64 lo, .int .i64 hi] F (.bool r) := by
 refine sp func50 ntmps50 fun K _ _ => ?_
 rw [HO] at hr
 refine AJ (ua (BU (um (um ?_))))
 refine uv (FX rfl rfl) (um ?_)
 by_cases c1 : lo ≤ n
 ·have r2 := Bi hr c1
  refine nT c1 (um (nT c1 (um (nT c1 ?_))))
  refine uv (Kg rfl rfl) (uv (AS (Bq rfl c1) rfl) ?_)
  refine ua (Aa (Aj ?_))
  refine BZ results50 ?_
  obtain rfl := AH r2
  exact rfl
 have r3 := Bk hr c1
 refine fF c1 (fF c1 (fF c1 ?_))
 refine uv (AE (Bc rfl c1) rfl) ?_
 refine ua (Aa (Aj ?_))
 refine BZ results50 ?_
 obtain rfl := AH r3
 exact rfl
set_option maxHeartbeats 1000000 in
theorem Ku {s_ : List (List Int)} {f : (List Int) → Option Bool} (aa : As 1 (BC 1 (iE .i64)) F Cj Ck s_) (aj : Gk Tryz.prog F KS KU KT (BC 1 (iE .i64)) Value.bool f) {r : Int} (hr : Et s_ f = some r) :
    Bl Tryz.prog 262 #[.slice Cj s_.length Ck, .func (.func KS) KU KT] F (.int .i64 r) := by
 refine sp func262 ntmps262 fun K _ _ => ?_
 rw [Et] at hr
 refine AJ (ua (Aa ?_))
 refine A5 (fun e1 F1 L1 => EW = some r ∧ F = F1 ∧ L1 = [] ∧ e1.sub []) ?_ ?_
 ·refine AJ (um ?_)
  refine uv (A2 underlying36 rfl) ?_
  refine um (Aa ?_)
  refine Ak ?_
  refine Br (fun ak e1 F1 L1 => LA s_ ak fun tl k => Cc f tl k = some r ∧ F = F1 ∧ L1 = [] ∧ e1.sub [(0, .slice Cj s_.length Ck), (1, .func (.func KS) KU KT), (7, .int .i64 (s_.length : Int)), (8, .int .i64 k)]) _ (m0 kr ⟨_, _, rfl, BI.start _, hr, rfl, rfl, z4⟩) ?_
  rintro ak e1 _ _ ⟨tl, k, ar, ab, r3, rfl, rfl, au⟩
  refine AB _ au (AJ (uv (Bp rfl rfl) ?_))
  refine Aa (Aq ?_)
  refine cQ (fun c6 => ?_) fun c6 => ?_
  ·obtain ⟨x, bd, rfl, av, g9, aw⟩ := BI.succ ab c6
   rw [Cc] at r3
   refine Al (Aq ?_)
   refine Ak ?_
   refine AJ (um (ua (BU (um (um (um ?_))))))
   obtain ⟨Jn, bg, bj, ax, ad, ae, al, ⟨bk, bl, rfl, ay⟩, az, af⟩ := As.at (Am (Ac _)) aa ([]) g9.1 av
   refine uv (AT underlying36 sizeOf33 rfl ad rfl g9) (uv (Ah isAgg33 rfl ae (af 0 (by decide))) ?_)
   obtain ⟨ok, ba, ao⟩ := AF r3
   refine D2 rfl aj.1 rfl rfl rfl (aj.2 _ (A4.refl _) _ _ _ ⟨_, _, rfl, ay⟩ ba) (Aa ?_)
   refine AX rfl (fun ah => ?_) (fun ah => ?_)
   ·have bb := bt ao ah
    refine AJ (um (ua (Aa (Aj (AD (Ai (Ai (AD (Ai ?_)))))))))
    refine BZ results262 ?_
    obtain rfl := AH bb
    exact rfl
   have bc := bf ao ah
   refine Al (At (id := 1) (Af ?_))
   refine uv (Bf rfl rfl (BI.Ed ab c6 (As.lt aa))) ?_
   refine um (Aa ?_)
   subst ar; exact le kr ⟨_, _, rfl, aw, bc, rfl, rfl, z4⟩
  obtain rfl := BI.zero ab c6
  rw [Cc] at r3
  refine AW (Ae (Ae ?_))
  refine Au ?_
  exact mi kr ⟨r3, rfl, rfl, (sn _)⟩
 rintro e1 _ _ ⟨aq, rfl, rfl, ai⟩
 refine AB _ ai ?_
 rw [EW] at aq
 refine AJ (ua (Aa (Aj ?_)))
 refine BZ results262 ?_
 obtain rfl := AH aq
 exact rfl
theorem Gn {s_ : List (List Int)} {f : (List Int) → Option Bool} (aa : As 1 (BC 1 (iE .i64)) F Cj Ck s_) (ab : Gk Tryz.prog F KS KU KT (BC 1 (iE .i64)) Value.bool f) {r : Bool} (hr : Db s_ f = some r) :
    Bl Tryz.prog 233 #[.slice Cj s_.length Ck, .func (.func KS) KU KT] F (.bool r) := by
 refine sp func233 ntmps233 fun K _ _ => ?_
 rw [Db] at hr
 refine AJ (ua (BU (um (um ?_))))
 obtain ⟨n, h1, r2⟩ := AF hr
 refine cV call262 (Ku aa ab h1) (uv (FX rfl rfl) ?_)
 refine ua (Aa (Aj ?_))
 refine BZ results233 ?_
 obtain rfl := AH r2
 exact rfl
theorem M0 {VP : Option Addr} {VR : Nat} {x : List Int} {MS : Nat} {N0 : Nat × Nat} (ad : As 1 (iE .i64) F VP VR x) (aa : F MS = some (.cells #[.func (.func Ij) Ih Ii] 335 N0)) (ab : Gk Tryz.prog F Ij Ih Ii (BC 1 (iE .i64)) Value.bool so) {r : Bool} (hr : GV x so = some r) :
    Bl Tryz.prog 250 #[.slice VP x.length VR, .pointer (some ⟨MS, 0, none⟩)] F (.bool r) := by
 refine sp func250 ntmps250 fun K _ _ => ?_
 rw [GV] at hr
 refine AJ (ua (BU ?_))
 refine uv (Ah isAgg335 rfl (Has.frozen aa) rfl) (um ?_)
 obtain ⟨ok, h1, r2⟩ := AF hr
 refine D2 rfl ab.1 rfl rfl rfl (ab.2 _ (A4.refl _) _ _ _ ⟨_, _, rfl, ad⟩ h1) (uv (BB rfl) ?_)
 refine ua (Aa (Aj ?_))
 refine BZ results250 ?_
 obtain rfl := AH r2
 exact rfl
theorem OB {l : List (List Int)} (ab : As 1 (BC 1 (iE .i64)) F Ko J0 l) (aa : Gk Tryz.prog F Ij Ih Ii (BC 1 (iE .i64)) Value.bool so) {r : Bool} (hr : JB l so = some r) :
    Bl Tryz.prog 225 #[.slice Ko l.length J0, .func (.func Ij) Ih Ii] F (.bool r) := by
 refine sp func225 ntmps225 fun K _ _ => ?_
 rw [JB] at hr
 refine AJ ?_
 refine BJ rfl rfl ?_; intro b1 af
 refine ua (BU (um ?_))
 refine uv (BT rfl rfl) ?_
 refine Bz 0 rfl af ?_; intro F2 ad ah
 refine AI rfl ?_
 replace ab := ab.mono (Am (Ac _)) ad
 replace aa := aa.mono ad
 have ai : Gk Tryz.prog F2 250 #[] #[.pointer (some ⟨b1, 0, none⟩)] (BC 1 (iE .i64)) Value.bool (fun ae : (List Int) => GV ae so) := ⟨call250, fun F2 h2 vs ae r ha hr => by obtain ⟨a5, c6, rfl, h7⟩ := ha; exact M0 h7 (h2 _ _ ah) (aa.mono h2) hr⟩
 obtain ⟨ok, h9, aj⟩ := AF hr
 refine cV call233 (Gn ab ai h9) (uv (BB rfl) ?_)
 refine ua (Aa (Aj ?_))
 refine BZ results225 ?_
 obtain rfl := AH aj
 exact rfl
theorem LD {l : List Int} {ad : Nat} {aa : Nat × Nat} (_h_l : As 1 (iE .i64) F Ko J0 l) (ab : F ad = some (.cells #[.int .i64 n] 3 aa)) {r : Bool} (hr : FC l n = some r) :
    Bl Tryz.prog 226 #[.slice Ko l.length J0, .pointer (some ⟨ad, 0, none⟩)] F (.bool r) := by
 refine sp func226 ntmps226 fun K _ _ => ?_
 rw [FC] at hr
 refine AJ (ua (BU (um ?_)))
 refine uv (A2 underlying33 rfl) (uv (Ah isAgg3 rfl (Has.frozen ab) rfl) (uv (Cx rfl rfl) ?_))
 refine ua (Aa (Aj ?_))
 refine BZ results226 ?_
 obtain rfl := AH hr
 exact rfl
set_option maxHeartbeats 1000000 in
theorem Mw {Ao : List (List Int)} {Ad : List ((List Int) × Int × Int)} (aa : As 1 (BC 1 (iE .i64)) F AR AQ walks) (_af : As 1 (BC 1 (iE .i64)) F Aw Ax Ao) (_ae : As 3 (Ce (BC 1 (iE .i64)) (Ce (iE .i64) (iE .i64))) F Az AA Ad) {r : Bool} (hr : HY walks Ao An start Ad = some r) :
    Bl Tryz.prog 179 #[.agg #[.slice AR walks.length AQ, .slice Aw Ao.length Ax, .int .i64 An, .int .i64 start, .slice Az Ad.length AA]] F (.bool r) := by
 refine sp func179 ntmps179 fun K _ _ => ?_
 rw [HY] at hr
 refine AJ ?_
 refine BJ rfl rfl ?_; intro b1 bd
 refine ua (BU ?_)
 refine uv (Ab Lv rfl) (uv (Ah isAgg36 rfl (Has.own 0 rfl) rfl) (uv (A2 underlying36 rfl) ?_))
 refine Bw rfl zeroValue3 ?_; intro b2 aq
 refine B4 (i := 0) sizeOf3 rfl rfl rfl rfl (CB rfl) (AI rfl (BU (uv (Ah isAgg3 rfl (Has.own 0 rfl) rfl) ?_)))
 obtain ⟨ok, h3, r4⟩ := AF hr
 refine cV call50 (He h3) (um ?_)
 rcases Cd ok with c5 | c5
 ·have r6 := bt r4 c5
  refine nB c5 (uv (Ab T0 rfl) (nB c5 (uv (Ah isAgg3 rfl (Has.own 1 rfl) rfl) (nB c5 ?_))))
  obtain ⟨ar, h7, r8⟩ := AF r6
  refine cV call50 (He h7) (uv (AS (Hx rfl c5) rfl) (um ?_))
  rcases Cd ar with c9 | c9
  ·have ak := bt r8 c9
   refine nB c9 (uv (Ab MH rfl) (nB c9 (uv (Ah isAgg37 rfl (Has.own 1 rfl) rfl) (nB c9 (uv (A2 underlying37 rfl) (nB c9 (uv (Kg rfl rfl) ?_)))))))
   refine uv (AS (Hx rfl c9) rfl) (um ?_)
   by_cases ab : (Ad.length : Int) ≤ 3
   ·have al := Bi ak ab
    refine nT ab (uv (Ab ML rfl) (nT ab (uv (Ah isAgg36 rfl (Has.own 1 rfl) rfl) (nT ab (uv (A2 underlying36 rfl) (nT ab (uv (Ah isAgg3 rfl (Has.own 0 rfl) rfl) ?_)))))))
    refine nT ab (uv (Cx rfl rfl) (uv (AS (Bq rfl ab) rfl) (um ?_)))
    by_cases ad : (walks.length : Int) = (Ao.length : Int)
    ·have au := Bi al ad
     refine nT ad (uv (Ab ML rfl) (nT ad (uv (Ah isAgg36 rfl (Has.own 1 rfl) rfl) (nT ad (uv (BT rfl rfl) (nT ad ?_))))))
     refine Bz 0 rfl aq ?_; intro av ah ai
     refine AI rfl ?_
     replace aa := aa.mono (Am (Ac _)) ah
     have aj : Gk Tryz.prog av 226 #[] #[.pointer (some ⟨b2, 0, none⟩)] (BC 1 (iE .i64)) Value.bool (fun ao : (List Int) => FC ao (Ao.length : Int)) := ⟨call226, fun F2 h2 vs ao r ha hr => by obtain ⟨bg, bj, rfl, aw⟩ := ha; exact LD aw (h2 _ _ ai) hr⟩
     obtain ⟨bk, ax, ay⟩ := AF au
     refine cV call225 (OB aa aj ax) (uv (AS (Bq rfl ad) rfl) ?_)
     refine ua (Aa ?_)
     refine kW kn (Aj (BZ results179 ?_))
     obtain rfl := AH ay
     exact rfl
    have az := Bk al ad
    refine fF ad (fF ad (fF ad (fF ad ?_)))
    refine uv (AE (Bc rfl ad) rfl) ?_
    refine ua (Aa ?_)
    refine kW kn (Aj (BZ results179 ?_))
    obtain rfl := AH az
    exact rfl
   have ba := Bk ak ab
   refine fF ab (fF ab (fF ab (fF ab (fF ab ?_))))
   refine uv (AE (Bc rfl ab) rfl) ?_
   refine um (Ay (b' := false) 27 rfl rfl rfl rfl (Ay (b' := false) 27 rfl rfl rfl rfl (Ay (b' := false) 27 rfl rfl rfl rfl (Ay (b' := false) 27 rfl rfl rfl rfl ?_))))
   refine uv (AE rfl rfl) ?_
   refine ua (Aa ?_)
   refine kW kn (Aj (BZ results179 ?_))
   obtain rfl := AH ba
   exact rfl
  have bb := bf r8 c9
  refine fB c9 (fB c9 (fB c9 (fB c9 ?_)))
  refine uv (AE (Hx rfl c9) rfl) ?_
  refine um (Ay (b' := false) 20 rfl rfl rfl rfl (Ay (b' := false) 20 rfl rfl rfl rfl (Ay (b' := false) 20 rfl rfl rfl rfl (Ay (b' := false) 20 rfl rfl rfl rfl (Ay (b' := false) 20 rfl rfl rfl rfl ?_)))))
  refine uv (AE rfl rfl) ?_
  refine um (Ay (b' := false) 27 rfl rfl rfl rfl (Ay (b' := false) 27 rfl rfl rfl rfl (Ay (b' := false) 27 rfl rfl rfl rfl (Ay (b' := false) 27 rfl rfl rfl rfl ?_))))
  refine uv (AE rfl rfl) ?_
  refine ua (Aa ?_)
  refine kW kn (Aj (BZ results179 ?_))
  obtain rfl := AH bb
  exact rfl
 have bc := bf r4 c5
 refine fB c5 (fB c5 (fB c5 ?_))
 refine uv (AE (Hx rfl c5) rfl) ?_
 refine um (Ay (b' := false) 14 rfl rfl rfl rfl (Ay (b' := false) 14 rfl rfl rfl rfl (Ay (b' := false) 14 rfl rfl rfl rfl (Ay (b' := false) 14 rfl rfl rfl rfl ?_))))
 refine uv (AE rfl rfl) ?_
 refine um (Ay (b' := false) 20 rfl rfl rfl rfl (Ay (b' := false) 20 rfl rfl rfl rfl (Ay (b' := false) 20 rfl rfl rfl rfl (Ay (b' := false) 20 rfl rfl rfl rfl (Ay (b' := false) 20 rfl rfl rfl rfl ?_)))))
 refine uv (AE rfl rfl) ?_
 refine um (Ay (b' := false) 27 rfl rfl rfl rfl (Ay (b' := false) 27 rfl rfl rfl rfl (Ay (b' := false) 27 rfl rfl rfl rfl (Ay (b' := false) 27 rfl rfl rfl rfl ?_))))
 refine uv (AE rfl rfl) ?_
 refine ua (Aa ?_)
 refine kW kn (Aj (BZ results179 ?_))
 obtain rfl := AH bc
 exact rfl
theorem Nv {Ao : List (List Int)} {Ad : List ((List Int) × Int × Int)} {s_ : Int} (_h_walks : As 1 (BC 1 (iE .i64)) F AR AQ walks) (_h_hears : As 1 (BC 1 (iE .i64)) F Aw Ax Ao) (_h_notices : As 3 (Ce (BC 1 (iE .i64)) (Ce (iE .i64) (iE .i64))) F Az AA Ad) {r : Bool} (hr : Ja walks Ao An start Ad s_ = some r) :
    Bl Tryz.prog 180 #[.agg #[.slice AR walks.length AQ, .slice Aw Ao.length Ax, .int .i64 An, .int .i64 start, .slice Az Ad.length AA], .int .i64 s_] F (.bool r) := by
 refine sp func180 ntmps180 fun K _ _ => ?_
 rw [Ja] at hr
 refine AJ ?_
 refine BJ rfl rfl ?_; intro b1 aa
 refine ua (BU (um ?_))
 refine uv (Ab Lv rfl) (uv (Ah isAgg36 rfl (Has.own 0 rfl) rfl) (uv (A2 underlying36 rfl) ?_))
 obtain ⟨g2, r3⟩ := A0 hr
 refine uv (Fs rfl rfl g2) ?_
 obtain ⟨ok, h4, r5⟩ := AF r3
 refine cV call50 (He h4) ?_
 refine ua (Aa ?_)
 refine kW kn (Aj (BZ results180 ?_))
 obtain rfl := AH r5
 exact rfl
set_option maxHeartbeats 1000000 in
theorem LX {Ao : List (List Int)} {Ad : List ((List Int) × Int × Int)} (ab : As 1 (BC 1 (iE .i64)) F AR AQ walks) (_h_hears : As 1 (BC 1 (iE .i64)) F Aw Ax Ao) (_h_notices : As 3 (Ce (BC 1 (iE .i64)) (Ce (iE .i64) (iE .i64))) F Az AA Ad) {r : Bool} (hr : Hy walks Ao An start Ad = some r) :
    Bl Tryz.prog 181 #[.agg #[.slice AR walks.length AQ, .slice Aw Ao.length Ax, .int .i64 An, .int .i64 start, .slice Az Ad.length AA]] F (.bool r) := by
 refine sp func181 ntmps181 fun K _ _ => ?_
 rw [Hy] at hr
 refine AJ ?_
 refine BJ rfl rfl ?_; intro b1 dm
 refine ua (Aa ?_)
 refine A5 (fun e1 F1 L1 => Gr = some r ∧ F = F1 ∧ L1 = [] ∧ e1.sub []) ?_ ?_
 ·refine AJ (uv (Ab ML rfl) (uv (Ah isAgg36 rfl (Has.own 0 rfl) rfl) (uv (A2 underlying36 rfl) ?_)))
  refine um (Aa ?_)
  refine Ak (kW kn ?_)
  refine Br (fun bk e1 F1 L1 => LA walks bk fun tl k => CU tl k = some r ∧ F = F1 ∧ L1 = [] ∧ e1.sub [(8, .slice AR walks.length AQ), (9, .int .i64 (walks.length : Int)), (10, .int .i64 k)]) _ (m0 kr ⟨_, _, rfl, BI.start _, hr, rfl, rfl, z3⟩) ?_
  rintro bk e1 _ _ ⟨tl, k, cn, ao, r4, rfl, rfl, cp⟩
  refine AB _ cp (AJ (uv (Bp rfl rfl) ?_))
  refine Aa (Aq ?_)
  refine cQ (fun c7 => ?_) fun c7 => ?_
  ·obtain ⟨x, bl, rfl, cq, bn, cr⟩ := BI.succ ao c7
   rw [CU] at r4
   refine Al ?_
   refine A5 (fun e1 F1 L1 => Gt k (CU bl) = some r ∧ F = F1 ∧ L1 = [] ∧ e1.sub [(8, .slice AR walks.length AQ), (9, .int .i64 (walks.length : Int)), (10, .int .i64 k)]) ?_ ?_
   ·refine Ak ?_
    refine AJ (um ?_)
    obtain ⟨QT, dn, dp, ct, aq, ar, bo, ⟨bp, bq, rfl, br⟩, cu, au⟩ := As.at (Am (Ac _)) ab ([]) bn.1 cq
    refine uv (AT underlying36 sizeOf33 rfl aq rfl bn) (uv (Ah isAgg33 rfl ar (au 0 (by decide))) ?_)
    refine ua (ua (BU (um ?_)))
    refine uv (A2 underlying33 rfl) ?_
    refine um (Aa ?_)
    refine Ak ?_
    refine Br (fun bu e1 F1 L1 => LA x bu fun bw k2 => D5 k (CU bl) bw k2 = some r ∧ F = F1 ∧ L1 = [] ∧ e1.sub [(3, .int .i64 k), (8, .slice AR walks.length AQ), (9, .int .i64 (walks.length : Int)), (10, .int .i64 k), (15, .slice bp x.length bq), (16, .int .i64 (x.length : Int)), (17, .int .i64 k2)]) _ (m0 kr ⟨_, _, rfl, BI.start _, r4, rfl, rfl, z7⟩) ?_
    rintro bu e1 _ _ ⟨bw, k2, av, aj, ak, rfl, rfl, aw⟩
    refine AB _ aw (AJ (uv (Bp rfl rfl) ?_))
    refine Aa (Aq ?_)
    refine cQ (fun al => ?_) fun al => ?_
    ·obtain ⟨x2, dq, rfl, ax, bx, ay⟩ := BI.succ aj al
     rw [D5] at ak
     refine Al (Aq ?_)
     refine Ak ?_
     refine AJ (um ?_)
     obtain ⟨dr, dt, du, cv, az, ba, bz, rfl, cw, bb⟩ := As.at (Ac _) br ([]) bx.1 ax
     refine uv (AT underlying33 sizeOf3 rfl az rfl bx) (uv (Ah isAgg3 rfl ba (bb 0 (by decide))) ?_)
     refine ua (ua (Aa ?_))
     obtain ⟨k3, ca, bc⟩ := AF ak
     refine jE ([]) [(3, .int .i64 k), (8, .slice AR walks.length AQ), (9, .int .i64 (walks.length : Int)), (10, .int .i64 k), (15, .slice bp x.length bq), (16, .int .i64 (x.length : Int)), (17, .int .i64 k2), (42, .bool k3)] ?_ ?_
     ·clear bc
      refine Af (um (um ?_))
      refine uv (Cx rfl rfl) (um ?_)
      by_cases af : k = k2
      ·have cb := Bi ca af
       refine nT af (um (nT af ?_))
       refine uv (CI rfl rfl) (uv (AS (Bq rfl af) rfl) (um ?_))
       by_cases aa : x2 ≠ 0
       ·have cx := Bi cb aa
        refine fT aa (fT aa (fT aa (fT aa (fU (fU (fT aa (fT aa (fU (fU ?_)))))))))
        refine fU (fT aa ?_)
        refine uv (AS (Bq rfl aa) rfl) (Aa ?_)
        obtain rfl := AH cx
        exact mi kr ⟨rfl, rfl, z8⟩
       have cc := Bk cb aa
       refine nF aa (um (nF aa (um (nF aa ?_))))
       refine uv (CI rfl rfl) ?_
       refine nF aa (um ?_)
       by_cases ah : k ≠ k2
       ·have cd := Bi cc ah
        refine nT ah (um (nT ah ?_))
        refine uv (CI rfl rfl) (nF aa (uv (AS (Bq rfl ah) rfl) ?_))
        refine nF aa (um ?_)
        by_cases ad : x2 ≠ (-1)
        ·have cy := Bi cd ad
         refine nT ad (um (nT ad ?_))
         obtain ⟨ok, cz, da⟩ := AF cy
         refine cV call50 (He cz) (nT ad (uv (BB rfl) (nF aa (uv (AS (Bq rfl ad) rfl) (uv (AE (Bc rfl aa) rfl) (Aa ?_))))))
         obtain rfl := AH da
         exact mi kr ⟨rfl, rfl, z8⟩
        have db := Bk cd ad
        refine fF ad (fF ad (fF ad (nF aa ?_)))
        refine uv (AE (Bc rfl ad) rfl) (uv (AE (Bc rfl aa) rfl) (Aa ?_))
        obtain rfl := AH db
        exact mi kr ⟨rfl, rfl, z8⟩
       have dd := Bk cc ah
       refine fF ah (fF ah (nF aa ?_))
       refine uv (AE (Bc rfl ah) rfl) ?_
       refine nF aa (um (Ay (b' := false) 37 rfl rfl rfl rfl (Ay (b' := false) 37 rfl rfl rfl rfl (Ay (b' := false) 37 rfl rfl rfl rfl (nF aa ?_)))))
       refine uv (AE rfl rfl) (uv (AE (Bc rfl aa) rfl) (Aa ?_))
       obtain rfl := AH dd
       exact mi kr ⟨rfl, rfl, z8⟩
      have cf := Bk ca af
      refine fF af (fF af ?_)
      refine uv (AE (Bc rfl af) rfl) ?_
      refine um (EA (b := false) 29 rfl rfl (um (EA (b := false) 29 rfl rfl (um (EA (b := false) 29 rfl rfl ?_)))))
      refine uv (CI rfl rfl) ?_
      refine EA (b := false) 29 rfl rfl (um ?_)
      by_cases ai : k ≠ k2
      ·have cg := Bi cf ai
       refine nT ai (um (nT ai ?_))
       refine uv (CI rfl rfl) (EA (b := false) 29 rfl rfl (uv (AS (Bq rfl ai) rfl) ?_))
       refine EA (b := false) 29 rfl rfl (um ?_)
       by_cases ae : x2 ≠ (-1)
       ·have de := Bi cg ae
        refine nT ae (um (nT ae ?_))
        obtain ⟨dv, df, dg⟩ := AF de
        refine cV call50 (He df) (nT ae (uv (BB rfl) (EA (b := false) 29 rfl rfl (uv (AS (Bq rfl ae) rfl) (uv (AE rfl rfl) (Aa ?_))))))
        obtain rfl := AH dg
        exact mi kr ⟨rfl, rfl, z8⟩
       have dh := Bk cg ae
       refine fF ae (fF ae (fF ae (EA (b := false) 29 rfl rfl ?_)))
       refine uv (AE (Bc rfl ae) rfl) (uv (AE rfl rfl) (Aa ?_))
       obtain rfl := AH dh
       exact mi kr ⟨rfl, rfl, z8⟩
      have Ed := Bk cf ai
      refine fF ai (fF ai (EA (b := false) 29 rfl rfl ?_))
      refine uv (AE (Bc rfl ai) rfl) ?_
      refine EA (b := false) 29 rfl rfl (um (Ay (b' := false) 37 rfl rfl rfl rfl (Ay (b' := false) 37 rfl rfl rfl rfl (Ay (b' := false) 37 rfl rfl rfl rfl (EA (b := false) 29 rfl rfl ?_)))))
      refine uv (AE rfl rfl) (uv (AE rfl rfl) (Aa ?_))
      obtain rfl := AH Ed
      exact mi kr ⟨rfl, rfl, z8⟩
     refine AX rfl (fun bd => ?_) (fun bd => ?_)
     ·have di := bt bc bd
      refine AJ (ua (Aa (Aj (AD (Ai (Ai (AD (AD (Ai ?_)))))))))
      refine Ai (AD (Ai ?_))
      refine BZ results181 ?_
      obtain rfl := AH di
      exact rfl
     have dk := bf bc bd
     refine Al (At (id := 3) (Af ?_))
     refine uv (Bf rfl rfl (BI.Ed aj al (As.lt br))) ?_
     refine um (Aa ?_)
     subst av; exact le kr ⟨_, _, rfl, ay, dk, rfl, rfl, z7⟩
    obtain rfl := BI.zero aj al
    rw [D5] at ak
    refine AW (Ae (Ae ?_))
    refine Au (At (id := 1) ?_)
    exact mi kr ⟨ak, rfl, rfl, z3⟩
   rintro e1 _ _ ⟨cj, rfl, rfl, bg⟩
   refine AB _ bg ?_
   rw [Gt] at cj
   refine Af (uv (Bf rfl rfl (BI.Ed ao c7 (As.lt ab))) ?_)
   refine um (Aa ?_)
   subst cn; exact le kr ⟨_, _, rfl, cr, cj, rfl, rfl, z3⟩
  obtain rfl := BI.zero ao c7
  rw [CU] at r4
  refine AW (Ae (Ae ?_))
  refine Au ?_
  exact mi kr ⟨r4, rfl, rfl, (sn _)⟩
 rintro e1 _ _ ⟨ck, rfl, rfl, bj⟩
 refine AB _ bj ?_
 rw [Gr] at ck
 refine AJ (ua (Aa (Aj ?_)))
 refine BZ results181 ?_
 obtain rfl := AH ck
 exact rfl
set_option maxHeartbeats 1000000 in
theorem JF {Ao : List (List Int)} {Ad : List ((List Int) × Int × Int)} {l : List Int} (_h_walks : As 1 (BC 1 (iE .i64)) F AR AQ walks) (_h_hears : As 1 (BC 1 (iE .i64)) F Aw Ax Ao) (_h_notices : As 3 (Ce (BC 1 (iE .i64)) (Ce (iE .i64) (iE .i64))) F Az AA Ad) (ab : As 1 (iE .i64) F Ko J0 l) {r : Int} (hr : GU walks Ao An start Ad l = some r) :
    Bl Tryz.prog 182 #[.agg #[.slice AR walks.length AQ, .slice Aw Ao.length Ax, .int .i64 An, .int .i64 start, .slice Az Ad.length AA], .slice Ko l.length J0] F (.int .i64 r) := by
 refine sp func182 ntmps182 fun K _ _ => ?_
 rw [GU] at hr
 refine AJ ?_
 refine BJ rfl rfl ?_; intro b1 bx
 refine ua (Aa ?_)
 refine A5 (fun e1 F1 L1 => G2 = some r ∧ F = F1 ∧ L1 = [] ∧ e1.sub []) ?_ ?_
 ·refine AJ (um ?_)
  refine uv (A2 underlying33 rfl) ?_
  refine um (Aa ?_)
  refine Ak ?_
  refine Br (fun al e1 F1 L1 => LA l al fun tl k => Ex An l tl k = some r ∧ F = F1 ∧ L1 = [(b1, ce #[.slice AR walks.length AQ, .slice Aw Ao.length Ax, .int .i64 An, .int .i64 start, .slice Az Ad.length AA] 39)] ∧ e1.sub [(1, .slice Ko l.length J0), (2, .pointer (some ⟨b1, 0, none⟩)), (7, .slice Ko l.length J0), (8, .int .i64 (l.length : Int)), (9, .int .i64 k)]) _ (m0 kr ⟨_, _, rfl, BI.start _, hr, rfl, rfl, z5⟩) ?_
  rintro al e1 _ _ ⟨tl, k, aw, ad, r4, rfl, rfl, ax⟩
  refine AB _ ax (AJ (uv (Bp rfl rfl) ?_))
  refine Aa (Aq ?_)
  refine cQ (fun c7 => ?_) fun c7 => ?_
  ·obtain ⟨x, bz, rfl, ay, ao, az⟩ := BI.succ ad c7
   rw [Ex] at r4
   refine Al (Aq ?_)
   refine Ak ?_
   refine AJ (um ?_)
   obtain ⟨QT, ca, cb, ba, ae, af, aq, rfl, bb, ah⟩ := As.at (Ac _) ab ([(b1, ce #[.slice AR walks.length AQ, .slice Aw Ao.length Ax, .int .i64 An, .int .i64 start, .slice Az Ad.length AA] 39)]) ao.1 ay
   refine uv (AT underlying33 sizeOf3 rfl ae rfl ao) (uv (Ah isAgg3 rfl af (ah 0 (by decide))) ?_)
   refine ua (ua (Aa (Aq (AJ (um ?_)))))
   refine uv (Ab T0 rfl) (uv (Ah isAgg3 rfl (Has.own 0 rfl) rfl) ?_)
   obtain ⟨bc, bd⟩ := A0 r4
   refine uv (Fs rfl rfl bc) ?_
   obtain ⟨ok, bg, ar⟩ := AF bd
   refine cV call50 (He bg) (uv (BB rfl) (Aa ?_))
   refine AX rfl (fun ai => ?_) (fun ai => ?_)
   ·have bj := bt ar ai
    refine AJ (ua (Aa ?_))
    refine kW kn ?_
    refine Aj (Ai (AD (Ai (Ai (AD (Ai ?_))))))
    refine BZ results182 ?_
    obtain rfl := AH bj
    exact rfl
   have bk := bf ar ai
   refine Al (AJ (um (um ?_)))
   obtain ⟨bl, bn⟩ := A0 bk
   obtain ⟨l2, bo, bp⟩ := C3 bn
   obtain ⟨cc, cd, bq, aa⟩ := As.slice (Ac _) ab bl bo
   refine uv ((PU (l := 0) (h := k) underlying33 sizeOf3 rfl (.inl ⟨rfl, rfl⟩) (.inr ⟨_, rfl, rfl⟩) aa.1).eq aa.2) (um ?_)
   obtain ⟨cf, br, au⟩ := AF bp
   refine cV call18 (En bq br) (Aa ?_)
   refine AX rfl (fun aj => ?_) (fun aj => ?_)
   ·have bu := bt au aj
    refine AJ (ua (Aa ?_))
    refine kW kn ?_
    refine Aj (AD (Ai (Ai (AD (Ai ?_)))))
    refine BZ results182 ?_
    obtain rfl := AH bu
    exact rfl
   have bw := bf au aj
   refine Al (At (id := 1) (Af ?_))
   refine uv (Bf rfl rfl (BI.Ed ad c7 (As.lt ab))) ?_
   refine um (Aa ?_)
   subst aw; exact le kr ⟨_, _, rfl, az, bw, rfl, rfl, z5⟩
  obtain rfl := BI.zero ad c7
  rw [Ex] at r4
  refine AW (Ae (Ae ?_))
  refine Au ?_
  exact mi kn ⟨r4, rfl, rfl, (sn _)⟩
 rintro e1 _ _ ⟨av, rfl, rfl, ak⟩
 refine AB _ ak ?_
 rw [G2] at av
 refine AJ (ua (Aa (Aj ?_)))
 refine BZ results182 ?_
 obtain rfl := AH av
 exact rfl
set_option maxHeartbeats 1000000 in
theorem Ny {Ao : List (List Int)} {Ad : List ((List Int) × Int × Int)} {aa : Option Addr} {ab : Nat} {quarter : List Int} {words : Int} (ah : As 1 (BC 1 (iE .i64)) F AR AQ walks) (ai : As 1 (BC 1 (iE .i64)) F Aw Ax Ao) (ad : As 3 (Ce (BC 1 (iE .i64)) (Ce (iE .i64) (iE .i64))) F Az AA Ad) (ae : As 1 (iE .i64) F aa ab quarter) {r : Int} (hr : IX walks Ao An start Ad quarter words hour = some r) :
    Bl Tryz.prog 183 #[.agg #[.slice AR walks.length AQ, .slice Aw Ao.length Ax, .int .i64 An, .int .i64 start, .slice Az Ad.length AA], .agg #[.slice aa quarter.length ab, .int .i64 words, .int .i64 hour]] F (.int .i64 r) := by
 refine sp func183 ntmps183 fun K _ _ => ?_
 rw [IX] at hr
 refine AJ ?_
 refine BJ rfl rfl ?_; intro b1 ba
 refine BJ rfl rfl ?_; intro b2 bb
 refine ua (Aa (Aq (AJ ?_)))
 refine uv (Ab PV rfl) (uv (Ah isAgg33 rfl (Has.own 0 rfl) rfl) (uv (A2 underlying33 rfl) (uv (Cx rfl rfl) (Aa ?_))))
 refine cQ (fun c3 => ?_) fun c3 => ?_
 ·have r4 := Bi hr c3
  refine AJ (ua (Aa ?_))
  refine kW kn ?_
  refine Aj (Ai ?_)
  refine BZ results183 ?_
  obtain rfl := AH r4
  exact rfl
 have r5 := Bk hr c3
 refine Al (Aq (AJ ?_))
 refine uv (A1 isAgg39 sizeOf39 rfl (Has.own 1 rfl) (CB rfl) rfl) (uv (Ab PV rfl) (uv (Ah isAgg33 rfl (Has.own 0 rfl) rfl) ?_))
 obtain ⟨n, h6, r7⟩ := AF r5
 refine cV call182 (JF ah ai ad ae h6) ?_
 refine ua (BU (um ?_))
 refine uv (CI rfl rfl) (Aa ?_)
 refine cQ (fun c8 => ?_) fun c8 => ?_
 ·have r9 := Bi r7 c8
  refine AJ (um (ua (Aa ?_)))
  refine kW kn ?_
  refine Aj (Ai ?_)
  refine BZ results183 ?_
  obtain rfl := AH r9
  exact rfl
 have ao := Bk r7 c8
 refine Al (Aq ?_)
 obtain ⟨k, aq, aj⟩ := AF ao
 refine jE ([]) [(26, .bool k)] ?_ ?_
 ·clear aj
  refine Af (uv (Ab TS rfl) (uv (Ah isAgg3 rfl (Has.own 0 rfl) rfl) ?_))
  obtain ⟨ok, ar, al⟩ := AF aq
  refine cV call50 (He ar) (uv (BB rfl) (um ?_))
  rcases Cd (!ok) with af | af
  ·have au := bt al af
   refine fB af (fB af (fB af (fB af ?_)))
   refine uv (AS (Hx rfl af) rfl) (Aa ?_)
   obtain rfl := AH au
   exact mi kn ⟨rfl, rfl, z1⟩
  have av := bf al af
  refine nB af (uv (Ab Uc rfl) (nB af (uv (Ah isAgg3 rfl (Has.own 0 rfl) rfl) (nB af ?_))))
  obtain ⟨bc, aw, ax⟩ := AF av
  refine cV call50 (He aw) (nB af (uv (BB rfl) (uv (AE (Hx rfl af) rfl) (Aa ?_))))
  obtain rfl := AH ax
  exact mi kn ⟨rfl, rfl, z1⟩
 refine AX rfl (fun ak => ?_) (fun ak => ?_)
 ·have ay := bt aj ak
  refine AJ (ua (Aa (Aj (Ai ?_))))
  refine BZ results183 ?_
  obtain rfl := AH ay
  exact rfl
 have az := bf aj ak
 refine Al (AJ (ua (Aa (Aj ?_))))
 refine BZ results183 ?_
 obtain rfl := AH az
 exact rfl
set_option maxHeartbeats 1000000 in
theorem Q4 {Ao : List (List Int)} {Ad : List ((List Int) × Int × Int)} (ad : As 1 (BC 1 (iE .i64)) F AR AQ walks) (ab : As 1 (BC 1 (iE .i64)) F Aw Ax Ao) (aa : As 3 (Ce (BC 1 (iE .i64)) (Ce (iE .i64) (iE .i64))) F Az AA Ad) {r : Int} (hr : Md walks Ao An start Ad = some r) :
    Bl Tryz.prog 122 #[.agg #[.slice AR walks.length AQ, .slice Aw Ao.length Ax, .int .i64 An, .int .i64 start, .slice Az Ad.length AA]] F (.int .i64 r) := by
 refine sp func122 ntmps122 fun K _ _ => ?_
 rw [Md] at hr
 refine AJ ?_
 refine BJ rfl rfl ?_; intro b1 dm
 refine ua (Aa (Aq ?_))
 refine Ak (AJ (uv (A1 isAgg39 sizeOf39 rfl (Has.own 0 rfl) (CB rfl) rfl) ?_))
 obtain ⟨ok, h2, r3⟩ := AF hr
 refine cV call179 (Mw ad ab aa h2) (uv (BB rfl) ?_)
 refine ua (Aa ?_)
 refine AX rfl (fun c4 => ?_) (fun c4 => ?_)
 ·have r5 := bt r3 c4
  refine AJ (ua (Aa ?_))
  refine kW kn ?_
  refine Aj (AD (Ai ?_))
  refine BZ results122 ?_
  obtain rfl := AH r5
  exact rfl
 have r6 := bf r3 c4
 refine AJ (uv (A1 isAgg39 sizeOf39 rfl (Has.own 0 rfl) (CB rfl) rfl) (uv (Ab T8 rfl) (uv (Ah isAgg3 rfl (Has.own 0 rfl) rfl) ?_)))
 obtain ⟨dn, h7, r8⟩ := AF r6
 refine cV call180 (Nv ad ab aa h7) (uv (BB rfl) ?_)
 refine ua (Aa ?_)
 refine AX rfl (fun c9 => ?_) (fun c9 => ?_)
 ·have ck := bt r8 c9
  refine AJ (ua (Aa ?_))
  refine kW kn ?_
  refine Aj (AD (Ai ?_))
  refine BZ results122 ?_
  obtain rfl := AH ck
  exact rfl
 have cn := bf r8 c9
 refine AJ (uv (A1 isAgg39 sizeOf39 rfl (Has.own 0 rfl) (CB rfl) rfl) ?_)
 obtain ⟨dp, cp, bw⟩ := AF cn
 refine cV call181 (LX ad ab aa cp) (uv (BB rfl) ?_)
 refine ua (Aa ?_)
 refine AX rfl (fun aq => ?_) (fun aq => ?_)
 ·have cq := bt bw aq
  refine AJ (ua (Aa ?_))
  refine kW kn ?_
  refine Aj (AD (Ai ?_))
  refine BZ results122 ?_
  obtain rfl := AH cq
  exact rfl
 have cr := bf bw aq
 refine Al (At (id := 0) ?_)
 refine A5 (fun e1 F1 L1 => Kr walks Ao An start Ad = some r ∧ F = F1 ∧ L1 = [(b1, ce #[.slice AR walks.length AQ, .slice Aw Ao.length Ax, .int .i64 An, .int .i64 start, .slice Az Ad.length AA] 39)] ∧ e1.sub [(1, .pointer (some ⟨b1, 0, none⟩))]) ?_ ?_
 ·refine AJ (uv (Ab Lv rfl) (uv (Ah isAgg36 rfl (Has.own 0 rfl) rfl) (uv (A2 underlying36 rfl) ?_)))
  refine um (Aa ?_)
  refine Ak ?_
  refine Br (fun bx e1 F1 L1 => LA Ao bx fun tl k => Hk walks Ao An start Ad tl = some r ∧ F = F1 ∧ L1 = [(b1, ce #[.slice AR walks.length AQ, .slice Aw Ao.length Ax, .int .i64 An, .int .i64 start, .slice Az Ad.length AA] 39)] ∧ e1.sub [(1, .pointer (some ⟨b1, 0, none⟩)), (25, .slice Aw Ao.length Ax), (26, .int .i64 (Ao.length : Int)), (27, .int .i64 k)]) _ (m0 kr ⟨_, _, rfl, BI.start _, cr, rfl, rfl, z4⟩) ?_
  rintro bx e1 _ _ ⟨tl, k, ar, ah, aj, rfl, rfl, au⟩
  refine AB _ au (AJ (uv (Bp rfl rfl) ?_))
  refine Aa (Aq ?_)
  refine cQ (fun ak => ?_) fun ak => ?_
  ·obtain ⟨x, dq, rfl, av, bz, aw⟩ := BI.succ ah ak
   rw [Hk] at aj
   refine Al (Aq ?_)
   refine Ak (AJ ?_)
   obtain ⟨dr, dt, du, ct, ax, ay, ca, ⟨dv, dw, rfl, cu⟩, cv, az⟩ := As.at (Am (Ac _)) ab ([(b1, ce #[.slice AR walks.length AQ, .slice Aw Ao.length Ax, .int .i64 An, .int .i64 start, .slice Az Ad.length AA] 39)]) bz.1 av
   refine uv (AT underlying36 sizeOf33 rfl ax rfl bz) (uv (Ah isAgg33 rfl ay (az 0 (by decide))) ?_)
   refine ua (BU ?_)
   refine uv (A1 isAgg39 sizeOf39 rfl (Has.own 0 rfl) (CB rfl) rfl) (um ?_)
   obtain ⟨n, cw, cb⟩ := AF aj
   refine cV call182 (JF ad ab aa cu cw) ?_
   refine ua (BU (um ?_))
   refine uv (CI rfl rfl) (Aa ?_)
   refine cQ (fun ba => ?_) fun ba => ?_
   ·have cx := Bi cb ba
    refine AJ (um (ua (Aa ?_)))
    refine kW kn ?_
    refine Aj (AD (Ai (Ai (AD (Ai ?_)))))
    refine BZ results122 ?_
    obtain rfl := AH cx
    exact rfl
   have cy := Bk cb ba
   refine Al (At (id := 2) (Af ?_))
   refine uv (Bf rfl rfl (BI.Ed ah ak (As.lt ab))) ?_
   refine um (Aa ?_)
   subst ar; exact le kr ⟨_, _, rfl, aw, cy, rfl, rfl, z4⟩
  obtain rfl := BI.zero ah ak
  rw [Hk] at aj
  refine AW (Ae (Ae ?_))
  refine Au ?_
  exact mi kr ⟨aj, rfl, rfl, z1⟩
 rintro e1 _ _ ⟨cc, rfl, rfl, bb⟩
 refine AB _ bb ?_
 rw [Kr] at cc
 refine AJ (ua (Aa ?_))
 refine A5 (fun e1 F1 L1 => ∃ (Ca : Int), Kw Ca = some r ∧ F = F1 ∧ L1 = [] ∧ e1.sub [(6, .int .i64 Ca)]) ?_ ?_
 ·refine AJ (uv (Ab MH rfl) (uv (Ah isAgg37 rfl (Has.own 0 rfl) rfl) (uv (A2 underlying37 rfl) ?_)))
  refine um (Aa ?_)
  refine Ak ?_
  refine Br (fun cd e1 F1 L1 => LA Ad cd fun cf k2 => ∃ (ae : Int), G4 walks Ao An start Ad cf ae = some r ∧ F = F1 ∧ L1 = [(b1, ce #[.slice AR walks.length AQ, .slice Aw Ao.length Ax, .int .i64 An, .int .i64 start, .slice Az Ad.length AA] 39)] ∧ e1.sub [(1, .pointer (some ⟨b1, 0, none⟩)), (6, .int .i64 ae), (39, .slice Az Ad.length AA), (40, .int .i64 (Ad.length : Int)), (41, .int .i64 k2)]) _ (m0 kr ⟨_, _, rfl, BI.start _, 0, cc, rfl, rfl, z5⟩) ?_
  rintro cd e1 _ _ ⟨cf, k2, bc, ai, ae, al, rfl, rfl, bd⟩
  refine AB _ bd (AJ (uv (Bp rfl rfl) ?_))
  refine Aa (Aq ?_)
  refine cQ (fun ao => ?_) fun ao => ?_
  ·obtain ⟨x2, dx, rfl, bg, cg, bj⟩ := BI.succ ai ao
   rw [G4] at al
   refine Al (Aq ?_)
   refine Ak (AJ ?_)
   obtain ⟨dy, dz, e9, cz, bk, bl, af, ⟨_, _, rfl, ⟨eb, ec, rfl, da⟩, ⟨_, _, rfl, rfl, rfl⟩⟩, bn, bo⟩ := As.at (AU (Am (Ac _)) (AU (Ac _) (Ac _))) aa ([(b1, ce #[.slice AR walks.length AQ, .slice Aw Ao.length Ax, .int .i64 An, .int .i64 start, .slice Az Ad.length AA] 39)]) cg.1 bg
   refine uv (AT underlying37 sizeOf41 rfl bk rfl cg) (uv (A1 isAgg41 sizeOf41 rfl bl af (Cz af bn bo)) ?_)
   refine Bw rfl zeroValue41 ?_; intro ef db
   refine BP (i := 0) sizeOf41 rfl rfl rfl (by simp [Value.oneCell']) rfl (CB rfl) (AI rfl ?_)
   refine Aa (Aq (AJ ?_))
   refine uv (A1 isAgg39 sizeOf39 rfl (Has.own 1 rfl) (CB rfl) rfl) (uv (A1 isAgg41 sizeOf41 rfl (Has.own 0 rfl) (CB rfl) rfl) ?_)
   obtain ⟨n2, dd, cj⟩ := AF al
   refine cV call183 (Ny ad ab aa da dd) ?_
   refine ua (BU (um ?_))
   refine uv (CI rfl rfl) (Aa ?_)
   refine cQ (fun bp => ?_) fun bp => ?_
   ·have de := Bi cj bp
    refine AJ (um (ua (Aa ?_)))
    refine kW kn ?_
    refine Aj (Ai (AD (Ai (Ai (AD (Ai ?_))))))
    refine BZ results122 ?_
    obtain rfl := AH de
    exact rfl
   have df := Bk cj bp
   refine Al (Af (um ?_))
   refine uv (Ab PV rfl) (uv (Ah isAgg33 rfl (Has.own 0 rfl) rfl) (uv (A2 underlying33 rfl) ?_))
   obtain ⟨dg, dh⟩ := A0 df
   refine uv (Bf rfl rfl dg) ?_
   refine ua (Aa (At (id := 4) (Af ?_)))
   refine uv (Bf rfl rfl (BI.Ed ai ao (As.lt aa))) ?_
   refine um (Aa ?_)
   subst bc; exact le (kd kr) ⟨_, _, rfl, bj, ae + (x2.1.length : Int), dh, rfl, rfl, z5⟩
  obtain rfl := BI.zero ai ao
  rw [G4] at al
  refine AW (Ae (Ae ?_))
  refine Au ?_
  exact mi kn ⟨ae, al, rfl, rfl, z1⟩
 rintro e1 _ _ ⟨Ca, bq, rfl, rfl, br⟩
 refine AB _ br ?_
 rw [Kw] at bq
 refine Aq (AJ (um ?_))
 refine uv (Jy rfl rfl) (Aa ?_)
 refine cQ (fun bu => ?_) fun bu => ?_
 ·have di := Bi bq bu
  refine AJ (ua (Aa (Aj (Ai ?_))))
  refine BZ results122 ?_
  obtain rfl := AH di
  exact rfl
 have dk := Bk bq bu
 refine Al (AJ (ua (Aa (Aj ?_))))
 refine BZ results122 ?_
 obtain rfl := AH dk
 exact rfl
set_option maxHeartbeats 1000000 in
theorem Pv {l : List Int} (af : As 1 (iE .i64) F Ko J0 l) {r : Int} (hr : KQ l = some r) :
    Bl Tryz.prog 126 #[.slice Ko l.length J0] F (.int .i64 r) := by
 refine sp func126 ntmps126 fun K _ _ => ?_
 rw [KQ] at hr
 refine AJ (ua (BU (ua (Aa ?_))))
 obtain ⟨out, h1, r2⟩ := AF hr
 refine jE ([]) [(3, .int .i64 out)] ?_ ?_
 ·clear r2
  refine AJ (um ?_)
  refine uv (A2 underlying33 rfl) ?_
  refine um (Aa ?_)
  refine Ak ?_
  refine Br (fun aq e1 F1 L1 => LA l aq fun tl k => ∃ (ab : Int), E9 tl ab = some out ∧ F = F1 ∧ L1 = [] ∧ e1.sub [(3, .int .i64 ab), (6, .slice Ko l.length J0), (7, .int .i64 (l.length : Int)), (8, .int .i64 k)]) _ (m0 kr ⟨_, _, rfl, BI.start _, -1, h1, rfl, rfl, z4⟩) ?_
  rintro aq e1 _ _ ⟨tl, k, ar, ae, ab, r5, rfl, rfl, az⟩
  refine AB _ az (AJ (uv (Bp rfl rfl) ?_))
  refine Aa (Aq ?_)
  refine cQ (fun c8 => ?_) fun c8 => ?_
  ·obtain ⟨x, bl, rfl, ah, au, av⟩ := BI.succ ae c8
   rw [E9] at r5
   refine Al (Aq ?_)
   refine Ak (AJ ?_)
   obtain ⟨Ue, bn, bo, ba, ai, aj, aw, rfl, bb, ak⟩ := As.at (Ac _) af ([]) au.1 ah
   refine uv (AT underlying33 sizeOf3 rfl ai rfl au) (uv (Ah isAgg3 rfl aj (ak 0 (by decide))) ?_)
   refine ua (Aa ?_)
   obtain ⟨k2, ax, al⟩ := AF r5
   refine jE ([]) [(3, .int .i64 ab), (5, .int .i64 x), (6, .slice Ko l.length J0), (7, .int .i64 (l.length : Int)), (8, .int .i64 k), (22, .bool k2)] ?_ ?_
   ·clear al
    refine Af (um ?_)
    refine uv (CI rfl rfl) (um ?_)
    by_cases aa : x ≠ (-1)
    ·have ay := Bi ax aa
     refine nT aa (um (nT aa ?_))
     refine uv (Cx rfl rfl) ?_
     refine nT aa (um ?_)
     by_cases ad : ab = (-1)
     ·have bc := Bi ay ad
      refine fT ad (fT ad (fT ad (nT aa ?_)))
      refine uv (AS (Bq rfl ad) rfl) (uv (AS (Bq rfl aa) rfl) (Aa ?_))
      obtain rfl := AH bc
      exact mi kr ⟨rfl, rfl, z6⟩
     have bd := Bk ay ad
     refine nF ad (um (nF ad (um (nF ad ?_))))
     refine uv (Bp rfl rfl) (nT aa (uv (AE (Bc rfl ad) rfl) (uv (AS (Bq rfl aa) rfl) (Aa ?_))))
     obtain rfl := AH bd
     exact mi kr ⟨rfl, rfl, z6⟩
    have bg := Bk ax aa
    refine fF aa (fF aa (fF aa (fU (fU (fU (fF aa ?_))))))
    refine uv (AE (Bc rfl aa) rfl) (Aa ?_)
    obtain rfl := AH bg
    exact mi kr ⟨rfl, rfl, z6⟩
   refine AX rfl (fun ao => ?_) (fun ao => ?_)
   ·have bj := bt al ao
    refine Af (um (ua (Aa (At (id := 1) (Af ?_)))))
    refine uv (Bf rfl rfl (BI.Ed ae c8 (As.lt af))) ?_
    refine um (Aa ?_)
    subst ar; exact le kr ⟨_, _, rfl, av, x, bj, rfl, rfl, z4⟩
   have bk := bf al ao
   refine Al (At (id := 1) (Af ?_))
   refine uv (Bf rfl rfl (BI.Ed ae c8 (As.lt af))) ?_
   refine um (Aa ?_)
   subst ar; exact le kr ⟨_, _, rfl, av, ab, bk, rfl, rfl, z4⟩
  obtain rfl := BI.zero ae c8
  rw [E9] at r5
  refine AW (Ae (Ae ?_))
  refine Au ?_
  obtain rfl := AH r5
  exact mi kr ⟨rfl, rfl, z1⟩
 refine AJ (um (ua (Aa (Aj ?_))))
 refine BZ results126 ?_
 obtain rfl := AH r2
 exact rfl
set_option maxHeartbeats 1000000 in
theorem IL {w : List Int} (ad : w.length = 25) {r : List Int} (hr : FP w = some r) :
    SH.Spec Tryz.prog 123 #[.agg (arr (cI .i64) w)] F [] fun _ L' v => v = .agg (arr (cI .i64) r) ∧ L' = [] ∧ r.length = 25 := by
 refine sp func123 ntmps123 fun K _ _ => ?_
 rw [FP] at hr
 refine AJ ?_
 refine BJ rfl rfl ?_; intro b1 gm
 refine Bw rfl zeroValue152 ?_; intro b2 gn
 refine AI (L' := [(b2, ce (arr (cI .i64) (List.replicate 25 0)) 152), (b1, ce (arr (cI .i64) w) 152)]) rfl (BU (uv (Jc isAgg152 sizeOf152 rfl (Has.own 1 rfl) (EP (Bt .i64) ad)) ?_))
 refine Bw rfl zeroValue152 ?_; intro b3 gp
 refine AI (L' := [(b3, ce (arr (cI .i64) (List.replicate 25 0)) 152), (b2, ce (arr (cI .i64) (List.replicate 25 0)) 152), (b1, ce (arr (cI .i64) w) 152)]) rfl (HP (i := 0) sizeOf152 rfl rfl rfl (EP (Bt .i64) List.length_replicate) (EP (Bt .i64) ad) (MJ (Bt .i64)) (AI (L' := [(b3, ce (arr (cI .i64) w) 152), (b2, ce (arr (cI .i64) (List.replicate 25 0)) 152), (b1, ce (arr (cI .i64) w) 152)]) rfl (Aa ?_)))
 obtain ⟨out, h5, r6⟩ := AF hr
 refine A5 (fun e1 F1 L1 => A4 F F1 ∧ L1 = [(b3, ce (arr (cI .i64) out) 152), (b2, ce (arr (cI .i64) (List.replicate 25 0)) 152)] ∧ e1.sub [(2, .pointer (some ⟨b2, 0, none⟩)), (3, .pointer (some ⟨b3, 0, none⟩))] ∧ out.length = 25) ?_ ?_
 ·clear r6
  refine AJ (um (Aa ?_))
  refine Ak ?_
  obtain ⟨g8, r9⟩ := A0 h5
  refine Br (fun bw e1 F1 L1 => ∃ (k : Int), EI 0 5 k bw ∧ ∃ (ae : List Int), D4 w bw k ae = some out ∧ A4 F F1 ∧ L1 = [(b3, ce (arr (cI .i64) ae) 152), (b2, ce (arr (cI .i64) (List.replicate 25 0)) 152), (b1, ce (arr (cI .i64) w) 152)] ∧ e1.sub [(1, .pointer (some ⟨b1, 0, none⟩)), (2, .pointer (some ⟨b2, 0, none⟩)), (3, .pointer (some ⟨b3, 0, none⟩)), (8, .int .i64 k)] ∧ ae.length = 25) _ (m0 kr ⟨_, EI.start _ _, w, r9, A4.refl _, rfl, z4, ad⟩) ?_
  rintro bw e1 dw _ ⟨k, ao, ae, bx, au, rfl, cg, h7⟩
  refine AB _ cg (AJ (uv (Bp rfl rfl) ?_))
  refine Aa (Aq ?_)
  refine cQ (fun bz => ?_) fun bz => ?_
  ·obtain ⟨bw, rfl, cj⟩ := EI.succ ao bz
   rw [D4] at bx
   refine Al ?_
   obtain ⟨ah, ey, dx⟩ := AF bx
   refine A5 (fun e1 F1 L1 => A4 dw F1 ∧ L1 = [(b3, ce (arr (cI .i64) ah) 152), (b2, ce (arr (cI .i64) (List.replicate 25 0)) 152), (b1, ce (arr (cI .i64) w) 152)] ∧ e1.sub [(1, .pointer (some ⟨b1, 0, none⟩)), (2, .pointer (some ⟨b2, 0, none⟩)), (3, .pointer (some ⟨b3, 0, none⟩)), (8, .int .i64 k)] ∧ ah.length = 25) ?_ ?_
   ·clear dx
    refine Ak ?_
    refine AJ (um (ua (BU (um (Aa ?_)))))
    refine Ak ?_
    obtain ⟨ez, fa⟩ := A0 ey
    refine Br (fun ca e1 F1 L1 => ∃ (k2 : Int), EI 0 5 k2 ca ∧ ∃ (af : List Int), D9 w k ca k2 af = some ah ∧ A4 dw F1 ∧ L1 = [(b3, ce (arr (cI .i64) af) 152), (b2, ce (arr (cI .i64) (List.replicate 25 0)) 152), (b1, ce (arr (cI .i64) w) 152)] ∧ e1.sub [(1, .pointer (some ⟨b1, 0, none⟩)), (2, .pointer (some ⟨b2, 0, none⟩)), (3, .pointer (some ⟨b3, 0, none⟩)), (4, .int .i64 k), (8, .int .i64 k), (11, .int .i64 k2)] ∧ af.length = 25) _ (m0 kr ⟨_, EI.start _ _, ae, fa, A4.refl _, rfl, z6, h7⟩) ?_
    rintro ca e1 dy _ ⟨k2, aq, af, cb, av, rfl, ck, dz⟩
    refine AB _ ck (AJ (uv (Bp rfl rfl) ?_))
    refine Aa (Aq ?_)
    refine cQ (fun cc => ?_) fun cc => ?_
    ·obtain ⟨ca, rfl, cn⟩ := EI.succ aq cc
     rw [D9] at cb
     refine Al ?_
     obtain ⟨ai, fb, e9⟩ := AF cb
     refine A5 (fun e1 F1 L1 => A4 dy F1 ∧ L1 = [(b3, ce (arr (cI .i64) ai) 152), (b2, ce (arr (cI .i64) (List.replicate 25 0)) 152), (b1, ce (arr (cI .i64) w) 152)] ∧ e1.sub [(1, .pointer (some ⟨b1, 0, none⟩)), (2, .pointer (some ⟨b2, 0, none⟩)), (3, .pointer (some ⟨b3, 0, none⟩)), (4, .int .i64 k), (8, .int .i64 k), (11, .int .i64 k2)] ∧ ai.length = 25) ?_ ?_
     ·clear e9
      refine Ak ?_
      refine AJ (um (ua (BU (um (Aa ?_)))))
      refine Ak ?_
      obtain ⟨eb, fe⟩ := A0 fb
      refine Br (fun cd e1 F1 L1 => ∃ (k3 : Int), EI 0 5 k3 cd ∧ ∃ (aa : List Int), Du w k k2 cd k3 aa = some ai ∧ A4 dy F1 ∧ L1 = [(b3, ce (arr (cI .i64) aa) 152), (b2, ce (arr (cI .i64) (List.replicate 25 0)) 152), (b1, ce (arr (cI .i64) w) 152)] ∧ e1.sub [(1, .pointer (some ⟨b1, 0, none⟩)), (2, .pointer (some ⟨b2, 0, none⟩)), (3, .pointer (some ⟨b3, 0, none⟩)), (4, .int .i64 k), (5, .int .i64 k2), (8, .int .i64 k), (11, .int .i64 k2), (14, .int .i64 k3)] ∧ aa.length = 25) _ (m0 kr ⟨_, EI.start _ _, af, fe, A4.refl _, rfl, z8, dz⟩) ?_
      rintro cd e1 gq _ ⟨k3, aj, aa, cf, ar, rfl, cp, ak⟩
      refine AB _ cp (AJ (uv (Bp rfl rfl) ?_))
      refine Aa (Aq ?_)
      refine cQ (fun aw => ?_) fun aw => ?_
      ·obtain ⟨cd, rfl, ax⟩ := EI.succ aj aw
       rw [Du] at cf
       refine Al (Aq ?_)
       refine Ak ?_
       refine AJ (um (ua (Aa ?_)))
       obtain ⟨k4, ff, cq⟩ := AF cf
       refine jE ([(b3, ce (arr (cI .i64) aa) 152), (b2, ce (arr (cI .i64) (List.replicate 25 0)) 152), (b1, ce (arr (cI .i64) w) 152)]) [(1, .pointer (some ⟨b1, 0, none⟩)), (2, .pointer (some ⟨b2, 0, none⟩)), (3, .pointer (some ⟨b3, 0, none⟩)), (4, .int .i64 k), (5, .int .i64 k2), (6, .int .i64 k3), (8, .int .i64 k), (11, .int .i64 k2), (14, .int .i64 k3), (30, .bool k4)] ?_ ?_
       ·clear cq
        refine Af (um (um ?_))
        obtain ⟨ec, fg⟩ := A0 ff
        refine uv (By underlying152 sizeOf150 rfl rfl ec) ?_
        obtain ⟨ef, fh⟩ := A0 fg
        obtain ⟨x, gr, cr, eg⟩ := BY fh
        have ct : (k * 5 + k3 : Int).toNat = (k : Int).toNat * 5 + (k3 : Int).toNat := by have := ec; have := ef; omega
        have cu := Hc (Bt .i64) ad ct cr (GM (Ds (EJ (Bt .i64) ad))) (Fq (Ds (EJ (Bt .i64) ad)))
        refine uv (By underlying150 sizeOf3 rfl rfl ef) (uv (Ah isAgg3 rfl (Has.own 2 rfl) ((cu).2.2 0 (by decide))) (uv (CI rfl rfl) (um ?_)))
        by_cases ab : x ≠ (-1)
        ·have fi := Bi eg ab
         refine nT ab (um (nT ab (um (nT ab ?_))))
         obtain ⟨eh, fj⟩ := A0 fi
         refine uv (By underlying152 sizeOf150 rfl rfl eh) (nT ab ?_)
         obtain ⟨ei, fk⟩ := A0 fj
         obtain ⟨x2, gu, cv, fl⟩ := BY fk
         have cw : (k3 * 5 + k2 : Int).toNat = (k3 : Int).toNat * 5 + (k2 : Int).toNat := by have := eh; have := ei; omega
         have cx := Hc (Bt .i64) ad cw cv (GM (Ds (EJ (Bt .i64) ad))) (Fq (Ds (EJ (Bt .i64) ad)))
         refine uv (By underlying150 sizeOf3 rfl rfl ei) (nT ab (uv (Ah isAgg3 rfl (Has.own 2 rfl) ((cx).2.2 0 (by decide))) (nT ab (uv (CI rfl rfl) (uv (AS (Bq rfl ab) rfl) (Aa ?_))))))
         obtain rfl := AH fl
         exact mi kr ⟨rfl, rfl, (sc rfl (sc rfl z8))⟩
        have fm := Bk eg ab
        refine fF ab (fF ab (fF ab (fF ab (fF ab (fF ab ?_)))))
        refine uv (AE (Bc rfl ab) rfl) (Aa ?_)
        obtain rfl := AH fm
        exact mi kr ⟨rfl, rfl, (sc rfl (sc rfl z8))⟩
       refine AX rfl (fun cy => ?_) (fun cy => ?_)
       ·have fp := bt cq cy
        refine CM [(.still, 0), (.still, 1), (.still, 2), (.still, 3), (.still, 4), (.still, 5), (.still, 6), (.still, 7), (.still, 8), (.still, 9), (.still, 10), (.still, 11), (.still, 12), (.still, 13), (.still, 14), (.still, 15), (.still, 16), (.still, 17), (.still, 20), (.seq, 18), (.seq, 19), (.still, 21), (.seq, 22)] (by kernel_rfl) (by kernel_rfl) (trivial) (by rfl) (by kernel_rfl) (mS [4] rfl (BF rfl) (mS [5] rfl (BF rfl) (mS [4] rfl (BF rfl) (mS [5] rfl (BF rfl) ?_))))
        obtain ⟨ej, fq⟩ := A0 fp
        refine mS [3, 33] rfl (By underlying152 sizeOf150 rfl rfl ej) ?_
        obtain ⟨eo, ft⟩ := A0 fq
        obtain ⟨x3, fv, cz, fw⟩ := BY ft
        have da : (k * 5 + k2 : Int).toNat = (k : Int).toNat * 5 + (k2 : Int).toNat := by have := ej; have := eo; omega
        have db := Hc (Bt .i64) ak da cz (GM (Ds (EJ (Bt .i64) ak))) (Fq (Ds (EJ (Bt .i64) ak)))
        refine mS [34, 35] rfl (By underlying150 sizeOf3 rfl rfl eo) (mL [36] ([(b3, ce (arr (cI .i64) aa) 152)]) rfl (s0 (s2 (s1 (s1 sr)))) (fun H F' L' ay az => Ah isAgg3 rfl ((Has.own 0 rfl).ext ay az) ((db).2.2 0 (by decide))) (mS [4] rfl (BF rfl) (mS [6] rfl (BF rfl) ?_)))
        obtain ⟨ep, fx⟩ := A0 fw
        refine mS [1, 38] rfl (By underlying152 sizeOf150 rfl rfl ep) ?_
        obtain ⟨er, fy⟩ := A0 fx
        obtain ⟨x4, gv, dd, g0⟩ := BY fy
        have de : (k * 5 + k3 : Int).toNat = (k : Int).toNat * 5 + (k3 : Int).toNat := by have := ep; have := er; omega
        have df := Hc (Bt .i64) ad de dd (GM (Ds (EJ (Bt .i64) ad))) (Fq (Ds (EJ (Bt .i64) ad)))
        refine mS [39, 40] rfl (By underlying150 sizeOf3 rfl rfl er) (mL [41] ([(b1, ce (arr (cI .i64) w) 152)]) rfl (s0 (s1 (s1 (s2 sr)))) (fun H F' L' ay az => Ah isAgg3 rfl ((Has.own 0 rfl).ext ay az) ((df).2.2 0 (by decide))) (mS [6] rfl (BF rfl) (mS [5] rfl (BF rfl) ?_)))
        obtain ⟨et, ga⟩ := A0 g0
        refine mS [1, 43] rfl (By underlying152 sizeOf150 rfl rfl et) ?_
        obtain ⟨eu, gb⟩ := A0 ga
        obtain ⟨x5, gw, dg, gg⟩ := BY gb
        have ba : (k3 * 5 + k2 : Int).toNat = (k3 : Int).toNat * 5 + (k2 : Int).toNat := by have := et; have := eu; omega
        have bb := Hc (Bt .i64) ad ba dg (GM (Ds (EJ (Bt .i64) ad))) (Fq (Ds (EJ (Bt .i64) ad)))
        refine mS [44, 45] rfl (By underlying150 sizeOf3 rfl rfl eu) (mL [46] ([(b1, ce (arr (cI .i64) w) 152)]) rfl (s0 (s1 (s1 (s2 sr)))) (fun H F' L' ay az => Ah isAgg3 rfl ((Has.own 0 rfl).ext ay az) ((bb).2.2 0 (by decide))) ?_)
        obtain ⟨dh, di⟩ := A0 gg
        refine mS (v := .int .i64 (x4 + x5)) [42, 47] rfl (Bf rfl rfl dh) ?_
        obtain ⟨bc, dk⟩ := A0 di
        refine mS [3, 31] rfl (By underlying152 sizeOf150 rfl rfl bc) ?_
        refine ⟨_, [(37, .int .i64 x3), (48, .int .i64 (x4 + x5))], rfl, rfl, z2, by kernel_rfl, ?_⟩; intro H
        refine bA (cs := #[.int .i64 x3, .int .i64 (x4 + x5)]) Ct [.int .i64 x3, .int .i64 (x4 + x5)] ?_; intro bd bg
        refine Aa ⟨_, rfl, A4.refl _, [20, 1, 0], by kernel_rfl, .inl (.inr (fun d h => by cases h; rfl)), (fc sm (fc sm (fc sm nm))), ?_⟩
        refine ⟨_, [(49, .slice (some ⟨bd, 0, none⟩) 2 2)], rfl, rfl, z1, by kernel_rfl, ?_⟩; intro H
        refine Bz 0 rfl bg ?_; intro dm al bj
        refine AI (L' := [(b3, ce (arr (cI .i64) aa) 152), (b2, ce (arr (cI .i64) (List.replicate 25 0)) 152), (b1, ce (arr (cI .i64) w) 152)]) rfl ?_
        have dn : As 1 (iE .i64) dm (some ⟨bd, 0, none⟩) 2 [x3, x4 + x5] := As.BW (Ac _) (vss := [[.int .i64 x3], [.int .i64 (x4 + x5)]]) (xs := [x3, x4 + x5]) bj (.cons rfl (.cons rfl .nil)) rfl (by simp [maxLen])
        obtain ⟨n, dp, dq⟩ := AF dk
        refine cV call126 (Pv dn dp) ?_
        refine Aa ⟨_, rfl, al, [20, 1, 0], by kernel_rfl, .inl (.inr (fun d h => by cases h; rfl)), (fc sm (fc sm (fc sm nm))), ?_⟩
        obtain ⟨bk, dr⟩ := A0 dq
        have bl : (k * 5 + k2 : Int).toNat = (k : Int).toNat * 5 + (k2 : Int).toNat := by have := bc; have := bk; omega
        refine mS [32, 51] rfl (By underlying150 sizeOf3 rfl rfl bk) ?_
        refine ⟨_, [(50, .int .i64 n), (52, .pointer (some ⟨b3, 0 + (k : Int).toNat * 5 + (k2 : Int).toNat * 1, none⟩))], rfl, rfl, z2, by kernel_rfl, ?_⟩; intro H
        obtain ⟨l, bn, dt⟩ := C3 dr
        have du : l.length = 25 := by rw [bn, List.length_set]; exact ak
        refine Pl (i := 0) sizeOf3 (Bt .i64) rfl rfl rfl rfl bl (by have := fv; have := ak; omega) ak ?_
        refine AI (L' := [(b3, ce (arr (cI .i64) l) 152), (b2, ce (arr (cI .i64) (List.replicate 25 0)) 152), (b1, ce (arr (cI .i64) w) 152)]) (by rw [bn]; rfl) ?_
        refine Aa ⟨undef, rfl, A4.refl _, [], by kernel_rfl, .inl (.inl rfl), nm, ?_⟩
        refine D1 ?_
        refine At (id := 5) (Af ?_)
        refine uv (Bf rfl rfl (EI.Ed aj aw eb)) ?_
        refine um (Aa ?_)
        exact le kr ⟨_, ax, l, dt, (ar.trans al), rfl, z8, du⟩
       have dv := bf cq cy
       refine Al (At (id := 5) (Af ?_))
       refine uv (Bf rfl rfl (EI.Ed aj aw eb)) ?_
       refine um (Aa ?_)
       exact le kr ⟨_, ax, aa, dv, ar, rfl, z8, ak⟩
      obtain rfl := EI.zero aj aw
      rw [Du] at cf
      refine AW (Ae (Ae ?_))
      refine Au (At (id := 3) ?_)
      obtain rfl := AH cf
      exact mi kr ⟨ar, rfl, z6, ak⟩
     rintro e1 gh _ ⟨bo, rfl, bp, gi⟩
     refine AB _ bp (Af (uv (Bf rfl rfl (EI.Ed aq cc ez)) ?_))
     refine um (Aa ?_)
     exact le kr ⟨_, cn, ai, e9, (av.trans bo), rfl, z6, gi⟩
    obtain rfl := EI.zero aq cc
    rw [D9] at cb
    refine AW (Ae (Ae ?_))
    refine Au (At (id := 1) ?_)
    obtain rfl := AH cb
    exact mi kr ⟨av, rfl, z4, dz⟩
   rintro e1 gj _ ⟨bq, rfl, br, gk⟩
   refine AB _ br (Af (uv (Bf rfl rfl (EI.Ed ao bz g8)) ?_))
   refine um (Aa ?_)
   exact le kr ⟨_, cj, ah, dx, (au.trans bq), rfl, z4, gk⟩
  obtain rfl := EI.zero ao bz
  rw [D4] at bx
  refine AW (Ae (Ae ?_))
  refine Au ?_
  obtain rfl := AH bx
  exact mi (kc (kc kn)) ⟨au, rfl, z2, h7⟩
 rintro e1 gl _ ⟨ew, rfl, bu, h4⟩
 refine AB _ bu (AJ (uv (Jc isAgg152 sizeOf152 rfl (Has.own 0 rfl) (EP (Bt .i64) h4)) (HP (i := 1) sizeOf152 rfl rfl rfl (EP (Bt .i64) List.length_replicate) (EP (Bt .i64) h4) (MJ (Bt .i64)) (AI (L' := [(b3, ce (arr (cI .i64) out) 152), (b2, ce (arr (cI .i64) out) 152)]) rfl (Aa (kW (kd kr) (Aj ?_)))))))
 refine IH results123 (DI (cs := arr (cI .i64) out) isAgg152 sizeOf152 rfl (Has.own 0 rfl) (Fq (Ds (EJ (Bt .i64) h4))) (Jv (EJ (Bt .i64) h4) (Ds (EJ (Bt .i64) h4)))) (s1 sr) ?_
 obtain rfl := AH r6
 exact ⟨rfl, rfl, h4⟩
set_option maxHeartbeats 1000000 in
theorem Kp {s_ : List Int} (aq : Bd 0 3 1 (iE .i64) F Cj HD Ck s_ I8) (af : ∀ args w, (callFunc Lj args).run Tryz.prog w = .ok (.enter Lj args) w) (al : ES Tryz.prog Lj Qv Ql F (fun x : Int => #[.int .i64 x]) seq) {r : List Int} (hr : FH s_ seq = some r) :
    SH.Spec Tryz.prog 227 #[.slice Cj HD Ck, .func (.func Lj) Qv Ql] F (I8 ++ []) fun F' L' v => ∃ (ra : Option Addr) (rn : Nat) (rc : Nat) (rL : LH), v = .slice ra rn rc ∧ L' = rL ++ [] ∧ Bd 0 3 1 (iE .i64) F' ra rn rc r rL := by
 refine sp func227 ntmps227 fun K _ _ => ?_
 rw [FH] at hr
 refine DT (L' := I8 ++ []) (by simp) (AJ ?_)
 refine BJ rfl rfl ?_; intro b1 cc
 refine ua (Aa ?_)
 obtain ⟨ax, h8, r9⟩ := AF hr
 refine A5 (fun e1 F1 L1 => ∃ (a2 : Option Addr) (n6 : Nat) (c3 : Nat) (ar : LH), A4 F F1 ∧ L1 = ((b1, ce #[.slice a2 n6 c3] 33) :: (ar ++ [])) ∧ e1.sub [(2, .pointer (some ⟨b1, 0, none⟩))] ∧ Bd 0 3 1 (iE .i64) F1 a2 n6 c3 ax ar) ?_ ?_
 ·clear r9
  refine AJ (um (Aa ?_))
  refine Ak ?_
  refine GF (encs := (fun x : Int => #[.int .i64 x])) (xs := seq) rfl af rfl (fun _ => rfl) al (fun pre F1 L1 => ∃ (tl : List Int) (ah : List Int) (ai : Option Addr) (aj : Nat) (ak : Nat) (aa : LH), seq = pre ++ tl ∧ C7 tl ah = some ax ∧ L1 = ((b1, ce #[.slice ai aj ak] 33) :: (aa ++ [])) ∧ Bd 0 3 1 (iE .i64) F1 ai aj ak ah aa) (fun _ _ _ => False) ?_ ?_ ?_ ?_ ?_ ?_
  ·rintro pre F1 F2 L1 ⟨tl, ah, ai, aj, ak, aa, ab, bj, rfl, ad⟩ hx; exact ⟨tl, ah, ai, aj, ak, aa, ab, bj, rfl, ad.mono (Ac _) hx⟩
  ·intro c F1 F2 L1 h hx; exact h
  ·exact ⟨_, s_, Cj, HD, Ck, I8, rfl, h8, rfl, aq⟩
  ·rintro cd bk bl bn bo bp ay bq pre x cf ae cg _ br ⟨tl, ah, ai, aj, ak, aa, ab, az, rfl, ad⟩
   obtain rfl := JP ab ae
   rw [C7] at az
   refine AB [(2, .pointer (some ⟨b1, 0, none⟩)), (6, .func (.func Lj) Qv Ql), (7, .int .i64 x)] (by exact z3) ?_
   refine Af (ua (Aa ?_))
   refine ⟨rfl, ?_⟩
   refine Ak (Af (uv (Ah isAgg33 rfl (Has.own 0 rfl) rfl) (um ?_)))
   refine bA (cs := #[.int .i64 x]) Ct [.int .i64 x] ?_; intro cj bu
   obtain ⟨ba, bw, bx, bz⟩ := Gp az
   refine Ey (xs := ah) (ys := [x]) (zs := ba) rfl Ct rfl rfl (Nat.zero_le _) (fun _ => .c (.c .h)) ad (GJ.box (vss := [[.int .i64 x]]) (ys := [x]) 0 rfl (Ac _) (.cons rfl .nil) rfl rfl) bw bx (by decide) ?_; intro bb bc bd ao au
   refine kO (kd kr) (B4 (i := 0) sizeOf33 rfl rfl rfl rfl (CB rfl) (AI rfl ?_))
   refine Aa (At (id := 1) ?_)
   refine ⟨(b1, ce #[.slice bb bc bd] 33) :: (ao ++ []), ⟨_, .refl _, sr⟩, ?_⟩; exact ⟨_, ba, bb, bc, bd, ao, (by rw [ae]; simp), bz, rfl, au⟩
  ·rintro ck _ av ⟨tl, ah, ai, aj, ak, aa, ab, bg, rfl, ad⟩
   obtain rfl := Lk ab; rw [C7] at bg
   refine At (id := 0) ?_
   obtain rfl := AH bg
   exact mi kr ⟨ai, aj, ak, aa, av, rfl, z1, ad⟩
  intro c F1 L1 hx h; exact h.elim
 rintro e1 cn _ ⟨a2, n6, c3, ar, ca, rfl, aw, cb⟩
 refine AB _ aw (AJ (uv (Ah isAgg33 rfl (Has.own 0 rfl) rfl) ?_))
 refine ua (Aa ?_)
 refine kW (kd kr) (Aj (BZ results227 ?_))
 obtain rfl := AH r9
 exact ⟨_, _, _, _, rfl, rfl, cb⟩
theorem Mo (aa : ∀ args w, (callFunc Lj args).run Tryz.prog w = .ok (.enter Lj args) w) (ab : ES Tryz.prog Lj Qv Ql F (fun x : Int => #[.int .i64 x]) seq) {r : List Int} (hr : H3 seq = some r) :
    SH.Spec Tryz.prog 184 #[.func (.func Lj) Qv Ql] F [] fun F' L' v => ∃ (ra : Option Addr) (rn : Nat) (rc : Nat) (rL : LH), v = .slice ra rn rc ∧ L' = rL ++ [] ∧ Bd 0 3 1 (iE .i64) F' ra rn rc r rL := by
 refine sp func184 ntmps184 fun K _ _ => ?_
 rw [H3] at hr
 refine AJ (ua (BU (um ?_)))
 obtain ⟨l, h1, r2⟩ := AF hr
 refine c0 call227 (Kp (Bd.nil 0 _ _ _ _) aa ab h1) ?_; rintro _ F3 _ ae af ⟨a7, ah, c8, ai, rfl, rfl, ad⟩
 refine AI (lp (ln rfl)) ?_
 refine ua (Aa (Aj ?_))
 refine BZ results184 ?_
 obtain rfl := AH r2
 exact ⟨_, _, _, _, rfl, rfl, ad.any⟩
theorem LV {x : Int} {r : Bool} (hr : Je x = some r) :
    Bl Tryz.prog 279 #[.int .i64 x] F (.bool r) := by
 refine sp func279 ntmps279 fun K _ _ => ?_
 rw [Je] at hr
 refine AJ (ua (BU (um (um ?_))))
 refine uv (CI rfl rfl) ?_
 refine ua (Aa (Aj ?_))
 refine BZ results279 ?_
 obtain rfl := AH hr
 exact rfl
theorem QP {x y : Int} {r : Bool} (hr : Lw x y = some r) :
    Bl Tryz.prog 257 #[.int .i64 x, .int .i64 y] F (.bool r) := by
 refine sp func257 ntmps257 fun K _ _ => ?_
 rw [Lw] at hr
 refine AJ (ua (BU (um ?_)))
 obtain ⟨ok, h1, r2⟩ := AF hr
 refine cV call279 (LV h1) (um ?_)
 rcases Cd ok with c3 | c3
 ·have r4 := bt r2 c3
  refine nB c3 (um (nB c3 ?_))
  obtain ⟨aa, h5, r6⟩ := AF r4
  refine cV call279 (LV h5) (nB c3 (uv (BB rfl) (uv (AS (Hx rfl c3) rfl) (um ?_))))
  rcases Cd (!aa) with c7 | c7
  ·have r8 := bt r6 c7
   refine fB c7 (fB c7 (fB c7 ?_))
   refine uv (AS (Hx rfl c7) rfl) ?_
   refine ua (Aa (Aj ?_))
   refine BZ results257 ?_
   obtain rfl := AH r8
   exact rfl
  have r9 := bf r6 c7
  refine nB c7 (um (nB c7 (um (nB c7 ?_))))
  refine uv (Bp rfl rfl) (uv (AE (Hx rfl c7) rfl) ?_)
  refine ua (Aa (Aj ?_))
  refine BZ results257 ?_
  obtain rfl := AH r9
  exact rfl
 have ab := bf r2 c3
 refine fB c3 (fB c3 (fB c3 ?_))
 refine uv (AE (Hx rfl c3) rfl) ?_
 refine um (EA (b := false) 12 rfl rfl (um (EA (b := false) 12 rfl rfl (um (EA (b := false) 12 rfl rfl ?_)))))
 refine uv (Bp rfl rfl) (uv (AE rfl rfl) ?_)
 refine ua (Aa (Aj ?_))
 refine BZ results257 ?_
 obtain rfl := AH ab
 exact rfl
set_option maxHeartbeats 1000000 in
theorem Ik {s_ : List Int} (bc : Bd IK 3 1 (iE .i64) F Cj HD Ck s_ I8) {r : List Int} (hr : Eg s_ a b = some r) :
    SH.Spec Tryz.prog 251 #[.slice Cj HD Ck, .int .i64 a, .int .i64 b] F (I8 ++ []) fun F' L' v => ∃ (rL : LH), v = .tuple #[] ∧ L' = rL ++ [] ∧ Bd IK 3 1 (iE .i64) F' Cj HD Ck r rL := by
 refine sp func251 ntmps251 fun K _ _ => ?_
 rw [Eg] at hr
 refine DT (L' := I8 ++ []) (by simp) ?_
 refine AJ (um ?_)
 obtain ⟨g1, r2⟩ := A0 hr
 refine uv (Bf rfl rfl g1) ?_
 refine ua (Aa ?_)
 refine Ak ?_
 obtain ⟨g5, r6⟩ := A0 r2
 refine Br (fun ax e1 F1 L1 => ∃ (i : Int), EI (a + 1) b i ax ∧ ∃ (data : List Int) (ay : LH), Ci a ax i data = some r ∧ F = F1 ∧ L1 = (ay ++ []) ∧ e1.sub [(0, .slice Cj HD Ck), (1, .int .i64 a), (2, .int .i64 b), (6, .int .i64 i)] ∧ Bd IK 3 1 (iE .i64) F1 Cj HD Ck data ay) _ (m0 kr ⟨_, EI.start _ _, s_, I8, r6, rfl, rfl, z4, bc⟩) ?_
 rintro ax e1 _ _ ⟨i, bd, data, ay, r9, rfl, rfl, bg, db⟩
 refine AB _ bg ?_
 refine Aq (AJ (um (um ?_)))
 refine uv (Bp rfl rfl) (Aa ?_)
 refine cQ (fun az => ?_) fun az => ?_
 ·obtain ⟨ax, rfl, bj⟩ := EI.succ bd az
  rw [Ci] at r9
  refine Al ?_
  obtain ⟨ae, dv, dd⟩ := AF r9
  refine A5 (fun e1 F1 L1 => ∃ (ai : LH), F = F1 ∧ L1 = (ai ++ []) ∧ e1.sub [(0, .slice Cj HD Ck), (1, .int .i64 a), (2, .int .i64 b), (6, .int .i64 i)] ∧ Bd IK 3 1 (iE .i64) F1 Cj HD Ck ae ai) ?_ ?_
  ·clear dd
   refine Ak ?_
   refine AJ (um (ua (Aa ?_)))
   refine Ak ?_
   refine Br (fun ba e1 F1 L1 => ∃ (af : List Int) (j : Int) (aa : LH), Ch a ba af j = some ae ∧ F = F1 ∧ L1 = (aa ++ []) ∧ e1.sub [(0, .slice Cj HD Ck), (1, .int .i64 a), (2, .int .i64 b), (6, .int .i64 i), (7, .int .i64 j)] ∧ Bd IK 3 1 (iE .i64) F1 Cj HD Ck af aa) FU (m0 kr ⟨data, i, ay, dv, rfl, rfl, z5, db⟩) ?_
   rintro ba e1 _ _ ⟨af, j, aa, bb, rfl, rfl, bk, ab⟩
   refine AB _ bk ?_
   rcases ba with _ | ba
   ·rw [Ch] at bb; cases bb
   rw [Ch] at bb
   refine Aq ?_
   obtain ⟨k, de, bl⟩ := AF bb
   refine jE ((aa ++ [])) [(0, .slice Cj HD Ck), (1, .int .i64 a), (2, .int .i64 b), (6, .int .i64 i), (7, .int .i64 j), (30, .bool k)] ?_ ?_
   ·clear bl
    refine Mr (by kernel_rfl) (by kernel_rfl) (by kernel_rfl) ?_
    refine wm (wm ?_)
    refine wv (Jy rfl rfl) (wm ?_)
    by_cases ad : a < j
    ·have dw := Bi de ad
     refine Bj (b := true) 19 rfl (Env.FL rfl ad) (wm (Bj (b := true) 19 rfl (Env.FL rfl ad) (wm (Bj (b := true) 19 rfl (Env.FL rfl ad) ?_))))
     obtain ⟨x, df, bn, dx⟩ := BY dw
     obtain ⟨fq, ft, fv, dy, bo, bp, dg, rfl, dz, bq⟩ := Bd.at (Ac _) ab (L := aa ++ []) fP df.1 bn
     refine wv (AT underlying33 sizeOf3 rfl bo rfl (Bd.idx ab df)) (Bj (b := true) 19 rfl (Env.FL rfl ad) (wv (Ah isAgg3 rfl bp (bq 0 (by decide))) ?_))
     refine Bj (b := true) 19 rfl (Env.FL rfl ad) (wm (Bj (b := true) 19 rfl (Env.FL rfl ad) (wm (Bj (b := true) 19 rfl (Env.FL rfl ad) ?_))))
     obtain ⟨e9, eb⟩ := A0 dx
     refine wv (Fs rfl rfl e9) (Bj (b := true) 19 rfl (Env.FL rfl ad) ?_)
     obtain ⟨x2, dh, br, ec⟩ := BY eb
     obtain ⟨fw, fx, fy, ef, bu, bw, di, rfl, eg, bx⟩ := Bd.at (Ac _) ab (L := aa ++ []) fP dh.1 br
     refine wv (AT underlying33 sizeOf3 rfl bu rfl (Bd.idx ab dh)) (Bj (b := true) 19 rfl (Env.FL rfl ad) (wv (Ah isAgg3 rfl bw (bx 0 (by decide))) (Bj (b := true) 19 rfl (Env.FL rfl ad) ?_)))
     obtain ⟨ok, eh, ei⟩ := AF ec
     refine I9 rfl call257 rfl rfl rfl (QP eh) (wv (AS (Bq rfl ad) rfl) (CX ?_))
     obtain rfl := AH ei
     exact mi kr ⟨rfl, rfl, z6⟩
    have ej := Bk de ad
    refine A3 (b' := false) 19 rfl (Env.FM rfl ad) rfl rfl (A3 (b' := false) 19 rfl (Env.FM rfl ad) rfl rfl (A3 (b' := false) 19 rfl (Env.FM rfl ad) rfl rfl (A3 (b' := false) 19 rfl (Env.FM rfl ad) rfl rfl (A3 (b' := false) 19 rfl (Env.FM rfl ad) rfl rfl (A3 (b' := false) 19 rfl (Env.FM rfl ad) rfl rfl (A3 (b' := false) 19 rfl (Env.FM rfl ad) rfl rfl (A3 (b' := false) 19 rfl (Env.FM rfl ad) rfl rfl (A3 (b' := false) 19 rfl (Env.FM rfl ad) rfl rfl (A3 (b' := false) 19 rfl (Env.FM rfl ad) rfl rfl ?_)))))))))
    refine wv (AE (Bc rfl ad) rfl) (CX ?_)
    obtain rfl := AH ej
    exact mi kr ⟨rfl, rfl, z6⟩
   refine AX rfl (fun bz => ?_) (fun bz => ?_)
   ·have eo := bt bl bz
    refine Al (Aq ?_)
    refine Ak (CM [(.still, 0), (.still, 1), (.still, 2), (.still, 3), (.still, 4), (.still, 5), (.still, 6), (.still, 7), (.still, 8), (.still, 9), (.still, 10), (.still, 11), (.still, 12), (.still, 13), (.still, 14), (.seq, 15), (.still, 16), (.seq, 17)] (by kernel_rfl) (by kernel_rfl) (trivial) (by rfl) (by kernel_rfl) (mS [0] rfl (BF rfl) (mS [7] rfl (BF rfl) (mS [0] rfl (BF rfl) (mS [7] rfl (BF rfl) ?_)))))
    obtain ⟨ep, er⟩ := A0 eo
    refine mS (v := .int .i64 (j - 1)) [36] rfl (Fs rfl rfl ep) (mS [0] rfl (BF rfl) (mS [7] rfl (BF rfl) ?_))
    obtain ⟨et, eu⟩ := A0 er
    refine mS (v := .int .i64 (j - 1)) [39] rfl (Fs rfl rfl et) ?_
    obtain ⟨x3, dk, ca, ew⟩ := BY eu
    obtain ⟨g0, ga, gb, ey, cb, cc, dm, rfl, ez, cd⟩ := Bd.at (Ac _) ab (L := aa ++ []) fP dk.1 ca
    refine mS [38, 40] rfl (AT underlying33 sizeOf3 rfl cb rfl (Bd.idx ab dk)) (mL [41] (aa ++ []) rfl (s0 sr) (fun H F' L' cf cg => Ah isAgg3 rfl (cc.ext cf cg) (cd 0 (by decide))) (mS [0] rfl (BF rfl) (mS [7] rfl (BF rfl) ?_)))
    obtain ⟨x4, al, ao, fa⟩ := BY ew
    obtain ⟨gg, gh, gi, fb, cj, ck, dn, rfl, fe, cn⟩ := Bd.at (Ac _) ab (L := aa ++ []) fP al.1 ao
    refine mS [43, 44] rfl (AT underlying33 sizeOf3 rfl cj rfl (Bd.idx ab al)) (mL [45] (aa ++ []) rfl (s0 sr) (fun H F' L' cf cg => Ah isAgg3 rfl (ck.ext cf cg) (cn 0 (by decide))) ?_)
    obtain ⟨ff, fg, gj, fh, aq, fi, dp, rfl, fj, fk⟩ := Bd.at (Ac _) ab (L := aa ++ []) fP al.1 ao
    refine mS [33, 34] rfl (AT underlying33 sizeOf3 rfl aq rfl (Bd.idx ab al)) ?_
    refine ⟨_, [(42, .int .i64 x3), (47, .pointer (some ⟨ff, fg + (j : Int).toNat * 1, none⟩))], rfl, rfl, z2, by kernel_rfl, ?_⟩; intro H
    obtain ⟨l, fl, fm⟩ := C3 fa
    refine G5 (u := x3) sizeOf3 (Ac _) rfl aq rfl rfl (fun _ => .h) ab fl al ?_; intro cp ah
    refine Aa ⟨undef, rfl, A4.refl _, [4, 3, 2], by kernel_rfl, .inl (.inr (fun d h => by cases h)), (fc sm (fc sm (fc sm nm))), ?_⟩
    obtain ⟨x5, ak, ar, cq⟩ := BY fm
    obtain ⟨cr, ct, fp, dq, aj, dr, cu, rfl, dt, du⟩ := Bd.at (Ac _) ah (L := cp ++ []) fP ak.1 ar
    refine mS [35, 37] rfl (AT underlying33 sizeOf3 rfl aj rfl (Bd.idx ah ak)) ?_
    refine ⟨_, [(46, .int .i64 x4), (48, .pointer (some ⟨cr, ct + (j - 1 : Int).toNat * 1, none⟩))], rfl, rfl, z2, by kernel_rfl, ?_⟩; intro H
    obtain ⟨l2, cv, cw⟩ := C3 cq
    refine G5 (u := x4) sizeOf3 (Ac _) rfl aj rfl rfl (fun _ => .h) ah cv ak ?_; intro au av
    refine Aa ⟨undef, rfl, A4.refl _, [], by kernel_rfl, .inl (.inl rfl), nm, ?_⟩
    refine D1 ?_
    refine At (id := 3) (Af (um ?_))
    obtain ⟨cx, cy⟩ := A0 cw
    refine uv (Fs rfl rfl cx) ?_
    refine ua (Aa ?_)
    exact le kr ⟨l2, j - 1, au, cy, rfl, rfl, z5, av⟩
   have cz := bf bl bz
   refine AW (Ae (Ae ?_))
   refine Au (At (id := 1) ?_)
   obtain rfl := AH cz
   exact mi kr ⟨aa, rfl, rfl, z4, ab⟩
  rintro e1 _ _ ⟨ai, rfl, rfl, aw, da⟩
  refine AB _ aw ?_
  refine Af (um ?_)
  refine uv (Bf rfl rfl (EI.Ed bd az g5)) ?_
  refine ua (Aa ?_)
  exact le kr ⟨_, bj, ae, ai, dd, rfl, rfl, z4, da⟩
 obtain rfl := EI.zero bd az
 rw [Ci] at r9
 refine AW (Ae (Ae ?_))
 refine Au (QD (.inr rfl) results251 ?_)
 obtain rfl := AH r9
 exact ⟨_, rfl, rfl, db⟩
set_option maxHeartbeats 1000000 in
theorem N9 {x r : Int} (hr : Ju x = some r) :
    Bl Tryz.prog 261 #[.int .u64 x] F (.int .i64 r) := by
 refine sp func261 ntmps261 fun K _ _ => ?_
 rw [Ju] at hr
 refine AJ (ua (Aa ?_))
 obtain ⟨x2, n, h1, r2⟩ := DM hr
 refine jE ([]) [(0, .int .u64 x2), (2, .int .i64 n)] ?_ ?_
 ·clear r2
  refine AJ (um ?_)
  refine uv (FX rfl rfl) (Aa ?_)
  refine cQ (fun c3 => ?_) fun c3 => ?_
  ·have r4 := Bi h1 c3
   refine AJ (um ?_)
   refine uv (Jh rfl rfl (by decide)) ?_
   refine ua (Aa (Af (ua (Aa ?_))))
   obtain ⟨rfl, rfl⟩ := DO r4
   exact mi kr ⟨rfl, rfl, z2⟩
  have r5 := Bk h1 c3
  refine Al ?_
  obtain ⟨rfl, rfl⟩ := DO r5
  exact mi kr ⟨rfl, rfl, z2⟩
 obtain ⟨x3, n2, h7, r8⟩ := DM r2
 refine jE ([]) [(0, .int .u64 x3), (2, .int .i64 n2)] ?_ ?_
 ·clear r8
  refine AJ (um ?_)
  refine uv (FX rfl rfl) (Aa ?_)
  refine cQ (fun c9 => ?_) fun c9 => ?_
  ·have af := Bi h7 c9
   refine AJ (um ?_)
   refine uv (Jh rfl rfl (by decide)) ?_
   refine ua (Aa (Af (um ?_)))
   obtain ⟨ah, ai⟩ := A0 af
   refine uv (Bf rfl rfl ah) ?_
   refine ua (Aa ?_)
   obtain ⟨rfl, rfl⟩ := DO ai
   exact mi kr ⟨rfl, rfl, z2⟩
  have aj := Bk h7 c9
  refine Al ?_
  obtain ⟨rfl, rfl⟩ := DO aj
  exact mi kr ⟨rfl, rfl, z2⟩
 obtain ⟨x4, n3, ad, ae⟩ := DM r8
 refine jE ([]) [(0, .int .u64 x4), (2, .int .i64 n3)] ?_ ?_
 ·clear ae
  refine AJ (um ?_)
  refine uv (FX rfl rfl) (Aa ?_)
  refine cQ (fun ab => ?_) fun ab => ?_
  ·have ak := Bi ad ab
   refine AJ (um ?_)
   refine uv (Jh rfl rfl (by decide)) ?_
   refine ua (Aa (Af (um ?_)))
   obtain ⟨al, ao⟩ := A0 ak
   refine uv (Bf rfl rfl al) ?_
   refine ua (Aa ?_)
   obtain ⟨rfl, rfl⟩ := DO ao
   exact mi kr ⟨rfl, rfl, z2⟩
  have aq := Bk ad ab
  refine Al ?_
  obtain ⟨rfl, rfl⟩ := DO aq
  exact mi kr ⟨rfl, rfl, z2⟩
 refine AJ (um (um ?_))
 refine uv (Tc rfl underlying367 underlying5 rfl) ?_
 obtain ⟨x5, ar, aa, au⟩ := BY ae
 refine uv (Tt underlying9 (congrArg (fun s => some (Value.string s)) SY) rfl ar.1 aa (Sh _ (List.mem_of_getElem? aa))) ?_
 obtain ⟨av, aw⟩ := A0 au
 refine uv (Tv underlying5 underlying3 rfl av) ?_
 obtain ⟨ax, ay⟩ := A0 aw
 refine uv (Bf rfl rfl ax) ?_
 refine ua (Aa (Aj ?_))
 refine BZ results261 ?_
 obtain rfl := AH ay
 exact rfl
theorem PB {x r : Int} (hr : KP x = some r) :
    Bl Tryz.prog 229 #[.int .u64 x] F (.int .i64 r) := by
 refine sp func229 ntmps229 fun K _ _ => ?_
 rw [KP] at hr
 refine AJ (ua (Aa (Aq ?_)))
 refine AX rfl (fun c1 => nomatch c1) (fun c1 => ?_)
 refine Al (AJ (um ?_))
 obtain ⟨n, h2, r3⟩ := AF hr
 refine cV call261 (N9 h2) ?_
 refine ua (Aa (Aj ?_))
 refine BZ results229 ?_
 obtain rfl := AH r3
 exact rfl
theorem Jp {ab : (List Int) → Int → Int → Int → Option ((List Int))} (_ah : ∀ {Cj : Option Addr} {HD Ck : Nat} {I8 : LH} {s_ : List Int} {IK : Nat} {a b aa : Int} {F : FS} (_ : Bd IK 3 1 (iE .i64) F Cj HD Ck s_ I8) {r : List Int} , ab s_ a b aa = some r → SH.Spec Tryz.prog 228 #[.slice Cj HD Ck, .int .i64 a, .int .i64 b, .int .i64 aa] F (I8 ++ []) fun F' L' v => ∃ (rL : LH), v = .tuple #[] ∧ L' = rL ++ [] ∧ Bd IK 3 1 (iE .i64) F' Cj HD Ck r rL) {s_ : List Int} {aa : Int} (ae : Bd IK 3 1 (iE .i64) F Cj HD Ck s_ I8) {r : List Int} (hr : Fk ab s_ a b aa = some r) :
    SH.Spec Tryz.prog 228 #[.slice Cj HD Ck, .int .i64 a, .int .i64 b, .int .i64 aa] F (I8 ++ []) fun F' L' v => ∃ (rL : LH), v = .tuple #[] ∧ L' = rL ++ [] ∧ Bd IK 3 1 (iE .i64) F' Cj HD Ck r rL := by
 refine sp func228 ntmps228 fun K _ _ => ?_
 rw [Fk] at hr
 refine DT (L' := I8 ++ []) (by simp) ?_
 refine AJ (ua (BU (ua (Aa ?_))))
 refine Ak ?_
 refine Br (fun ad e1 F1 L1 => DH s_ a b ad = some r ∧ F = F1 ∧ L1 = (I8 ++ []) ∧ e1.sub [(0, .slice Cj HD Ck), (1, .int .i64 a), (2, .int .i64 b), (3, .int .i64 aa), (8, .bool true), (9, .bool true)]) FU (m0 kr ⟨hr, rfl, rfl, z6⟩) ?_
 rintro ad e1 _ _ ⟨r3, rfl, rfl, ai⟩
 refine AB _ ai ?_
 rcases ad with _ | ad
 ·rw [DH] at r3; cases r3
 rw [DH] at r3
 refine Ak ?_
 refine AJ (um (um ?_))
 obtain ⟨g5, r6⟩ := A0 r3
 refine uv (Fs rfl rfl g5) ?_
 refine ua (Aa (Aq (AJ (um ?_))))
 refine uv (Kg rfl rfl) (Aa ?_)
 obtain ⟨g8, r9⟩ := A0 r6
 refine Ri rfl (fun c7 => ?_) (fun c7 => absurd g8 c7)
 refine AJ (um (um (um ?_)))
 obtain ⟨au, aj, ak⟩ := AF r9
 refine ID (Lb := I8 ++ []) (Lr := []) rfl call251 rfl rfl rfl (pT pR (lp (ln rfl))) (Ik ae aj) ?_; rintro _ av _ al ao aq ⟨ar, rfl, rfl, af⟩
 refine AI (lp (ln rfl)) ?_
 refine Aa (Aj (Ai (AD (Ai (AD ?_)))))
 refine QD (.inl rfl) results228 ?_
 obtain rfl := AH ak
 exact ⟨_, rfl, rfl, af⟩
theorem JN : ∀ (fu : Nat) {Cj : Option Addr} {HD Ck : Nat} {I8 : LH} {s_ : List Int} {IK : Nat} {a b aa : Int} {F : FS} (_ : Bd IK 3 1 (iE .i64) F Cj HD Ck s_ I8) {r : List Int} , Dz fu s_ a b aa = some r → SH.Spec Tryz.prog 228 #[.slice Cj HD Ck, .int .i64 a, .int .i64 b, .int .i64 aa] F (I8 ++ []) fun F' L' v => ∃ (rL : LH), v = .tuple #[] ∧ L' = rL ++ [] ∧ Bd IK 3 1 (iE .i64) F' Cj HD Ck r rL := by
  intro fu
  induction fu with
  | zero => intros; rename_i hr; rw [Dz] at hr; cases hr
  | succ fu ih => intros; rename_i hr; rw [Dz] at hr; exact Jp ih (by assumption) hr
theorem LZ {s_ : List Int} (aa : Bd IK 3 1 (iE .i64) F Cj HD Ck s_ I8) {r : List Int} (hr : HA s_ = some r) :
    SH.Spec Tryz.prog 185 #[.slice Cj HD Ck] F (I8 ++ []) fun F' L' v => ∃ (rL : LH), v = .tuple #[] ∧ L' = rL ++ [] ∧ Bd IK 3 1 (iE .i64) F' Cj HD Ck r rL := by
 refine sp func185 ntmps185 fun K _ _ => ?_
 rw [HA] at hr
 refine DT (L' := I8 ++ []) (by simp) ?_
 refine AJ (um ?_)
 refine uv ((A2 underlying33 rfl).i (Bd.KW aa)) ?_
 refine ua (Aa (Af (um (um (um ?_)))))
 refine uv (Tc rfl underlying3 underlying319 rfl) ?_
 obtain ⟨n, h1, r2⟩ := AF hr
 refine cV call229 (PB h1) ?_
 obtain ⟨ad, h3, r4⟩ := AF r2
 refine ID (Lb := I8 ++ []) (Lr := []) rfl call228 rfl rfl rfl (pT pR (lp (ln rfl))) ((JN FU) aa h3) ?_; rintro _ F5 _ ae af ah ⟨ai, rfl, rfl, ab⟩
 refine AI (lp (ln rfl)) (Aa (QD (.inr rfl) results185 ?_))
 obtain rfl := AH r4
 exact ⟨_, rfl, rfl, ab⟩
theorem M1 (aa : ∀ args w, (callFunc Lj args).run Tryz.prog w = .ok (.enter Lj args) w) (ad : ES Tryz.prog Lj Qv Ql F (fun x : Int => #[.int .i64 x]) seq) {r : List Int} (hr : Iv seq = some r) :
    SH.Spec Tryz.prog 124 #[.func (.func Lj) Qv Ql] F [] fun F' L' v => ∃ (ra : Option Addr) (rn : Nat) (rc : Nat) (rL : LH), v = .slice ra rn rc ∧ L' = rL ++ [] ∧ Bd 0 3 1 (iE .i64) F' ra rn rc r rL := by
 refine sp func124 ntmps124 fun K _ _ => ?_
 rw [Iv] at hr
 refine AJ (ua (BU (um ?_)))
 obtain ⟨l, h1, r2⟩ := AF hr
 refine c0 call184 (Mo aa ad h1) ?_; rintro _ F3 _ ar af ⟨a7, au, c8, ah, rfl, rfl, ab⟩
 replace ab := ab.new fun p hp => af p (by simp [hp])
 refine AI (lp (ln rfl)) ?_
 refine ua (BU (um ?_))
 obtain ⟨s_, ai, aj⟩ := AF r2
 refine ID (Lb := ah ++ []) (Lr := []) rfl call185 rfl rfl rfl (pT pR (lp (ln rfl))) (LZ ab ai) ?_; rintro _ av _ ak al ao ⟨aq, rfl, rfl, ae⟩
 refine AI (lp (ln rfl)) ?_
 refine BU (um (ua (Aa (Aj ?_))))
 refine BZ results124 ?_
 obtain rfl := AH aj
 exact ⟨_, _, _, _, rfl, rfl, ae.any⟩
set_option maxHeartbeats 1000000 in
theorem Ky {ah : Nat} {s_ : List Int} {ao : Nat × Nat} (ae : F ah = some (.cells #[.slice Cj s_.length Ck] 33 ao)) (aa : As 1 (iE .i64) F Cj Ck s_) {xs : List Int} (hr : FY s_ = some xs) :
    ES Tryz.prog 186 #[] #[.pointer (some ⟨ah, 0, none⟩)] F (fun x : Int => #[.int .i64 x]) xs := by
 intro G0 bo yv J Jx cg bw hy Fc L0 hG bx
 replace ae := (bo.trans hG) _ _ ae
 replace aa := aa.mono (Ac _) (bo.trans hG)
 have ai : xs = [] ++ xs := rfl
 show SH.Spec Tryz.prog 186 #[yv, .pointer (some ⟨ah, 0, none⟩)] Fc L0 _
 refine sp func186 ntmps186 fun K _ _ => ?_
 rw [FY] at hr; refine DT (L' := L0 ++ []) (by simp) ?_
 refine AJ (uv (Ah isAgg33 rfl (Has.frozen ae) rfl) (uv (A2 underlying33 rfl) ?_))
 refine um (Aa ?_)
 refine Ak ?_
 refine Br (fun bp e1 F1 L1 => LA s_ bp fun tl k => ∃ (ad : List Int) (aj : List Int) (aq : LH), Di tl = some aj ∧ A4 Fc F1 ∧ L1 = (aq ++ []) ∧ e1.sub [(0, yv), (5, .slice Cj s_.length Ck), (6, .int .i64 (s_.length : Int)), (7, .int .i64 k)] ∧ xs = ad ++ aj ∧ J ad F1 aq ∧ A4 G0 F1) _ (m0 kr ⟨_, _, rfl, BI.start _, [], xs, L0, hr, A4.refl _, rfl, z4, ai, bx, hG⟩) ?_
 rintro bp e1 cj _ ⟨tl, k, bz, ay, ad, aj, aq, r8, ar, rfl, ca, ab, bq, hG⟩
 refine AB _ ca ?_
 replace aa := aa.mono (Ac _) ar
 refine AJ (uv (Bp rfl rfl) ?_)
 refine Aa (Aq ?_)
 refine cQ (fun ax => ?_) fun ax => ?_
 ·obtain ⟨x, ck, rfl, az, br, ba⟩ := BI.succ ay ax
  rw [Di] at r8
  refine Al (Aq ?_)
  refine Ak (AJ ?_)
  obtain ⟨cn, cp, cq, cb, bb, bc, bu, rfl, cc, bd⟩ := As.at (Ac _) aa (aq ++ []) br.1 az
  refine uv (AT underlying33 sizeOf3 rfl bb rfl br) (uv (Ah isAgg3 rfl bc (bd 0 (by decide))) ?_)
  refine ua (BU (um (um ?_)))
  obtain ⟨ak, cd, au⟩ := Qg r8
  refine LJ (Lb := aq) (Lr := []) (vs := [.int .i64 x]) rfl rfl rfl fP (hy ad x ak (by rw [ab, au]) _ _ hG bq) ?_
  rintro cr ct bg al bj; obtain ⟨cf, rfl, av, aw⟩ := HZ bj
  replace aa := aa.mono (Ac _) al
  replace hG := hG.trans al
  refine uv (BB rfl) (Aa ?_)
  refine AX rfl (fun bk => ?_) (fun bk => ?_)
  ·have bl := aw (by simpa using bk)
   refine Aj (AD (Ai (Ai (AD ?_))))
   refine Gs (.inl rfl) results186 (sr) ?_
   exact .inr (by rw [List.append_nil]; exact bl)
  have bn := av (by simpa using bk)
  have af : xs = (ad ++ [x]) ++ ak := by rw [ab, au]; simp
  refine Al (At (id := 1) (Af ?_))
  refine uv (Bf rfl rfl (BI.Ed ay ax (As.lt aa))) ?_
  refine um (Aa ?_)
  subst bz; exact le kr ⟨_, _, rfl, ba, ad ++ [x], ak, bg, cd, (ar.trans al), rfl, z4, af, bn, hG⟩
 obtain rfl := BI.zero ay ax
 rw [Di] at r8
 refine AW (Ae (Ae ?_))
 refine Au (Gs (.inr rfl) results186 (sr) ?_)
 obtain rfl := AH r8
 exact .inl (by have e1 := ab; rw [List.append_nil] at e1; rw [List.append_nil, e1]; exact bq)
theorem K0 {s_ : List Int} (aa : As 1 (iE .i64) F Cj Ck s_) {r : List Int} (hr : GN s_ = some r) :
    SH.Spec Tryz.prog 125 #[.slice Cj s_.length Ck] F [] fun F' L' v => ∃ (ad : Array Value), v = .func (.func 186) #[] ad ∧ L' = [] ∧ ES Tryz.prog 186 #[] ad F' (fun x : Int => #[.int .i64 x]) r := by
 refine sp func125 ntmps125 fun K _ _ => ?_
 rw [GN] at hr
 refine AJ ?_
 refine BJ rfl rfl ?_; intro b1 ae
 refine ua (BU ?_)
 refine uv (BT rfl rfl) ?_
 refine ua (Aa ?_)
 refine B1 0 rfl ae ?_; intro F2 af ah
 refine DT (L' := []) rfl ?_
 replace aa := aa.mono (Ac _) af
 obtain ⟨l, h5, r7⟩ := AF hr
 have ab : ES Tryz.prog 186 #[] #[.pointer (some ⟨b1, 0, none⟩)] F2 (fun x : Int => #[.int .i64 x]) l := Ky ah aa h5
 refine Aj (BZ results125 ?_)
 obtain rfl := AH r7
 exact ⟨_, rfl, rfl, ab⟩
set_option maxHeartbeats 1000000 in
theorem QB {Ao : List (List Int)} {Ad : List ((List Int) × Int × Int)} (ae : As 1 (BC 1 (iE .i64)) F AR AQ walks) (ad : As 1 (BC 1 (iE .i64)) F Aw Ax Ao) (ab : As 3 (Ce (BC 1 (iE .i64)) (Ce (iE .i64) (iE .i64))) F Az AA Ad) {r : Option ((List (List Int)) × (List (List Int)) × Int × Int × (List ((List Int) × Int × Int)) × (List Int) × (List (Int × Int)) × (List Int))} {r2 : Int} (hr : Lq walks Ao An start Ad = some (r, r2)) :
    SH.Spec Tryz.prog 49 #[.agg #[.slice AR walks.length AQ, .slice Aw Ao.length Ax, .int .i64 An, .int .i64 start, .slice Az Ad.length AA]] F [] fun F' L' v => ∃ (rv : Value), v = .tuple #[rv, .int .i64 r2] ∧ L' = [] ∧ Pw 156 (Ce (BC 1 (BC 1 (iE .i64))) (Ce (BC 1 (BC 1 (iE .i64))) (Ce (iE .i64) (Ce (iE .i64) (Ce (BC 3 (Ce (BC 1 (iE .i64)) (Ce (iE .i64) (iE .i64)))) (Ce (Ll 25 (cI .i64)) (Ce (BC 2 (Ce (iE .i64) (iE .i64))) (Ll 15 (cI .i64))))))))) F' rv r := by
 refine sp func49 ntmps49 fun K _ _ => ?_
 rw [Lq] at hr
 refine AJ ?_
 refine BJ rfl rfl ?_; intro b1 qy
 refine ua (ua (Aa (Aq (AJ ?_))))
 refine uv (A1 (cs := #[.slice AR walks.length AQ, .slice Aw Ao.length Ax, .int .i64 An, .int .i64 start, .slice Az Ad.length AA]) isAgg39 sizeOf39 rfl (Has.own 0 rfl) (CB rfl) rfl) ?_
 obtain ⟨n, h2, r3⟩ := AF hr
 refine cV call122 (Q4 ae ad ab h2) ?_
 refine ua (BU (um ?_))
 refine uv (CI rfl rfl) (Aa ?_)
 refine cQ (fun c4 => ?_) fun c4 => ?_
 ·have r5 := Bi r3 c4
  refine AJ (um (ua (ua (Aa ?_))))
  refine kW kn ?_
  refine Aj (Ai ?_)
  refine Dv results49 (AY rfl) (AY rfl) (sr) ?_
  obtain ⟨rfl, rfl⟩ := DO r5
  exact ⟨_, rfl, rfl, rfl⟩
 have r6 := Bk r3 c4
 refine Al (AJ ?_)
 refine uv (A1 (cs := #[.slice AR walks.length AQ, .slice Aw Ao.length Ax, .int .i64 An, .int .i64 start, .slice Az Ad.length AA]) isAgg39 sizeOf39 rfl (Has.own 0 rfl) (CB rfl) rfl) ?_
 refine uv (BM (v := .agg ((([.slice AR walks.length AQ] : List Value) ++ (([.slice Aw Ao.length Ax] : List Value) ++ (([.int .i64 An] : List Value) ++ (([.int .i64 start] : List Value) ++ (([.slice Az Ad.length AA] : List Value) ++ ((List.replicate 25 0).flatMap (cI .i64) ++ (([.slice none 0 0] : List Value) ++ ((List.replicate 15 0).flatMap (cI .i64))))))))).toArray)) rfl (by intro w; kernel_rfl)) ?_
 refine BJ rfl rfl ?_; intro b7 oy
 refine ua (Aa ?_)
 obtain ⟨aj, h9, nh⟩ := AF r6
 refine A5 (fun e1 F1 L1 => F = F1 ∧ L1 = [(b7, ce ((([.slice AR walks.length AQ] : List Value) ++ (([.slice Aw Ao.length Ax] : List Value) ++ (([.int .i64 An] : List Value) ++ (([.int .i64 start] : List Value) ++ (([.slice Az Ad.length AA] : List Value) ++ (aj.flatMap (cI .i64) ++ (([.slice none 0 0] : List Value) ++ ((List.replicate 15 0).flatMap (cI .i64))))))))).toArray) 156), (b1, ce #[.slice AR walks.length AQ, .slice Aw Ao.length Ax, .int .i64 An, .int .i64 start, .slice Az Ad.length AA] 39)] ∧ e1.sub [(1, .pointer (some ⟨b1, 0, none⟩)), (5, .pointer (some ⟨b7, 0, none⟩))] ∧ aj.length = 25) ?_ ?_
 ·clear nh
  refine AJ (um (Aa ?_))
  refine Ak ?_
  obtain ⟨oz, p0⟩ := A0 h9
  refine Br (fun jb e1 F1 L1 => ∃ (k : Int), EI 0 5 k jb ∧ ∃ (ak : List Int), Gx walks jb k ak = some aj ∧ F = F1 ∧ L1 = [(b7, ce ((([.slice AR walks.length AQ] : List Value) ++ (([.slice Aw Ao.length Ax] : List Value) ++ (([.int .i64 An] : List Value) ++ (([.int .i64 start] : List Value) ++ (([.slice Az Ad.length AA] : List Value) ++ (ak.flatMap (cI .i64) ++ (([.slice none 0 0] : List Value) ++ ((List.replicate 15 0).flatMap (cI .i64))))))))).toArray) 156), (b1, ce #[.slice AR walks.length AQ, .slice Aw Ao.length Ax, .int .i64 An, .int .i64 start, .slice Az Ad.length AA] 39)] ∧ e1.sub [(1, .pointer (some ⟨b1, 0, none⟩)), (5, .pointer (some ⟨b7, 0, none⟩)), (23, .int .i64 k)] ∧ ak.length = 25) _ (m0 kr ⟨_, EI.start _ _, List.replicate 25 0, p0, rfl, rfl, z3, List.length_replicate⟩) ?_
  rintro jb e1 _ _ ⟨k, eg, ak, jc, rfl, rfl, jj, ni⟩
  refine AB _ jj (AJ (uv (Bp rfl rfl) ?_))
  refine Aa (Aq ?_)
  refine cQ (fun jd => ?_) fun jd => ?_
  ·obtain ⟨jb, rfl, jk⟩ := EI.succ eg jd
   rw [Gx] at jc
   refine Al ?_
   obtain ⟨aq, p3, nj⟩ := AF jc
   refine A5 (fun e1 F1 L1 => F = F1 ∧ L1 = [(b7, ce ((([.slice AR walks.length AQ] : List Value) ++ (([.slice Aw Ao.length Ax] : List Value) ++ (([.int .i64 An] : List Value) ++ (([.int .i64 start] : List Value) ++ (([.slice Az Ad.length AA] : List Value) ++ (aq.flatMap (cI .i64) ++ (([.slice none 0 0] : List Value) ++ ((List.replicate 15 0).flatMap (cI .i64))))))))).toArray) 156), (b1, ce #[.slice AR walks.length AQ, .slice Aw Ao.length Ax, .int .i64 An, .int .i64 start, .slice Az Ad.length AA] 39)] ∧ e1.sub [(1, .pointer (some ⟨b1, 0, none⟩)), (5, .pointer (some ⟨b7, 0, none⟩)), (23, .int .i64 k)] ∧ aq.length = 25) ?_ ?_
   ·clear nj
    refine Ak ?_
    refine AJ (um (ua (BU (um (Aa ?_)))))
    refine Ak ?_
    obtain ⟨nk, p4⟩ := A0 p3
    refine Br (fun je e1 F1 L1 => ∃ (k2 : Int), EI 0 5 k2 je ∧ ∃ (ar : List Int), Fu walks k je k2 ar = some aq ∧ F = F1 ∧ L1 = [(b7, ce ((([.slice AR walks.length AQ] : List Value) ++ (([.slice Aw Ao.length Ax] : List Value) ++ (([.int .i64 An] : List Value) ++ (([.int .i64 start] : List Value) ++ (([.slice Az Ad.length AA] : List Value) ++ (ar.flatMap (cI .i64) ++ (([.slice none 0 0] : List Value) ++ ((List.replicate 15 0).flatMap (cI .i64))))))))).toArray) 156), (b1, ce #[.slice AR walks.length AQ, .slice Aw Ao.length Ax, .int .i64 An, .int .i64 start, .slice Az Ad.length AA] 39)] ∧ e1.sub [(1, .pointer (some ⟨b1, 0, none⟩)), (5, .pointer (some ⟨b7, 0, none⟩)), (6, .int .i64 k), (23, .int .i64 k), (26, .int .i64 k2)] ∧ ar.length = 25) _ (m0 kr ⟨_, EI.start _ _, ak, p4, rfl, rfl, z5, ni⟩) ?_
    rintro je e1 _ _ ⟨k2, da, ar, jf, rfl, rfl, jl, jg⟩
    refine AB _ jl (AJ (uv (Bp rfl rfl) ?_))
    refine Aa (Aq ?_)
    refine cQ (fun ey => ?_) fun ey => ?_
    ·obtain ⟨je, rfl, ez⟩ := EI.succ da ey
     rw [Fu] at jf
     refine Al (Aq ?_)
     refine Ak ?_
     refine AJ (um (ua (BU (um (um (um ?_))))))
     refine uv (AV rfl) (uv (Ab Ld rfl) ?_)
     obtain ⟨nn, p5⟩ := A0 jf
     refine uv (By underlying152 sizeOf150 rfl rfl nn) ?_
     obtain ⟨np, p6⟩ := A0 p5
     obtain ⟨x, p7, p8, p9⟩ := BY p6
     have jm : (k * 5 + k2 : Int).toNat = (k : Int).toNat * 5 + (k2 : Int).toNat := by have := nn; have := np; omega
     refine uv (By underlying150 sizeOf3 rfl rfl np) ?_
     obtain ⟨ws, nq, pa⟩ := C3 p9
     have jh : ws.length = 25 := by rw [nq, List.length_set]; exact jg
     refine I3 (i := 0) sizeOf3 rfl (by have := jm; omega) rfl rfl rfl (CA (A := ([.slice AR walks.length AQ] : List Value)) (k := 1) rfl (CA (A := ([.slice Aw Ao.length Ax] : List Value)) (k := 1) rfl (CA (A := ([.int .i64 An] : List Value)) (k := 1) rfl (CA (A := ([.int .i64 start] : List Value)) (k := 1) rfl (CA (A := ([.slice Az Ad.length AA] : List Value)) (k := 1) rfl (PH (B := ([.slice none 0 0] : List Value) ++ ((List.replicate 15 0).flatMap (cI .i64))) (Qh (p := (k * 5 + k2 : Int).toNat) (Bt .i64) (u := -1) rfl jg (by have := p7; have := jg; omega) F))))))) ?_
     refine AI (L' := [(b7, ce ((([.slice AR walks.length AQ] : List Value) ++ (([.slice Aw Ao.length Ax] : List Value) ++ (([.int .i64 An] : List Value) ++ (([.int .i64 start] : List Value) ++ (([.slice Az Ad.length AA] : List Value) ++ (ws.flatMap (cI .i64) ++ (([.slice none 0 0] : List Value) ++ ((List.replicate 15 0).flatMap (cI .i64))))))))).toArray) 156), (b1, ce #[.slice AR walks.length AQ, .slice Aw Ao.length Ax, .int .i64 An, .int .i64 start, .slice Az Ad.length AA] 39)]) (by rw [nq]; rfl) ?_
     refine Aa ?_
     obtain ⟨k3, nr, jn⟩ := AF pa
     refine jE ([(b7, ce ((([.slice AR walks.length AQ] : List Value) ++ (([.slice Aw Ao.length Ax] : List Value) ++ (([.int .i64 An] : List Value) ++ (([.int .i64 start] : List Value) ++ (([.slice Az Ad.length AA] : List Value) ++ (ws.flatMap (cI .i64) ++ (([.slice none 0 0] : List Value) ++ ((List.replicate 15 0).flatMap (cI .i64))))))))).toArray) 156), (b1, ce #[.slice AR walks.length AQ, .slice Aw Ao.length Ax, .int .i64 An, .int .i64 start, .slice Az Ad.length AA] 39)]) [(1, .pointer (some ⟨b1, 0, none⟩)), (5, .pointer (some ⟨b7, 0, none⟩)), (6, .int .i64 k), (7, .int .i64 k2), (23, .int .i64 k), (26, .int .i64 k2), (47, .bool k3)] ?_ ?_
     ·clear jn
      refine Af (um ?_)
      refine uv (Ab ML rfl) (uv (Ah isAgg36 rfl (Has.own 1 rfl) rfl) (uv (A2 underlying36 rfl) (uv (Bp rfl rfl) (um ?_))))
      by_cases bx : k < (walks.length : Int)
      ·have pb := Bi nr bx
       refine nT bx (um (nT bx ?_))
       refine uv (Ab ML rfl) (nT bx (uv (Ah isAgg36 rfl (Has.own 1 rfl) rfl) (nT bx (uv (A2 underlying36 rfl) (nT bx (uv (Bp rfl rfl) (uv (AS (Bq rfl bx) rfl) ?_)))))))
       refine Aa ?_
       obtain rfl := AH pb
       exact mi kr ⟨rfl, rfl, z7⟩
      have pc := Bk nr bx
      refine fF bx (fF bx (fF bx (fF bx (fF bx ?_))))
      refine uv (AE (Bc rfl bx) rfl) (Aa ?_)
      obtain rfl := AH pc
      exact mi kr ⟨rfl, rfl, z7⟩
     refine AX rfl (fun jo => ?_) (fun jo => ?_)
     ·have pd := bt jn jo
      refine CM [(.still, 0), (.still, 1), (.still, 2), (.still, 3), (.still, 4), (.still, 5), (.still, 6), (.still, 7), (.still, 8), (.still, 9), (.still, 10), (.still, 11), (.still, 12), (.still, 13), (.still, 14), (.seq, 15)] (by kernel_rfl) (by kernel_rfl) (trivial) (by rfl) (by kernel_rfl) (mS [5] rfl (BF rfl) (mS [6] rfl (BF rfl) (mS [7] rfl (BF rfl) (mS [1] rfl (Ab ML rfl) (mL [51] ([(b1, ce #[.slice AR walks.length AQ, .slice Aw Ao.length Ax, .int .i64 An, .int .i64 start, .slice Az Ad.length AA] 39)]) rfl (s0 (s1 (s2 sr))) (fun H F' L' db dd => Ah isAgg36 rfl ((Has.own 0 rfl).ext db dd) rfl) (mS [6] rfl (BF rfl) ?_))))))
      obtain ⟨x2, ns, jq, pe⟩ := BY pd
      obtain ⟨qz, r0, re, pf, jr, js, nt, ⟨rf, rh, rfl, pg⟩, ph, jt⟩ := As.at (Am (Ac _)) ae ([]) ns.1 jq
      refine mS [52, 53] rfl (AT underlying36 sizeOf33 rfl jr rfl ns) (mL [54] ([]) rfl sm (fun H F' L' db dd => Ah isAgg33 rfl (js.ext db dd) (jt 0 (by decide))) (mS [7] rfl (BF rfl) ?_))
      obtain ⟨x3, nu, ju, pj⟩ := BY pe
      obtain ⟨ri, rj, rk, pk, jv, jw, nv, rfl, pn, jx⟩ := As.at (Ac _) pg ([]) nu.1 ju
      refine mS [55, 56] rfl (AT underlying33 sizeOf3 rfl jv rfl nu) (mL [57] ([]) rfl sm (fun H F' L' db dd => Ah isAgg3 rfl (jw.ext db dd) (jx 0 (by decide))) (mS [48] rfl (AV rfl) (mS [59] rfl (Ab Ld rfl) ?_)))
      obtain ⟨nw, po⟩ := A0 pj
      refine mS [49, 60] rfl (By underlying152 sizeOf150 rfl rfl nw) ?_
      obtain ⟨ny, pq⟩ := A0 po
      obtain ⟨x4, pr, pt, pv⟩ := BY pq
      have jz : (k * 5 + k2 : Int).toNat = (k : Int).toNat * 5 + (k2 : Int).toNat := by have := nw; have := ny; omega
      refine mS [50, 61] rfl (By underlying150 sizeOf3 rfl rfl ny) ?_
      refine ⟨_, [(58, .int .i64 x3), (62, .pointer (some ⟨b7, 5 + (k : Int).toNat * 5 + (k2 : Int).toNat * 1, none⟩))], rfl, rfl, z2, by kernel_rfl, ?_⟩; intro H
      obtain ⟨k7, nz, pw⟩ := C3 pv
      have px : k7.length = 25 := by rw [nz, List.length_set]; exact jh
      refine I3 (i := 0) sizeOf3 rfl (by have := jz; omega) rfl rfl rfl (CA (A := ([.slice AR walks.length AQ] : List Value)) (k := 1) rfl (CA (A := ([.slice Aw Ao.length Ax] : List Value)) (k := 1) rfl (CA (A := ([.int .i64 An] : List Value)) (k := 1) rfl (CA (A := ([.int .i64 start] : List Value)) (k := 1) rfl (CA (A := ([.slice Az Ad.length AA] : List Value)) (k := 1) rfl (PH (B := ([.slice none 0 0] : List Value) ++ ((List.replicate 15 0).flatMap (cI .i64))) (Qh (p := (k * 5 + k2 : Int).toNat) (Bt .i64) (u := x3) rfl jh (by have := pr; have := jh; omega) F))))))) ?_
      refine AI (L' := [(b7, ce ((([.slice AR walks.length AQ] : List Value) ++ (([.slice Aw Ao.length Ax] : List Value) ++ (([.int .i64 An] : List Value) ++ (([.int .i64 start] : List Value) ++ (([.slice Az Ad.length AA] : List Value) ++ (k7.flatMap (cI .i64) ++ (([.slice none 0 0] : List Value) ++ ((List.replicate 15 0).flatMap (cI .i64))))))))).toArray) 156), (b1, ce #[.slice AR walks.length AQ, .slice Aw Ao.length Ax, .int .i64 An, .int .i64 start, .slice Az Ad.length AA] 39)]) (by rw [nz]; rfl) ?_
      refine Aa ⟨undef, rfl, A4.refl _, [], by kernel_rfl, .inl (.inl rfl), nm, ?_⟩
      refine D1 ?_
      refine At (id := 3) (Af ?_)
      refine uv (Bf rfl rfl (EI.Ed da ey nk)) ?_
      refine um (Aa ?_)
      exact le kr ⟨_, ez, k7, pw, rfl, rfl, z5, px⟩
     have py := bf jn jo
     refine Al (At (id := 3) (Af ?_))
     refine uv (Bf rfl rfl (EI.Ed da ey nk)) ?_
     refine um (Aa ?_)
     exact le kr ⟨_, ez, ws, py, rfl, rfl, z5, jh⟩
    obtain rfl := EI.zero da ey
    rw [Fu] at jf
    refine AW (Ae (Ae ?_))
    refine Au (At (id := 1) ?_)
    obtain rfl := AH jf
    exact mi kr ⟨rfl, rfl, z3, jg⟩
   rintro e1 _ _ ⟨rfl, rfl, k8, pz⟩
   refine AB _ k8 (Af (uv (Bf rfl rfl (EI.Ed eg jd oz)) ?_))
   refine um (Aa ?_)
   exact le kr ⟨_, jk, aq, nj, rfl, rfl, z3, pz⟩
  obtain rfl := EI.zero eg jd
  rw [Gx] at jc
  refine AW (Ae (Ae ?_))
  refine Au ?_
  obtain rfl := AH jc
  exact mi kr ⟨rfl, rfl, z2, ni⟩
 rintro e1 _ _ ⟨rfl, rfl, k9, h8⟩
 refine AB _ k9 ?_
 obtain ⟨aa, q0, o2⟩ := AF nh
 refine A5 (fun e1 F1 L1 => A4 F F1 ∧ L1 = [(b7, ce ((([.slice AR walks.length AQ] : List Value) ++ (([.slice Aw Ao.length Ax] : List Value) ++ (([.int .i64 An] : List Value) ++ (([.int .i64 start] : List Value) ++ (([.slice Az Ad.length AA] : List Value) ++ (aa.flatMap (cI .i64) ++ (([.slice none 0 0] : List Value) ++ ((List.replicate 15 0).flatMap (cI .i64))))))))).toArray) 156), (b1, ce #[.slice AR walks.length AQ, .slice Aw Ao.length Ax, .int .i64 An, .int .i64 start, .slice Az Ad.length AA] 39)] ∧ e1.sub [(1, .pointer (some ⟨b1, 0, none⟩)), (5, .pointer (some ⟨b7, 0, none⟩))] ∧ aa.length = 25) ?_ ?_
 ·clear o2
  refine AJ (um ?_)
  refine uv (AV rfl) (uv (Ab Ld rfl) (uv (A1 (cs := arr (cI .i64) aj) isAgg152 sizeOf152 rfl (Has.own 0 rfl) (Fq (Ar (A := ([.slice AR walks.length AQ] : List Value)) (k := 1) (o := 4) rfl (Ar (A := ([.slice Aw Ao.length Ax] : List Value)) (k := 1) (o := 3) rfl (Ar (A := ([.int .i64 An] : List Value)) (k := 1) (o := 2) rfl (Ar (A := ([.int .i64 start] : List Value)) (k := 1) (o := 1) rfl (Ar (A := ([.slice Az Ad.length AA] : List Value)) (k := 1) (o := 0) rfl (BK (EJ (Bt .i64) h8)))))))) (Jv (EJ (Bt .i64) h8) (Ar (A := ([.slice AR walks.length AQ] : List Value)) (k := 1) (o := 4) rfl (Ar (A := ([.slice Aw Ao.length Ax] : List Value)) (k := 1) (o := 3) rfl (Ar (A := ([.int .i64 An] : List Value)) (k := 1) (o := 2) rfl (Ar (A := ([.int .i64 start] : List Value)) (k := 1) (o := 1) rfl (Ar (A := ([.slice Az Ad.length AA] : List Value)) (k := 1) (o := 0) rfl (BK (EJ (Bt .i64) h8))))))))) ?_))
  obtain ⟨a, qb, kb⟩ := AF q0
  refine c0 call123 (IL h8 qb) ?_; rintro _ kh _ fa o3 ⟨rfl, rfl, fb⟩
  refine AI (ln rfl) ?_
  refine Bw rfl zeroValue152 ?_; intro eh fe
  refine AI (L' := [(eh, ce (arr (cI .i64) (List.replicate 25 0)) 152), (b7, ce ((([.slice AR walks.length AQ] : List Value) ++ (([.slice Aw Ao.length Ax] : List Value) ++ (([.int .i64 An] : List Value) ++ (([.int .i64 start] : List Value) ++ (([.slice Az Ad.length AA] : List Value) ++ (aj.flatMap (cI .i64) ++ (([.slice none 0 0] : List Value) ++ ((List.replicate 15 0).flatMap (cI .i64))))))))).toArray) 156), (b1, ce #[.slice AR walks.length AQ, .slice Aw Ao.length Ax, .int .i64 An, .int .i64 start, .slice Az Ad.length AA] 39)]) rfl (HP (i := 0) sizeOf152 rfl rfl rfl (EP (Bt .i64) List.length_replicate) (EP (Bt .i64) fb) (MJ (Bt .i64)) (AI (L' := [(eh, ce (arr (cI .i64) a) 152), (b7, ce ((([.slice AR walks.length AQ] : List Value) ++ (([.slice Aw Ao.length Ax] : List Value) ++ (([.int .i64 An] : List Value) ++ (([.int .i64 start] : List Value) ++ (([.slice Az Ad.length AA] : List Value) ++ (aj.flatMap (cI .i64) ++ (([.slice none 0 0] : List Value) ++ ((List.replicate 15 0).flatMap (cI .i64))))))))).toArray) 156), (b1, ce #[.slice AR walks.length AQ, .slice Aw Ao.length Ax, .int .i64 An, .int .i64 start, .slice Az Ad.length AA] 39)]) rfl (Aa (Ak ?_))))
  refine Br (fun ji e1 F1 L1 => ∃ (ai : List Int) (ah : List Int) (bn : Nat), GB ji ai ah = some aa ∧ A4 kh F1 ∧ L1 = [(bn, ce (arr (cI .i64) ah) 152), (b7, ce ((([.slice AR walks.length AQ] : List Value) ++ (([.slice Aw Ao.length Ax] : List Value) ++ (([.int .i64 An] : List Value) ++ (([.int .i64 start] : List Value) ++ (([.slice Az Ad.length AA] : List Value) ++ (ai.flatMap (cI .i64) ++ (([.slice none 0 0] : List Value) ++ ((List.replicate 15 0).flatMap (cI .i64))))))))).toArray) 156), (b1, ce #[.slice AR walks.length AQ, .slice Aw Ao.length Ax, .int .i64 An, .int .i64 start, .slice Az Ad.length AA] 39)] ∧ e1.sub [(1, .pointer (some ⟨b1, 0, none⟩)), (5, .pointer (some ⟨b7, 0, none⟩)), (8, .pointer (some ⟨bn, 0, none⟩))] ∧ ai.length = 25 ∧ K.w0.heap.size ≤ bn ∧ ah.length = 25) FU (m0 kr ⟨aj, a, eh, kb, A4.refl _, rfl, z3, h8, fe, fb⟩) ?_
  rintro ji e1 qc _ ⟨ai, ah, bn, de, dy, rfl, ff, cg, o4, bg⟩
  refine AB _ ff ?_
  rcases ji with _ | ji
  ·rw [GB] at de; cases de
  rw [GB] at de
  refine Aq (dW (wv (Jc isAgg152 sizeOf152 rfl (Has.own 0 rfl) (EP (Bt .i64) bg)) (wm (wv (AV rfl) (wv (Ab Ld rfl) (wv (A1 (cs := arr (cI .i64) ai) isAgg152 sizeOf152 rfl (Has.own 1 rfl) (Fq (Ar (A := ([.slice AR walks.length AQ] : List Value)) (k := 1) (o := 4) rfl (Ar (A := ([.slice Aw Ao.length Ax] : List Value)) (k := 1) (o := 3) rfl (Ar (A := ([.int .i64 An] : List Value)) (k := 1) (o := 2) rfl (Ar (A := ([.int .i64 start] : List Value)) (k := 1) (o := 1) rfl (Ar (A := ([.slice Az Ad.length AA] : List Value)) (k := 1) (o := 0) rfl (BK (EJ (Bt .i64) cg)))))))) (Jv (EJ (Bt .i64) cg) (Ar (A := ([.slice AR walks.length AQ] : List Value)) (k := 1) (o := 4) rfl (Ar (A := ([.slice Aw Ao.length Ax] : List Value)) (k := 1) (o := 3) rfl (Ar (A := ([.int .i64 An] : List Value)) (k := 1) (o := 2) rfl (Ar (A := ([.int .i64 start] : List Value)) (k := 1) (o := 1) rfl (Ar (A := ([.slice Az Ad.length AA] : List Value)) (k := 1) (o := 0) rfl (BK (EJ (Bt .i64) cg))))))))) ?_))))))
  obtain ⟨kj, kl⟩ := A0 de
  obtain ⟨km, fg⟩ := A0 kl
  refine wv (XP (VK _ _ _ _) (fun w => Vi (Wh ah ai ⟨bg, kj⟩ ⟨cg, km⟩ w)) rfl rfl) (CX ?_)
  refine cQ (fun ei => ?_) fun ei => ?_
  ·have ko := Bi fg ei
   refine Al (Aq ?_)
   refine Ak ?_
   refine Af (um ?_)
   refine uv (Jc isAgg152 sizeOf152 rfl (Has.own 0 rfl) (EP (Bt .i64) bg)) (uv (AV rfl) (uv (Ab Ld rfl) (Sv (i := 1) sizeOf152 rfl rfl (lz (EJ (Bt .i64) bg)) (Kf (Bt .i64) _) rfl (NR (A := ([.slice AR walks.length AQ] : List Value)) (k := 1) (o := 4) rfl (NR (A := ([.slice Aw Ao.length Ax] : List Value)) (k := 1) (o := 3) rfl (NR (A := ([.int .i64 An] : List Value)) (k := 1) (o := 2) rfl (NR (A := ([.int .i64 start] : List Value)) (k := 1) (o := 1) rfl (NR (A := ([.slice Az Ad.length AA] : List Value)) (k := 1) (o := 0) rfl (Wt (B := ([.slice none 0 0] : List Value) ++ ((List.replicate 15 0).flatMap (cI .i64))) (EJ (Bt .i64) cg))))))) (AI (L' := [(bn, ce (arr (cI .i64) ah) 152), (b7, ce ((([.slice AR walks.length AQ] : List Value) ++ (([.slice Aw Ao.length Ax] : List Value) ++ (([.int .i64 An] : List Value) ++ (([.int .i64 start] : List Value) ++ (([.slice Az Ad.length AA] : List Value) ++ (ah.flatMap (cI .i64) ++ (([.slice none 0 0] : List Value) ++ ((List.replicate 15 0).flatMap (cI .i64))))))))).toArray) 156), (b1, ce #[.slice AR walks.length AQ, .slice Aw Ao.length Ax, .int .i64 An, .int .i64 start, .slice Az Ad.length AA] 39)]) rfl ?_))))
   refine Aa (At (id := 5) (Aq (AJ ?_)))
   refine uv (Jc isAgg152 sizeOf152 rfl (Has.own 0 rfl) (EP (Bt .i64) bg)) ?_
   refine Aa (Af ?_)
   refine Bw rfl zeroValue152 ?_; intro df fh
   refine AI (L' := [(df, ce (arr (cI .i64) (List.replicate 25 0)) 152), (bn, ce (arr (cI .i64) ah) 152), (b7, ce ((([.slice AR walks.length AQ] : List Value) ++ (([.slice Aw Ao.length Ax] : List Value) ++ (([.int .i64 An] : List Value) ++ (([.int .i64 start] : List Value) ++ (([.slice Az Ad.length AA] : List Value) ++ (ah.flatMap (cI .i64) ++ (([.slice none 0 0] : List Value) ++ ((List.replicate 15 0).flatMap (cI .i64))))))))).toArray) 156), (b1, ce #[.slice AR walks.length AQ, .slice Aw Ao.length Ax, .int .i64 An, .int .i64 start, .slice Az Ad.length AA] 39)]) rfl (HP (i := 0) sizeOf152 rfl rfl rfl (EP (Bt .i64) List.length_replicate) (EP (Bt .i64) bg) (MJ (Bt .i64)) (AI (L' := [(df, ce (arr (cI .i64) ah) 152), (bn, ce (arr (cI .i64) ah) 152), (b7, ce ((([.slice AR walks.length AQ] : List Value) ++ (([.slice Aw Ao.length Ax] : List Value) ++ (([.int .i64 An] : List Value) ++ (([.int .i64 start] : List Value) ++ (([.slice Az Ad.length AA] : List Value) ++ (ah.flatMap (cI .i64) ++ (([.slice none 0 0] : List Value) ++ ((List.replicate 15 0).flatMap (cI .i64))))))))).toArray) 156), (b1, ce #[.slice AR walks.length AQ, .slice Aw Ao.length Ax, .int .i64 An, .int .i64 start, .slice Az Ad.length AA] 39)]) rfl ?_))
   refine Aa (Af ?_)
   refine uv (Jc isAgg152 sizeOf152 rfl (Has.own 0 rfl) (EP (Bt .i64) bg)) ?_
   obtain ⟨a2, kt, ku⟩ := AF ko
   refine c0 call123 (IL bg kt) ?_; rintro _ qd _ fi o7 ⟨rfl, rfl, fj⟩
   refine AI (ln rfl) (HP (i := 0) sizeOf152 rfl rfl rfl (EP (Bt .i64) bg) (EP (Bt .i64) fj) (MJ (Bt .i64)) (AI (L' := [(df, ce (arr (cI .i64) a2) 152), (bn, ce (arr (cI .i64) ah) 152), (b7, ce ((([.slice AR walks.length AQ] : List Value) ++ (([.slice Aw Ao.length Ax] : List Value) ++ (([.int .i64 An] : List Value) ++ (([.int .i64 start] : List Value) ++ (([.slice Az Ad.length AA] : List Value) ++ (ah.flatMap (cI .i64) ++ (([.slice none 0 0] : List Value) ++ ((List.replicate 15 0).flatMap (cI .i64))))))))).toArray) 156), (b1, ce #[.slice AR walks.length AQ, .slice Aw Ao.length Ax, .int .i64 An, .int .i64 start, .slice Az Ad.length AA] 39)]) rfl (Aa ?_)))
   exact le (kc (kd kr)) ⟨ah, a2, df, ku, (dy.trans fi), rfl, z3, bg, fh, fj⟩
  have kv := Bk fg ei
  refine AW (Ae (Ae ?_))
  refine Au ?_
  obtain rfl := AH kv
  exact mi (kd kr) ⟨(fa.trans dy), rfl, z2, cg⟩
 rintro e1 fk _ ⟨cj, rfl, fl, ej⟩
 refine AB _ fl ?_
 replace ae := ae.mono (Am (Ac _)) cj
 replace ad := ad.mono (Am (Ac _)) cj
 replace ab := ab.mono (AU (Am (Ac _)) (AU (Ac _) (Ac _))) cj
 obtain ⟨bz, ck, kz, fm⟩ := DM o2
 refine A5 (fun e1 F1 L1 => ∃ (eo : Option Addr) (ep : Nat) (er : Nat) (cn : LH), A4 fk F1 ∧ L1 = ((b7, ce ((([.slice AR walks.length AQ] : List Value) ++ (([.slice Aw Ao.length Ax] : List Value) ++ (([.int .i64 An] : List Value) ++ (([.int .i64 start] : List Value) ++ (([.slice Az Ad.length AA] : List Value) ++ (aa.flatMap (cI .i64) ++ (([.slice eo ep er] : List Value) ++ (ck.flatMap (cI .i64))))))))).toArray) 156) :: (cn ++ [])) ∧ e1.sub [(5, .pointer (some ⟨b7, 0, none⟩))] ∧ Bd K.w0.heap.size 58 2 (Ce (iE .i64) (iE .i64)) F1 eo ep er bz cn ∧ ck.length = 15) ?_ ?_
 ·clear fm
  refine AJ (uv (Ab MH rfl) (uv (Ah isAgg37 rfl (Has.own 1 rfl) rfl) (uv (A2 underlying37 rfl) ?_)))
  refine um (Aa ?_)
  refine Ak ?_
  refine Br (fun o8 e1 F1 L1 => LA Ad o8 fun tl k4 => ∃ (au : List (Int × Int)) (ao : List Int) (bq : Option Addr) (br : Nat) (bu : Nat) (bb : LH), Gy Ao tl k4 au ao = some (bz, ck) ∧ A4 fk F1 ∧ L1 = ((b7, ce ((([.slice AR walks.length AQ] : List Value) ++ (([.slice Aw Ao.length Ax] : List Value) ++ (([.int .i64 An] : List Value) ++ (([.int .i64 start] : List Value) ++ (([.slice Az Ad.length AA] : List Value) ++ (aa.flatMap (cI .i64) ++ (([.slice bq br bu] : List Value) ++ (ao.flatMap (cI .i64))))))))).toArray) 156) :: ((b1, ce #[.slice AR walks.length AQ, .slice Aw Ao.length Ax, .int .i64 An, .int .i64 start, .slice Az Ad.length AA] 39) :: (bb ++ []))) ∧ e1.sub [(1, .pointer (some ⟨b1, 0, none⟩)), (5, .pointer (some ⟨b7, 0, none⟩)), (84, .slice Az Ad.length AA), (85, .int .i64 (Ad.length : Int)), (86, .int .i64 k4)] ∧ Bd K.w0.heap.size 58 2 (Ce (iE .i64) (iE .i64)) F1 bq br bu au bb ∧ ao.length = 15) _ (m0 (kc (kc (ke kr))) ⟨_, _, rfl, BI.start _, [], List.replicate 15 0, none, 0, 0, [], kz, A4.refl _, rfl, z5, Bd.nil _ _ _ _ _, List.length_replicate⟩) ?_
  rintro o8 e1 l0 _ ⟨tl, k4, fp, cp, au, ao, bq, br, bu, bb, dg, ca, rfl, fq, bj, ft⟩
  refine AB _ fq ?_
  replace ad := ad.mono (Am (Ac _)) ca
  replace ab := ab.mono (AU (Am (Ac _)) (AU (Ac _) (Ac _))) ca
  refine AJ (uv (Bp rfl rfl) ?_)
  refine Aa (Aq ?_)
  refine cQ (fun dh => ?_) fun dh => ?_
  ·obtain ⟨x5, rl, rfl, fv, fw, fx⟩ := BI.succ cp dh
   rw [Gy] at dg
   refine Al ?_
   obtain ⟨bc, bl, ld, fy⟩ := DM dg
   refine A5 (fun e1 F1 L1 => ∃ (di : Option Addr) (dk : Nat) (dm : Nat) (cb : LH), A4 l0 F1 ∧ L1 = ((b7, ce ((([.slice AR walks.length AQ] : List Value) ++ (([.slice Aw Ao.length Ax] : List Value) ++ (([.int .i64 An] : List Value) ++ (([.int .i64 start] : List Value) ++ (([.slice Az Ad.length AA] : List Value) ++ (aa.flatMap (cI .i64) ++ (([.slice di dk dm] : List Value) ++ (bl.flatMap (cI .i64))))))))).toArray) 156) :: ((b1, ce #[.slice AR walks.length AQ, .slice Aw Ao.length Ax, .int .i64 An, .int .i64 start, .slice Az Ad.length AA] 39) :: (cb ++ []))) ∧ e1.sub [(1, .pointer (some ⟨b1, 0, none⟩)), (5, .pointer (some ⟨b7, 0, none⟩)), (84, .slice Az Ad.length AA), (85, .int .i64 (Ad.length : Int)), (86, .int .i64 k4)] ∧ Bd K.w0.heap.size 58 2 (Ce (iE .i64) (iE .i64)) F1 di dk dm bc cb ∧ bl.length = 15) ?_ ?_
   ·clear fy
    refine Ak ?_
    refine AJ (um ?_)
    obtain ⟨qe, qf, qg, o9, g0, ga, cq, ⟨_, _, rfl, ⟨gb, gg, rfl, lg⟩, ⟨_, _, rfl, rfl, rfl⟩⟩, gh, gi⟩ := As.at (AU (Am (Ac _)) (AU (Ac _) (Ac _))) ab ((b7, ce ((([.slice AR walks.length AQ] : List Value) ++ (([.slice Aw Ao.length Ax] : List Value) ++ (([.int .i64 An] : List Value) ++ (([.int .i64 start] : List Value) ++ (([.slice Az Ad.length AA] : List Value) ++ (aa.flatMap (cI .i64) ++ (([.slice bq br bu] : List Value) ++ (ao.flatMap (cI .i64))))))))).toArray) 156) :: ((b1, ce #[.slice AR walks.length AQ, .slice Aw Ao.length Ax, .int .i64 An, .int .i64 start, .slice Az Ad.length AA] 39) :: (bb ++ []))) fw.1 fv
    refine uv (AT underlying37 sizeOf41 rfl g0 rfl fw) (uv (A1 (cs := #[.slice gb x5.1.length gg, .int .i64 x5.2.1, .int .i64 x5.2.2]) isAgg41 sizeOf41 rfl ga cq (Cz cq gh gi)) ?_)
    refine Bw rfl zeroValue41 ?_; intro lh oc
    refine ua (BP (i := 0) sizeOf41 rfl rfl rfl (by simp [Value.oneCell']) rfl (CB rfl) (AI (L' := (lh, ce #[.slice gb x5.1.length gg, .int .i64 x5.2.1, .int .i64 x5.2.2] 41) :: ((b7, ce ((([.slice AR walks.length AQ] : List Value) ++ (([.slice Aw Ao.length Ax] : List Value) ++ (([.int .i64 An] : List Value) ++ (([.int .i64 start] : List Value) ++ (([.slice Az Ad.length AA] : List Value) ++ (aa.flatMap (cI .i64) ++ (([.slice bq br bu] : List Value) ++ (ao.flatMap (cI .i64))))))))).toArray) 156) :: ((b1, ce #[.slice AR walks.length AQ, .slice Aw Ao.length Ax, .int .i64 An, .int .i64 start, .slice Az Ad.length AA] 39) :: (bb ++ [])))) rfl (BU (uv (Ab PV rfl) (uv (Ah isAgg33 rfl (Has.own 0 rfl) rfl) ?_)))))
    obtain ⟨y, lj, lk⟩ := AF ld
    refine c0 call125 (K0 lg lj) ?_; rintro _ qh _ cr od ⟨oe, rfl, rfl, et⟩
    replace ad := ad.mono (Am (Ac _)) cr
    replace bj := bj.mono (AU (Ac _) (Ac _)) cr
    refine AI (ln rfl) ?_
    obtain ⟨l, lq, lr⟩ := AF lk
    refine c0 call124 (M1 call186 et lq) ?_; rintro _ ct _ cu gj ⟨dn, dp, dq, ba, rfl, rfl, bk⟩
    replace ad := ad.mono (Am (Ac _)) cu
    replace bj := bj.mono (AU (Ac _) (Ac _)) cu
    replace bk := bk.new fun p hp => gj p (by simp [hp])
    refine AI (lp (ln rfl)) (kO (kf (fS fO) (kf (fS fO) (kf (fS fO) kr))) (uv ((A2 underlying33 rfl).i (Bd.KW bk)) ?_))
    refine um (Aa ?_)
    refine Ak (kW (kd kr) ?_)
    refine Br (fun og e1 F1 L1 => LA l og fun oh k5 => ∃ (af : List (Int × Int)) (az : List Int) (av : Option Addr) (aw : Nat) (ax : Nat) (ay : LH), GD Ao k4 oh af az = some (bc, bl) ∧ ct = F1 ∧ L1 = ((b7, ce ((([.slice AR walks.length AQ] : List Value) ++ (([.slice Aw Ao.length Ax] : List Value) ++ (([.int .i64 An] : List Value) ++ (([.int .i64 start] : List Value) ++ (([.slice Az Ad.length AA] : List Value) ++ (aa.flatMap (cI .i64) ++ (([.slice av aw ax] : List Value) ++ (az.flatMap (cI .i64))))))))).toArray) 156) :: ((b1, ce #[.slice AR walks.length AQ, .slice Aw Ao.length Ax, .int .i64 An, .int .i64 start, .slice Az Ad.length AA] 39) :: (ay ++ (ba ++ [])))) ∧ e1.sub [(1, .pointer (some ⟨b1, 0, none⟩)), (5, .pointer (some ⟨b7, 0, none⟩)), (9, .int .i64 k4), (84, .slice Az Ad.length AA), (85, .int .i64 (Ad.length : Int)), (86, .int .i64 k4), (94, .slice dn dp dq), (95, .int .i64 (l.length : Int)), (96, .int .i64 k5)] ∧ Bd K.w0.heap.size 58 2 (Ce (iE .i64) (iE .i64)) F1 av aw ax af ay ∧ az.length = 15) _ (m0 (kc (kc (kg (fS fP) kr))) ⟨_, _, rfl, BI.start _, au, ao, bq, br, bu, bb, lr, rfl, rfl, (sc rfl z8), bj, ft⟩) ?_
    rintro og e1 _ _ ⟨oh, k5, gk, cv, af, az, av, aw, ax, ay, dr, rfl, rfl, gl, cw, gm⟩
    refine AB _ gl (AJ (uv (Bp rfl rfl) ?_))
    refine Aa (Aq ?_)
    refine cQ (fun dt => ?_) fun dt => ?_
    ·obtain ⟨x6, rm, rfl, gn, gp, gq⟩ := BI.succ cv dt
     rw [GD] at dr
     refine Al ?_
     obtain ⟨bo, bw, lu, gr⟩ := DM dr
     refine A5 (fun e1 F1 L1 => ∃ (du : Option Addr) (dv : Nat) (dw : Nat) (cc : LH), ct = F1 ∧ L1 = ((b7, ce ((([.slice AR walks.length AQ] : List Value) ++ (([.slice Aw Ao.length Ax] : List Value) ++ (([.int .i64 An] : List Value) ++ (([.int .i64 start] : List Value) ++ (([.slice Az Ad.length AA] : List Value) ++ (aa.flatMap (cI .i64) ++ (([.slice du dv dw] : List Value) ++ (bw.flatMap (cI .i64))))))))).toArray) 156) :: ((b1, ce #[.slice AR walks.length AQ, .slice Aw Ao.length Ax, .int .i64 An, .int .i64 start, .slice Az Ad.length AA] 39) :: (cc ++ (ba ++ [])))) ∧ e1.sub [(1, .pointer (some ⟨b1, 0, none⟩)), (5, .pointer (some ⟨b7, 0, none⟩)), (9, .int .i64 k4), (84, .slice Az Ad.length AA), (85, .int .i64 (Ad.length : Int)), (86, .int .i64 k4), (94, .slice dn dp dq), (95, .int .i64 (l.length : Int)), (96, .int .i64 k5)] ∧ Bd K.w0.heap.size 58 2 (Ce (iE .i64) (iE .i64)) F1 du dv dw bo cc ∧ bw.length = 15) ?_ ?_
     ·clear gr
      refine Ak (AJ ?_)
      obtain ⟨qi, qj, qk, oi, gu, gv, lv, rfl, oj, gw⟩ := Bd.at (Ac _) bk (L := (b7, ce ((([.slice AR walks.length AQ] : List Value) ++ (([.slice Aw Ao.length Ax] : List Value) ++ (([.int .i64 An] : List Value) ++ (([.int .i64 start] : List Value) ++ (([.slice Az Ad.length AA] : List Value) ++ (aa.flatMap (cI .i64) ++ (([.slice av aw ax] : List Value) ++ (az.flatMap (cI .i64))))))))).toArray) 156) :: ((b1, ce #[.slice AR walks.length AQ, .slice Aw Ao.length Ax, .int .i64 An, .int .i64 start, .slice Az Ad.length AA] 39) :: (ay ++ (ba ++ [])))) (fC (fC (fS fP))) gp.1 gn
      refine uv (AT underlying33 sizeOf3 rfl gu rfl (Bd.idx bk gp)) (uv (Ah isAgg3 rfl gv (gw 0 (by decide))) ?_)
      refine ua (Aa ?_)
      obtain ⟨bd, lx, gz⟩ := AF lu
      refine A5 (fun e1 F1 L1 => ct = F1 ∧ L1 = ((b7, ce ((([.slice AR walks.length AQ] : List Value) ++ (([.slice Aw Ao.length Ax] : List Value) ++ (([.int .i64 An] : List Value) ++ (([.int .i64 start] : List Value) ++ (([.slice Az Ad.length AA] : List Value) ++ (aa.flatMap (cI .i64) ++ (([.slice av aw ax] : List Value) ++ (bd.flatMap (cI .i64))))))))).toArray) 156) :: ((b1, ce #[.slice AR walks.length AQ, .slice Aw Ao.length Ax, .int .i64 An, .int .i64 start, .slice Az Ad.length AA] 39) :: (ay ++ (ba ++ [])))) ∧ e1.sub [(1, .pointer (some ⟨b1, 0, none⟩)), (5, .pointer (some ⟨b7, 0, none⟩)), (9, .int .i64 k4), (12, .int .i64 x6), (84, .slice Az Ad.length AA), (85, .int .i64 (Ad.length : Int)), (86, .int .i64 k4), (94, .slice dn dp dq), (95, .int .i64 (l.length : Int)), (96, .int .i64 k5)] ∧ bd.length = 15) ?_ ?_
      ·clear gz
       refine AJ (uv (Ab Lv rfl) (uv (Ah isAgg36 rfl (Has.own 1 rfl) rfl) (uv (A2 underlying36 rfl) ?_)))
       refine um (Aa ?_)
       refine Ak ?_
       refine Br (fun oo e1 F1 L1 => LA Ao oo fun oq k6 => ∃ (al : List Int), Fv k4 af x6 oq k6 al = some bd ∧ ct = F1 ∧ L1 = ((b7, ce ((([.slice AR walks.length AQ] : List Value) ++ (([.slice Aw Ao.length Ax] : List Value) ++ (([.int .i64 An] : List Value) ++ (([.int .i64 start] : List Value) ++ (([.slice Az Ad.length AA] : List Value) ++ (aa.flatMap (cI .i64) ++ (([.slice av aw ax] : List Value) ++ (al.flatMap (cI .i64))))))))).toArray) 156) :: ((b1, ce #[.slice AR walks.length AQ, .slice Aw Ao.length Ax, .int .i64 An, .int .i64 start, .slice Az Ad.length AA] 39) :: (ay ++ (ba ++ [])))) ∧ e1.sub [(1, .pointer (some ⟨b1, 0, none⟩)), (5, .pointer (some ⟨b7, 0, none⟩)), (9, .int .i64 k4), (12, .int .i64 x6), (84, .slice Az Ad.length AA), (85, .int .i64 (Ad.length : Int)), (86, .int .i64 k4), (94, .slice dn dp dq), (95, .int .i64 (l.length : Int)), (96, .int .i64 k5), (101, .slice Aw Ao.length Ax), (102, .int .i64 (Ao.length : Int)), (103, .int .i64 k6)] ∧ al.length = 15) _ (m0 kr ⟨_, _, rfl, BI.start _, az, lx, rfl, rfl, (sc rfl (sc rfl (sc rfl (sc rfl (sc rfl z8))))), gm⟩) ?_
       rintro oo e1 _ _ ⟨oq, k6, dz, cd, al, dx, rfl, rfl, ia, bp⟩
       refine AB _ ia (AJ (uv (Bp rfl rfl) ?_))
       refine Aa (Aq ?_)
       refine cQ (fun cx => ?_) fun cx => ?_
       ·obtain ⟨x7, rp, rfl, ib, ic, e9⟩ := BI.succ cd cx
        rw [Fv] at dx
        refine Al (Aq ?_)
        refine Ak ?_
        refine AJ (um ?_)
        obtain ⟨ql, qn, qo, ot, ie, ig, ly, ⟨qp, qq, rfl, ma⟩, ou, ij⟩ := As.at (Am (Ac _)) ad ((b7, ce ((([.slice AR walks.length AQ] : List Value) ++ (([.slice Aw Ao.length Ax] : List Value) ++ (([.int .i64 An] : List Value) ++ (([.int .i64 start] : List Value) ++ (([.slice Az Ad.length AA] : List Value) ++ (aa.flatMap (cI .i64) ++ (([.slice av aw ax] : List Value) ++ (al.flatMap (cI .i64))))))))).toArray) 156) :: ((b1, ce #[.slice AR walks.length AQ, .slice Aw Ao.length Ax, .int .i64 An, .int .i64 start, .slice Az Ad.length AA] 39) :: (ay ++ (ba ++ [])))) ic.1 ib
        refine uv (AT underlying36 sizeOf33 rfl ie rfl ic) (uv (Ah isAgg33 rfl ig (ij 0 (by decide))) ?_)
        refine ua (ua (BU (um (um ?_))))
        obtain ⟨ok, mb, ik⟩ := AF dx
        refine cV call18 (En ma mb) (Aa ?_)
        refine AX rfl (fun eu => ?_) (fun eu => ?_)
        ·have mc := bt ik eu
         refine CM [(.still, 0), (.still, 1), (.still, 2), (.still, 3), (.still, 4), (.still, 5), (.still, 6), (.still, 7), (.still, 8), (.still, 9), (.still, 10), (.still, 11), (.still, 12), (.still, 13), (.still, 14), (.still, 15), (.still, 16), (.still, 17), (.still, 18), (.seq, 19)] (by kernel_rfl) (by kernel_rfl) (trivial) (by rfl) (by kernel_rfl) (mS [5] rfl (BF rfl) (mS [13] rfl (BF rfl) (mS [9] rfl (BF rfl) (mS [111] rfl (AV rfl) (mS [114] rfl (Ab Qy rfl) ?_)))))
         obtain ⟨il, me⟩ := A0 mc
         refine mS [112, 115] rfl (By underlying154 sizeOf153 rfl rfl il) ?_
         obtain ⟨im, mg⟩ := A0 me
         obtain ⟨x8, mh, iq, mj⟩ := BY mg
         have ir : (k6 * 3 + k4 : Int).toNat = (k6 : Int).toNat * 3 + (k4 : Int).toNat := by have := il; have := im; omega
         have iu := Hc (Bt .i64) bp ir iq (GM (Ar (A := ([.slice AR walks.length AQ] : List Value)) (k := 1) (o := 30) rfl (Ar (A := ([.slice Aw Ao.length Ax] : List Value)) (k := 1) (o := 29) rfl (Ar (A := ([.int .i64 An] : List Value)) (k := 1) (o := 28) rfl (Ar (A := ([.int .i64 start] : List Value)) (k := 1) (o := 27) rfl (Ar (A := ([.slice Az Ad.length AA] : List Value)) (k := 1) (o := 26) rfl (Ar (A := aa.flatMap (cI .i64)) (k := 25) (o := 1) (EJ (Bt .i64) ej) (Ar (A := ([.slice av aw ax] : List Value)) (k := 1) (o := 0) rfl (Ds (EJ (Bt .i64) bp)))))))))) (Fq (Ar (A := ([.slice AR walks.length AQ] : List Value)) (k := 1) (o := 30) rfl (Ar (A := ([.slice Aw Ao.length Ax] : List Value)) (k := 1) (o := 29) rfl (Ar (A := ([.int .i64 An] : List Value)) (k := 1) (o := 28) rfl (Ar (A := ([.int .i64 start] : List Value)) (k := 1) (o := 27) rfl (Ar (A := ([.slice Az Ad.length AA] : List Value)) (k := 1) (o := 26) rfl (Ar (A := aa.flatMap (cI .i64)) (k := 25) (o := 1) (EJ (Bt .i64) ej) (Ar (A := ([.slice av aw ax] : List Value)) (k := 1) (o := 0) rfl (Ds (EJ (Bt .i64) bp))))))))))
         refine mS [113, 116] rfl (By underlying153 sizeOf3 rfl rfl im) (mL [117] ([(b7, ce ((([.slice AR walks.length AQ] : List Value) ++ (([.slice Aw Ao.length Ax] : List Value) ++ (([.int .i64 An] : List Value) ++ (([.int .i64 start] : List Value) ++ (([.slice Az Ad.length AA] : List Value) ++ (aa.flatMap (cI .i64) ++ (([.slice av aw ax] : List Value) ++ (al.flatMap (cI .i64))))))))).toArray) 156)]) rfl (s0 (s2 (s1 (s3 (s3 sr))))) (fun H F' L' db dd => Ah isAgg3 rfl ((Has.own 0 rfl).ext db dd) ((iu).2.2 0 (by decide))) (mS [5] rfl (BF rfl) (mS [119] rfl (AV rfl) (mS [120] rfl (Ab NY rfl) (mL [121] ([(b7, ce ((([.slice AR walks.length AQ] : List Value) ++ (([.slice Aw Ao.length Ax] : List Value) ++ (([.int .i64 An] : List Value) ++ (([.int .i64 start] : List Value) ++ (([.slice Az Ad.length AA] : List Value) ++ (aa.flatMap (cI .i64) ++ (([.slice av aw ax] : List Value) ++ (al.flatMap (cI .i64))))))))).toArray) 156)]) rfl (s0 (s2 (s1 (s3 (s3 sr))))) (fun H F' L' db dd => Ah isAgg48 rfl ((Has.own 0 rfl).ext db dd) (EV (Ar (A := ([.slice AR walks.length AQ] : List Value)) (k := 1) (o := 29) rfl (Ar (A := ([.slice Aw Ao.length Ax] : List Value)) (k := 1) (o := 28) rfl (Ar (A := ([.int .i64 An] : List Value)) (k := 1) (o := 27) rfl (Ar (A := ([.int .i64 start] : List Value)) (k := 1) (o := 26) rfl (Ar (A := ([.slice Az Ad.length AA] : List Value)) (k := 1) (o := 25) rfl (Ar (A := aa.flatMap (cI .i64)) (k := 25) (o := 0) (EJ (Bt .i64) ej) (BK rfl))))))))) (mS [122] rfl ((A2 underlying48 rfl).i (Bd.KW cw)) ?_))))))
         obtain ⟨ml, mn⟩ := A0 mj
         refine mS (v := .int .i64 (shl 1 (af.length : Int))) [123] rfl (Oy rfl rfl ml) (mS (v := .int .i64 (Oe x8 (shl 1 (af.length : Int)))) [118, 124] rfl (Tx rfl rfl) (mS [111] rfl (AV rfl) (mS [126] rfl (Ab Qy rfl) ?_)))
         obtain ⟨iv, mo⟩ := A0 mn
         refine mS [112, 127] rfl (By underlying154 sizeOf153 rfl rfl iv) ?_
         obtain ⟨iw, mq⟩ := A0 mo
         have iy : (k6 * 3 + k4 : Int).toNat = (k6 : Int).toNat * 3 + (k4 : Int).toNat := by have := iv; have := iw; omega
         refine mS [113, 128] rfl (By underlying153 sizeOf3 rfl rfl iw) ?_
         refine ⟨_, [(125, .int .i64 (Oe x8 (shl 1 (af.length : Int)))), (129, .pointer (some ⟨b7, 31 + (k6 : Int).toNat * 3 + (k4 : Int).toNat * 1, none⟩))], rfl, rfl, z2, by kernel_rfl, ?_⟩; intro H
         obtain ⟨mr, iz, mu⟩ := C3 mq
         have mv : mr.length = 15 := by rw [iz, List.length_set]; exact bp
         refine I3 (i := 0) sizeOf3 rfl (by have := iy; omega) rfl rfl rfl (CA (A := ([.slice AR walks.length AQ] : List Value)) (k := 1) rfl (CA (A := ([.slice Aw Ao.length Ax] : List Value)) (k := 1) rfl (CA (A := ([.int .i64 An] : List Value)) (k := 1) rfl (CA (A := ([.int .i64 start] : List Value)) (k := 1) rfl (CA (A := ([.slice Az Ad.length AA] : List Value)) (k := 1) rfl (CA (A := aa.flatMap (cI .i64)) (k := 25) (EJ (Bt .i64) ej) (CA (A := ([.slice av aw ax] : List Value)) (k := 1) rfl (Qh (p := (k6 * 3 + k4 : Int).toNat) (Bt .i64) (u := Oe x8 (shl 1 (af.length : Int))) rfl bp (by have := mh; have := bp; omega) ct)))))))) ?_
         refine AI (L' := (b7, ce ((([.slice AR walks.length AQ] : List Value) ++ (([.slice Aw Ao.length Ax] : List Value) ++ (([.int .i64 An] : List Value) ++ (([.int .i64 start] : List Value) ++ (([.slice Az Ad.length AA] : List Value) ++ (aa.flatMap (cI .i64) ++ (([.slice av aw ax] : List Value) ++ (mr.flatMap (cI .i64))))))))).toArray) 156) :: ((b1, ce #[.slice AR walks.length AQ, .slice Aw Ao.length Ax, .int .i64 An, .int .i64 start, .slice Az Ad.length AA] 39) :: (ay ++ (ba ++ [])))) (by rw [iz]; rfl) ?_
         refine Aa ⟨undef, rfl, A4.refl _, [], by kernel_rfl, .inl (.inl rfl), nm, ?_⟩
         refine D1 ?_
         refine At (id := 11) (Af ?_)
         refine uv (Bf rfl rfl (BI.Ed cd cx (As.lt ad))) ?_
         refine um (Aa ?_)
         subst dz; exact le kr ⟨_, _, rfl, e9, mr, mu, rfl, rfl, (sc rfl (sc rfl (sc rfl (sc rfl (sc rfl z8))))), mv⟩
        have mw := bf ik eu
        refine Al (At (id := 11) (Af ?_))
        refine uv (Bf rfl rfl (BI.Ed cd cx (As.lt ad))) ?_
        refine um (Aa ?_)
        subst dz; exact le kr ⟨_, _, rfl, e9, al, mw, rfl, rfl, (sc rfl (sc rfl (sc rfl (sc rfl (sc rfl z8))))), bp⟩
       obtain rfl := BI.zero cd cx
       rw [Fv] at dx
       refine AW (Ae (Ae ?_))
       refine Au ?_
       obtain rfl := AH dx
       exact mi kr ⟨rfl, rfl, (sc rfl (sc rfl z8)), bp⟩
      rintro e1 _ _ ⟨rfl, rfl, j0, mx⟩
      refine AB _ j0 ?_
      refine Af (um (um ?_))
      refine uv (AV rfl) (uv (Ab NY rfl) (uv (Ah isAgg48 rfl (Has.own 0 rfl) (EV (Ar (A := ([.slice AR walks.length AQ] : List Value)) (k := 1) (o := 29) rfl (Ar (A := ([.slice Aw Ao.length Ax] : List Value)) (k := 1) (o := 28) rfl (Ar (A := ([.int .i64 An] : List Value)) (k := 1) (o := 27) rfl (Ar (A := ([.int .i64 start] : List Value)) (k := 1) (o := 26) rfl (Ar (A := ([.slice Az Ad.length AA] : List Value)) (k := 1) (o := 25) rfl (Ar (A := aa.flatMap (cI .i64)) (k := 25) (o := 0) (EJ (Bt .i64) ej) (BK rfl))))))))) ?_))
      refine um (um ?_)
      refine uv (BM (v := .agg #[.int .i64 k4, .int .i64 x6]) rfl (by intro w; kernel_rfl)) ?_
      refine bA (cs := #[.int .i64 k4, .int .i64 x6]) Vv [.agg #[.int .i64 k4, .int .i64 x6]] ?_; intro qs ow
      obtain ⟨c, my, mz, na⟩ := Gp gz
      refine Ey (xs := af) (ys := [(k4, x6)]) (zs := c) rfl Vv rfl rfl (Nat.le_refl _) (fun _ => .c (.c (.c .h))) cw (GJ.box (vss := [[.int .i64 k4, .int .i64 x6]]) (ys := [(k4, x6)]) 0 rfl (AU (Ac _) (Ac _)) (.cons ⟨_, _, rfl, rfl, rfl⟩ .nil) rfl rfl) my mz (by decide) ?_; intro j1 j2 j3 eb j4
      refine kO (kd kr) (uv (AV rfl) (uv (Ab NY rfl) (I3 (i := 0) sizeOf48 rfl rfl rfl rfl rfl (CA (A := ([.slice AR walks.length AQ] : List Value)) (k := 1) (p := 29) rfl (CA (A := ([.slice Aw Ao.length Ax] : List Value)) (k := 1) (p := 28) rfl (CA (A := ([.int .i64 An] : List Value)) (k := 1) (p := 27) rfl (CA (A := ([.int .i64 start] : List Value)) (k := 1) (p := 26) rfl (CA (A := ([.slice Az Ad.length AA] : List Value)) (k := 1) (p := 25) rfl (CA (A := aa.flatMap (cI .i64)) (k := 25) (p := 0) (EJ (Bt .i64) ej) (PH (B := bd.flatMap (cI .i64)) Xf))))))) (AI (L' := (b7, ce ((([.slice AR walks.length AQ] : List Value) ++ (([.slice Aw Ao.length Ax] : List Value) ++ (([.int .i64 An] : List Value) ++ (([.int .i64 start] : List Value) ++ (([.slice Az Ad.length AA] : List Value) ++ (aa.flatMap (cI .i64) ++ (([.slice j1 j2 j3] : List Value) ++ (bd.flatMap (cI .i64))))))))).toArray) 156) :: ((b1, ce #[.slice AR walks.length AQ, .slice Aw Ao.length Ax, .int .i64 An, .int .i64 start, .slice Az Ad.length AA] 39) :: (eb ++ (ba ++ [])))) rfl ?_))))
      refine Aa (At (id := 9) ?_)
      obtain ⟨rfl, rfl⟩ := DO na
      exact mi kr ⟨j1, j2, j3, eb, rfl, rfl, (sc rfl z8), j4, mx⟩
     rintro e1 _ _ ⟨du, dv, dw, cc, rfl, rfl, j5, j6, nc⟩
     refine AB _ j5 (Af (uv (Bf rfl rfl (BI.Ed cv dt (Bd.UW bk))) ?_))
     refine um (Aa ?_)
     subst gk; exact le kr ⟨_, _, rfl, gq, bo, bw, du, dv, dw, cc, gr, rfl, rfl, (sc rfl z8), j6, nc⟩
    obtain rfl := BI.zero cv dt
    rw [GD] at dr
    refine AW (Ae (Ae ?_))
    refine Au (At (id := 7) ?_)
    obtain ⟨rfl, rfl⟩ := DO dr
    exact mi (kc (kc (ka kn))) ⟨av, aw, ax, ay, (cr.trans cu), rfl, z5, cw, gm⟩
   rintro e1 qt _ ⟨di, dk, dm, cb, ec, rfl, j7, j8, nf⟩
   refine AB _ j7 ?_
   replace ab := ab.mono (AU (Am (Ac _)) (AU (Ac _) (Ac _))) ec
   refine Af (uv (Bf rfl rfl (BI.Ed cp dh (As.lt ab))) ?_)
   refine um (Aa ?_)
   subst fp; exact le kr ⟨_, _, rfl, fx, bc, bl, di, dk, dm, cb, fy, (ca.trans ec), rfl, z5, j8, nf⟩
  obtain rfl := BI.zero cp dh
  rw [Gy] at dg
  refine AW (Ae (Ae ?_))
  refine Au ?_
  obtain ⟨rfl, rfl⟩ := DO dg
  exact mi (kc (kd kr)) ⟨bq, br, bu, bb, ca, rfl, z1, bj, ft⟩
 rintro e1 qu _ ⟨eo, ep, er, cn, cy, rfl, j9, ef, ng⟩
 refine AB _ j9 ?_
 replace ae := ae.mono (Am (Ac _)) cy
 replace ad := ad.mono (Am (Ac _)) cy
 replace ab := ab.mono (AU (Am (Ac _)) (AU (Ac _) (Ac _))) cy
 refine AJ (um (ua (ua (Aa ?_))))
 obtain rfl := (Bd.Dx ef).1
 refine Pp (Nat.le_refl _) (AU (Ac _) (Ac _)) (fC fP) ef ?_; intro qw cz ew
 replace ae := ae.mono (Am (Ac _)) cz
 replace ad := ad.mono (Am (Ac _)) cz
 replace ab := ab.mono (AU (Am (Ac _)) (AU (Ac _) (Ac _))) cz
 refine B1 0 rfl oy ?_; intro qx cf ja
 refine DT (L' := []) rfl ?_
 replace ae := ae.mono (Am (Ac _)) cf
 replace ad := ad.mono (Am (Ac _)) cf
 replace ab := ab.mono (AU (Am (Ac _)) (AU (Ac _) (Ac _))) cf
 replace ew := ew.mono (AU (Ac _) (Ac _)) cf
 refine Aj (Dv results49 (AY rfl) (AY rfl) (sr) ?_)
 obtain ⟨rfl, rfl⟩ := DO fm
 exact ⟨_, rfl, rfl, ⟨_, _, _, rfl, ja, ⟨_, _, rfl, ⟨_, _, rfl, ae⟩, ⟨_, _, rfl, ⟨_, _, rfl, ad⟩, ⟨_, _, rfl, rfl, ⟨_, _, rfl, rfl, ⟨_, _, rfl, ⟨_, _, rfl, ab⟩, ⟨_, _, rfl, ⟨rfl, ej⟩, ⟨_, _, rfl, ⟨_, _, rfl, ew⟩, ⟨rfl, ng⟩⟩⟩⟩⟩⟩⟩⟩⟩⟩
set_option maxHeartbeats 1000000 in
theorem LK {Ao : List (List Int)} {Ad : List ((List Int) × Int × Int)} {af : Nat} {az : Nat × Nat} (aj : F Mv = some (.cells #[.pointer (some ⟨VZ, 0, none⟩)] 147 Tk)) (ae : F VZ = some (.cells ((([.slice AR walks.length AQ] : List Value) ++ (([.slice Aw Ao.length Ax] : List Value) ++ (([.int .i64 An] : List Value) ++ (([.int .i64 start] : List Value) ++ (([.slice Az Ad.length AA] : List Value) ++ (BR.flatMap (cI .i64) ++ (([.slice Ej Ca.length El] : List Value) ++ (HG.flatMap (cI .i64))))))))).toArray) 156 WM)) (_cb : As 1 (BC 1 (iE .i64)) F AR AQ walks) (ad : As 1 (BC 1 (iE .i64)) F Aw Ax Ao) (aa : As 3 (Ce (BC 1 (iE .i64)) (Ce (iE .i64) (iE .i64))) F Az AA Ad) (al : BR.length = 25) (_cc : As 2 (Ce (iE .i64) (iE .i64)) F Ej El Ca) (ax : HG.length = 15) (ab : F af = some (.cells #[.int .i64 Eh] 3 az)) {xs : List ((Int × Int) × Int)} (hr : Hi walks Ao An start Ad BR Ca HG Eh = some xs) :
    ES Tryz.prog 187 #[] #[.pointer (some ⟨Mv, 0, none⟩), .pointer (some ⟨af, 0, none⟩)] F (fun x : (Int × Int) × Int => #[.agg ((cP (cI .i64) (cI .i64)) x.1).toArray, .int .i64 x.2]) xs := by
 intro G0 bp yv J Jx eb dp hy Fc L0 hG dq
 replace aj := (bp.trans hG) _ _ aj
 replace ae := (bp.trans hG) _ _ ae
 replace ad := ad.mono (Am (Ac _)) (bp.trans hG)
 replace aa := aa.mono (AU (Am (Ac _)) (AU (Ac _) (Ac _))) (bp.trans hG)
 replace ab := (bp.trans hG) _ _ ab
 have bk : xs = [] ++ xs := rfl
 show SH.Spec Tryz.prog 187 #[yv, .pointer (some ⟨Mv, 0, none⟩), .pointer (some ⟨af, 0, none⟩)] Fc L0 _
 refine sp func187 ntmps187 fun K _ _ => ?_
 rw [Hi] at hr; refine DT (L' := L0 ++ []) (by simp) ?_
 refine AJ (uv (Ah isAgg147 rfl (Has.frozen aj) rfl) (uv (AV rfl) (uv (Ab J4 rfl) (uv (Ab Lv rfl) (uv (Ah isAgg36 rfl (Has.frozen ae) (EV (Ar (A := ([.slice AR walks.length AQ] : List Value)) (k := 1) (o := 0) rfl (BK rfl)))) (uv (A2 underlying36 rfl) ?_))))))
 refine um (Aa ?_)
 refine Ak ?_
 refine Br (fun da e1 F1 L1 => LA Ao da fun tl k => ∃ (ba : List ((Int × Int) × Int)) (bb : List ((Int × Int) × Int)) (cd : LH), CK Ad HG Eh tl k = some bb ∧ A4 Fc F1 ∧ L1 = (cd ++ []) ∧ e1.sub [(0, yv), (1, .pointer (some ⟨Mv, 0, none⟩)), (2, .pointer (some ⟨af, 0, none⟩)), (12, .int .i64 (Ao.length : Int)), (13, .int .i64 k)] ∧ xs = ba ++ bb ∧ J ba F1 cd ∧ A4 G0 F1) _ (m0 kr ⟨_, _, rfl, BI.start _, [], xs, L0, hr, A4.refl _, rfl, z5, bk, dq, hG⟩) ?_
 rintro da e1 db _ ⟨tl, k, dr, cj, ba, bb, cd, r8, av, rfl, dt, ay, dd, hG⟩
 refine AB _ dt ?_
 replace ad := ad.mono (Am (Ac _)) av
 replace aa := aa.mono (AU (Am (Ac _)) (AU (Ac _) (Ac _))) av
 replace ae := av _ _ ae
 replace aj := av _ _ aj
 replace ab := av _ _ ab
 refine AJ (uv (Bp rfl rfl) ?_)
 refine Aa (Aq ?_)
 refine cQ (fun cf => ?_) fun cf => ?_
 ·obtain ⟨x, de, rfl, du, ec, ck⟩ := BI.succ cj cf
  rw [CK] at r8
  refine Al ?_
  refine A5 (fun e1 F1 L1 => ∃ (ar : List ((Int × Int) × Int)) (au : List ((Int × Int) × Int)) (bc : LH), Gh k (CK Ad HG Eh de) = some au ∧ A4 db F1 ∧ L1 = (bc ++ []) ∧ e1.sub [(0, yv), (1, .pointer (some ⟨Mv, 0, none⟩)), (2, .pointer (some ⟨af, 0, none⟩)), (12, .int .i64 (Ao.length : Int)), (13, .int .i64 k)] ∧ xs = ar ++ au ∧ J ar F1 bc ∧ A4 G0 F1) ?_ ?_
  ·refine Ak ?_
   refine AJ (um (ua (BU ?_)))
   refine uv (Ah isAgg147 rfl (Has.frozen aj) rfl) (uv (AV rfl) (uv (Ab J4 rfl) (uv (Ab MH rfl) (uv (Ah isAgg37 rfl (Has.frozen ae) (EV (Ar (A := ([.slice AR walks.length AQ] : List Value)) (k := 1) (o := 3) rfl (Ar (A := ([.slice Aw Ao.length Ax] : List Value)) (k := 1) (o := 2) rfl (Ar (A := ([.int .i64 An] : List Value)) (k := 1) (o := 1) rfl (Ar (A := ([.int .i64 start] : List Value)) (k := 1) (o := 0) rfl (BK rfl))))))) (uv (A2 underlying37 rfl) ?_)))))
   refine um (Aa ?_)
   refine Ak ?_
   refine Br (fun df e1 F1 L1 => LA Ad df fun dg k2 => ∃ (ah : List ((Int × Int) × Int)) (ao : List ((Int × Int) × Int)) (aw : LH), De HG Eh k (CK Ad HG Eh de) dg k2 = some ao ∧ A4 db F1 ∧ L1 = (aw ++ []) ∧ e1.sub [(0, yv), (1, .pointer (some ⟨Mv, 0, none⟩)), (2, .pointer (some ⟨af, 0, none⟩)), (4, .int .i64 k), (12, .int .i64 (Ao.length : Int)), (13, .int .i64 k), (21, .int .i64 (Ad.length : Int)), (22, .int .i64 k2)] ∧ xs = ah ++ ao ∧ J ah F1 aw ∧ A4 G0 F1) _ (m0 kr ⟨_, _, rfl, BI.start _, ba, bb, cd, r8, A4.refl _, rfl, z8, ay, dd, hG⟩) ?_
   rintro df e1 ef _ ⟨dg, k2, bq, bd, ah, ao, aw, cg, aq, rfl, cn, ai, bl, hG⟩
   refine AB _ cn ?_
   replace aa := aa.mono (AU (Am (Ac _)) (AU (Ac _) (Ac _))) aq
   replace ae := aq _ _ ae
   replace aj := aq _ _ aj
   replace ab := aq _ _ ab
   refine AJ (uv (Bp rfl rfl) ?_)
   refine Aa (Aq ?_)
   refine cQ (fun br => ?_) fun br => ?_
   ·obtain ⟨x2, eg, rfl, dv, eh, bu⟩ := BI.succ bd br
    rw [De] at cg
    refine Al (Aq ?_)
    refine Ak ?_
    refine AJ (um (ua ?_))
    refine dN (wv (Ah isAgg3 rfl (Has.frozen ab) rfl) (wv (Ah isAgg147 rfl (Has.frozen aj) rfl) ?_))
    refine wm (wm ?_)
    refine wv (AV rfl) (wv (Ab Qy rfl) ?_)
    obtain ⟨dh, dw⟩ := A0 cg
    refine wv (By underlying154 sizeOf153 rfl rfl dh) ?_
    obtain ⟨di, dx⟩ := A0 dw
    obtain ⟨x3, ei, cp, dk⟩ := BY dx
    have cq : (k * 3 + k2 : Int).toNat = (k : Int).toNat * 3 + (k2 : Int).toNat := by have := dh; have := di; omega
    have cr := Hc (Bt .i64) ax cq cp (GM (Ar (A := ([.slice AR walks.length AQ] : List Value)) (k := 1) (o := 30) rfl (Ar (A := ([.slice Aw Ao.length Ax] : List Value)) (k := 1) (o := 29) rfl (Ar (A := ([.int .i64 An] : List Value)) (k := 1) (o := 28) rfl (Ar (A := ([.int .i64 start] : List Value)) (k := 1) (o := 27) rfl (Ar (A := ([.slice Az Ad.length AA] : List Value)) (k := 1) (o := 26) rfl (Ar (A := BR.flatMap (cI .i64)) (k := 25) (o := 1) (EJ (Bt .i64) al) (Ar (A := ([.slice Ej Ca.length El] : List Value)) (k := 1) (o := 0) rfl (Ds (EJ (Bt .i64) ax)))))))))) (Fq (Ar (A := ([.slice AR walks.length AQ] : List Value)) (k := 1) (o := 30) rfl (Ar (A := ([.slice Aw Ao.length Ax] : List Value)) (k := 1) (o := 29) rfl (Ar (A := ([.int .i64 An] : List Value)) (k := 1) (o := 28) rfl (Ar (A := ([.int .i64 start] : List Value)) (k := 1) (o := 27) rfl (Ar (A := ([.slice Az Ad.length AA] : List Value)) (k := 1) (o := 26) rfl (Ar (A := BR.flatMap (cI .i64)) (k := 25) (o := 1) (EJ (Bt .i64) al) (Ar (A := ([.slice Ej Ca.length El] : List Value)) (k := 1) (o := 0) rfl (Ds (EJ (Bt .i64) ax))))))))))
    refine wv (By underlying153 sizeOf3 rfl rfl di) (wv (Ah isAgg3 rfl (Has.frozen ae) ((cr).2.2 0 (by decide))) (wv (SQ rfl rfl) ?_))
    refine wa (Ye (um ?_))
    refine uv (Ah isAgg3 rfl (Has.frozen ab) rfl) (uv (CI rfl rfl) (um ?_))
    by_cases ak : (Nb Eh x3) ≠ Eh
    ·have dy := Bi dk ak
     refine nT ak (um (nT ak (um (nT ak (um (nT ak ?_))))))
     refine uv (BM (v := .agg #[.int .i64 k, .int .i64 k2]) rfl (by intro w; kernel_rfl)) ?_
     refine nT ak (um (nT ak ?_))
     obtain ⟨bn, dz, bw⟩ := Qg dy
     refine LJ (Lb := aw) (Lr := []) (vs := [.agg #[.int .i64 k, .int .i64 k2], .int .i64 (Nb Eh x3)]) rfl rfl rfl fP (hy ah ((k, k2), Nb Eh x3) bn (by rw [ai, bw]) _ _ hG bl) ?_
     rintro ej eo ct bo cu; obtain ⟨e9, rfl, bx, bz⟩ := HZ cu
     replace aa := aa.mono (AU (Am (Ac _)) (AU (Ac _) (Ac _))) bo
     replace hG := hG.trans bo
     refine nT ak (uv (BB rfl) (uv (AS (Bq rfl ak) rfl) (Aa ?_)))
     refine AX rfl (fun cv => ?_) (fun cv => ?_)
     ·have cw := bz (by simpa using cv)
      refine Aj (AD (Ai (Ai (AD (AD (Ai (Ai (AD ?_))))))))
      refine Gs (.inl rfl) results187 (sr) ?_
      exact .inr (by rw [List.append_nil]; exact cw)
     have cx := bx (by simpa using cv)
     have bg : xs = (ah ++ [((k, k2), Nb Eh x3)]) ++ bn := by rw [ai, bw]; simp
     refine Al (At (id := 3) (Af ?_))
     refine uv (Bf rfl rfl (BI.Ed bd br (As.lt aa))) ?_
     refine um (Aa ?_)
     subst bq; exact le kr ⟨_, _, rfl, bu, ah ++ [((k, k2), Nb Eh x3)], bn, ct, dz, (aq.trans bo), rfl, z8, bg, cx, hG⟩
    have Ed := Bk dk ak
    refine fF ak (fF ak (fF ak (fF ak (fF ak (fF ak (fF ak ?_))))))
    refine uv (AE (Bc rfl ak) rfl) (Aa ?_)
    refine AX rfl (fun dm => nomatch dm) (fun dm => ?_)
    refine Al (At (id := 3) (Af ?_))
    refine uv (Bf rfl rfl (BI.Ed bd br (As.lt aa))) ?_
    refine um (Aa ?_)
    subst bq; exact le kr ⟨_, _, rfl, bu, ah, ao, aw, Ed, aq, rfl, z8, ai, bl, hG⟩
   obtain rfl := BI.zero bd br
   rw [De] at cg
   refine AW (Ae (Ae ?_))
   refine Au (At (id := 1) ?_)
   exact mi kr ⟨ah, ao, aw, cg, aq, rfl, z5, ai, bl, hG⟩
  rintro e1 ep _ ⟨ar, au, bc, dn, ca, rfl, cy, bj, cz, hG⟩
  refine AB _ cy ?_
  replace ad := ad.mono (Am (Ac _)) ca
  rw [Gh] at dn
  refine Af (uv (Bf rfl rfl (BI.Ed cj cf (As.lt ad))) ?_)
  refine um (Aa ?_)
  subst dr; exact le kr ⟨_, _, rfl, ck, ar, au, bc, dn, (av.trans ca), rfl, z5, bj, cz, hG⟩
 obtain rfl := BI.zero cj cf
 rw [CK] at r8
 refine AW (Ae (Ae ?_))
 refine Au (Gs (.inr rfl) results187 (sr) ?_)
 obtain rfl := AH r8
 exact .inl (by have e1 := ay; rw [List.append_nil] at e1; rw [List.append_nil, e1]; exact dd)
set_option maxHeartbeats 1000000 in
theorem My {Ao : List (List Int)} {Ad : List ((List Int) × Int × Int)} (af : F Mv = some (.cells ((([.slice AR walks.length AQ] : List Value) ++ (([.slice Aw Ao.length Ax] : List Value) ++ (([.int .i64 An] : List Value) ++ (([.int .i64 start] : List Value) ++ (([.slice Az Ad.length AA] : List Value) ++ (BR.flatMap (cI .i64) ++ (([.slice Ej Ca.length El] : List Value) ++ (HG.flatMap (cI .i64))))))))).toArray) 156 Tk)) (ab : As 1 (BC 1 (iE .i64)) F AR AQ walks) (ad : As 1 (BC 1 (iE .i64)) F Aw Ax Ao) (aa : As 3 (Ce (BC 1 (iE .i64)) (Ce (iE .i64) (iE .i64))) F Az AA Ad) (ah : BR.length = 25) (ae : As 2 (Ce (iE .i64) (iE .i64)) F Ej El Ca) (aj : HG.length = 15) {r : List ((Int × Int) × Int)} (hr : H9 walks Ao An start Ad BR Ca HG Eh = some r) :
    SH.Spec Tryz.prog 127 #[.pointer (some ⟨Mv, 0, none⟩), .int .i64 Eh] F [] fun F' L' v => ∃ (aq : Array Value), v = .func (.func 187) #[] aq ∧ L' = [] ∧ ES Tryz.prog 187 #[] aq F' (fun x : (Int × Int) × Int => #[.agg ((cP (cI .i64) (cI .i64)) x.1).toArray, .int .i64 x.2]) r := by
 refine sp func127 ntmps127 fun K _ _ => ?_
 rw [H9] at hr
 refine AJ ?_
 refine BJ rfl rfl ?_; intro b1 ar
 refine BJ rfl rfl ?_; intro b2 au
 refine ua (BU ?_)
 refine uv (BT rfl rfl) ?_
 refine ua (Aa ?_)
 refine B1 1 rfl ar ?_; intro F3 ak ao
 refine DT (L' := [(b2, ce #[.int .i64 Eh] 3)]) rfl ?_
 replace ab := ab.mono (Am (Ac _)) ak
 replace ad := ad.mono (Am (Ac _)) ak
 replace aa := aa.mono (AU (Am (Ac _)) (AU (Ac _) (Ac _))) ak
 replace ae := ae.mono (AU (Ac _) (Ac _)) ak
 replace af := ak _ _ af
 refine B1 0 rfl au ?_; intro F6 ai av
 refine DT (L' := []) rfl ?_
 replace ab := ab.mono (Am (Ac _)) ai
 replace ad := ad.mono (Am (Ac _)) ai
 replace aa := aa.mono (AU (Am (Ac _)) (AU (Ac _) (Ac _))) ai
 replace ae := ae.mono (AU (Ac _) (Ac _)) ai
 replace af := ai _ _ af
 replace ao := ai _ _ ao
 obtain ⟨l, h9, aw⟩ := AF hr
 have al : ES Tryz.prog 187 #[] #[.pointer (some ⟨b1, 0, none⟩), .pointer (some ⟨b2, 0, none⟩)] F6 (fun x : (Int × Int) × Int => #[.agg ((cP (cI .i64) (cI .i64)) x.1).toArray, .int .i64 x.2]) l := LK ao af ab ad aa ah ae aj av h9
 refine Aj (BZ results127 ?_)
 obtain rfl := AH aw
 exact ⟨_, rfl, rfl, al⟩
set_option maxHeartbeats 1000000 in
theorem HB {s_ : List (Int × Int)} (ah : Bd IK 64 2 (Ce (iE .i64) (iE .i64)) F Cj HD Ck s_ I8) {r : List (Int × Int)} (hr : DS s_ = some r) :
    SH.Spec Tryz.prog 128 #[.slice Cj HD Ck] F (I8 ++ []) fun F' L' v => ∃ (rL : LH), v = .tuple #[] ∧ L' = rL ++ [] ∧ Bd IK 64 2 (Ce (iE .i64) (iE .i64)) F' Cj HD Ck r rL := by
 refine sp func128 ntmps128 fun K _ _ => ?_
 rw [DS] at hr
 refine DT (L' := I8 ++ []) (by simp) ?_
 refine AJ (um ?_)
 refine uv ((A2 underlying51 rfl).i (Bd.KW ah)) ?_
 obtain ⟨g1, r2⟩ := A0 hr
 refine uv (Fs rfl rfl g1) ?_
 refine ua (ua (Aa ?_))
 refine Ak ?_
 refine Br (fun ao e1 F1 L1 => ∃ (aq : List (Int × Int)) (i : Int) (j : Int) (aa : LH), B7 ao aq i j = some r ∧ F = F1 ∧ L1 = (aa ++ []) ∧ e1.sub [(0, .slice Cj HD Ck), (2, .int .i64 i), (3, .int .i64 j)] ∧ Bd IK 64 2 (Ce (iE .i64) (iE .i64)) F1 Cj HD Ck aq aa) FU (m0 kr ⟨s_, 0, (s_.length : Int) - 1, I8, r2, rfl, rfl, z3, ah⟩) ?_
 rintro ao e1 _ _ ⟨aq, i, j, aa, r7, rfl, rfl, br, ab⟩
 refine AB _ br ?_
 rcases ao with _ | ao
 ·rw [B7] at r7; cases r7
 rw [B7] at r7
 refine Aq (AJ (um (um ?_)))
 refine uv (Bp rfl rfl) (Aa ?_)
 refine cQ (fun c9 => ?_) fun c9 => ?_
 ·have bu := Bi r7 c9
  refine Al (Aq ?_)
  refine Ak (CM [(.still, 0), (.still, 1), (.still, 2), (.still, 3), (.still, 4), (.still, 5), (.still, 6), (.still, 7), (.still, 8), (.still, 9), (.still, 10), (.still, 11), (.still, 12), (.seq, 13), (.still, 14), (.seq, 15)] (by kernel_rfl) (by kernel_rfl) (trivial) (by rfl) (by kernel_rfl) (mS [0] rfl (BF rfl) (mS [2] rfl (BF rfl) (mS [0] rfl (BF rfl) (mS [3] rfl (BF rfl) (mS [0] rfl (BF rfl) (mS [3] rfl (BF rfl) ?_)))))))
  obtain ⟨x, bo, ar, bw⟩ := BY bu
  obtain ⟨df, dg, dh, bx, au, av, ad, ⟨_, _, rfl, rfl, rfl⟩, aw, ax⟩ := Bd.at (AU (Ac _) (Ac _)) ab (L := aa ++ []) fP bo.1 ar
  refine mS [18, 19] rfl (AT underlying51 sizeOf64 rfl au rfl (Bd.idx ab bo)) (mL [20] (aa ++ []) rfl (s0 sr) (fun H F' L' ay az => A1 isAgg64 sizeOf64 rfl (av.ext ay az) ad (Cz ad aw ax)) (mS [0] rfl (BF rfl) (mS [2] rfl (BF rfl) ?_)))
  obtain ⟨x2, ai, aj, bz⟩ := BY bw
  obtain ⟨di, dk, dm, ca, ba, bb, ae, ⟨_, _, rfl, rfl, rfl⟩, bc, bd⟩ := Bd.at (AU (Ac _) (Ac _)) ab (L := aa ++ []) fP ai.1 aj
  refine mS [22, 23] rfl (AT underlying51 sizeOf64 rfl ba rfl (Bd.idx ab ai)) (mL [24] (aa ++ []) rfl (s0 sr) (fun H F' L' ay az => A1 isAgg64 sizeOf64 rfl (bb.ext ay az) ae (Cz ae bc bd)) ?_)
  obtain ⟨cb, cc, dn, cd, ak, cf, bp, ⟨_, _, rfl, rfl, rfl⟩, cg, cj⟩ := Bd.at (AU (Ac _) (Ac _)) ab (L := aa ++ []) fP ai.1 aj
  refine mS [14, 15] rfl (AT underlying51 sizeOf64 rfl ak rfl (Bd.idx ab ai)) ?_
  refine ⟨_, [(21, .agg #[.int .i64 x.1, .int .i64 x.2]), (26, .pointer (some ⟨cb, cc + (i : Int).toNat * 2, none⟩))], rfl, rfl, z2, by kernel_rfl, ?_⟩; intro H
  obtain ⟨l, ck, cn⟩ := C3 bz
  refine G5 (u := (x.1, x.2)) sizeOf64 (AU (Ac _) (Ac _)) rfl ak rfl ⟨_, _, rfl, rfl, rfl⟩ (fun _ => .h) ab ck ai ?_; intro bg af
  refine Aa ⟨undef, rfl, A4.refl _, [3, 2], by kernel_rfl, .inl (.inr (fun d h => by cases h)), (fc sm (fc sm nm)), ?_⟩
  obtain ⟨x3, bj, bk, cp⟩ := BY cn
  obtain ⟨cq, cr, dp, ct, al, cu, bq, ⟨_, _, rfl, rfl, rfl⟩, cv, cw⟩ := Bd.at (AU (Ac _) (Ac _)) af (L := bg ++ []) fP bj.1 bk
  refine mS [16, 17] rfl (AT underlying51 sizeOf64 rfl al rfl (Bd.idx af bj)) ?_
  refine ⟨_, [(25, .agg #[.int .i64 x2.1, .int .i64 x2.2]), (27, .pointer (some ⟨cq, cr + (j : Int).toNat * 2, none⟩))], rfl, rfl, z2, by kernel_rfl, ?_⟩; intro H
  obtain ⟨l2, cx, cy⟩ := C3 cp
  refine G5 (u := (x2.1, x2.2)) sizeOf64 (AU (Ac _) (Ac _)) rfl al rfl ⟨_, _, rfl, rfl, rfl⟩ (fun _ => .h) af cx bj ?_; intro bl bn
  refine Aa ⟨undef, rfl, A4.refl _, [], by kernel_rfl, .inl (.inl rfl), nm, ?_⟩
  refine D1 ?_
  refine At (id := 1) (Af (um ?_))
  obtain ⟨cz, da⟩ := A0 cy
  refine uv (Bf rfl rfl cz) (um ?_)
  obtain ⟨db, dd⟩ := A0 da
  refine uv (Fs rfl rfl db) ?_
  refine ua (ua (Aa ?_))
  exact le kr ⟨l2, i + 1, j - 1, bl, dd, rfl, rfl, z3, bn⟩
 have de := Bk r7 c9
 refine AW (Ae (Ae ?_))
 refine Au (QD (.inr rfl) results128 ?_)
 obtain rfl := AH de
 exact ⟨_, rfl, rfl, ab⟩
set_option maxHeartbeats 1000000 in
theorem MX {Ao : List (List Int)} {Ad : List ((List Int) × Int × Int)} {ba : FuncId} {bb bc : Array Value} {ok : (Int × Int) → Option Bool} (ao : F Mv = some (.cells ((([.slice AR walks.length AQ] : List Value) ++ (([.slice Aw Ao.length Ax] : List Value) ++ (([.int .i64 An] : List Value) ++ (([.int .i64 start] : List Value) ++ (([.slice Az Ad.length AA] : List Value) ++ (BR.flatMap (cI .i64) ++ (([.slice Ej Ca.length El] : List Value) ++ (HG.flatMap (cI .i64))))))))).toArray) 156 Tk)) (av : As 1 (BC 1 (iE .i64)) F AR AQ walks) (ai : As 1 (BC 1 (iE .i64)) F Aw Ax Ao) (ah : As 3 (Ce (BC 1 (iE .i64)) (Ce (iE .i64) (iE .i64))) F Az AA Ad) (aw : BR.length = 25) (ax : As 2 (Ce (iE .i64) (iE .i64)) F Ej El Ca) (eo : HG.length = 15) (bj : Gk Tryz.prog F ba bb bc (Ce (iE .i64) (iE .i64)) Value.bool ok) {r : List (Int × Int)} {r2 : Int} {r3 : Bool} (hr : Il walks Ao An start Ad BR Ca HG Eh ok = some (r, r2, r3)) :
    SH.Spec Tryz.prog 52 #[.pointer (some ⟨Mv, 0, none⟩), .int .i64 Eh, .agg #[.func (.func ba) bb bc]] F [] fun F' L' v => ∃ (ra : Option Addr) (rn : Nat) (rc : Nat) (rL : LH), v = .tuple #[.slice ra rn rc, .int .i64 r2, .bool r3] ∧ L' = rL ++ [] ∧ Bd 0 64 2 (Ce (iE .i64) (iE .i64)) F' ra rn rc r rL := by
 refine sp func52 ntmps52 fun K _ _ => ?_
 rw [Il] at hr
 refine AJ ?_
 refine BJ rfl rfl ?_; intro b1 od
 refine BJ rfl rfl ?_; intro b2 oe
 refine ua (ua (ua (BU ?_)))
 refine JO rfl ?_; intro b3 og
 refine uv (Ah isAgg147 rfl (Has.own 2 rfl) rfl) (uv (AV rfl) (uv (Ab J4 rfl) (uv (Ab T8 rfl) (uv (Ah isAgg3 rfl (Has.frozen ao) (EV (Ar (A := ([.slice AR walks.length AQ] : List Value)) (k := 1) (o := 2) rfl (Ar (A := ([.slice Aw Ao.length Ax] : List Value)) (k := 1) (o := 1) rfl (Ar (A := ([.int .i64 An] : List Value)) (k := 1) (o := 0) rfl (BK (B := ([.slice Az Ad.length AA] : List Value) ++ (BR.flatMap (cI .i64) ++ (([.slice Ej Ca.length El] : List Value) ++ (HG.flatMap (cI .i64))))) rfl)))))) (um ?_)))))
 refine uv (BM (v := .agg #[.int .i64 start, .int .i64 Eh]) rfl (by intro w; kernel_rfl)) ?_
 refine uv (BM (v := .agg #[.int .i64 0, .int .i64 0, .int .i64 0, .int .i64 0, .int .i64 0]) rfl (by intro w; kernel_rfl)) ?_
 refine Jg (i := 0) (k := (start, Eh)) (v := (0, 0, 0, 0, 0)) underlying268 MK rfl rfl rfl rfl (show Dr (vA (cP (cI .i64) (cI .i64))) (vA (cP (cI .i64) (cP (cI .i64) (cP (cI .i64) (cP (cI .i64) (cI .i64)))))) #[] ([] : List ((Int × Int) × (Int × Int × Int × Int × Int))) from Dr.nil) ?_; intro lu lv jr
 obtain ⟨met, h7, r8⟩ := C3 hr
 rw [← h7] at jr
 refine AI rfl (um ?_)
 refine Bw rfl zeroValue268 ?_; intro b9 oh
 refine B4 (i := 0) sizeOf268 rfl rfl rfl rfl (CB rfl) (AI rfl (Aa ?_))
 obtain ⟨ae, lx, js⟩ := AF r8
 refine A5 (fun e1 F1 L1 => ∃ (bk : Array MapEntry) (bz : Nat), A4 F F1 ∧ L1 = [(b9, ce #[.map (some b3)] 268), (b3, .map bk bz), (b1, ce #[.pointer (some ⟨Mv, 0, none⟩)] 147)] ∧ e1.sub [(1, .int .i64 Eh), (3, .pointer (some ⟨b1, 0, none⟩)), (9, .pointer (some ⟨b9, 0, none⟩))] ∧ Dr (vA (cP (cI .i64) (cI .i64))) (vA (cP (cI .i64) (cP (cI .i64) (cP (cI .i64) (cP (cI .i64) (cI .i64)))))) bk ae) ?_ ?_
 ·clear js
  refine AJ (um (ua (Aa ?_)))
  refine Ak ?_
  refine Br (fun gb e1 F1 L1 => ∃ (cj : List ((Int × Int) × (Int × Int × Int × Int × Int))) (ab : Int) (ca : Array MapEntry) (cb : Nat), EB walks Ao An start Ad BR Ca HG Eh ok gb cj ab = some ae ∧ A4 F F1 ∧ L1 = [(b9, ce #[.map (some b3)] 268), (b3, .map ca cb), (b2, ce #[.func (.func ba) bb bc] 164), (b1, ce #[.pointer (some ⟨Mv, 0, none⟩)] 147)] ∧ e1.sub [(1, .int .i64 Eh), (3, .pointer (some ⟨b1, 0, none⟩)), (5, .pointer (some ⟨b2, 0, none⟩)), (9, .pointer (some ⟨b9, 0, none⟩)), (10, .int .i64 ab)] ∧ Dr (vA (cP (cI .i64) (cI .i64))) (vA (cP (cI .i64) (cP (cI .i64) (cP (cI .i64) (cP (cI .i64) (cI .i64)))))) ca cj) FU (m0 kr ⟨met, Eh, lu, lv, lx, A4.refl _, rfl, z5, jr⟩) ?_
  rintro gb e1 jt _ ⟨cj, ab, ca, cb, ep, bn, rfl, gj, dm⟩
  refine AB _ gj ?_
  replace av := av.mono (Am (Ac _)) bn
  replace ai := ai.mono (Am (Ac _)) bn
  replace ah := ah.mono (AU (Am (Ac _)) (AU (Ac _) (Ac _))) bn
  replace ax := ax.mono (AU (Ac _) (Ac _)) bn
  replace bj := bj.mono bn
  replace ao := bn _ _ ao
  rcases gb with _ | gb
  ·rw [EB] at ep; cases ep
  rw [EB] at ep
  refine Aq (AJ (um ?_))
  refine uv (Jy rfl rfl) (Aa ?_)
  refine cQ (fun gk => ?_) fun gk => ?_
  ·have ly := Bi ep gk
   refine Al ?_
   obtain ⟨dn, ju, jv⟩ := AF ly
   refine A5 (fun e1 F1 L1 => ∃ (ck : Array MapEntry) (dp : Nat), A4 jt F1 ∧ L1 = [(b9, ce #[.map (some b3)] 268), (b3, .map ck dp), (b2, ce #[.func (.func ba) bb bc] 164), (b1, ce #[.pointer (some ⟨Mv, 0, none⟩)] 147)] ∧ e1.sub [(1, .int .i64 Eh), (3, .pointer (some ⟨b1, 0, none⟩)), (5, .pointer (some ⟨b2, 0, none⟩)), (9, .pointer (some ⟨b9, 0, none⟩)), (10, .int .i64 ab)] ∧ Dr (vA (cP (cI .i64) (cI .i64))) (vA (cP (cI .i64) (cP (cI .i64) (cP (cI .i64) (cP (cI .i64) (cI .i64)))))) ck dn) ?_ ?_
   ·clear jv
    refine Ak ?_
    refine Aq (AJ (um (um ?_)))
    refine uv (SQ rfl rfl) (uv (CI rfl rfl) (Aa ?_))
    refine cQ (fun gl => ?_) fun gl => ?_
    ·have ma := Bi ju gl
     refine AW (Ae ?_)
     refine Au ?_
     obtain rfl := AH ma
     exact mi kr ⟨ca, cb, A4.refl _, rfl, z5, dm⟩
    have mb := Bk ju gl
    refine Al (AJ ?_)
    refine uv (Ah isAgg147 rfl (Has.own 3 rfl) rfl) (uv (AV rfl) (uv (Ab J4 rfl) (uv (Ab Lv rfl) (uv (Ah isAgg36 rfl (Has.frozen ao) (EV (Ar (A := ([.slice AR walks.length AQ] : List Value)) (k := 1) (o := 0) rfl (BK (B := ([.int .i64 An] : List Value) ++ (([.int .i64 start] : List Value) ++ (([.slice Az Ad.length AA] : List Value) ++ (BR.flatMap (cI .i64) ++ (([.slice Ej Ca.length El] : List Value) ++ (HG.flatMap (cI .i64))))))) rfl)))) (uv (A2 underlying36 rfl) ?_)))))
    refine um (Aa ?_)
    refine Ak ?_
    refine Br (fun jw e1 F1 L1 => LA Ao jw fun tl k => ∃ (af : List ((Int × Int) × (Int × Int × Int × Int × Int))) (bq : Array MapEntry) (cc : Nat), Ez walks Ao An start Ad BR Ca HG ok ab tl k af = some dn ∧ A4 jt F1 ∧ L1 = [(b9, ce #[.map (some b3)] 268), (b3, .map bq cc), (b2, ce #[.func (.func ba) bb bc] 164), (b1, ce #[.pointer (some ⟨Mv, 0, none⟩)] 147)] ∧ e1.sub [(1, .int .i64 Eh), (3, .pointer (some ⟨b1, 0, none⟩)), (5, .pointer (some ⟨b2, 0, none⟩)), (9, .pointer (some ⟨b9, 0, none⟩)), (10, .int .i64 ab), (53, .int .i64 (Ao.length : Int)), (54, .int .i64 k)] ∧ Dr (vA (cP (cI .i64) (cI .i64))) (vA (cP (cI .i64) (cP (cI .i64) (cP (cI .i64) (cP (cI .i64) (cI .i64)))))) bq af) _ (m0 kr ⟨_, _, rfl, BI.start _, cj, ca, cb, mb, A4.refl _, rfl, z7, dm⟩) ?_
    rintro jw e1 mc _ ⟨tl, k, gm, dq, af, bq, cc, gg, bo, rfl, gn, cn⟩
    refine AB _ gn ?_
    replace av := av.mono (Am (Ac _)) bo
    replace ai := ai.mono (Am (Ac _)) bo
    replace ah := ah.mono (AU (Am (Ac _)) (AU (Ac _) (Ac _))) bo
    replace ax := ax.mono (AU (Ac _) (Ac _)) bo
    replace bj := bj.mono bo
    replace ao := bo _ _ ao
    refine AJ (uv (Bp rfl rfl) ?_)
    refine Aa (Aq ?_)
    refine cQ (fun gh => ?_) fun gh => ?_
    ·obtain ⟨x, oi, rfl, me, oj, gp⟩ := BI.succ dq gh
     rw [Ez] at gg
     refine Al ?_
     obtain ⟨dr, jx, jz⟩ := AF gg
     refine A5 (fun e1 F1 L1 => ∃ (cp : Array MapEntry) (dt : Nat), A4 mc F1 ∧ L1 = [(b9, ce #[.map (some b3)] 268), (b3, .map cp dt), (b2, ce #[.func (.func ba) bb bc] 164), (b1, ce #[.pointer (some ⟨Mv, 0, none⟩)] 147)] ∧ e1.sub [(1, .int .i64 Eh), (3, .pointer (some ⟨b1, 0, none⟩)), (5, .pointer (some ⟨b2, 0, none⟩)), (9, .pointer (some ⟨b9, 0, none⟩)), (10, .int .i64 ab), (53, .int .i64 (Ao.length : Int)), (54, .int .i64 k)] ∧ Dr (vA (cP (cI .i64) (cI .i64))) (vA (cP (cI .i64) (cP (cI .i64) (cP (cI .i64) (cP (cI .i64) (cI .i64)))))) cp dr) ?_ ?_
     ·clear jz
      refine Ak ?_
      refine AJ (um ?_)
      refine Bw rfl zeroValue3 ?_; intro cy mg
      refine B4 (i := 0) sizeOf3 rfl rfl rfl rfl (CB rfl) (AI rfl (BU (uv (Ah isAgg3 rfl (Has.own 0 rfl) rfl) (um ?_))))
      refine uv (BM (v := .agg #[.int .i64 k, .int .i64 ab]) rfl (by intro w; kernel_rfl)) ?_
      refine Bw rfl zeroValue265 ?_; intro cz mh
      refine BP (i := 0) sizeOf265 rfl rfl rfl (by simp [Value.oneCell']) rfl (CB rfl) (AI rfl (BU (uv (Ah isAgg268 rfl (Has.own 2 rfl) rfl) (uv (A1 (cs := #[.int .i64 k, .int .i64 ab]) isAgg265 sizeOf265 rfl (Has.own 0 rfl) (CB rfl) rfl) (uv (Ft.eq (v' := .tuple #[.agg #[.int .i64 (((Bm af (k, ab)).getD (0, 0, 0, 0, 0)).1), .int .i64 (((Bm af (k, ab)).getD (0, 0, 0, 0, 0)).2.1), .int .i64 (((Bm af (k, ab)).getD (0, 0, 0, 0, 0)).2.2.1), .int .i64 (((Bm af (k, ab)).getD (0, 0, 0, 0, 0)).2.2.2.1), .int .i64 (((Bm af (k, ab)).getD (0, 0, 0, 0, 0)).2.2.2.2)], .bool ((Bm af (k, ab)).isSome)]) (JZ (k := (k, ab)) (z0 := (0, 0, 0, 0, 0)) rfl underlying268 MK zeroValue267 rfl rfl (KO.own 3 rfl) (show Dr (vA (cP (cI .i64) (cI .i64))) (vA (cP (cI .i64) (cP (cI .i64) (cP (cI .i64) (cP (cI .i64) (cI .i64)))))) bq (af : List ((Int × Int) × (Int × Int × Int × Int × Int))) from cn)) rfl) ?_)))))
      refine um (ox rfl rfl rfl (ox rfl rfl rfl ?_))
      refine Bw rfl zeroValue267 ?_; intro da mj
      refine BP (i := 0) sizeOf267 rfl rfl rfl (by simp [Value.oneCell']) rfl (CB rfl) (AI rfl ?_)
      refine ua (Aa (Aq (AJ (um ?_))))
      refine uv (BB rfl) (Aa ?_)
      refine AX rfl (fun gq => ?_) (fun gq => ?_)
      ·have ml := bt jx gq
       refine AW (Ae ?_)
       refine Au ?_
       obtain rfl := AH ml
       exact mi (kd (kd (kd kr))) ⟨bq, cc, A4.refl _, rfl, z7, cn⟩
      have mn := bf jx gq
      refine Al (AJ ?_)
      refine uv (Ah isAgg147 rfl (Has.own 6 rfl) rfl) (um ?_)
      obtain ⟨y, mo, mq⟩ := AF mn
      refine c0 call127 (My ao av ai ah aw ax eo mo) ?_; rintro _ oo _ cq mr ⟨mu, rfl, rfl, er⟩
      replace ah := ah.mono (AU (Am (Ac _)) (AU (Ac _) (Ac _))) cq
      replace bj := bj.mono cq
      replace ao := cq _ _ ao
      refine AI (ln rfl) (Aa (Ak ?_))
      refine GF (encs := (fun x : (Int × Int) × Int => #[.agg ((cP (cI .i64) (cI .i64)) x.1).toArray, .int .i64 x.2])) (xs := y) rfl call187 rfl (fun _ => rfl) er (fun pre F1 L1 => ∃ (ej : List ((Int × Int) × Int)) (ak : List ((Int × Int) × (Int × Int × Int × Int × Int))) (aq : Array MapEntry) (bd : Nat), y = pre ++ ej ∧ Dh Ad BR ok ab af k ej ak = some dr ∧ L1 = [(da, ce #[.int .i64 (((Bm af (k, ab)).getD (0, 0, 0, 0, 0)).1), .int .i64 (((Bm af (k, ab)).getD (0, 0, 0, 0, 0)).2.1), .int .i64 (((Bm af (k, ab)).getD (0, 0, 0, 0, 0)).2.2.1), .int .i64 (((Bm af (k, ab)).getD (0, 0, 0, 0, 0)).2.2.2.1), .int .i64 (((Bm af (k, ab)).getD (0, 0, 0, 0, 0)).2.2.2.2)] 267), (cz, ce #[.int .i64 k, .int .i64 ab] 265), (cy, ce #[.int .i64 k] 3), (b9, ce #[.map (some b3)] 268), (b3, .map aq bd), (b2, ce #[.func (.func ba) bb bc] 164), (b1, ce #[.pointer (some ⟨Mv, 0, none⟩)] 147)] ∧ Dr (vA (cP (cI .i64) (cI .i64))) (vA (cP (cI .i64) (cP (cI .i64) (cP (cI .i64) (cP (cI .i64) (cI .i64)))))) aq ak) (fun _ _ _ => False) ?_ ?_ ?_ ?_ ?_ ?_
      ·rintro pre F1 F2 L1 ⟨ej, ak, aq, bd, cd, mv, rfl, bp⟩ hx; exact ⟨ej, ak, aq, bd, cd, mv, rfl, bp⟩
      ·intro c F1 F2 L1 h hx; exact h
      ·exact ⟨_, af, bq, cc, rfl, mq, rfl, cn⟩
      ·rintro oq mw mx my mz na k7 nc pre x2 ot br ou _ du ⟨ej, ak, aq, bd, cd, k8, rfl, bp⟩
       obtain rfl := JP cd br
       rw [Dh] at k8
       replace ah := ah.mono (AU (Am (Ac _)) (AU (Ac _) (Ac _))) du
       replace bj := bj.mono du
       replace ao := du _ _ ao
       refine AB [(1, .int .i64 Eh), (3, .pointer (some ⟨b1, 0, none⟩)), (5, .pointer (some ⟨b2, 0, none⟩)), (9, .pointer (some ⟨b9, 0, none⟩)), (10, .int .i64 ab), (11, .pointer (some ⟨cy, 0, none⟩)), (12, .pointer (some ⟨cz, 0, none⟩)), (13, .pointer (some ⟨da, 0, none⟩)), (53, .int .i64 (Ao.length : Int)), (54, .int .i64 k), (71, .agg #[.int .i64 x2.1.1, .int .i64 x2.1.2]), (72, .int .i64 x2.2)] (by exact (sc rfl (sc rfl (sc rfl (sc rfl z8))))) (AJ ?_)
       refine Bw rfl zeroValue64 ?_; intro gr nf
       refine BP (i := 0) sizeOf64 rfl rfl rfl (by simp [Value.oneCell']) rfl (CB rfl) (AI rfl ?_)
       refine Aa (Af (ua (Aa ?_)))
       refine ⟨rfl, ?_⟩
       refine Ak (dW (wv (Ah isAgg147 rfl (Has.own 7 rfl) rfl) (wv (Ah isAgg3 rfl (Has.own 3 rfl) rfl) (wv (Ab TG rfl) (wv (Ah isAgg3 rfl (Has.own 0 rfl) rfl) (wv (AV rfl) (wv (Ab Ld rfl) ?_)))))))
       obtain ⟨k9, ng⟩ := A0 k8
       refine wv (By underlying152 sizeOf150 rfl rfl k9) ?_
       obtain ⟨kb, nh⟩ := A0 ng
       obtain ⟨x3, ow, gu, kh⟩ := BY nh
       have gv : (k * 5 + x2.1.1 : Int).toNat = (k : Int).toNat * 5 + (x2.1.1 : Int).toNat := by have := k9; have := kb; omega
       have gw := Hc (Bt .i64) aw gv gu (GM (Ar (A := ([.slice AR walks.length AQ] : List Value)) (k := 1) (o := 4) rfl (Ar (A := ([.slice Aw Ao.length Ax] : List Value)) (k := 1) (o := 3) rfl (Ar (A := ([.int .i64 An] : List Value)) (k := 1) (o := 2) rfl (Ar (A := ([.int .i64 start] : List Value)) (k := 1) (o := 1) rfl (Ar (A := ([.slice Az Ad.length AA] : List Value)) (k := 1) (o := 0) rfl (BK (B := ([.slice Ej Ca.length El] : List Value) ++ (HG.flatMap (cI .i64))) (EJ (Bt .i64) aw)))))))) (Fq (Ar (A := ([.slice AR walks.length AQ] : List Value)) (k := 1) (o := 4) rfl (Ar (A := ([.slice Aw Ao.length Ax] : List Value)) (k := 1) (o := 3) rfl (Ar (A := ([.int .i64 An] : List Value)) (k := 1) (o := 2) rfl (Ar (A := ([.int .i64 start] : List Value)) (k := 1) (o := 1) rfl (Ar (A := ([.slice Az Ad.length AA] : List Value)) (k := 1) (o := 0) rfl (BK (B := ([.slice Ej Ca.length El] : List Value) ++ (HG.flatMap (cI .i64))) (EJ (Bt .i64) aw))))))))
       refine wv (By underlying150 sizeOf3 rfl rfl kb) (wv (Ah isAgg3 rfl (Has.frozen ao) ((gw).2.2 0 (by decide))) ?_)
       refine wa (CX (Aq (AJ (um ?_))))
       refine uv (Cx rfl rfl) (Aa ?_)
       refine cQ (fun gz => ?_) fun gz => ?_
       ·have ni := Bi kh gz
        refine AW (Ae ?_)
        refine Au ?_
        refine ⟨[(da, ce #[.int .i64 (((Bm af (k, ab)).getD (0, 0, 0, 0, 0)).1), .int .i64 (((Bm af (k, ab)).getD (0, 0, 0, 0, 0)).2.1), .int .i64 (((Bm af (k, ab)).getD (0, 0, 0, 0, 0)).2.2.1), .int .i64 (((Bm af (k, ab)).getD (0, 0, 0, 0, 0)).2.2.2.1), .int .i64 (((Bm af (k, ab)).getD (0, 0, 0, 0, 0)).2.2.2.2)] 267), (cz, ce #[.int .i64 k, .int .i64 ab] 265), (cy, ce #[.int .i64 k] 3), (b9, ce #[.map (some b3)] 268), (b3, .map aq bd), (b2, ce #[.func (.func ba) bb bc] 164), (b1, ce #[.pointer (some ⟨Mv, 0, none⟩)] 147)], ⟨_, .refl _, s1 (s2 (s2 (s2 (s2 (s2 (s2 (s2 sr)))))))⟩, ?_⟩; exact ⟨_, ak, aq, bd, (by rw [br]; simp), ni, rfl, bp⟩
       have nj := Bk kh gz
       refine Al (dW (wv (Ab Oz rfl) (wv (Ah isAgg3 rfl (Has.own 1 rfl) rfl) (wm ?_))))
       obtain ⟨nk, nn⟩ := A0 nj
       refine wv (Bf rfl rfl nk) (wv (Ah isAgg147 rfl (Has.own 7 rfl) rfl) (wv (AV rfl) (wv (Ab J4 rfl) (wv (Ab MH rfl) (wv (Ah isAgg37 rfl (Has.frozen ao) (EV (Ar (A := ([.slice AR walks.length AQ] : List Value)) (k := 1) (o := 3) rfl (Ar (A := ([.slice Aw Ao.length Ax] : List Value)) (k := 1) (o := 2) rfl (Ar (A := ([.int .i64 An] : List Value)) (k := 1) (o := 1) rfl (Ar (A := ([.int .i64 start] : List Value)) (k := 1) (o := 0) rfl (BK (B := BR.flatMap (cI .i64) ++ (([.slice Ej Ca.length El] : List Value) ++ (HG.flatMap (cI .i64)))) rfl))))))) (wv (Ab T5 rfl) (wv (Ah isAgg3 rfl (Has.own 0 rfl) rfl) ?_)))))))
       obtain ⟨x4, kj, et, ia⟩ := BY nn
       obtain ⟨np, nq, nr, kl, eu, ew, ib, ⟨_, _, rfl, ⟨ns, nt, rfl, nu⟩, ⟨_, _, rfl, rfl, rfl⟩⟩, km, ey⟩ := As.at (AU (Am (Ac _)) (AU (Ac _) (Ac _))) ah ([(gr, ce #[.int .i64 x2.1.1, .int .i64 x2.1.2] 64), (da, ce #[.int .i64 (((Bm af (k, ab)).getD (0, 0, 0, 0, 0)).1), .int .i64 (((Bm af (k, ab)).getD (0, 0, 0, 0, 0)).2.1), .int .i64 (((Bm af (k, ab)).getD (0, 0, 0, 0, 0)).2.2.1), .int .i64 (((Bm af (k, ab)).getD (0, 0, 0, 0, 0)).2.2.2.1), .int .i64 (((Bm af (k, ab)).getD (0, 0, 0, 0, 0)).2.2.2.2)] 267), (cz, ce #[.int .i64 k, .int .i64 ab] 265), (cy, ce #[.int .i64 k] 3), (b9, ce #[.map (some b3)] 268), (b3, .map aq bd), (b2, ce #[.func (.func ba) bb bc] 164), (b1, ce #[.pointer (some ⟨Mv, 0, none⟩)] 147)]) kj.1 et
       refine wv (AT underlying37 sizeOf41 rfl eu rfl kj) (wv (Ab TS rfl) (wv (Ah isAgg3 rfl ew (ey 1 (by decide))) ?_))
       obtain ⟨ic, ie⟩ := A0 ia
       refine wv (Bf rfl rfl ic) ?_
       obtain ⟨end_, ig, ij⟩ := C3 ie
       refine wv ((Ji rfl).i ig) (Ye (uv (Ab TG rfl) (uv (Ah isAgg3 rfl (Has.own 0 rfl) rfl) (um ?_))))
       refine uv (BM (v := .agg #[.int .i64 x2.1.1, .int .i64 x2.2]) rfl (by intro w; kernel_rfl)) ?_
       refine Bw rfl zeroValue265 ?_; intro ez ko
       refine BP (i := 0) sizeOf265 rfl rfl rfl (by simp [Value.oneCell']) rfl (CB rfl) (AI rfl (BU (uv (Ah isAgg268 rfl (Has.own 5 rfl) rfl) (uv (A1 (cs := #[.int .i64 x2.1.1, .int .i64 x2.2]) isAgg265 sizeOf265 rfl (Has.own 0 rfl) (CB rfl) rfl) (uv (Ft.eq (v' := .tuple #[.agg #[.int .i64 (((Bm ak (x2.1.1, x2.2)).getD (0, 0, 0, 0, 0)).1), .int .i64 (((Bm ak (x2.1.1, x2.2)).getD (0, 0, 0, 0, 0)).2.1), .int .i64 (((Bm ak (x2.1.1, x2.2)).getD (0, 0, 0, 0, 0)).2.2.1), .int .i64 (((Bm ak (x2.1.1, x2.2)).getD (0, 0, 0, 0, 0)).2.2.2.1), .int .i64 (((Bm ak (x2.1.1, x2.2)).getD (0, 0, 0, 0, 0)).2.2.2.2)], .bool ((Bm ak (x2.1.1, x2.2)).isSome)]) (JZ (k := (x2.1.1, x2.2)) (z0 := (0, 0, 0, 0, 0)) rfl underlying268 MK zeroValue267 rfl rfl (KO.own 6 rfl) (show Dr (vA (cP (cI .i64) (cI .i64))) (vA (cP (cI .i64) (cP (cI .i64) (cP (cI .i64) (cP (cI .i64) (cI .i64)))))) aq (ak : List ((Int × Int) × (Int × Int × Int × Int × Int))) from bp)) rfl) ?_)))))
       refine um (ox rfl rfl rfl (ox rfl rfl rfl ?_))
       refine Bw rfl zeroValue267 ?_; intro nv kt
       refine BP (i := 0) sizeOf267 rfl rfl rfl (by simp [Value.oneCell']) rfl (CB rfl) (AI rfl ?_)
       refine ua (Aa ?_)
       obtain ⟨k2, ik, dv⟩ := AF ij
       refine jE ([(ez, ce #[.int .i64 x2.1.1, .int .i64 x2.2] 265), (gr, ce #[.int .i64 x2.1.1, .int .i64 x2.1.2] 64), (da, ce #[.int .i64 (((Bm af (k, ab)).getD (0, 0, 0, 0, 0)).1), .int .i64 (((Bm af (k, ab)).getD (0, 0, 0, 0, 0)).2.1), .int .i64 (((Bm af (k, ab)).getD (0, 0, 0, 0, 0)).2.2.1), .int .i64 (((Bm af (k, ab)).getD (0, 0, 0, 0, 0)).2.2.2.1), .int .i64 (((Bm af (k, ab)).getD (0, 0, 0, 0, 0)).2.2.2.2)] 267), (cz, ce #[.int .i64 k, .int .i64 ab] 265), (cy, ce #[.int .i64 k] 3), (b9, ce #[.map (some b3)] 268), (b3, .map aq bd), (b2, ce #[.func (.func ba) bb bc] 164), (b1, ce #[.pointer (some ⟨Mv, 0, none⟩)] 147)]) [(1, .int .i64 Eh), (3, .pointer (some ⟨b1, 0, none⟩)), (5, .pointer (some ⟨b2, 0, none⟩)), (9, .pointer (some ⟨b9, 0, none⟩)), (10, .int .i64 ab), (11, .pointer (some ⟨cy, 0, none⟩)), (12, .pointer (some ⟨cz, 0, none⟩)), (13, .pointer (some ⟨da, 0, none⟩)), (15, .pointer (some ⟨gr, 0, none⟩)), (18, .int .i64 end_), (19, .pointer (some ⟨ez, 0, none⟩)), (53, .int .i64 (Ao.length : Int)), (54, .int .i64 k), (71, .agg #[.int .i64 x2.1.1, .int .i64 x2.1.2]), (72, .int .i64 x2.2), (124, .bool k2)] ?_ ?_
       ·clear dv
        refine Af (uv (Ab U5 rfl) (uv (Ah isAgg162 rfl (Has.own 8 rfl) rfl) (uv (Ab T5 rfl) (uv (Ah isAgg3 rfl (Has.own 2 rfl) rfl) (um ?_)))))
        obtain ⟨nw, il, fa⟩ := AF ik
        refine D2 rfl bj.1 rfl rfl rfl (bj.2 _ (A4.refl _) _ _ _ ⟨_, _, rfl, rfl, rfl⟩ il) (um ?_)
        rcases Cd nw with ar | ar
        ·have fb := bt fa ar
         refine nB ar (um (nB ar ?_))
         refine uv (BB rfl) ?_
         refine nB ar (um ?_)
         rcases Cd (!((Bm ak (x2.1.1, x2.2)).isSome)) with ay | ay
         ·have im := bt fb ay
          refine fB ay (fB ay (fB ay (fB ay (nB ar ?_))))
          refine uv (AS (Hx rfl ay) rfl) (uv (AS (Hx rfl ar) rfl) (Aa ?_))
          obtain rfl := AH im
          exact mi (kd kr) ⟨rfl, rfl, (sc rfl (sc rfl (sc rfl (sc rfl (sc rfl (sc rfl (sc rfl (sc rfl z8))))))))⟩
         have iq := bf fb ay
         refine nB ay (um (nB ay ?_))
         refine uv (Ab Oz rfl) (nB ay (uv (Ah isAgg3 rfl (Has.own 0 rfl) rfl) (nB ay (uv (Bp rfl rfl) (nB ar (uv (AE (Hx rfl ay) rfl) (uv (AS (Hx rfl ar) rfl) ?_)))))))
         refine Aa ?_
         obtain rfl := AH iq
         exact mi (kd kr) ⟨rfl, rfl, (sc rfl (sc rfl (sc rfl (sc rfl (sc rfl (sc rfl (sc rfl (sc rfl z8))))))))⟩
        have ir := bf fa ar
        refine fB ar (fB ar (fB ar (fU (fU (fU (fU (fB ar ?_)))))))
        refine uv (AE (Hx rfl ar) rfl) (Aa ?_)
        obtain rfl := AH ir
        exact mi (kd kr) ⟨rfl, rfl, (sc rfl (sc rfl (sc rfl (sc rfl (sc rfl (sc rfl (sc rfl (sc rfl z8))))))))⟩
       refine AX rfl (fun dw => ?_) (fun dw => ?_)
       ·have iu := bt dv dw
        refine Af (uv (Ah isAgg268 rfl (Has.own 5 rfl) rfl) (uv (A1 (cs := #[.int .i64 x2.1.1, .int .i64 x2.2]) isAgg265 sizeOf265 rfl (Has.own 0 rfl) (CB rfl) rfl) (um (uv (A1 (cs := #[.int .i64 x2.1.1, .int .i64 x2.1.2]) isAgg64 sizeOf64 rfl (Has.own 1 rfl) (CB rfl) rfl) (uv (A1 (cs := #[.int .i64 k, .int .i64 ab]) isAgg265 sizeOf265 rfl (Has.own 3 rfl) (CB rfl) rfl) ?_)))))
        refine uv (BM (v := .agg #[.int .i64 end_, .int .i64 x2.1.1, .int .i64 x2.1.2, .int .i64 k, .int .i64 ab]) rfl (by intro w; kernel_rfl)) ?_
        refine Jk (i := 6) (k := (x2.1.1, x2.2)) (v := (end_, x2.1.1, x2.1.2, k, ab)) underlying268 MK rfl rfl rfl rfl (show Dr (vA (cP (cI .i64) (cI .i64))) (vA (cP (cI .i64) (cP (cI .i64) (cP (cI .i64) (cP (cI .i64) (cI .i64)))))) aq (ak : List ((Int × Int) × (Int × Int × Int × Int × Int))) from bp) ?_; intro db dd de
        obtain ⟨iv, iw, iy⟩ := C3 iu
        rw [← iw] at de
        refine AI rfl ?_
        refine Aa (At (id := 5) ?_)
        refine ⟨[(da, ce #[.int .i64 (((Bm af (k, ab)).getD (0, 0, 0, 0, 0)).1), .int .i64 (((Bm af (k, ab)).getD (0, 0, 0, 0, 0)).2.1), .int .i64 (((Bm af (k, ab)).getD (0, 0, 0, 0, 0)).2.2.1), .int .i64 (((Bm af (k, ab)).getD (0, 0, 0, 0, 0)).2.2.2.1), .int .i64 (((Bm af (k, ab)).getD (0, 0, 0, 0, 0)).2.2.2.2)] 267), (cz, ce #[.int .i64 k, .int .i64 ab] 265), (cy, ce #[.int .i64 k] 3), (b9, ce #[.map (some b3)] 268), (b3, .map db dd), (b2, ce #[.func (.func ba) bb bc] 164), (b1, ce #[.pointer (some ⟨Mv, 0, none⟩)] 147)], ⟨_, .refl _, s1 (s1 (s2 (s2 (s2 (s2 (s2 (s2 (s2 sr))))))))⟩, ?_⟩; exact ⟨_, iv, db, dd, (by rw [br]; simp), iy, rfl, de⟩
       have iz := bf dv dw
       refine Al (At (id := 5) ?_)
       refine ⟨[(da, ce #[.int .i64 (((Bm af (k, ab)).getD (0, 0, 0, 0, 0)).1), .int .i64 (((Bm af (k, ab)).getD (0, 0, 0, 0, 0)).2.1), .int .i64 (((Bm af (k, ab)).getD (0, 0, 0, 0, 0)).2.2.1), .int .i64 (((Bm af (k, ab)).getD (0, 0, 0, 0, 0)).2.2.2.1), .int .i64 (((Bm af (k, ab)).getD (0, 0, 0, 0, 0)).2.2.2.2)] 267), (cz, ce #[.int .i64 k, .int .i64 ab] 265), (cy, ce #[.int .i64 k] 3), (b9, ce #[.map (some b3)] 268), (b3, .map aq bd), (b2, ce #[.func (.func ba) bb bc] 164), (b1, ce #[.pointer (some ⟨Mv, 0, none⟩)] 147)], ⟨_, .refl _, s1 (s1 (s2 (s2 (s2 (s2 (s2 (s2 (s2 sr))))))))⟩, ?_⟩; exact ⟨_, ak, aq, bd, (by rw [br]; simp), iz, rfl, bp⟩
      ·rintro ny _ fe ⟨ej, ak, aq, bd, cd, ff, rfl, bp⟩
       obtain rfl := Lk cd; rw [Dh] at ff
       refine At (id := 4) (At (id := 3) ?_)
       obtain rfl := AH ff
       exact mi (kd (kd (kd kr))) ⟨aq, bd, (cq.trans fe), rfl, z7, bp⟩
      intro c F1 L1 hx h; exact h.elim
     rintro e1 nz _ ⟨cp, dt, df, rfl, fg, j0⟩
     refine AB _ fg ?_
     replace ai := ai.mono (Am (Ac _)) df
     refine Af (uv (Bf rfl rfl (BI.Ed dq gh (As.lt ai))) ?_)
     refine um (Aa ?_)
     subst gm; exact le kr ⟨_, _, rfl, gp, dr, cp, dt, jz, (bo.trans df), rfl, z7, j0⟩
    obtain rfl := BI.zero dq gh
    rw [Ez] at gg
    refine AW (Ae (Ae ?_))
    refine Au (At (id := 1) ?_)
    obtain rfl := AH gg
    exact mi kr ⟨bq, cc, bo, rfl, z5, cn⟩
   rintro e1 o2 _ ⟨ck, dp, fh, rfl, fi, j1⟩
   refine AB _ fi ?_
   refine Af (um ?_)
   obtain ⟨j2, j3⟩ := A0 jv
   refine uv (Fs rfl rfl j2) ?_
   refine ua (Aa ?_)
   exact le kr ⟨dn, ab - 1, ck, dp, j3, (bn.trans fh), rfl, z5, j1⟩
  have j4 := Bk ep gk
  refine AW (Ae (Ae ?_))
  refine Au ?_
  obtain rfl := AH j4
  exact mi (kc (kc (kd kr))) ⟨ca, cb, bn, rfl, z3, dm⟩
 rintro e1 dx _ ⟨bk, bz, dg, rfl, fj, fk⟩
 refine AB _ fj ?_
 replace ai := ai.mono (Am (Ac _)) dg
 replace ao := dg _ _ ao
 refine AJ ?_
 refine uv (BM (v := .agg #[.int .i64 (-1), .int .i64 0]) rfl (by intro w; kernel_rfl)) ?_
 refine Bw rfl zeroValue265 ?_; intro bl ku
 refine BP (i := 0) sizeOf265 rfl rfl rfl (by simp [Value.oneCell']) rfl (CB rfl) (AI rfl ?_)
 refine ua (Aa ?_)
 obtain ⟨az, minute, j5, dy⟩ := DM js
 refine jE ([(bl, ce #[.int .i64 az, .int .i64 0] 265), (b9, ce #[.map (some b3)] 268), (b3, .map bk bz)]) [(1, .int .i64 Eh), (9, .pointer (some ⟨b9, 0, none⟩)), (22, .pointer (some ⟨bl, 0, none⟩)), (23, .int .i64 minute)] ?_ ?_
 ·clear dy
  refine AJ (uv (Ah isAgg147 rfl (Has.own 3 rfl) rfl) (uv (AV rfl) (uv (Ab J4 rfl) (uv (Ab Lv rfl) (uv (Ah isAgg36 rfl (Has.frozen ao) (EV (Ar (A := ([.slice AR walks.length AQ] : List Value)) (k := 1) (o := 0) rfl (BK (B := ([.int .i64 An] : List Value) ++ (([.int .i64 start] : List Value) ++ (([.slice Az Ad.length AA] : List Value) ++ (BR.flatMap (cI .i64) ++ (([.slice Ej Ca.length El] : List Value) ++ (HG.flatMap (cI .i64))))))) rfl)))) (uv (A2 underlying36 rfl) ?_))))))
  refine um (Aa ?_)
  refine Ak (kW (kc (kc (kc kn))) ?_)
  refine Br (fun kv e1 F1 L1 => LA Ao kv fun kz k3 => ∃ (aj : Int) (al : Int), DU ae kz k3 aj al = some (az, minute) ∧ dx = F1 ∧ L1 = [(bl, ce #[.int .i64 aj, .int .i64 0] 265), (b9, ce #[.map (some b3)] 268), (b3, .map bk bz)] ∧ e1.sub [(1, .int .i64 Eh), (9, .pointer (some ⟨b9, 0, none⟩)), (22, .pointer (some ⟨bl, 0, none⟩)), (23, .int .i64 al), (138, .int .i64 (Ao.length : Int)), (139, .int .i64 k3)]) _ (m0 kr ⟨_, _, rfl, BI.start _, -1, -1, j5, rfl, rfl, z6⟩) ?_
  rintro kv e1 _ _ ⟨kz, k3, dh, bu, aj, al, cr, rfl, rfl, fl⟩
  refine AB _ fl (AJ (uv (Bp rfl rfl) ?_))
  refine Aa (Aq ?_)
  refine cQ (fun cf => ?_) fun cf => ?_
  ·obtain ⟨x5, oy, rfl, l0, o3, di⟩ := BI.succ bu cf
   rw [DU] at cr
   refine Al (Aq ?_)
   refine Ak ?_
   refine AJ (um (ua (BU ?_)))
   refine uv (Ah isAgg268 rfl (Has.own 1 rfl) rfl) (um ?_)
   refine uv (BM (v := .agg #[.int .i64 k3, .int .i64 0]) rfl (by intro w; kernel_rfl)) ?_
   refine uv (Ft.eq (v' := .tuple #[.agg #[.int .i64 (((Bm ae (k3, 0)).getD (0, 0, 0, 0, 0)).1), .int .i64 (((Bm ae (k3, 0)).getD (0, 0, 0, 0, 0)).2.1), .int .i64 (((Bm ae (k3, 0)).getD (0, 0, 0, 0, 0)).2.2.1), .int .i64 (((Bm ae (k3, 0)).getD (0, 0, 0, 0, 0)).2.2.2.1), .int .i64 (((Bm ae (k3, 0)).getD (0, 0, 0, 0, 0)).2.2.2.2)], .bool ((Bm ae (k3, 0)).isSome)]) (JZ (k := (k3, 0)) (z0 := (0, 0, 0, 0, 0)) rfl underlying268 MK zeroValue267 rfl rfl (KO.own 2 rfl) (show Dr (vA (cP (cI .i64) (cI .i64))) (vA (cP (cI .i64) (cP (cI .i64) (cP (cI .i64) (cP (cI .i64) (cI .i64)))))) bk (ae : List ((Int × Int) × (Int × Int × Int × Int × Int))) from fk)) rfl) ?_
   refine um (ox rfl rfl rfl (ox rfl rfl rfl ?_))
   refine Bw rfl zeroValue267 ?_; intro dz ld
   refine BP (i := 0) sizeOf267 rfl rfl rfl (by simp [Value.oneCell']) rfl (CB rfl) (AI rfl ?_)
   refine ua (Aa ?_)
   obtain ⟨k4, fm, e9⟩ := AF cr
   refine jE ([(dz, ce #[.int .i64 (((Bm ae (k3, 0)).getD (0, 0, 0, 0, 0)).1), .int .i64 (((Bm ae (k3, 0)).getD (0, 0, 0, 0, 0)).2.1), .int .i64 (((Bm ae (k3, 0)).getD (0, 0, 0, 0, 0)).2.2.1), .int .i64 (((Bm ae (k3, 0)).getD (0, 0, 0, 0, 0)).2.2.2.1), .int .i64 (((Bm ae (k3, 0)).getD (0, 0, 0, 0, 0)).2.2.2.2)] 267), (bl, ce #[.int .i64 aj, .int .i64 0] 265), (b9, ce #[.map (some b3)] 268), (b3, .map bk bz)]) [(1, .int .i64 Eh), (9, .pointer (some ⟨b9, 0, none⟩)), (22, .pointer (some ⟨bl, 0, none⟩)), (23, .int .i64 al), (24, .int .i64 k3), (25, .pointer (some ⟨dz, 0, none⟩)), (138, .int .i64 (Ao.length : Int)), (139, .int .i64 k3), (159, .bool k4)] ?_ ?_
   ·clear e9
    refine Af (um (um ?_))
    rcases Cd ((Bm ae (k3, 0)).isSome) with au | au
    ·have fp := bt fm au
     refine nB au (um (nB au ?_))
     refine uv (Cx rfl rfl) ?_
     refine nB au (um ?_)
     by_cases bg : al = (-1)
     ·have j6 := Bi fp bg
      refine fT bg (fT bg (fT bg (fT bg (nB au ?_))))
      refine uv (AS (Bq rfl bg) rfl) (uv (AS (Hx rfl au) rfl) (Aa ?_))
      obtain rfl := AH j6
      exact mi kr ⟨rfl, rfl, (sc rfl z8)⟩
     have j7 := Bk fp bg
     refine nF bg (uv (Ab Oz rfl) (nF bg (uv (Ah isAgg3 rfl (Has.own 0 rfl) rfl) ?_)))
     refine nF bg (um (nF bg ?_))
     refine uv (Bp rfl rfl) (nB au (uv (AE (Bc rfl bg) rfl) (uv (AS (Hx rfl au) rfl) (Aa ?_))))
     obtain rfl := AH j7
     exact mi kr ⟨rfl, rfl, (sc rfl z8)⟩
    have j8 := bf fm au
    refine fB au (fB au (fB au (fU (fU (fU (fU (fB au ?_)))))))
    refine uv (AE (Hx rfl au) rfl) (Aa ?_)
    obtain rfl := AH j8
    exact mi kr ⟨rfl, rfl, (sc rfl z8)⟩
   refine AX rfl (fun eb => ?_) (fun eb => ?_)
   ·have j9 := bt e9 eb
    refine CM [(.still, 0), (.still, 1), (.still, 2), (.still, 3), (.seq, 4), (.seq, 5)] (by kernel_rfl) (by kernel_rfl) (trivial) (by rfl) (by kernel_rfl) (mS [24] rfl (BF rfl) ?_)
    refine mS (v := .agg #[.int .i64 k3, .int .i64 0]) [160] rfl (BM (v := .agg #[.int .i64 k3, .int .i64 0]) rfl (by intro w; kernel_rfl)) ?_
    refine mS [25] rfl (Ab Oz rfl) (mL [162] ([(dz, ce #[.int .i64 (((Bm ae (k3, 0)).getD (0, 0, 0, 0, 0)).1), .int .i64 (((Bm ae (k3, 0)).getD (0, 0, 0, 0, 0)).2.1), .int .i64 (((Bm ae (k3, 0)).getD (0, 0, 0, 0, 0)).2.2.1), .int .i64 (((Bm ae (k3, 0)).getD (0, 0, 0, 0, 0)).2.2.2.1), .int .i64 (((Bm ae (k3, 0)).getD (0, 0, 0, 0, 0)).2.2.2.2)] 267)]) rfl (s0 (s2 (s1 (s1 (s1 sr))))) (fun H F' L' o4 o7 => Ah isAgg3 rfl ((Has.own 0 rfl).ext o4 o7) rfl) ?_)
    refine ⟨_, [(22, .pointer (some ⟨bl, 0, none⟩)), (161, .agg #[.int .i64 k3, .int .i64 0])], rfl, rfl, z2, by kernel_rfl, ?_⟩; intro H
    refine BP (i := 1) sizeOf265 rfl rfl rfl (by simp [Value.oneCell']) rfl (CB rfl) (AI rfl ?_)
    refine Aa ⟨undef, rfl, A4.refl _, [3, 2], by kernel_rfl, .inl (.inr (fun d h => by cases h)), (fc (s0 (s2 (s1 (s1 (s1 sr))))) (fc sm nm)), ?_⟩
    refine ⟨_, [(163, .int .i64 (((Bm ae (k3, 0)).getD (0, 0, 0, 0, 0)).1))], rfl, rfl, z1, by kernel_rfl, ?_⟩; intro H
    obtain ⟨ct, ja, jb⟩ := C3 j9
    refine uv ((Ji rfl).i ja) ?_
    refine Aa ⟨_, rfl, A4.refl _, [], by kernel_rfl, .inl (.inl rfl), nm, ?_⟩
    refine D1 ?_
    refine At (id := 7) (Af ?_)
    refine uv (Bf rfl rfl (BI.Ed bu cf (As.lt ai))) ?_
    refine um (Aa ?_)
    subst dh; exact le (kd kr) ⟨_, _, rfl, di, k3, ct, jb, rfl, rfl, z6⟩
   have jc := bf e9 eb
   refine Al (At (id := 7) (Af ?_))
   refine uv (Bf rfl rfl (BI.Ed bu cf (As.lt ai))) ?_
   refine um (Aa ?_)
   subst dh; exact le (kd kr) ⟨_, _, rfl, di, aj, al, jc, rfl, rfl, z6⟩
  obtain rfl := BI.zero bu cf
  rw [DU] at cr
  refine AW (Ae (Ae ?_))
  refine Au ?_
  obtain ⟨rfl, rfl⟩ := DO cr
  exact mi kr ⟨rfl, rfl, z4⟩
 refine Aq (AJ (um ?_))
 refine uv (Cx rfl rfl) (Aa ?_)
 refine cQ (fun ec => ?_) fun ec => ?_
 ·have jd := Bi dy ec
  refine AJ (ua (ua (ua (Aa ?_))))
  refine kW kn ?_
  refine Aj (Ai ?_)
  refine KE results52 (AY rfl) (AY rfl) (AY rfl) (sr) ?_
  obtain ⟨rfl, rfl, rfl⟩ := H2 jd
  exact ⟨_, _, _, [], rfl, rfl, Bd.nil _ _ _ _ _⟩
 have je := Bk dy ec
 refine Al (AJ (ua (Aa ?_)))
 obtain ⟨out, jf, fq⟩ := AF je
 refine A5 (fun e1 F1 L1 => ∃ (ef : Option Addr) (eg : Nat) (eh : Nat) (bw : LH), dx = F1 ∧ L1 = (bw ++ []) ∧ e1.sub [(23, .int .i64 minute), (27, .slice ef eg eh)] ∧ Bd K.w0.heap.size 64 2 (Ce (iE .i64) (iE .i64)) F1 ef eg eh out bw) ?_ ?_
 ·clear fq
  refine Ak ?_
  refine Br (fun gi e1 F1 L1 => ∃ (aa : Int) (ad : Int) (cu : List (Int × Int)) (cv : Option Addr) (cw : Nat) (cx : Nat) (bx : LH), Ev Eh ae gi aa ad cu = some out ∧ dx = F1 ∧ L1 = ((bl, ce #[.int .i64 aa, .int .i64 ad] 265) :: ((b9, ce #[.map (some b3)] 268) :: ((b3, .map bk bz) :: (bx ++ [])))) ∧ e1.sub [(1, .int .i64 Eh), (9, .pointer (some ⟨b9, 0, none⟩)), (22, .pointer (some ⟨bl, 0, none⟩)), (23, .int .i64 minute), (27, .slice cv cw cx)] ∧ Bd K.w0.heap.size 64 2 (Ce (iE .i64) (iE .i64)) F1 cv cw cx cu bx) FU (m0 (kc (kc (kc (ke kr)))) ⟨az, 0, [], none, 0, 0, [], jf, rfl, rfl, z5, Bd.nil _ _ _ _ _⟩) ?_
  rintro gi e1 _ _ ⟨aa, ad, cu, cv, cw, cx, bx, cg, rfl, rfl, ft, dk⟩
  refine AB _ ft ?_
  rcases gi with _ | gi
  ·rw [Ev] at cg; cases cg
  rw [Ev] at cg
  refine Aq (AJ ?_)
  refine uv (Ab Vz rfl) (uv (Ah isAgg3 rfl (Has.own 0 rfl) rfl) (um (uv (CI rfl rfl) (Aa ?_))))
  refine cQ (fun ei => ?_) fun ei => ?_
  ·have jg := Bi cg ei
   refine Al (Ak (AJ (uv (Ah isAgg268 rfl (Has.own 1 rfl) rfl) (uv (A1 (cs := #[.int .i64 aa, .int .i64 ad]) isAgg265 sizeOf265 rfl (Has.own 0 rfl) (CB rfl) rfl) (uv (Ft.eq (v' := .agg #[.int .i64 (((Bm ae (aa, ad)).getD (0, 0, 0, 0, 0)).1), .int .i64 (((Bm ae (aa, ad)).getD (0, 0, 0, 0, 0)).2.1), .int .i64 (((Bm ae (aa, ad)).getD (0, 0, 0, 0, 0)).2.2.1), .int .i64 (((Bm ae (aa, ad)).getD (0, 0, 0, 0, 0)).2.2.2.1), .int .i64 (((Bm ae (aa, ad)).getD (0, 0, 0, 0, 0)).2.2.2.2)]) (P2 (k := (aa, ad)) (z0 := (0, 0, 0, 0, 0)) rfl underlying268 MK zeroValue267 rfl rfl (KO.own 2 rfl) (show Dr (vA (cP (cI .i64) (cI .i64))) (vA (cP (cI .i64) (cP (cI .i64) (cP (cI .i64) (cP (cI .i64) (cI .i64)))))) bk (ae : List ((Int × Int) × (Int × Int × Int × Int × Int))) from fk)) rfl) ?_)))))
   refine Bw rfl zeroValue267 ?_; intro o8 lg
   refine BP (i := 0) sizeOf267 rfl rfl rfl (by simp [Value.oneCell']) rfl (CB rfl) (AI rfl ?_)
   refine BU (um ?_)
   refine uv (Ab U8 rfl) (uv (A1 (cs := #[.int .i64 (((Bm ae (aa, ad)).getD (0, 0, 0, 0, 0)).2.1), .int .i64 (((Bm ae (aa, ad)).getD (0, 0, 0, 0, 0)).2.2.1)]) isAgg64 sizeOf64 rfl (Has.own 0 rfl) (CB rfl) rfl) ?_)
   refine bA (cs := #[.int .i64 (((Bm ae (aa, ad)).getD (0, 0, 0, 0, 0)).2.1), .int .i64 (((Bm ae (aa, ad)).getD (0, 0, 0, 0, 0)).2.2.1)]) Ve [.agg #[.int .i64 (((Bm ae (aa, ad)).getD (0, 0, 0, 0, 0)).2.1), .int .i64 (((Bm ae (aa, ad)).getD (0, 0, 0, 0, 0)).2.2.1)]] ?_; intro o9 lh
   obtain ⟨fv, jh, ji, jj⟩ := Gp jg
   refine Ey (xs := cu) (ys := [(((Bm ae (aa, ad)).getD (0, 0, 0, 0, 0)).2.1, ((Bm ae (aa, ad)).getD (0, 0, 0, 0, 0)).2.2.1)]) (zs := fv) rfl Ve rfl rfl (Nat.le_refl _) (fun _ => .c (.c (.c (.c (.c .h))))) dk (GJ.box (vss := [[.int .i64 (((Bm ae (aa, ad)).getD (0, 0, 0, 0, 0)).2.1), .int .i64 (((Bm ae (aa, ad)).getD (0, 0, 0, 0, 0)).2.2.1)]]) (ys := [(((Bm ae (aa, ad)).getD (0, 0, 0, 0, 0)).2.1, ((Bm ae (aa, ad)).getD (0, 0, 0, 0, 0)).2.2.1)]) 0 rfl (AU (Ac _) (Ac _)) (.cons ⟨_, _, rfl, rfl, rfl⟩ .nil) rfl rfl) jh ji (by decide) ?_; intro jk jl jm fw fx
   refine kO (kd kr) ?_
   refine ua (Aa (Af ?_))
   refine uv (Ab Vk rfl) (uv (A1 (cs := #[.int .i64 (((Bm ae (aa, ad)).getD (0, 0, 0, 0, 0)).2.2.2.1), .int .i64 (((Bm ae (aa, ad)).getD (0, 0, 0, 0, 0)).2.2.2.2)]) isAgg265 sizeOf265 rfl (Has.own 0 rfl) (CB rfl) rfl) (BP (i := 1) sizeOf265 rfl rfl rfl (by simp [Value.oneCell']) rfl (CB rfl) (AI rfl ?_)))
   refine Aa (At (id := 9) ?_)
   exact le (kd kr) ⟨((Bm ae (aa, ad)).getD (0, 0, 0, 0, 0)).2.2.2.1, ((Bm ae (aa, ad)).getD (0, 0, 0, 0, 0)).2.2.2.2, fv, jk, jl, jm, fw, jj, rfl, rfl, z5, fx⟩
  have jn := Bk cg ei
  refine AW (Ae (Ae ?_))
  refine Au ?_
  obtain rfl := AH jn
  exact mi (kd (kd (kd kr))) ⟨cv, cw, cx, bx, rfl, rfl, z2, dk⟩
 rintro e1 _ _ ⟨ef, eg, eh, bw, rfl, rfl, fy, g0⟩
 refine AB _ fy ?_
 refine AJ (um ?_)
 obtain ⟨s_, jo, jq⟩ := AF fq
 refine ID (Lb := bw ++ []) (Lr := []) rfl call128 rfl rfl rfl (pT pR (lp (ln rfl))) (HB g0 jo) ?_; rintro _ oc _ lj lk lq ⟨lr, rfl, rfl, ga⟩
 refine AI (lp (ln rfl)) ?_
 refine BU (um (um (ua (ua (ua (Aa (Aj ?_)))))))
 refine KE results52 (AY rfl) (AY rfl) (AY rfl) (sr) ?_
 obtain ⟨rfl, rfl, rfl⟩ := H2 jq
 exact ⟨_, _, _, _, rfl, rfl, ga.any⟩
theorem Oo {Ao : List (List Int)} {Ad : List ((List Int) × Int × Int)} (ab : F Mv = some (.cells ((([.slice AR walks.length AQ] : List Value) ++ (([.slice Aw Ao.length Ax] : List Value) ++ (([.int .i64 An] : List Value) ++ (([.int .i64 start] : List Value) ++ (([.slice Az Ad.length AA] : List Value) ++ (BR.flatMap (cI .i64) ++ (([.slice Ej Ca.length El] : List Value) ++ (HG.flatMap (cI .i64))))))))).toArray) 156 Tk)) (_h_walks : As 1 (BC 1 (iE .i64)) F AR AQ walks) (_h_hears : As 1 (BC 1 (iE .i64)) F Aw Ax Ao) (_h_notices : As 3 (Ce (BC 1 (iE .i64)) (Ce (iE .i64) (iE .i64))) F Az AA Ad) (aa : BR.length = 25) (_h_pairs : As 2 (Ce (iE .i64) (iE .i64)) F Ej El Ca) (_h_hit : HG.length = 15) {r : Int} (hr : JE walks Ao An start Ad BR Ca HG = some r) :
    Bl Tryz.prog 53 #[.pointer (some ⟨Mv, 0, none⟩)] F (.int .i64 r) := by
 refine sp func53 ntmps53 fun K _ _ => ?_
 rw [JE] at hr
 refine AJ (ua (BU (um ?_)))
 refine uv (AV rfl) (uv (Ab NY rfl) (uv (Ah isAgg48 rfl (Has.frozen ab) (EV (Ar (k := 1) (o := 29) rfl (Ar (k := 1) (o := 28) rfl (Ar (k := 1) (o := 27) rfl (Ar (k := 1) (o := 26) rfl (Ar (k := 1) (o := 25) rfl (Ar (k := 25) (o := 0) (EJ (Bt .i64) aa) (BK rfl))))))))) (uv (A2 underlying48 rfl) ?_)))
 obtain ⟨g1, r2⟩ := A0 hr
 refine uv (Oy rfl rfl g1) ?_
 obtain ⟨g3, r4⟩ := A0 r2
 refine uv (Fs rfl rfl g3) ?_
 refine ua (Aa (Aj ?_))
 refine BZ results53 ?_
 obtain rfl := AH r4
 exact rfl
theorem Ni {I1 minute : Int} {ab : Nat} {ad : Nat × Nat} {Ao : List (List Int)} {Ad : List ((List Int) × Int × Int)} (ae : F ab = some (.cells #[.int .i64 last] 3 ad)) (ah : F Mv = some (.cells #[.pointer (some ⟨VZ, 0, none⟩)] 147 Tk)) (af : F VZ = some (.cells ((([.slice AR walks.length AQ] : List Value) ++ (([.slice Aw Ao.length Ax] : List Value) ++ (([.int .i64 An] : List Value) ++ (([.int .i64 start] : List Value) ++ (([.slice Az Ad.length AA] : List Value) ++ (BR.flatMap (cI .i64) ++ (([.slice Ej Ca.length El] : List Value) ++ (HG.flatMap (cI .i64))))))))).toArray) 156 WM)) (_h_walks : As 1 (BC 1 (iE .i64)) F AR AQ walks) (_h_hears : As 1 (BC 1 (iE .i64)) F Aw Ax Ao) (aa : As 3 (Ce (BC 1 (iE .i64)) (Ce (iE .i64) (iE .i64))) F Az AA Ad) (_h_walks2 : BR.length = 25) (_h_pairs : As 2 (Ce (iE .i64) (iE .i64)) F Ej El Ca) (_h_hit : HG.length = 15) {r : Bool} (hr : Hm I1 minute last walks Ao An start Ad BR Ca HG = some r) :
    Bl Tryz.prog 188 #[.int .i64 I1, .int .i64 minute, .pointer (some ⟨ab, 0, none⟩), .pointer (some ⟨Mv, 0, none⟩)] F (.bool r) := by
 refine sp func188 ntmps188 fun K _ _ => ?_
 rw [Hm] at hr
 refine AJ (ua ?_)
 refine dN (wm (wv (Ah isAgg3 rfl (Has.frozen ae) rfl) (wv (Ah isAgg147 rfl (Has.frozen ah) rfl) (wv (AV rfl) (wv (Ab J4 rfl) (wv (Ab MH rfl) (wv (Ah isAgg37 rfl (Has.frozen af) (EV (Ar (k := 1) (o := 3) rfl (Ar (k := 1) (o := 2) rfl (Ar (k := 1) (o := 1) rfl (Ar (k := 1) (o := 0) rfl (BK rfl))))))) ?_)))))))
 refine wm ?_
 obtain ⟨x, g1, ak, r3⟩ := BY hr
 obtain ⟨b4, o5, c6, ar, al, ao, aj, ⟨_, _, rfl, ⟨au, av, rfl, aw⟩, ⟨_, _, rfl, rfl, rfl⟩⟩, aq, ai⟩ := As.at (AU (Am (Ac _)) (AU (Ac _) (Ac _))) aa ([]) g1.1 ak
 refine wv (AT underlying37 sizeOf41 rfl al rfl g1) (wv (Ab Uc rfl) (wv (Ah isAgg3 rfl ao (ai 2 (by decide))) (wv (U1 rfl rfl) (wv (Kg rfl rfl) ?_))))
 refine wa (CX (Aj ?_))
 refine BZ results188 ?_
 obtain rfl := AH r3
 exact rfl
set_option maxHeartbeats 1000000 in
theorem O1 {Ao : List (List Int)} {Ad : List ((List Int) × Int × Int)} (af : F Mv = some (.cells ((([.slice AR walks.length AQ] : List Value) ++ (([.slice Aw Ao.length Ax] : List Value) ++ (([.int .i64 An] : List Value) ++ (([.int .i64 start] : List Value) ++ (([.slice Az Ad.length AA] : List Value) ++ (BR.flatMap (cI .i64) ++ (([.slice Ej Ca.length El] : List Value) ++ (HG.flatMap (cI .i64))))))))).toArray) 156 Tk)) (ab : As 1 (BC 1 (iE .i64)) F AR AQ walks) (ad : As 1 (BC 1 (iE .i64)) F Aw Ax Ao) (aa : As 3 (Ce (BC 1 (iE .i64)) (Ce (iE .i64) (iE .i64))) F Az AA Ad) (ah : BR.length = 25) (ae : As 2 (Ce (iE .i64) (iE .i64)) F Ej El Ca) (aj : HG.length = 15) {r : (Int × Int) → Option Bool} (hr : J8 walks Ao An start Ad BR Ca HG last = some r) :
    SH.Spec Tryz.prog 129 #[.pointer (some ⟨Mv, 0, none⟩), .int .i64 last] F [] fun F' L' v => ∃ (ar : FuncId) (au : Array Value) (av : Array Value), v = .agg #[.func (.func ar) au av] ∧ L' = [] ∧ Gk Tryz.prog F' ar au av (Ce (iE .i64) (iE .i64)) Value.bool r := by
 refine sp func129 ntmps129 fun K _ _ => ?_
 rw [J8] at hr
 refine AJ ?_
 refine BJ rfl rfl ?_; intro b1 aw
 refine BJ rfl rfl ?_; intro b2 ax
 refine Bw rfl zeroValue164 ?_; intro b3 az
 refine BU (uv (BT rfl rfl) ?_)
 refine uv (BM (v := .agg (#[.func (.func 188) #[] #[.pointer (some ⟨b2, 0, none⟩), .pointer (some ⟨b1, 0, none⟩)]])) rfl (by intro w; kernel_rfl)) ?_
 refine BP (i := 0) sizeOf164 rfl rfl rfl (by simp [Value.oneCell']) rfl (CB rfl) (AI rfl (Aa ?_))
 refine B1 1 rfl ax ?_; intro F4 ak al
 refine DT (L' := [(b3, ce (#[.func (.func 188) #[] #[.pointer (some ⟨b2, 0, none⟩), .pointer (some ⟨b1, 0, none⟩)]]) 164), (b1, ce #[.pointer (some ⟨Mv, 0, none⟩)] 147)]) rfl ?_
 replace ab := ab.mono (Am (Ac _)) ak
 replace ad := ad.mono (Am (Ac _)) ak
 replace aa := aa.mono (AU (Am (Ac _)) (AU (Ac _) (Ac _))) ak
 replace ae := ae.mono (AU (Ac _) (Ac _)) ak
 replace af := ak _ _ af
 refine B1 1 rfl aw ?_; intro F7 ai ay
 refine DT (L' := [(b3, ce (#[.func (.func 188) #[] #[.pointer (some ⟨b2, 0, none⟩), .pointer (some ⟨b1, 0, none⟩)]]) 164)]) rfl ?_
 replace ab := ab.mono (Am (Ac _)) ai
 replace ad := ad.mono (Am (Ac _)) ai
 replace aa := aa.mono (AU (Am (Ac _)) (AU (Ac _) (Ac _))) ai
 replace ae := ae.mono (AU (Ac _) (Ac _)) ai
 replace af := ai _ _ af
 replace al := ai _ _ al
 have ao : Gk Tryz.prog F7 188 #[] #[.pointer (some ⟨b2, 0, none⟩), .pointer (some ⟨b1, 0, none⟩)] (Ce (iE .i64) (iE .i64)) Value.bool (fun aq : Int × Int => Hm aq.1 aq.2 last walks Ao An start Ad BR Ca HG) := ⟨call188, fun F2 h2 vs aq r ha hr => by obtain ⟨_, _, rfl, rfl, rfl⟩ := ha; exact Ni (h2 _ _ al) (h2 _ _ ay) (h2 _ _ af) (ab.mono (Am (Ac _)) h2) (ad.mono (Am (Ac _)) h2) (aa.mono (AU (Am (Ac _)) (AU (Ac _) (Ac _))) h2) ah (ae.mono (AU (Ac _) (Ac _)) h2) aj hr⟩
 refine Aj (IH results129 (DI (cs := #[.func (.func 188) #[] #[.pointer (some ⟨b2, 0, none⟩), .pointer (some ⟨b1, 0, none⟩)]]) isAgg164 sizeOf164 rfl (Has.own 0 rfl) (CB rfl) rfl) (s1 sr) ?_)
 obtain rfl := AH hr
 exact ⟨_, _, _, rfl, rfl, ao⟩
theorem M8 {Ao : List (List Int)} {Ad : List ((List Int) × Int × Int)} (aj : F Mv = some (.cells ((([.slice AR walks.length AQ] : List Value) ++ (([.slice Aw Ao.length Ax] : List Value) ++ (([.int .i64 An] : List Value) ++ (([.int .i64 start] : List Value) ++ (([.slice Az Ad.length AA] : List Value) ++ (BR.flatMap (cI .i64) ++ (([.slice Ej Ca.length El] : List Value) ++ (HG.flatMap (cI .i64))))))))).toArray) 156 Tk)) (ad : As 1 (BC 1 (iE .i64)) F AR AQ walks) (ae : As 1 (BC 1 (iE .i64)) F Aw Ax Ao) (aa : As 3 (Ce (BC 1 (iE .i64)) (Ce (iE .i64) (iE .i64))) F Az AA Ad) (ab : BR.length = 25) (af : As 2 (Ce (iE .i64) (iE .i64)) F Ej El Ca) (ah : HG.length = 15) {r : (Int × Int) → Option Bool} (hr : Is walks Ao An start Ad BR Ca HG = some r) :
    SH.Spec Tryz.prog 54 #[.pointer (some ⟨Mv, 0, none⟩)] F [] fun F' L' v => ∃ (al : FuncId) (ao : Array Value) (aq : Array Value), v = .agg #[.func (.func al) ao aq] ∧ L' = [] ∧ Gk Tryz.prog F' al ao aq (Ce (iE .i64) (iE .i64)) Value.bool r := by
 refine sp func54 ntmps54 fun K _ _ => ?_
 rw [Is] at hr
 refine AJ ?_
 refine Bw rfl zeroValue164 ?_; intro b1 av
 refine BU (um ?_)
 obtain ⟨y, h2, r3⟩ := AF hr
 refine c0 call129 (O1 aj ad ae aa ab af ah h2) ?_; rintro _ F4 _ aw ax ⟨ar, au, ak, rfl, rfl, ai⟩
 refine AI (ln rfl) (BP (i := 0) sizeOf164 rfl rfl rfl (by simp [Value.oneCell']) rfl (CB rfl) (AI rfl ?_))
 refine Aa (Aj ?_)
 refine IH results54 (DI (cs := #[.func (.func ar) au ak]) isAgg164 sizeOf164 rfl (Has.own 0 rfl) (CB rfl) rfl) (s1 sr) ?_
 obtain rfl := AH r3
 exact ⟨_, _, _, rfl, rfl, ai⟩
set_option maxHeartbeats 1000000 in
theorem RT {Ao : List (List Int)} {Ad : List ((List Int) × Int × Int)} (af : As 1 (BC 1 (iE .i64)) F AR AQ walks) (ah : As 1 (BC 1 (iE .i64)) F Aw Ax Ao) (ab : As 3 (Ce (BC 1 (iE .i64)) (Ce (iE .i64) (iE .i64))) F Az AA Ad) {r : List (Int × Int)} {r2 r3 : Int} (hr : Nr walks Ao An start Ad = some (r, r2, r3)) :
    SH.Spec Tryz.prog 14 #[.agg #[.slice AR walks.length AQ, .slice Aw Ao.length Ax, .int .i64 An, .int .i64 start, .slice Az Ad.length AA]] F [] fun F' L' v => ∃ (ra : Option Addr) (rn : Nat) (rc : Nat) (rL : LH), v = .tuple #[.slice ra rn rc, .int .i64 r2, .int .i64 r3] ∧ L' = rL ++ [] ∧ Bd 0 64 2 (Ce (iE .i64) (iE .i64)) F' ra rn rc r rL := by
 refine sp func14 ntmps14 fun K _ _ => ?_
 rw [Nr] at hr
 refine AJ ?_
 refine BJ rfl rfl ?_; intro b1 cx
 refine ua (ua (ua (BU ?_)))
 refine uv (A1 isAgg39 sizeOf39 rfl (Has.own 0 rfl) (CB rfl) rfl) ?_
 obtain ⟨d, n, h2, r4⟩ := DM hr
 refine c0 call49 (QB af ah ab h2) ?_; rintro _ F5 _ cy cz ⟨v9, rfl, rfl, ax⟩
 refine AI (ln rfl) ?_
 refine um (ox rfl rfl rfl (ox rfl rfl rfl (ua (ua (Aa (Aq (AJ (um ?_))))))))
 refine uv (CI rfl rfl) (Aa ?_)
 refine cQ (fun ay => ?_) fun ay => ?_
 ·have bk := Bi r4 ay
  refine AJ (um (ua (ua (ua (Aa ?_)))))
  refine kW kn ?_
  refine Aj (Ai ?_)
  refine KE results14 (AY rfl) (AY rfl) (AY rfl) (sr) ?_
  obtain ⟨rfl, rfl, rfl⟩ := H2 bk
  exact ⟨_, _, _, [], rfl, rfl, Bd.nil _ _ _ _ _⟩
 have bl := Bk r4 ay
 refine Al (AJ (um (um ?_)))
 obtain ⟨BR, aj, ai, ak, ad, al, Ca, HG, bn, bo⟩ := XG bl
 have bg := ax; rw [bn] at bg; obtain ⟨bp, da, bq, az, aa, ⟨_, _, rfl, ⟨br, bu, rfl, aq⟩, ⟨_, _, rfl, ⟨bw, bx, rfl, ar⟩, ⟨_, _, rfl, rfl, ⟨_, _, rfl, rfl, ⟨_, _, rfl, ⟨bz, ca, rfl, au⟩, ⟨_, _, rfl, ⟨rfl, ba⟩, ⟨_, _, rfl, ⟨cb, cc, rfl, av⟩, ⟨rfl, bb⟩⟩⟩⟩⟩⟩⟩⟩⟩ := bg; subst az
 have aa : F5 bp = some (.cells ((([.slice br BR.length bu] : List Value) ++ (([.slice bw aj.length bx] : List Value) ++ (([.int .i64 ai] : List Value) ++ (([.int .i64 ak] : List Value) ++ (([.slice bz ad.length ca] : List Value) ++ (al.flatMap (cI .i64) ++ (([.slice cb Ca.length cc] : List Value) ++ (HG.flatMap (cI .i64))))))))).toArray) 156 bq) := aa
 obtain ⟨n2, cd, cf⟩ := AF bo
 refine cV call53 (Oo aa aq ar au ba av bb cd) (um ?_)
 obtain ⟨y, cg, cj⟩ := AF cf
 refine c0 call54 (M8 aa aq ar au ba av bb cg) ?_; rintro _ db _ ae ck ⟨cn, cp, cq, rfl, rfl, aw⟩
 replace aq := aq.mono (Am (Ac _)) ae
 replace ar := ar.mono (Am (Ac _)) ae
 replace au := au.mono (AU (Am (Ac _)) (AU (Ac _) (Ac _))) ae
 replace av := av.mono (AU (Ac _) (Ac _)) ae
 replace aa := ae _ _ aa
 refine AI (ln rfl) ?_
 obtain ⟨l, n3, ok, cr, bj⟩ := GR cj
 refine c0 call52 (MX aa aq ar au ba av bb aw cr) ?_; rintro _ dd _ ct bc ⟨de, df, dg, cu, rfl, rfl, ao⟩
 replace ao := ao.new fun p hp => bc p (by simp [hp])
 refine AI (lp (ln rfl)) (kO (kf (fS fO) kr) ?_)
 refine um (ox rfl rfl rfl (ox rfl rfl rfl (ox rfl rfl rfl (ua (ua (ua (Aa (Aq (AJ ?_)))))))))
 refine um (uv (BB rfl) (Aa ?_))
 refine AX rfl (fun bd => ?_) (fun bd => ?_)
 ·have cv := bt bj bd
  refine AJ (ua (ua (ua (Aa ?_))))
  refine kW kn ?_
  refine Aj (Ai ?_)
  refine KE results14 (AY rfl) (AY rfl) (AY rfl) (sr) ?_
  obtain ⟨rfl, rfl, rfl⟩ := H2 cv
  exact ⟨_, _, _, [], rfl, rfl, Bd.nil _ _ _ _ _⟩
 have cw := bf bj bd
 refine Al (AJ (um (um (ua (ua (ua (Aa ?_)))))))
 refine kW (kd kr) (Aj (KE results14 (AY rfl) (AY rfl) (AY rfl) (sr) ?_))
 obtain ⟨rfl, rfl, rfl⟩ := H2 cw
 exact ⟨_, _, _, _, rfl, rfl, ao.any⟩
theorem R5 {aa : Option Addr} {ab : Nat} {more : List Int} (ad : As 1 (iE .i64) F aa ab more) {r : Int} (hr : NL n more = some r) :
    Bl Tryz.prog 248 #[.int .i64 n, .slice aa more.length ab] F (.int .i64 r) := by
 refine sp func248 ntmps248 fun K _ _ => ?_
 rw [NL] at hr
 refine AJ (ua (Aa ?_))
 obtain ⟨n2, h1, r2⟩ := AF hr
 refine jE ([]) [(0, .int .i64 n2)] ?_ ?_
 ·clear r2
  refine AJ (um ?_)
  refine uv (A2 underlying33 rfl) ?_
  refine um (Aa ?_)
  refine Ak ?_
  refine Br (fun ak e1 F1 L1 => LA more ak fun tl k => ∃ (n3 : Int), HK tl n3 = some n2 ∧ F = F1 ∧ L1 = [] ∧ e1.sub [(0, .int .i64 n3), (7, .slice aa more.length ab), (8, .int .i64 (more.length : Int)), (9, .int .i64 k)]) _ (m0 kr ⟨_, _, rfl, BI.start _, n, h1, rfl, rfl, z4⟩) ?_
  rintro ak e1 _ _ ⟨tl, k, aq, ae, n3, r5, rfl, rfl, ar⟩
  refine AB _ ar (AJ (uv (Bp rfl rfl) ?_))
  refine Aa (Aq ?_)
  refine cQ (fun c8 => ?_) fun c8 => ?_
  ·obtain ⟨x, ax, rfl, af, al, au⟩ := BI.succ ae c8
   rw [HK] at r5
   refine Al (Aq ?_)
   refine Ak (AJ ?_)
   obtain ⟨Ue, ay, az, av, ah, ai, ao, rfl, aw, aj⟩ := As.at (Ac _) ad ([]) al.1 af
   refine uv (AT underlying33 sizeOf3 rfl ah rfl al) (uv (Ah isAgg3 rfl ai (aj 0 (by decide))) ?_)
   refine ua (Aa (Af (um (um ?_))))
   refine uv (U1 rfl rfl) ?_
   refine ua (Aa (At (id := 1) (Af ?_)))
   refine uv (Bf rfl rfl (BI.Ed ae c8 (As.lt ad))) ?_
   refine um (Aa ?_)
   subst aq; exact le kr ⟨_, _, rfl, au, if x < n3 then x else n3, r5, rfl, rfl, z4⟩
  obtain rfl := BI.zero ae c8
  rw [HK] at r5
  refine AW (Ae (Ae ?_))
  refine Au ?_
  obtain rfl := AH r5
  exact mi kr ⟨rfl, rfl, z1⟩
 refine AJ (um (ua (Aa (Aj ?_))))
 refine BZ results248 ?_
 obtain rfl := AH r2
 exact rfl
theorem Pf {r : Bool} (hr : MO a b = some r) :
    Bl Tryz.prog 219 #[.int .i64 a, .int .i64 b] F (.bool r) := by
 refine sp func219 ntmps219 fun K _ _ => ?_
 rw [MO] at hr
 refine AJ (ua (BU (um (um ?_))))
 obtain ⟨g1, r2⟩ := A0 hr
 refine uv (Fs rfl rfl g1) ?_
 obtain ⟨g3, r4⟩ := A0 r2
 refine uv (Bf rfl rfl g3) (uv (RZ rfl rfl (by decide)) ?_)
 refine ua (BU (um (um ?_)))
 obtain ⟨g5, r6⟩ := A0 r4
 refine uv (Fs rfl rfl g5) ?_
 refine bA (cs := #[.int .i64 (8 - (Int.tmod ((a - b) + 8) 8))]) Ct [.int .i64 (8 - (Int.tmod ((a - b) + 8) 8))] ?_; intro b7 ab
 refine Bz 0 rfl ab ?_; intro F8 ah aa
 refine AI rfl ?_
 have ad : As 1 (iE .i64) F8 (some ⟨b7, 0, none⟩) 1 [8 - (Int.tmod ((a - b) + 8) 8)] := As.BW (Ac _) (vss := [[.int .i64 (8 - (Int.tmod ((a - b) + 8) 8))]]) (xs := [8 - (Int.tmod ((a - b) + 8) 8)]) aa (.cons rfl .nil) rfl (by simp [maxLen])
 obtain ⟨n, ae, af⟩ := AF r6
 refine cV call248 (R5 ad ae) (uv (Kg rfl rfl) ?_)
 refine ua (Aa (Aj ?_))
 refine BZ results219 ?_
 obtain rfl := AH af
 exact rfl
theorem LU {Ad : Int} {Ao : List (List (List Int))} (_h_hears : As 1 (BC 1 (BC 1 (iE .i64))) F Aw Ax Ao) (aa : As 1 (iE .i64) F A9 A8 Av) (_h_cries : As 3 (Ce (iE .i64) (Ce (iE .i64) (iE .i64))) F Bv Bx Ba) {r : Bool} (hr : GH An Ad Ao Av Ba hour Dy = some r) :
    Bl Tryz.prog 173 #[.agg #[.int .i64 An, .int .i64 Ad, .slice Aw Ao.length Ax, .slice A9 Av.length A8, .slice Bv Ba.length Bx], .int .i64 hour, .int .i64 Dy] F (.bool r) := by
 refine sp func173 ntmps173 fun K _ _ => ?_
 rw [GH] at hr
 refine AJ ?_
 refine BJ rfl rfl ?_; intro b1 az
 refine ua (BU ?_)
 refine uv (Ab KV rfl) (uv (Ah isAgg33 rfl (Has.own 0 rfl) rfl) (um ?_))
 obtain ⟨x, g2, aj, r4⟩ := BY hr
 obtain ⟨b5, o6, c7, ba, ao, ad, ak, rfl, aq, ae⟩ := As.at (Ac _) aa ([(b1, ce #[.int .i64 An, .int .i64 Ad, .slice Aw Ao.length Ax, .slice A9 Av.length A8, .slice Bv Ba.length Bx] 100)]) g2.1 aj
 refine uv (AT underlying33 sizeOf3 rfl ao rfl g2) (uv (Ah isAgg3 rfl ad (ae 0 (by decide))) (uv (Cx rfl rfl) (um ?_)))
 by_cases ab : x = (-1)
 ·have ar := Bi r4 ab
  refine fT ab (fT ab (fT ab (fT ab (fT ab (fT ab (fT ab ?_))))))
  refine uv (AS (Bq rfl ab) rfl) ?_
  refine ua (Aa ?_)
  refine kW kn (Aj (BZ results173 ?_))
  obtain rfl := AH ar
  exact rfl
 have au := Bk r4 ab
 refine nF ab (um (nF ab ?_))
 refine uv (Ab KV rfl) (nF ab (uv (Ah isAgg33 rfl (Has.own 0 rfl) rfl) ?_))
 refine nF ab (um (nF ab ?_))
 obtain ⟨bb, bc, bd, av, af, ah, al, rfl, aw, ai⟩ := As.at (Ac _) aa ([(b1, ce #[.int .i64 An, .int .i64 Ad, .slice Aw Ao.length Ax, .slice A9 Av.length A8, .slice Bv Ba.length Bx] 100)]) g2.1 aj
 refine uv (AT underlying33 sizeOf3 rfl af rfl g2) (nF ab (uv (Ah isAgg3 rfl ah (ai 0 (by decide))) (nF ab ?_)))
 obtain ⟨ok, ax, ay⟩ := AF au
 refine cV call219 (Pf ax) (uv (AE (Bc rfl ab) rfl) ?_)
 refine ua (Aa ?_)
 refine kW kn (Aj (BZ results173 ?_))
 obtain rfl := AH ay
 exact rfl
theorem II {s_ : List Int} (aa : As 1 (iE .i64) F Cj Ck s_) {r : List Int} (hr : DY s_ = some r) :
    SH.Spec Tryz.prog 110 #[.slice Cj s_.length Ck] F [] fun F' L' v => ∃ (ra : Option Addr) (rn : Nat) (rc : Nat) (rL : LH), v = .slice ra rn rc ∧ L' = rL ++ [] ∧ Bd 0 3 1 (iE .i64) F' ra rn rc r rL := by
 refine sp func110 ntmps110 fun K _ _ => ?_
 rw [DY] at hr
 refine AJ (ua (Aa (Aq (AJ (um ?_)))))
 refine uv (S9 underlying33 rfl) (Aa ?_)
 refine AX rfl (fun c1 => ?_) (fun c1 => ?_)
 ·have r2 := TQ hr (As.isNone aa c1)
  refine AJ (ua (Aa (Aj (Ai ?_))))
  refine BZ results110 ?_
  obtain rfl := AH r2
  exact ⟨_, _, _, [], rfl, rfl, Bd.nil _ _ _ _ _⟩
 have r3 := Un hr
 refine Al (AJ ?_)
 refine Ho (cs := #[]) rfl rfl (LR Ct) ?_; intro b4 af
 refine um ?_
 have ae : Bd K.w0.heap.size 3 1 (iE .i64) F (some ⟨b4, 0, none⟩) 0 0 ([] : List Int) [(b4, ce #[] 3)] := Bd.BW (vss := []) (Ac _) af .nil rfl rfl (by simp [maxLen])
 generalize ab : ([(b4, ce #[] 3)] : LH) = ah at ae
 refine B2 (L' := ah ++ []) (by rw [← ab]; exact fO) ?_
 obtain ⟨l, h8, g9, ai⟩ := Gp r3
 refine Ey (xs := ([] : List Int)) (ys := s_) (zs := l) rfl Ct rfl rfl (Nat.le_refl _) (fun _ => .h) ae (As.src aa) h8 g9 (by decide) ?_; intro ak al ao aj ad
 refine ua (Aa (Aj ?_))
 refine BZ results110 ?_
 obtain rfl := AH ai
 exact ⟨_, _, _, _, rfl, rfl, ad.any⟩
set_option maxHeartbeats 1000000 in
theorem O6 {Ad : Int} {Ao : List (List (List Int))} {g : List Bool} (ah : F GZ = some (.cells #[.int .i64 An, .int .i64 Ad, .slice Aw Ao.length Ax, .slice A9 Av.length A8, .slice Bv Ba.length Bx] 247 IZ)) (ab : As 1 (BC 1 (BC 1 (iE .i64))) F Aw Ax Ao) (_h_readings : As 1 (iE .i64) F A9 A8 Av) (aa : As 3 (Ce (iE .i64) (Ce (iE .i64) (iE .i64))) F Bv Bx Ba) (cy : g.length = 24) {r : List Bool} (hr : Ki An Ad Ao Av Ba g hour Dy = some r) :
    SH.Spec Tryz.prog 160 #[.pointer (some ⟨GZ, 0, none⟩), .agg (arr cB g), .int .i64 hour, .int .i64 Dy] F [] fun _ L' v => v = .agg (arr cB r) ∧ L' = [] ∧ r.length = 24 := by
 refine sp func160 ntmps160 fun K _ _ => ?_
 rw [Ki] at hr
 refine AJ ?_
 refine BJ rfl rfl ?_; intro b1 eg
 refine Bw rfl zeroValue221 ?_; intro b2 eh
 refine AI rfl (Aa ?_)
 obtain ⟨g2, h4, r5⟩ := AF hr
 refine A5 (fun e1 F1 L1 => F = F1 ∧ L1 = [(b2, ce (arr cB (List.replicate 24 false)) 221), (b1, ce (arr cB g2) 221)] ∧ e1.sub [(5, .pointer (some ⟨b1, 0, none⟩)), (8, .pointer (some ⟨b2, 0, none⟩))] ∧ g2.length = 24) ?_ ?_
 ·clear r5
  refine AJ (um ?_)
  refine uv (AV rfl) (uv (Ab N3 rfl) (uv (Ab Qe rfl) (uv (Ah isAgg98 rfl (Has.frozen ah) rfl) (uv (A2 underlying98 rfl) ?_))))
  refine um (Aa ?_)
  refine Ak ?_
  refine Br (fun cb e1 F1 L1 => LA Ba cb fun tl k => ∃ (g3 : List Bool), Fw Ao hour Dy tl g3 = some g2 ∧ F = F1 ∧ L1 = [(b2, ce (arr cB (List.replicate 24 false)) 221), (b1, ce (arr cB g3) 221)] ∧ e1.sub [(0, .pointer (some ⟨GZ, 0, none⟩)), (2, .int .i64 hour), (3, .int .i64 Dy), (5, .pointer (some ⟨b1, 0, none⟩)), (8, .pointer (some ⟨b2, 0, none⟩)), (17, .slice Bv Ba.length Bx), (18, .int .i64 (Ba.length : Int)), (19, .int .i64 k)] ∧ g3.length = 24) _ (m0 kr ⟨_, _, rfl, BI.start _, g, h4, rfl, rfl, z8, cy⟩) ?_
  rintro cb e1 _ _ ⟨tl, k, cz, ao, g3, r9, rfl, rfl, aq, h6⟩
  refine AB _ aq (AJ (uv (Bp rfl rfl) ?_))
  refine Aa (Aq ?_)
  refine cQ (fun ai => ?_) fun ai => ?_
  ·obtain ⟨x, ei, rfl, ar, cc, au⟩ := BI.succ ao ai
   rw [Fw] at r9
   refine Al ?_
   obtain ⟨g4, cd, cf⟩ := AF r9
   refine A5 (fun e1 F1 L1 => F = F1 ∧ L1 = [(b2, ce (arr cB (List.replicate 24 false)) 221), (b1, ce (arr cB g4) 221)] ∧ e1.sub [(0, .pointer (some ⟨GZ, 0, none⟩)), (2, .int .i64 hour), (3, .int .i64 Dy), (5, .pointer (some ⟨b1, 0, none⟩)), (8, .pointer (some ⟨b2, 0, none⟩)), (17, .slice Bv Ba.length Bx), (18, .int .i64 (Ba.length : Int)), (19, .int .i64 k)] ∧ g4.length = 24) ?_ ?_
   ·clear cf
    refine Ak (AJ ?_)
    obtain ⟨ej, eo, ep, da, av, aw, ad, ⟨_, _, rfl, rfl, ⟨_, _, rfl, rfl, rfl⟩⟩, ax, ay⟩ := As.at (AU (Ac _) (AU (Ac _) (Ac _))) aa ([(b2, ce (arr cB (List.replicate 24 false)) 221), (b1, ce (arr cB g3) 221)]) cc.1 ar
    refine uv (AT underlying98 sizeOf132 rfl av rfl cc) (uv (A1 isAgg132 sizeOf132 rfl aw ad (Cz ad ax ay)) ?_)
    refine Bw rfl zeroValue132 ?_; intro ae db
    refine BP (i := 0) sizeOf132 rfl rfl rfl (by simp [Value.oneCell']) rfl (CB rfl) (AI rfl ?_)
    refine Aa (Aq (AJ ?_))
    refine uv (Ab S4 rfl) (uv (Ah isAgg3 rfl (Has.own 0 rfl) rfl) (um (uv (CI rfl rfl) (Aa ?_))))
    refine cQ (fun az => ?_) fun az => ?_
    ·have dd := Bi cd az
     refine AW (Ae ?_)
     refine Au ?_
     obtain rfl := AH dd
     exact mi (kd kr) ⟨rfl, rfl, z8, h6⟩
    have de := Bk cd az
    refine Al (dW (wm (wv (AV rfl) (wv (Ab N3 rfl) (wv (Ab Ms rfl) (wv (Ah isAgg97 rfl (Has.frozen ah) rfl) (wv (Ab SG rfl) ?_)))))))
    refine wv (Ah isAgg3 rfl (Has.own 0 rfl) rfl) ?_
    obtain ⟨x2, cg, ba, df⟩ := BY de
    obtain ⟨er, et, eu, dg, bb, bc, cj, ⟨ew, ey, rfl, dh⟩, di, bd⟩ := As.at (Am (Am (Ac _))) ab ([(ae, ce #[.int .i64 x.1, .int .i64 x.2.1, .int .i64 x.2.2] 132), (b2, ce (arr cB (List.replicate 24 false)) 221), (b1, ce (arr cB g3) 221)]) cg.1 ba
    refine wv (AT underlying97 sizeOf36 rfl bb rfl cg) (wv (Ah isAgg36 rfl bc (bd 0 (by decide))) (wm ?_))
    obtain ⟨x3, ck, bg, dk⟩ := BY df
    obtain ⟨ez, fa, fb, dm, bj, bk, cn, ⟨dn, dp, rfl, cp⟩, dq, bl⟩ := As.at (Am (Ac _)) dh ([(ae, ce #[.int .i64 x.1, .int .i64 x.2.1, .int .i64 x.2.2] 132), (b2, ce (arr cB (List.replicate 24 false)) 221), (b1, ce (arr cB g3) 221)]) ck.1 bg
    refine wv (AT underlying36 sizeOf33 rfl bj rfl ck) (wv (Ah isAgg33 rfl bk (bl 0 (by decide))) (wv (A2 underlying33 rfl) ?_))
    refine wm (CX ?_)
    refine Ak ?_
    refine Br (fun cq e1 F1 L1 => LA x3 cq fun cr k2 => ∃ (g5 : List Bool), FB x cr g5 = some g4 ∧ F = F1 ∧ L1 = [(ae, ce #[.int .i64 x.1, .int .i64 x.2.1, .int .i64 x.2.2] 132), (b2, ce (arr cB (List.replicate 24 false)) 221), (b1, ce (arr cB g5) 221)] ∧ e1.sub [(0, .pointer (some ⟨GZ, 0, none⟩)), (2, .int .i64 hour), (3, .int .i64 Dy), (5, .pointer (some ⟨b1, 0, none⟩)), (8, .pointer (some ⟨b2, 0, none⟩)), (10, .pointer (some ⟨ae, 0, none⟩)), (17, .slice Bv Ba.length Bx), (18, .int .i64 (Ba.length : Int)), (19, .int .i64 k), (38, .slice dn x3.length dp), (39, .int .i64 (x3.length : Int)), (40, .int .i64 k2)] ∧ g5.length = 24) _ (m0 kr ⟨_, _, rfl, BI.start _, g3, dk, rfl, rfl, (sc rfl (sc rfl (sc rfl (sc rfl z8)))), h6⟩) ?_
    rintro cq e1 _ _ ⟨cr, k2, bn, af, g5, aj, rfl, rfl, bo, ak⟩
    refine AB _ bo (AJ (uv (Bp rfl rfl) ?_))
    refine Aa (Aq ?_)
    refine cQ (fun al => ?_) fun al => ?_
    ·obtain ⟨x4, fe, rfl, bp, ct, bq⟩ := BI.succ af al
     rw [FB] at aj
     refine Al (Aq ?_)
     refine Ak (AJ ?_)
     obtain ⟨ff, fg, fh, dr, br, bu, cu, rfl, dt, bw⟩ := As.at (Ac _) cp ([(ae, ce #[.int .i64 x.1, .int .i64 x.2.1, .int .i64 x.2.2] 132), (b2, ce (arr cB (List.replicate 24 false)) 221), (b1, ce (arr cB g5) 221)]) ct.1 bp
     refine uv (AT underlying33 sizeOf3 rfl br rfl ct) (uv (Ah isAgg3 rfl bu (bw 0 (by decide))) ?_)
     refine ua (Aa ?_)
     refine CM [(.still, 0), (.still, 1), (.still, 2), (.still, 3), (.still, 4), (.seq, 5)] (by kernel_rfl) (by kernel_rfl) (trivial) (by rfl) (by kernel_rfl) (mS [12] rfl (BF rfl) (mS [10] rfl (Ab S1 rfl) (mL [45] ([(ae, ce #[.int .i64 x.1, .int .i64 x.2.1, .int .i64 x.2.2] 132)]) rfl (s0 (s2 (s1 (s1 sr)))) (fun H F' L' du dv => Ah isAgg3 rfl ((Has.own 0 rfl).ext du dv) rfl) ?_)))
     obtain ⟨cv, dw⟩ := A0 aj
     refine mS [5, 44] rfl (By underlying221 sizeOf219 rfl rfl cv) ?_
     obtain ⟨cw, dx⟩ := A0 dw
     obtain ⟨x5, dy, dz, e9⟩ := BY dx
     have bx : (x4 * 4 + x.2.2 : Int).toNat = (x4 : Int).toNat * 4 + (x.2.2 : Int).toNat := by have := cv; have := cw; omega
     refine mS [46, 47] rfl (By underlying219 sizeOf4 rfl rfl cw) ?_
     refine ⟨_, [(48, .pointer (some ⟨b1, 0 + (x4 : Int).toNat * 4 + (x.2.2 : Int).toNat * 1, none⟩))], rfl, rfl, z1, by kernel_rfl, ?_⟩; intro H
     obtain ⟨l, cx, eb⟩ := C3 e9
     have ec : l.length = 24 := by rw [cx, List.length_set]; exact ak
     refine Pl (i := 2) sizeOf4 BG rfl rfl rfl rfl bx (by have := dy; have := ak; omega) ak ?_
     refine AI (L' := [(ae, ce #[.int .i64 x.1, .int .i64 x.2.1, .int .i64 x.2.2] 132), (b2, ce (arr cB (List.replicate 24 false)) 221), (b1, ce (arr cB l) 221)]) (by rw [cx]; rfl) ?_
     refine Aa ⟨undef, rfl, A4.refl _, [], by kernel_rfl, .inl (.inl rfl), nm, ?_⟩
     refine D1 ?_
     refine At (id := 3) (Af ?_)
     refine uv (Bf rfl rfl (BI.Ed af al (As.lt cp))) ?_
     refine um (Aa ?_)
     subst bn; exact le kr ⟨_, _, rfl, bq, l, eb, rfl, rfl, (sc rfl (sc rfl (sc rfl (sc rfl z8)))), ec⟩
    obtain rfl := BI.zero af al
    rw [FB] at aj
    refine AW (Ae (Ae ?_))
    refine Au (At (id := 1) ?_)
    obtain rfl := AH aj
    exact mi (kd kr) ⟨rfl, rfl, z8, ak⟩
   rintro e1 _ _ ⟨rfl, rfl, bz, ef⟩
   refine AB _ bz (Af (uv (Bf rfl rfl (BI.Ed ao ai (As.lt aa))) ?_))
   refine um (Aa ?_)
   subst cz; exact le kr ⟨_, _, rfl, au, g4, cf, rfl, rfl, z8, ef⟩
  obtain rfl := BI.zero ao ai
  rw [Fw] at r9
  refine AW (Ae (Ae ?_))
  refine Au ?_
  obtain rfl := AH r9
  exact mi kr ⟨rfl, rfl, z2, h6⟩
 rintro e1 _ _ ⟨rfl, rfl, ca, h3⟩
 refine AB _ ca (AJ (uv (Jc isAgg221 sizeOf221 rfl (Has.own 1 rfl) (EP BG h3)) (HP (i := 0) sizeOf221 rfl rfl rfl (EP BG List.length_replicate) (EP BG h3) (MJ BG) (AI rfl (Aa (kW (kc kn) (Aj ?_)))))))
 refine IH results160 (DI (cs := arr cB g2) isAgg221 sizeOf221 rfl (Has.own 0 rfl) (Fq (Ds (EJ BG h3))) (Jv (EJ BG h3) (Ds (EJ BG h3)))) (s1 sr) ?_
 obtain rfl := AH r5
 exact ⟨rfl, rfl, h3⟩
set_option maxHeartbeats 1000000 in
theorem PA {ab : Nat} {ah : Nat × Nat} (aa : F ab = some (.cells #[.int .i64 Dy] 3 ah)) {xs : List Int} (hr : KI Dy = some xs) :
    ES Tryz.prog 220 #[] #[.pointer (some ⟨ab, 0, none⟩)] F (fun x : Int => #[.int .i64 x]) xs := by
 intro G0 bq yv J Jx cc br hy Fc L0 hG bu
 replace aa := (bq.trans hG) _ _ aa
 have ak : xs = [] ++ xs := rfl
 show SH.Spec Tryz.prog 220 #[yv, .pointer (some ⟨ab, 0, none⟩)] Fc L0 _
 refine sp func220 ntmps220 fun K _ _ => ?_
 rw [KI] at hr; refine DT (L' := L0 ++ []) (by simp) ?_
 refine AJ (um (Aa ?_))
 refine Ak ?_
 obtain ⟨g6, r7⟩ := A0 hr
 refine Br (fun az e1 F1 L1 => ∃ (k : Int), EI 0 8 k az ∧ ∃ (ae : List Int) (ai : List Int) (aq : LH), E7 Dy az k = some ai ∧ A4 Fc F1 ∧ L1 = (aq ++ []) ∧ e1.sub [(0, yv), (1, .pointer (some ⟨ab, 0, none⟩)), (4, .int .i64 k)] ∧ xs = ae ++ ai ∧ J ae F1 aq ∧ A4 G0 F1) _ (m0 kr ⟨_, EI.start _ _, [], xs, L0, r7, A4.refl _, rfl, z3, ak, bu, hG⟩) ?_
 rintro az e1 cd _ ⟨k, ba, ae, ai, aq, bb, al, rfl, bc, ad, bd, hG⟩
 refine AB _ bc ?_
 replace aa := al _ _ aa
 refine AJ (uv (Bp rfl rfl) ?_)
 refine Aa (Aq ?_)
 refine cQ (fun ar => ?_) fun ar => ?_
 ·obtain ⟨az, rfl, au⟩ := EI.succ ba ar
  rw [E7] at bb
  refine Al (Aq ?_)
  refine Ak ?_
  refine AJ (um (ua (BU (um ?_))))
  refine uv (Ah isAgg3 rfl (Has.frozen aa) rfl) ?_
  obtain ⟨ok, bw, bo⟩ := AF bb
  refine cV call219 (Pf bw) (um ?_)
  rcases Cd ok with af | af
  ·have bx := bt bo af
   refine nB af (um (nB af (um (nB af ?_))))
   obtain ⟨ao, bz, av⟩ := Qg bx
   refine LJ (Lb := aq) (Lr := []) (vs := [.int .i64 k]) rfl rfl rfl fP (hy ae k ao (by rw [ad, av]) _ _ hG bd) ?_
   rintro cf cg bg aw bj; obtain ⟨ca, rfl, ax, ay⟩ := HZ bj
   replace hG := hG.trans aw
   refine nB af (uv (BB rfl) (uv (AS (Hx rfl af) rfl) (Aa ?_)))
   refine AX rfl (fun bk => ?_) (fun bk => ?_)
   ·have bl := ay (by simpa using bk)
    refine Aj (AD (Ai (Ai (AD ?_))))
    refine Gs (.inl rfl) results220 (sr) ?_
    exact .inr (by rw [List.append_nil]; exact bl)
   have bn := ax (by simpa using bk)
   have aj : xs = (ae ++ [k]) ++ ao := by rw [ad, av]; simp
   refine Al (At (id := 1) (Af ?_))
   refine uv (Bf rfl rfl (EI.Ed ba ar g6)) ?_
   refine um (Aa ?_)
   exact le kr ⟨_, au, ae ++ [k], ao, bg, bz, (al.trans aw), rfl, z3, aj, bn, hG⟩
  have cb := bf bo af
  refine fB af (fB af (fB af (fB af ?_)))
  refine uv (AE (Hx rfl af) rfl) (Aa ?_)
  refine AX rfl (fun bp => nomatch bp) (fun bp => ?_)
  refine Al (At (id := 1) (Af ?_))
  refine uv (Bf rfl rfl (EI.Ed ba ar g6)) ?_
  refine um (Aa ?_)
  exact le kr ⟨_, au, ae, ai, aq, cb, al, rfl, z3, ad, bd, hG⟩
 obtain rfl := EI.zero ba ar
 rw [E7] at bb
 refine AW (Ae (Ae ?_))
 refine Au (Gs (.inr rfl) results220 (sr) ?_)
 obtain rfl := AH bb
 exact .inl (by have e1 := ad; rw [List.append_nil] at e1; rw [List.append_nil, e1]; exact bd)
theorem QY {r : List Int} (hr : Mf Dy = some r) :
    SH.Spec Tryz.prog 175 #[.int .i64 Dy] F [] fun F' L' v => ∃ (ab : Array Value), v = .func (.func 220) #[] ab ∧ L' = [] ∧ ES Tryz.prog 220 #[] ab F' (fun x : Int => #[.int .i64 x]) r := by
 refine sp func175 ntmps175 fun K _ _ => ?_
 rw [Mf] at hr
 refine AJ ?_
 refine BJ rfl rfl ?_; intro b1 ad
 refine ua (BU ?_)
 refine uv (BT rfl rfl) ?_
 refine ua (Aa ?_)
 refine B1 0 rfl ad ?_; intro F2 af ae
 refine DT (L' := []) rfl ?_
 obtain ⟨l, h5, r7⟩ := AF hr
 have aa : ES Tryz.prog 220 #[] #[.pointer (some ⟨b1, 0, none⟩)] F2 (fun x : Int => #[.int .i64 x]) l := PA ae h5
 refine Aj (BZ results175 ?_)
 obtain rfl := AH r7
 exact ⟨_, rfl, rfl, aa⟩
set_option maxHeartbeats 1000000 in
theorem Gu {s_ : List ((List Bool) × (List Int))} {f : ((List Bool) × (List Int)) → Option Bool} (ab : As 25 (Ce (Ll 24 cB) (BC 1 (iE .i64))) F Cj Ck s_) (al : Gk Tryz.prog F KS KU KT (V5 (Ce (Ll 24 cB) (BC 1 (iE .i64)))) Value.bool f) {r : Int} (hr : C5 s_ f = some r) :
    Bl Tryz.prog 221 #[.slice Cj s_.length Ck, .func (.func KS) KU KT] F (.int .i64 r) := by
 refine sp func221 ntmps221 fun K _ _ => ?_
 rw [C5] at hr
 refine AJ (ua (Aa ?_))
 refine A5 (fun e1 F1 L1 => CS = some r ∧ F = F1 ∧ L1 = [] ∧ e1.sub []) ?_ ?_
 ·refine AJ (um ?_)
  refine uv (A2 underlying216 rfl) ?_
  refine um (Aa ?_)
  refine Ak ?_
  refine Br (fun ao e1 F1 L1 => LA s_ ao fun tl k => BQ f tl k = some r ∧ F = F1 ∧ L1 = [] ∧ e1.sub [(0, .slice Cj s_.length Ck), (1, .func (.func KS) KU KT), (7, .int .i64 (s_.length : Int)), (8, .int .i64 k)]) _ (m0 kr ⟨_, _, rfl, BI.start _, hr, rfl, rfl, z4⟩) ?_
  rintro ao e1 _ _ ⟨tl, k, au, ad, r3, rfl, rfl, av⟩
  refine AB _ av (AJ (uv (Bp rfl rfl) ?_))
  refine Aa (Aq ?_)
  refine cQ (fun c6 => ?_) fun c6 => ?_
  ·obtain ⟨x, bg, rfl, aw, g9, ax⟩ := BI.succ ad c6
   rw [BQ] at r3
   refine Al (Aq ?_)
   refine Ak ?_
   refine AJ (um (ua (BU (um (um (um ?_))))))
   obtain ⟨Jn, bj, bk, ay, ae, af, aa, ⟨_, _, rfl, ⟨rfl, az⟩, ⟨bl, bn, rfl, ba⟩⟩, ah, ai⟩ := As.at (AU (DJ (n := 24) (sz := 1) BG) (Am (Ac _))) ab ([]) g9.1 aw
   refine uv (AT underlying216 sizeOf223 rfl ae rfl g9) (uv (A1 isAgg223 sizeOf223 rfl af aa (Cz aa ah ai)) ?_)
   obtain ⟨ok, bb, aq⟩ := AF r3
   refine D2 rfl al.1 rfl rfl rfl (al.2 _ (A4.refl _) _ _ _ ⟨_, rfl, ⟨_, _, rfl, ⟨rfl, az⟩, ⟨_, _, rfl, ba⟩⟩⟩ bb) (Aa ?_)
   refine AX rfl (fun aj => ?_) (fun aj => ?_)
   ·have bc := bt aq aj
    refine AJ (um (ua (Aa (Aj (AD (Ai (Ai (AD (Ai ?_)))))))))
    refine BZ results221 ?_
    obtain rfl := AH bc
    exact rfl
   have bd := bf aq aj
   refine Al (At (id := 1) (Af ?_))
   refine uv (Bf rfl rfl (BI.Ed ad c6 (As.lt ab))) ?_
   refine um (Aa ?_)
   subst au; exact le kr ⟨_, _, rfl, ax, bd, rfl, rfl, z4⟩
  obtain rfl := BI.zero ad c6
  rw [BQ] at r3
  refine AW (Ae (Ae ?_))
  refine Au ?_
  exact mi kr ⟨r3, rfl, rfl, (sn _)⟩
 rintro e1 _ _ ⟨ar, rfl, rfl, ak⟩
 refine AB _ ak ?_
 rw [CS] at ar
 refine AJ (ua (Aa (Aj ?_)))
 refine BZ results221 ?_
 obtain rfl := AH ar
 exact rfl
theorem FN {s_ : List ((List Bool) × (List Int))} {f : ((List Bool) × (List Int)) → Option Bool} (aa : As 25 (Ce (Ll 24 cB) (BC 1 (iE .i64))) F Cj Ck s_) (ab : Gk Tryz.prog F KS KU KT (V5 (Ce (Ll 24 cB) (BC 1 (iE .i64)))) Value.bool f) {r : Bool} (hr : CR s_ f = some r) :
    Bl Tryz.prog 176 #[.slice Cj s_.length Ck, .func (.func KS) KU KT] F (.bool r) := by
 refine sp func176 ntmps176 fun K _ _ => ?_
 rw [CR] at hr
 refine AJ (ua (BU (um (um ?_))))
 obtain ⟨n, h1, r2⟩ := AF hr
 refine cV call221 (Gu aa ab h1) (uv (FX rfl rfl) ?_)
 refine ua (Aa (Aj ?_))
 refine BZ results176 ?_
 obtain rfl := AH r2
 exact rfl
set_option maxHeartbeats 1000000 in
theorem IP {aa : Int} {ct : FuncId} {cu cv : Array Value} {x : (Int × Int) → Option Bool} {bq : Nat} {x2 : Int} {br : Nat × Nat} {Pu : Nat} {Ad : Int} {Ao : List (List (List Int))} {Qt : Nat × Nat} {ba al : Nat} {aj : Array MapEntry} {av : Nat} {x3 : List ((Int × (List Bool)) × Bool)} {bd : Nat × Nat} {ab : Nat} {ad : Option Addr} {ae af : Nat} {ai : LH} {aw : List (Int × (List Bool) × (List Int))} (aq : RS.length = 24) (ak : As 1 (iE .i64) F G1 Hf HC) (cg : F SN = some (.cells #[.func (.func ct) cu cv] 162 Sm)) (cw : Gk Tryz.prog F ct cu cv (Ce (iE .i64) (iE .i64)) Value.bool x) (bb : F bq = some (.cells #[.int .i64 x2] 3 br)) (cj : F GZ = some (.cells #[.pointer (some ⟨Pu, 0, none⟩)] 215 IZ)) (bu : F Pu = some (.cells #[.int .i64 An, .int .i64 Ad, .slice Aw Ao.length Ax, .slice A9 Av.length A8, .slice Bv Ba.length Bx] 247 Qt)) (ax : As 1 (BC 1 (BC 1 (iE .i64))) F Aw Ax Ao) (au : As 1 (iE .i64) F A9 A8 Av) (ay : As 3 (Ce (iE .i64) (Ce (iE .i64) (iE .i64))) F Bv Bx Ba) (ao : F ba = some (.cells #[.map (some al)] 311 bd)) (az : JG Hz (vA (cP (cI .i64) (cA cB))) Value.bool aj x3) (ah : Bd 0 315 26 (Ce (iE .i64) (Ce (Ll 24 cB) (BC 1 (iE .i64)))) F ad ae af aw ai) {r : List ((Int × (List Bool)) × Bool)} {r2 : List (Int × (List Bool) × (List Int))} (hr : FR Dy RS HC aa x x2 An Ad Ao Av Ba x3 aw = some (r, r2)) :
    SH.Spec Tryz.prog 174 #[.agg ((([.int .i64 Dy] : List Value) ++ (RS.flatMap cB ++ (([.slice G1 HC.length Hf] : List Value)))).toArray), .int .i64 aa, .pointer (some ⟨SN, 0, none⟩), .pointer (some ⟨bq, 0, none⟩), .pointer (some ⟨GZ, 0, none⟩), .pointer (some ⟨ba, 0, none⟩), .pointer (some ⟨ab, 0, none⟩)] F ((al, .map aj av) :: ((ab, ce #[.slice ad ae af] 310) :: (ai ++ []))) fun F' L' v => ∃ (bc : Array MapEntry) (bw : Nat) (cx : Option Addr) (cy : Nat) (cz : Nat) (da : LH), v = .tuple #[] ∧ L' = (al, .map bc bw) :: ((ab, ce #[.slice cx cy cz] 310) :: (da ++ [])) ∧ JG Hz (vA (cP (cI .i64) (cA cB))) Value.bool bc r ∧ Bd 0 315 26 (Ce (iE .i64) (Ce (Ll 24 cB) (BC 1 (iE .i64)))) F' cx cy cz r2 da := by
 refine sp func174 ntmps174 fun K _ _ => ?_
 rw [FR] at hr
 refine DT (L' := (al, .map aj av) :: ((ab, ce #[.slice ad ae af] 310) :: (ai ++ []))) (by simp) (AJ ?_)
 refine BJ rfl rfl ?_; intro b1 fk
 refine Aa (Aq (AJ ?_))
 refine uv (Ah isAgg162 rfl (Has.frozen cg) rfl) (uv (Ah isAgg3 rfl (Has.frozen bb) rfl) (um ?_))
 obtain ⟨ok, h2, r3⟩ := AF hr
 refine D2 rfl cw.1 rfl rfl rfl (cw.2 _ (A4.refl _) _ _ _ ⟨_, _, rfl, rfl, rfl⟩ h2) (uv (BB rfl) (Aa ?_))
 refine AX rfl (fun c4 => ?_) (fun c4 => ?_)
 ·have r5 := bt r3 c4
  refine kW (kd kr) ?_
  refine Aj (Ai ?_)
  refine QD (.inl rfl) results174 ?_
  obtain ⟨rfl, rfl⟩ := DO r5
  exact ⟨_, _, _, _, _, _, rfl, rfl, az, ah.any⟩
 have r6 := bf r3 c4
 refine Al (AJ (um ?_))
 refine uv (Ah isAgg215 rfl (Has.frozen cj) rfl) (uv (Ab Oj rfl) (uv (Ab P5 rfl) (uv (A1 (cs := arr cB RS) isAgg221 sizeOf221 rfl (Has.own 0 rfl) (Fq (Ar (A := ([.int .i64 Dy] : List Value)) (k := 1) (o := 0) rfl (BK (EJ BG aq)))) (Jv (EJ BG aq) (Ar (A := ([.int .i64 Dy] : List Value)) (k := 1) (o := 0) rfl (BK (EJ BG aq))))) (uv (Ah isAgg3 rfl (Has.frozen bb) rfl) (um ?_)))))
 obtain ⟨a, h7, r8⟩ := AF r6
 refine c0 call160 (O6 bu ax au ay aq h7) ?_; rintro _ F9 _ bg dh ⟨rfl, rfl, ar⟩
 replace ak := ak.mono (Ac _) bg
 replace ah := ah.mono (AU (Ac _) (AU (DJ (n := 24) (sz := 1) BG) (Am (Ac _)))) bg
 replace ao := bg _ _ ao
 refine AI (ln rfl) ?_
 refine uv (BM (v := .agg ((([.int .i64 aa] : List Value) ++ (a.flatMap cB)).toArray)) rfl (by intro w; obtain ⟨a0, a1, a2, a3, a4, a5, a6, a7, a8, a9, di, dk, dm, dn, dp, dq, dr, dt, du, dv, dw, dx, dy, dz, rfl⟩ := MC ar; kernel_rfl)) ?_
 refine Bw rfl zeroValue313 ?_; intro bn e9
 refine AI (L' := (bn, ce ((([.int .i64 0] : List Value) ++ ((List.replicate 24 false).flatMap cB)).toArray) 313) :: ((b1, ce ((([.int .i64 Dy] : List Value) ++ (RS.flatMap cB ++ (([.slice G1 HC.length Hf] : List Value)))).toArray) 315) :: ((al, .map aj av) :: ((ab, ce #[.slice ad ae af] 310) :: (ai ++ []))))) rfl (HP (i := 0) sizeOf313 rfl rfl rfl (lz (la rfl (EJ BG List.length_replicate))) (lz (la rfl (EJ BG ar))) (O2 (by simp [Value.oneCell']) (Kf BG _)) (AI (L' := (bn, ce ((([.int .i64 aa] : List Value) ++ (a.flatMap cB)).toArray) 313) :: ((b1, ce ((([.int .i64 Dy] : List Value) ++ (RS.flatMap cB ++ (([.slice G1 HC.length Hf] : List Value)))).toArray) 315) :: ((al, .map aj av) :: ((ab, ce #[.slice ad ae af] 310) :: (ai ++ []))))) rfl (BU (uv (Ah isAgg311 rfl (Has.frozen ao) rfl) (uv (A1 (cs := (([.int .i64 aa] : List Value) ++ (a.flatMap cB)).toArray) isAgg313 sizeOf313 rfl (Has.own 0 rfl) (Fq (KR rfl (BK rfl) (Ar (A := ([.int .i64 aa] : List Value)) (k := 1) (o := 0) rfl (Ds (EJ BG ar))))) (Jv (la rfl (EJ BG ar)) (KR rfl (BK rfl) (Ar (A := ([.int .i64 aa] : List Value)) (k := 1) (o := 0) rfl (Ds (EJ BG ar)))))) ?_)))))
 obtain ⟨eb, db⟩ := A0 r8
 refine uv (Ft.eq (v' := .bool ((Bm x3 (aa, a)).getD false)) (UA (k := (aa, a)) (z0 := false) rfl underlying311 Uf zeroValue4 rfl rfl (KO.own 2 rfl) (show JG Hz (vA (cP (cI .i64) (cA cB))) Value.bool aj (x3 : List ((Int × (List Bool)) × Bool)) from az) ⟨eb, ar⟩) rfl) (uv (BB rfl) (Aa ?_))
 refine AX rfl (fun ck => ?_) (fun ck => ?_)
 ·have ec := bt db ck
  refine AJ (uv (Ah isAgg311 rfl (Has.frozen ao) rfl) (uv (A1 (cs := (([.int .i64 aa] : List Value) ++ (a.flatMap cB)).toArray) isAgg313 sizeOf313 rfl (Has.own 0 rfl) (Fq (KR rfl (BK rfl) (Ar (A := ([.int .i64 aa] : List Value)) (k := 1) (o := 0) rfl (Ds (EJ BG ar))))) (Jv (la rfl (EJ BG ar)) (KR rfl (BK rfl) (Ar (A := ([.int .i64 aa] : List Value)) (k := 1) (o := 0) rfl (Ds (EJ BG ar)))))) ?_))
  obtain ⟨ef, eg⟩ := A0 ec
  refine RP (i := 2) (k := (aa, a)) (v := true) underlying311 Uf rfl rfl rfl rfl (show JG Hz (vA (cP (cI .i64) (cA cB))) Value.bool aj (x3 : List ((Int × (List Bool)) × Bool)) from az) ⟨ef, ar⟩ ?_; intro bj bk bx
  obtain ⟨met, eh, ei⟩ := C3 eg
  rw [← eh] at bx
  refine AI (L' := (bn, ce ((([.int .i64 aa] : List Value) ++ (a.flatMap cB)).toArray) 313) :: ((b1, ce ((([.int .i64 Dy] : List Value) ++ (RS.flatMap cB ++ (([.slice G1 HC.length Hf] : List Value)))).toArray) 315) :: ((al, .map bj bk) :: ((ab, ce #[.slice ad ae af] 310) :: (ai ++ []))))) rfl (Aa (CM [(.still, 0), (.still, 1), (.still, 2), (.still, 3), (.still, 5), (.pre, 6), (.seq, 4), (.alloc (ce #[.int .i64 aa] 3) (fun b => .slice (some ⟨b, 0, none⟩) 1 1) [(35, .int .i64 aa)], 6), (.seq, 7), (.still, 8), (.seq, 9), (.seq, 10), (.seq, 11)] (by kernel_rfl) (by kernel_rfl) (⟨⟨_, _, rfl, rfl, rfl, rfl, rfl, Qf rfl (G3 Ct [.int .i64 aa] rfl (by decide) (by simp [Value.cells]) (by decide))⟩, trivial⟩) (by rfl) (by kernel_rfl) (mL [6] ([(ab, ce #[.slice ad ae af] 310)]) rfl (s0 (s1 (s1 (s1 (s2 (s3 sr)))))) (fun H F' L' bo bp => Ah isAgg310 rfl ((Has.own 0 rfl).ext bo bp) rfl) (mL [9] ([(bn, ce ((([.int .i64 aa] : List Value) ++ (a.flatMap cB)).toArray) 313)]) rfl (s0 (s2 (s1 (s1 (s1 (s3 sr)))))) (fun H F' L' bo bp => A1 (cs := (([.int .i64 aa] : List Value) ++ (a.flatMap cB)).toArray) isAgg313 sizeOf313 rfl ((Has.own 0 rfl).ext bo bp) (Fq (KR rfl (BK rfl) (Ar (A := ([.int .i64 aa] : List Value)) (k := 1) (o := 0) rfl (Ds (EJ BG ar))))) (Jv (la rfl (EJ BG ar)) (KR rfl (BK rfl) (Ar (A := ([.int .i64 aa] : List Value)) (k := 1) (o := 0) rfl (Ds (EJ BG ar)))))) (mS [7] rfl (Ab SR rfl) (mL [32] ([(b1, ce ((([.int .i64 Dy] : List Value) ++ (RS.flatMap cB ++ (([.slice G1 HC.length Hf] : List Value)))).toArray) 315)]) rfl (s0 (s1 (s2 (s1 (s1 (s3 sr)))))) (fun H F' L' bo bp => Ah isAgg33 rfl ((Has.own 0 rfl).ext bo bp) (EV (Ar (A := ([.int .i64 Dy] : List Value)) (k := 1) (o := 24) rfl (Ar (A := RS.flatMap cB) (k := 24) (o := 0) (EJ BG aq) (Ds rfl))))) (mS [1] rfl (BF rfl) ?_)))))))
  refine ⟨⟨_, rfl, z1, by kernel_rfl⟩, ?_⟩
  refine ⟨_, [(33, .slice G1 HC.length Hf)], rfl, rfl, z1, by kernel_rfl, ?_⟩; intro H
  obtain ⟨l, ej, eo⟩ := AF ei
  refine c0 call110 (II ak ej) ?_; rintro _ fl _ bz cn ⟨ep, er, et, cp, rfl, rfl, bl⟩
  replace ah := ah.mono (AU (Ac _) (AU (DJ (n := 24) (sz := 1) BG) (Am (Ac _)))) bz
  replace bl := bl.new fun p hp => cn p (by simp [hp])
  refine AI (lp (ln rfl)) (kO (kf (fS fO) (kf (fS fO) (kf (fS fO) (kf (fS fO) kr)))) ?_)
  refine Aa ⟨_, rfl, bz, [5, 1, 0], by kernel_rfl, .inl (.inr (fun d h => by cases h; rfl)), (fc sm (fc (s0 (s2 (s1 (s1 (s1 (s3 (s3 sr))))))) (fc (s0 (s1 (s1 (s1 (s2 (s3 (s3 sr))))))) nm))), ?_⟩
  refine Sb rfl ?_; intro dd eu
  refine Rj (L' := (dd, ce #[.int .i64 aa] 3) :: ((bn, ce ((([.int .i64 aa] : List Value) ++ (a.flatMap cB)).toArray) 313) :: ((b1, ce ((([.int .i64 Dy] : List Value) ++ (RS.flatMap cB ++ (([.slice G1 HC.length Hf] : List Value)))).toArray) 315) :: ((al, .map bj bk) :: ((ab, ce #[.slice ad ae af] 310) :: (cp ++ (ai ++ []))))))) rfl ?_
  refine ⟨_, [(34, .slice ep er et), (36, .slice (some ⟨dd, 0, none⟩) 1 1)], rfl, rfl, z2, by kernel_rfl, ?_⟩; intro H
  obtain ⟨l2, ew, ey, ez⟩ := Gp eo
  refine Ey (xs := l) (ys := [aa]) (zs := l2) rfl Ct rfl rfl (Nat.le_refl _) (fun _ => .c (.c (.c (.c (.c .h))))) bl (GJ.box (vss := [[.int .i64 aa]]) (ys := [aa]) 0 rfl (Ac _) (.cons rfl .nil) rfl rfl) ew ey (by decide) ?_; intro ca cf cb fa cc
  refine kO (kd kr) ?_
  refine Aa ⟨_, rfl, A4.refl _, [1, 0], by kernel_rfl, .inl (.inr (fun d h => by cases h; rfl)), (fc (s0 (s2 (s1 (s1 (s1 (s3 (s3 sr))))))) (fc (s0 (s1 (s1 (s1 (s2 (s3 (s3 sr))))))) nm)), ?_⟩
  refine mL [31, 37] ([]) rfl sm (fun H F' L' bo bp => BM (v := .agg ((([.int .i64 aa] : List Value) ++ (a.flatMap cB ++ (([.slice ca cf cb] : List Value)))).toArray)) rfl (by intro w; obtain ⟨a0, a1, a2, a3, a4, a5, a6, a7, a8, a9, di, dk, dm, dn, dp, dq, dr, dt, du, dv, dw, dx, dy, dz, rfl⟩ := MC ar; kernel_rfl)) ?_
  refine ⟨_, [(38, .agg ((([.int .i64 aa] : List Value) ++ (a.flatMap cB ++ (([.slice ca cf cb] : List Value)))).toArray))], rfl, rfl, z1, by kernel_rfl, ?_⟩; intro H
  refine Ho (cs := (([.int .i64 aa] : List Value) ++ (a.flatMap cB ++ (([.slice ca cf cb] : List Value)))).toArray) rfl rfl (Mj TW (.agg (([.int .i64 aa] : List Value) ++ (a.flatMap cB ++ (([.slice ca cf cb] : List Value)))).toArray) (lz (la rfl (la (EJ BG ar) rfl))) (by decide)) ?_; intro fb fe
  refine Aa ⟨_, rfl, A4.refl _, [0], by kernel_rfl, .inl (.inr (fun d h => by cases h; rfl)), (fc (s0 (s1 (s1 (s1 (s1 (s2 (s3 (s3 sr)))))))) nm), ?_⟩
  refine ⟨_, [(30, .slice ad ae af), (39, .slice (some ⟨fb, 0, none⟩) 1 1)], rfl, rfl, z2, by kernel_rfl, ?_⟩; intro H
  obtain rfl := (Bd.Dx cc).1
  refine DF (Nat.le_refl _) (Ac _) (fC (fC (fC (fC (fC fP))))) cc ?_; intro fm cd ff
  replace ah := ah.mono (AU (Ac _) (AU (DJ (n := 24) (sz := 1) BG) (Am (Ac _)))) cd
  obtain ⟨l3, fg, fh, fi⟩ := Gp ez
  refine Ey (xs := aw) (ys := [(aa, a, l2)]) (zs := l3) rfl TW rfl rfl (Nat.zero_le _) (fun _ => .c (.c (.c (.c (.c .h))))) ah (GJ.box (vss := [(([.int .i64 aa] : List Value) ++ (a.flatMap cB ++ (([.slice ca l2.length cb] : List Value))))]) (ys := [(aa, a, l2)]) 0 rfl (AU (Ac _) (AU (DJ (n := 24) (sz := 1) BG) (Am (Ac _)))) (.cons ⟨_, _, rfl, rfl, ⟨_, _, rfl, ⟨rfl, ar⟩, ⟨_, _, rfl, ff⟩⟩⟩ .nil) (by simp) rfl) fg fh (by decide) ?_; intro de df dg cq cr
  refine kO (kd kr) ?_
  refine Aa ⟨_, rfl, cd, [], by kernel_rfl, .inl (.inl rfl), nm, ?_⟩
  refine ⟨_, [(6, .pointer (some ⟨ab, 0, none⟩)), (40, .slice de df dg)], rfl, rfl, z2, by kernel_rfl, ?_⟩; intro H
  refine B4 (i := 3) sizeOf310 rfl rfl rfl rfl (CB rfl) (AI (L' := (bn, ce ((([.int .i64 aa] : List Value) ++ (a.flatMap cB)).toArray) 313) :: ((b1, ce ((([.int .i64 Dy] : List Value) ++ (RS.flatMap cB ++ (([.slice G1 HC.length Hf] : List Value)))).toArray) 315) :: ((al, .map bj bk) :: ((ab, ce #[.slice de df dg] 310) :: (cq ++ []))))) rfl ?_)
  refine Aa ⟨undef, rfl, A4.refl _, [], by kernel_rfl, .inl (.inl rfl), nm, ?_⟩
  refine D1 (Gs (.inr rfl) results174 (s1 (s1 (s2 (s2 (s4 sr))))) ?_)
  obtain ⟨rfl, rfl⟩ := DO fi
  exact ⟨_, _, _, _, _, _, rfl, rfl, bx, cr.any⟩
 have fj := bf db ck
 refine Al (Gs (.inr rfl) results174 (s1 (s1 (s2 (s2 (s4 sr))))) ?_)
 obtain ⟨rfl, rfl⟩ := DO fj
 exact ⟨_, _, _, _, _, _, rfl, rfl, az, ah.any⟩
theorem LW {ah : List Bool} {aa : Option Addr} {ab : Nat} {ad : List Int} (af : RS.length = 24) (_h_course : As 1 (iE .i64) F G1 Hf HC) (ai : F SN = some (.cells ((([.int .i64 Dy] : List Value) ++ (ah.flatMap cB ++ (([.slice aa ad.length ab] : List Value)))).toArray) 315 Sm)) (ae : ah.length = 24) (_h_course2 : As 1 (iE .i64) F aa ab ad) {r : Bool} (hr : FQ RS HC Dy ah ad = some r) :
    Bl Tryz.prog 177 #[.agg ((RS.flatMap cB ++ (([.slice G1 HC.length Hf] : List Value))).toArray), .pointer (some ⟨SN, 0, none⟩)] F (.bool r) := by
 refine sp func177 ntmps177 fun K _ _ => ?_
 rw [FQ] at hr
 refine AJ ?_
 refine BJ rfl rfl ?_; intro b1 aj
 refine ua (BU ?_)
 refine uv (Ab Sy rfl) (uv (A1 isAgg221 sizeOf221 rfl (Has.own 0 rfl) (Fq (BK (EJ BG af))) (Jv (EJ BG af) (BK (EJ BG af)))) (uv (Ab Oj rfl) (uv (Ab P5 rfl) (uv (A1 isAgg221 sizeOf221 rfl (Has.frozen ai) (Fq (Ar (k := 1) (o := 0) rfl (BK (EJ BG ae)))) (Jv (EJ BG ae) (Ar (k := 1) (o := 0) rfl (BK (EJ BG ae))))) (uv (Sx (V8 _ _ _ _) (fun w => Vc (V4 RS ah af ae w)) rfl rfl) ?_)))))
 refine ua (Aa ?_)
 refine kW kn (Aj (BZ results177 ?_))
 obtain rfl := AH hr
 exact rfl
end Go.Proofs.YtfmapnhfamoecaaGreat
