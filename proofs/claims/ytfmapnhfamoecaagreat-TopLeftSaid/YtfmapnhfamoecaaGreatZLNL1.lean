/- The walks that this claim needs, printed by a program of mine; part 1. -/
import Derived.Test.YtfmapnhfamoecaaGreatZLShX
import Derived.Test.YtfmapnhfamoecaaGreatZLTf
import Derived.Test.YtfmapnhfamoecaaGreatZLTd
namespace Go.Proofs.YtfmapnhfamoecaaGreat
open Go.SH Go.PL
open Tryz 
variable {so : (List Int) → Option Bool} {KQ KW Q2 RF LC LD : Array Value} {F : FS} {La LW LJ : FuncId} {a b hour Ad last n EB start v Cf : Int} {HP : LH} {Az : List (Int × Int × Int)} {Cg : List (Int × Int)} {walks : List (List Int)} {SI : List Bool} {Fk IP Ak seq BS : List Int} {MY Xt JI V5 FI AQ Ax Hl Ai ED AE BY FB H6 AV : Nat} {T4 XX Ox VA : Nat × Nat} {FJ AR Aw Hp Aj EF AF B0 AU : Option Addr}
theorem RD {B4 : Option Addr} {B3 : Nat} {metal : List Int} (aa : Av 1 (iE .u8) F B4 B3 metal) {r : List Int} {r2 r3 : Int} (hr : Ku metal = some (r, r2, r3)) :
    SH.Spec Tryz.prog 6 #[.slice B4 metal.length B3] F [] fun F' L' v => ∃ (rb : Nat) (ra : Option Addr) (rc : Nat), v = .pointer (some ⟨rb, 0, none⟩) ∧ L' = [(rb, ce #[.slice ra r.length rc, .int .i64 r2, .int .u32 r3] 137)] ∧ Av 1 (iE .u8) F' ra rc r := by
 refine sp func6 ntmps6 fun K _ _ => ?_
 rw [Ku] at hr
 refine AN (ua (BX (um ?_)))
 refine uv (BH (v := .agg #[.slice B4 metal.length B3, .int .i64 0, .int .u32 0]) rfl (by intro w; kernel_rfl)) ?_
 refine Bt rfl rfl ?_; intro b1 ab
 refine ua (Aa (Ao ?_))
 refine BU results6 ?_
 obtain ⟨rfl, rfl, rfl⟩ := Kf hr
 exact ⟨_, _, _, rfl, rfl, aa⟩
theorem Ms {s_ : List Int} (aa : Av 1 (iE .i64) F B0 BY s_) {r : Int} (hr : Gr s_ v = some r) :
    Bl Tryz.prog 58 #[.slice B0 s_.length BY, .int .i64 v] F (.int .i64 r) := by
 refine sp func58 ntmps58 fun K _ _ => ?_
 rw [Gr] at hr
 refine AN (ua (Aa ?_))
 refine A0 (fun e1 F1 L1 => GN = some r ∧ F = F1 ∧ L1 = [] ∧ e1.sub []) ?_ ?_
 ·refine AN (um ?_)
  refine uv (A7 underlying33 rfl) ?_
  refine um (Aa ?_)
  refine Ap ?_
  refine Bh (fun aj e1 F1 L1 => LA s_ aj fun tl k => CM v tl k = some r ∧ F = F1 ∧ L1 = [] ∧ e1.sub [(0, .slice B0 s_.length BY), (1, .int .i64 v), (7, .int .i64 (s_.length : Int)), (8, .int .i64 k)]) _ (m0 kr ⟨_, _, rfl, BL.start _, hr, rfl, rfl, z4⟩) ?_
  rintro aj e1 _ _ ⟨tl, k, MM, ab, r3, rfl, rfl, ao⟩
  refine AB _ ao (AN (uv (Bb rfl rfl) ?_))
  refine Aa (As ?_)
  refine cQ (fun c6 => ?_) fun c6 => ?_
  ·obtain ⟨x, ay, rfl, aq, g9, ar⟩ := BL.succ ab c6
   rw [CM] at r3
   refine Aq (As ?_)
   refine Ap ?_
   refine AN (um (ua (BX (um (um (um ?_))))))
   obtain ⟨J4, az, ba, au, ad, ae, ak, rfl, av, af⟩ := Av.at (Ac _) aa ([]) g9.1 aq
   refine uv (AK underlying33 sizeOf3 rfl ad rfl g9) (uv (An isAgg3 rfl ae (af 0 (by decide))) (uv (CR rfl rfl) (Aa ?_)))
   refine cQ (fun ah => ?_) fun ah => ?_
   ·have aw := Bf r3 ah
    refine AN (um (ua (Aa (Ao (AA (Ah (Ah (AA (Ah ?_)))))))))
    refine BU results58 ?_
    obtain rfl := AL aw
    exact rfl
   have ax := Bg r3 ah
   refine Aq (AD (id := 1) (Am ?_))
   refine uv (Bd rfl rfl (BL.Eg ab c6 (Av.lt aa))) ?_
   refine um (Aa ?_)
   subst MM; exact le kr ⟨_, _, rfl, ar, ax, rfl, rfl, z4⟩
  obtain rfl := BL.zero ab c6
  rw [CM] at r3
  refine AT (Af (Af ?_))
  refine Ay ?_
  exact mi kr ⟨r3, rfl, rfl, (sn _)⟩
 rintro e1 _ _ ⟨al, rfl, rfl, ai⟩
 refine AB _ ai ?_
 rw [GN] at al
 refine AN (ua (Aa (Ao ?_)))
 refine BU results58 ?_
 obtain rfl := AL al
 exact rfl
theorem C2 {s_ : List Int} (aa : Av 1 (iE .i64) F B0 BY s_) {r : Bool} (hr : Bu s_ v = some r) :
    Bl Tryz.prog 18 #[.slice B0 s_.length BY, .int .i64 v] F (.bool r) := by
 refine sp func18 ntmps18 fun K _ _ => ?_
 rw [Bu] at hr
 refine AN (ua (BX (um (um ?_))))
 obtain ⟨n, h1, r2⟩ := AG hr
 refine cV call58 (Ms aa h1) (uv (HQ rfl rfl) ?_)
 refine ua (Aa (Ao ?_))
 refine BU results18 ?_
 obtain rfl := AL r2
 exact rfl
theorem H8 {lo hi : Int} {r : Bool} (hr : IG n lo hi = some r) :
    Bl Tryz.prog 50 #[.int .i64 n, .int .i64 lo, .int .i64 hi] F (.bool r) := by
 refine sp func50 ntmps50 fun K _ _ => ?_
 rw [IG] at hr
 refine AN (ua (BX (um (um ?_))))
 refine uv (HQ rfl rfl) (um ?_)
 by_cases c1 : lo ≤ n
 ·have r2 := Bf hr c1
  refine nT c1 (um (nT c1 (um (nT c1 ?_))))
  refine uv (My rfl rfl) (uv (AW (Bn rfl c1) rfl) ?_)
  refine ua (Aa (Ao ?_))
  refine BU results50 ?_
  obtain rfl := AL r2
  exact rfl
 have r3 := Bg hr c1
 refine fF c1 (fF c1 (fF c1 ?_))
 refine uv (AH (A8 rfl c1) rfl) ?_
 refine ua (Aa (Ao ?_))
 refine BU results50 ?_
 obtain rfl := AL r3
 exact rfl
set_option maxHeartbeats 1000000 in
theorem KF {s_ : List (List Int)} {f : (List Int) → Option Bool} (aa : Av 1 (BK 1 (iE .i64)) F B0 BY s_) (aj : HG Tryz.prog F La KQ KW (BK 1 (iE .i64)) Value.bool f) {r : Int} (hr : EO s_ f = some r) :
    Bl Tryz.prog 262 #[.slice B0 s_.length BY, .func (.func La) KQ KW] F (.int .i64 r) := by
 refine sp func262 ntmps262 fun K _ _ => ?_
 rw [EO] at hr
 refine AN (ua (Aa ?_))
 refine A0 (fun e1 F1 L1 => Fw = some r ∧ F = F1 ∧ L1 = [] ∧ e1.sub []) ?_ ?_
 ·refine AN (um ?_)
  refine uv (A7 underlying36 rfl) ?_
  refine um (Aa ?_)
  refine Ap ?_
  refine Bh (fun ak e1 F1 L1 => LA s_ ak fun tl k => Ch f tl k = some r ∧ F = F1 ∧ L1 = [] ∧ e1.sub [(0, .slice B0 s_.length BY), (1, .func (.func La) KQ KW), (7, .int .i64 (s_.length : Int)), (8, .int .i64 k)]) _ (m0 kr ⟨_, _, rfl, BL.start _, hr, rfl, rfl, z4⟩) ?_
  rintro ak e1 _ _ ⟨tl, k, MM, ab, r3, rfl, rfl, ar⟩
  refine AB _ ar (AN (uv (Bb rfl rfl) ?_))
  refine Aa (As ?_)
  refine cQ (fun c6 => ?_) fun c6 => ?_
  ·obtain ⟨x, bc, rfl, au, g9, av⟩ := BL.succ ab c6
   rw [Ch] at r3
   refine Aq (As ?_)
   refine Ap ?_
   refine AN (um (ua (BX (um (um (um ?_))))))
   obtain ⟨J4, bd, bg, aw, ad, ae, al, ⟨bh, bj, rfl, ax⟩, ay, af⟩ := Av.at (Ar (Ac _)) aa ([]) g9.1 au
   refine uv (AK underlying36 sizeOf33 rfl ad rfl g9) (uv (An isAgg33 rfl ae (af 0 (by decide))) ?_)
   obtain ⟨ok, az, ao⟩ := AG r3
   refine Em rfl aj.1 rfl rfl rfl (aj.2 _ (A3.refl _) _ _ _ ⟨_, _, rfl, ax⟩ az) (Aa ?_)
   refine A5 rfl (fun ah => ?_) (fun ah => ?_)
   ·have ba := bt ao ah
    refine AN (um (ua (Aa (Ao (AA (Ah (Ah (AA (Ah ?_)))))))))
    refine BU results262 ?_
    obtain rfl := AL ba
    exact rfl
   have bb := bf ao ah
   refine Aq (AD (id := 1) (Am ?_))
   refine uv (Bd rfl rfl (BL.Eg ab c6 (Av.lt aa))) ?_
   refine um (Aa ?_)
   subst MM; exact le kr ⟨_, _, rfl, av, bb, rfl, rfl, z4⟩
  obtain rfl := BL.zero ab c6
  rw [Ch] at r3
  refine AT (Af (Af ?_))
  refine Ay ?_
  exact mi kr ⟨r3, rfl, rfl, (sn _)⟩
 rintro e1 _ _ ⟨aq, rfl, rfl, ai⟩
 refine AB _ ai ?_
 rw [Fw] at aq
 refine AN (ua (Aa (Ao ?_)))
 refine BU results262 ?_
 obtain rfl := AL aq
 exact rfl
theorem G7 {s_ : List (List Int)} {f : (List Int) → Option Bool} (aa : Av 1 (BK 1 (iE .i64)) F B0 BY s_) (ab : HG Tryz.prog F La KQ KW (BK 1 (iE .i64)) Value.bool f) {r : Bool} (hr : CG s_ f = some r) :
    Bl Tryz.prog 233 #[.slice B0 s_.length BY, .func (.func La) KQ KW] F (.bool r) := by
 refine sp func233 ntmps233 fun K _ _ => ?_
 rw [CG] at hr
 refine AN (ua (BX (um (um ?_))))
 obtain ⟨n, h1, r2⟩ := AG hr
 refine cV call262 (KF aa ab h1) (uv (HQ rfl rfl) ?_)
 refine ua (Aa (Ao ?_))
 refine BU results233 ?_
 obtain rfl := AL r2
 exact rfl
theorem NR {Vz : Option Addr} {VC : Nat} {x : List Int} {Ra : Nat} {Sa : Nat × Nat} (ad : Av 1 (iE .i64) F Vz VC x) (aa : F Ra = some (.cells #[.func (.func LJ) LC LD] 335 Sa)) (ab : HG Tryz.prog F LJ LC LD (BK 1 (iE .i64)) Value.bool so) {r : Bool} (hr : HW x so = some r) :
    Bl Tryz.prog 250 #[.slice Vz x.length VC, .pointer (some ⟨Ra, 0, none⟩)] F (.bool r) := by
 refine sp func250 ntmps250 fun K _ _ => ?_
 rw [HW] at hr
 refine AN (ua (BX ?_))
 refine uv (An isAgg335 rfl (Has.frozen aa) rfl) (um ?_)
 obtain ⟨ok, h1, r2⟩ := AG hr
 refine Em rfl ab.1 rfl rfl rfl (ab.2 _ (A3.refl _) _ _ _ ⟨_, _, rfl, ad⟩ h1) (uv (BC rfl) ?_)
 refine ua (Aa (Ao ?_))
 refine BU results250 ?_
 obtain rfl := AL r2
 exact rfl
theorem OH {l : List (List Int)} (ab : Av 1 (BK 1 (iE .i64)) F Hp Hl l) (aa : HG Tryz.prog F LJ LC LD (BK 1 (iE .i64)) Value.bool so) {r : Bool} (hr : Kj l so = some r) :
    Bl Tryz.prog 225 #[.slice Hp l.length Hl, .func (.func LJ) LC LD] F (.bool r) := by
 refine sp func225 ntmps225 fun K _ _ => ?_
 rw [Kj] at hr
 refine AN ?_
 refine Bt rfl rfl ?_; intro b1 af
 refine ua (BX (um ?_))
 refine uv (BP rfl rfl) ?_
 refine Bi 0 rfl af ?_; intro F2 ad ah
 refine AI rfl ?_
 replace ab := ab.mono (Ar (Ac _)) ad
 replace aa := aa.mono ad
 have ai : HG Tryz.prog F2 250 #[] #[.pointer (some ⟨b1, 0, none⟩)] (BK 1 (iE .i64)) Value.bool (fun ae : (List Int) => HW ae so) := ⟨call250, fun F2 h2 vs ae r ha hr => by obtain ⟨a5, c6, rfl, h7⟩ := ha; exact NR h7 (h2 _ _ ah) (aa.mono h2) hr⟩
 obtain ⟨ok, h9, aj⟩ := AG hr
 refine cV call233 (G7 ab ai h9) (uv (BC rfl) ?_)
 refine ua (Aa (Ao ?_))
 refine BU results225 ?_
 obtain rfl := AL aj
 exact rfl
theorem MD {l : List Int} {Yh : Nat} {Xy : Nat × Nat} (_h_l : Av 1 (iE .i64) F Hp Hl l) (aa : F Yh = some (.cells #[.int .i64 n] 3 Xy)) {r : Bool} (hr : Gj l n = some r) :
    Bl Tryz.prog 226 #[.slice Hp l.length Hl, .pointer (some ⟨Yh, 0, none⟩)] F (.bool r) := by
 refine sp func226 ntmps226 fun K _ _ => ?_
 rw [Gj] at hr
 refine AN (ua (BX (um ?_)))
 refine uv (A7 underlying33 rfl) (uv (An isAgg3 rfl (Has.frozen aa) rfl) (uv (CR rfl rfl) ?_))
 refine ua (Aa (Ao ?_))
 refine BU results226 ?_
 obtain rfl := AL hr
 exact rfl
set_option maxHeartbeats 1000000 in
theorem M0 {Al : List (List Int)} {Ab : List ((List Int) × Int × Int)} (aa : Av 1 (BK 1 (iE .i64)) F AU AV walks) (_af : Av 1 (BK 1 (iE .i64)) F Aw Ax Al) (_ae : Av 3 (Br (BK 1 (iE .i64)) (Br (iE .i64) (iE .i64))) F Aj Ai Ab) {r : Bool} (hr : I6 walks Al Ad start Ab = some r) :
    Bl Tryz.prog 179 #[.agg #[.slice AU walks.length AV, .slice Aw Al.length Ax, .int .i64 Ad, .int .i64 start, .slice Aj Ab.length Ai]] F (.bool r) := by
 refine sp func179 ntmps179 fun K _ _ => ?_
 rw [I6] at hr
 refine AN ?_
 refine Bt rfl rfl ?_; intro b1 bd
 refine ua (BX ?_)
 refine uv (Ae Mw rfl) (uv (An isAgg36 rfl (Has.own 0 rfl) rfl) (uv (A7 underlying36 rfl) ?_))
 refine Bo rfl zeroValue3 ?_; intro b2 aq
 refine Cv (i := 0) sizeOf3 rfl rfl rfl rfl (CK rfl) (AI rfl (BX (uv (An isAgg3 rfl (Has.own 0 rfl) rfl) ?_)))
 obtain ⟨ok, h3, r4⟩ := AG hr
 refine cV call50 (H8 h3) (um ?_)
 rcases Co ok with c5 | c5
 ·have r6 := bt r4 c5
  refine nB c5 (uv (Ae U5 rfl) (nB c5 (uv (An isAgg3 rfl (Has.own 1 rfl) rfl) (nB c5 ?_))))
  obtain ⟨ar, h7, r8⟩ := AG r6
  refine cV call50 (H8 h7) (uv (AW (Iy rfl c5) rfl) (um ?_))
  rcases Co ar with c9 | c9
  ·have ak := bt r8 c9
   refine nB c9 (uv (Ae Nz rfl) (nB c9 (uv (An isAgg37 rfl (Has.own 1 rfl) rfl) (nB c9 (uv (A7 underlying37 rfl) (nB c9 (uv (My rfl rfl) ?_)))))))
   refine uv (AW (Iy rfl c9) rfl) (um ?_)
   by_cases ab : (Ab.length : Int) ≤ 3
   ·have al := Bf ak ab
    refine nT ab (uv (Ae ND rfl) (nT ab (uv (An isAgg36 rfl (Has.own 1 rfl) rfl) (nT ab (uv (A7 underlying36 rfl) (nT ab (uv (An isAgg3 rfl (Has.own 0 rfl) rfl) ?_)))))))
    refine nT ab (uv (CR rfl rfl) (uv (AW (Bn rfl ab) rfl) (um ?_)))
    by_cases ad : (walks.length : Int) = (Al.length : Int)
    ·have au := Bf al ad
     refine nT ad (uv (Ae ND rfl) (nT ad (uv (An isAgg36 rfl (Has.own 1 rfl) rfl) (nT ad (uv (BP rfl rfl) (nT ad ?_))))))
     refine Bi 0 rfl aq ?_; intro av ah ai
     refine AI rfl ?_
     replace aa := aa.mono (Ar (Ac _)) ah
     have aj : HG Tryz.prog av 226 #[] #[.pointer (some ⟨b2, 0, none⟩)] (BK 1 (iE .i64)) Value.bool (fun ao : (List Int) => Gj ao (Al.length : Int)) := ⟨call226, fun F2 h2 vs ao r ha hr => by obtain ⟨bg, bh, rfl, aw⟩ := ha; exact MD aw (h2 _ _ ai) hr⟩
     obtain ⟨bj, ax, ay⟩ := AG au
     refine cV call225 (OH aa aj ax) (uv (AW (Bn rfl ad) rfl) ?_)
     refine ua (Aa ?_)
     refine kW kn (Ao (BU results179 ?_))
     obtain rfl := AL ay
     exact rfl
    have az := Bg al ad
    refine fF ad (fF ad (fF ad (fF ad ?_)))
    refine uv (AH (A8 rfl ad) rfl) ?_
    refine ua (Aa ?_)
    refine kW kn (Ao (BU results179 ?_))
    obtain rfl := AL az
    exact rfl
   have ba := Bg ak ab
   refine fF ab (fF ab (fF ab (fF ab (fF ab ?_))))
   refine uv (AH (A8 rfl ab) rfl) ?_
   refine um (AM (b' := false) 27 rfl rfl rfl rfl (AM (b' := false) 27 rfl rfl rfl rfl (AM (b' := false) 27 rfl rfl rfl rfl (AM (b' := false) 27 rfl rfl rfl rfl ?_))))
   refine uv (AH rfl rfl) ?_
   refine ua (Aa ?_)
   refine kW kn (Ao (BU results179 ?_))
   obtain rfl := AL ba
   exact rfl
  have bb := bf r8 c9
  refine fB c9 (fB c9 (fB c9 (fB c9 ?_)))
  refine uv (AH (Iy rfl c9) rfl) ?_
  refine um (AM (b' := false) 20 rfl rfl rfl rfl (AM (b' := false) 20 rfl rfl rfl rfl (AM (b' := false) 20 rfl rfl rfl rfl (AM (b' := false) 20 rfl rfl rfl rfl (AM (b' := false) 20 rfl rfl rfl rfl ?_)))))
  refine uv (AH rfl rfl) ?_
  refine um (AM (b' := false) 27 rfl rfl rfl rfl (AM (b' := false) 27 rfl rfl rfl rfl (AM (b' := false) 27 rfl rfl rfl rfl (AM (b' := false) 27 rfl rfl rfl rfl ?_))))
  refine uv (AH rfl rfl) ?_
  refine ua (Aa ?_)
  refine kW kn (Ao (BU results179 ?_))
  obtain rfl := AL bb
  exact rfl
 have bc := bf r4 c5
 refine fB c5 (fB c5 (fB c5 ?_))
 refine uv (AH (Iy rfl c5) rfl) ?_
 refine um (AM (b' := false) 14 rfl rfl rfl rfl (AM (b' := false) 14 rfl rfl rfl rfl (AM (b' := false) 14 rfl rfl rfl rfl (AM (b' := false) 14 rfl rfl rfl rfl ?_))))
 refine uv (AH rfl rfl) ?_
 refine um (AM (b' := false) 20 rfl rfl rfl rfl (AM (b' := false) 20 rfl rfl rfl rfl (AM (b' := false) 20 rfl rfl rfl rfl (AM (b' := false) 20 rfl rfl rfl rfl (AM (b' := false) 20 rfl rfl rfl rfl ?_)))))
 refine uv (AH rfl rfl) ?_
 refine um (AM (b' := false) 27 rfl rfl rfl rfl (AM (b' := false) 27 rfl rfl rfl rfl (AM (b' := false) 27 rfl rfl rfl rfl (AM (b' := false) 27 rfl rfl rfl rfl ?_))))
 refine uv (AH rfl rfl) ?_
 refine ua (Aa ?_)
 refine kW kn (Ao (BU results179 ?_))
 obtain rfl := AL bc
 exact rfl
theorem Ow {Al : List (List Int)} {Ab : List ((List Int) × Int × Int)} {s_ : Int} (_h_walks : Av 1 (BK 1 (iE .i64)) F AU AV walks) (_h_hears : Av 1 (BK 1 (iE .i64)) F Aw Ax Al) (_h_notices : Av 3 (Br (BK 1 (iE .i64)) (Br (iE .i64) (iE .i64))) F Aj Ai Ab) {r : Bool} (hr : JN walks Al Ad start Ab s_ = some r) :
    Bl Tryz.prog 180 #[.agg #[.slice AU walks.length AV, .slice Aw Al.length Ax, .int .i64 Ad, .int .i64 start, .slice Aj Ab.length Ai], .int .i64 s_] F (.bool r) := by
 refine sp func180 ntmps180 fun K _ _ => ?_
 rw [JN] at hr
 refine AN ?_
 refine Bt rfl rfl ?_; intro b1 aa
 refine ua (BX (um ?_))
 refine uv (Ae Mw rfl) (uv (An isAgg36 rfl (Has.own 0 rfl) rfl) (uv (A7 underlying36 rfl) ?_))
 obtain ⟨g2, r3⟩ := A1 hr
 refine uv (Fa rfl rfl g2) ?_
 obtain ⟨ok, h4, r5⟩ := AG r3
 refine cV call50 (H8 h4) ?_
 refine ua (Aa ?_)
 refine kW kn (Ao (BU results180 ?_))
 obtain rfl := AL r5
 exact rfl
set_option maxHeartbeats 1000000 in
theorem MO {Al : List (List Int)} {Ab : List ((List Int) × Int × Int)} (ab : Av 1 (BK 1 (iE .i64)) F AU AV walks) (_h_hears : Av 1 (BK 1 (iE .i64)) F Aw Ax Al) (_h_notices : Av 3 (Br (BK 1 (iE .i64)) (Br (iE .i64) (iE .i64))) F Aj Ai Ab) {r : Bool} (hr : Iw walks Al Ad start Ab = some r) :
    Bl Tryz.prog 181 #[.agg #[.slice AU walks.length AV, .slice Aw Al.length Ax, .int .i64 Ad, .int .i64 start, .slice Aj Ab.length Ai]] F (.bool r) := by
 refine sp func181 ntmps181 fun K _ _ => ?_
 rw [Iw] at hr
 refine AN ?_
 refine Bt rfl rfl ?_; intro b1 dm
 refine ua (Aa ?_)
 refine A0 (fun e1 F1 L1 => Hk = some r ∧ F = F1 ∧ L1 = [] ∧ e1.sub []) ?_ ?_
 ·refine AN (uv (Ae ND rfl) (uv (An isAgg36 rfl (Has.own 0 rfl) rfl) (uv (A7 underlying36 rfl) ?_)))
  refine um (Aa ?_)
  refine Ap (kW kn ?_)
  refine Bh (fun bj e1 F1 L1 => LA walks bj fun tl k => C7 tl k = some r ∧ F = F1 ∧ L1 = [] ∧ e1.sub [(8, .slice AU walks.length AV), (9, .int .i64 (walks.length : Int)), (10, .int .i64 k)]) _ (m0 kr ⟨_, _, rfl, BL.start _, hr, rfl, rfl, z3⟩) ?_
  rintro bj e1 _ _ ⟨tl, k, ck, ao, r4, rfl, rfl, cn⟩
  refine AB _ cn (AN (uv (Bb rfl rfl) ?_))
  refine Aa (As ?_)
  refine cQ (fun c7 => ?_) fun c7 => ?_
  ·obtain ⟨x, bk, rfl, cp, bl, cq⟩ := BL.succ ao c7
   rw [C7] at r4
   refine Aq ?_
   refine A0 (fun e1 F1 L1 => G8 k (C7 bk) = some r ∧ F = F1 ∧ L1 = [] ∧ e1.sub [(8, .slice AU walks.length AV), (9, .int .i64 (walks.length : Int)), (10, .int .i64 k)]) ?_ ?_
   ·refine Ap ?_
    refine AN (um ?_)
    obtain ⟨Rf, dn, dp, ct, aq, ar, bm, ⟨bn, bo, rfl, bp⟩, cu, au⟩ := Av.at (Ar (Ac _)) ab ([]) bl.1 cp
    refine uv (AK underlying36 sizeOf33 rfl aq rfl bl) (uv (An isAgg33 rfl ar (au 0 (by decide))) ?_)
    refine ua (ua (BX (um ?_)))
    refine uv (A7 underlying33 rfl) ?_
    refine um (Aa ?_)
    refine Ap ?_
    refine Bh (fun bq e1 F1 L1 => LA x bq fun br k2 => Ew k (C7 bk) br k2 = some r ∧ F = F1 ∧ L1 = [] ∧ e1.sub [(3, .int .i64 k), (8, .slice AU walks.length AV), (9, .int .i64 (walks.length : Int)), (10, .int .i64 k), (15, .slice bn x.length bo), (16, .int .i64 (x.length : Int)), (17, .int .i64 k2)]) _ (m0 kr ⟨_, _, rfl, BL.start _, r4, rfl, rfl, z7⟩) ?_
    rintro bq e1 _ _ ⟨br, k2, av, aj, ak, rfl, rfl, aw⟩
    refine AB _ aw (AN (uv (Bb rfl rfl) ?_))
    refine Aa (As ?_)
    refine cQ (fun al => ?_) fun al => ?_
    ·obtain ⟨x2, dq, rfl, ax, bu, ay⟩ := BL.succ aj al
     rw [Ew] at ak
     refine Aq (As ?_)
     refine Ap ?_
     refine AN (um ?_)
     obtain ⟨dr, dt, du, cv, az, ba, bw, rfl, cw, bb⟩ := Av.at (Ac _) bp ([]) bu.1 ax
     refine uv (AK underlying33 sizeOf3 rfl az rfl bu) (uv (An isAgg3 rfl ba (bb 0 (by decide))) ?_)
     refine ua (ua (Aa ?_))
     obtain ⟨k3, bx, bc⟩ := AG ak
     refine jE ([]) [(3, .int .i64 k), (8, .slice AU walks.length AV), (9, .int .i64 (walks.length : Int)), (10, .int .i64 k), (15, .slice bn x.length bo), (16, .int .i64 (x.length : Int)), (17, .int .i64 k2), (42, .bool k3)] ?_ ?_
     ·clear bc
      refine Am (um (um ?_))
      refine uv (CR rfl rfl) (um ?_)
      by_cases af : k = k2
      ·have bz := Bf bx af
       refine nT af (um (nT af ?_))
       refine uv (B7 rfl rfl) (uv (AW (Bn rfl af) rfl) (um ?_))
       by_cases aa : x2 ≠ 0
       ·have cx := Bf bz aa
        refine fT aa (fT aa (fT aa (fT aa (fU (fU (fT aa (fT aa (fU (fU ?_)))))))))
        refine fU (fT aa ?_)
        refine uv (AW (Bn rfl aa) rfl) (Aa ?_)
        obtain rfl := AL cx
        exact mi kr ⟨rfl, rfl, z8⟩
       have ca := Bg bz aa
       refine nF aa (um (nF aa (um (nF aa ?_))))
       refine uv (B7 rfl rfl) ?_
       refine nF aa (um ?_)
       by_cases ah : k ≠ k2
       ·have cb := Bf ca ah
        refine nT ah (um (nT ah ?_))
        refine uv (B7 rfl rfl) (nF aa (uv (AW (Bn rfl ah) rfl) ?_))
        refine nF aa (um ?_)
        by_cases ad : x2 ≠ (-1)
        ·have cy := Bf cb ad
         refine nT ad (um (nT ad ?_))
         obtain ⟨ok, cz, da⟩ := AG cy
         refine cV call50 (H8 cz) (nT ad (uv (BC rfl) (nF aa (uv (AW (Bn rfl ad) rfl) (uv (AH (A8 rfl aa) rfl) (Aa ?_))))))
         obtain rfl := AL da
         exact mi kr ⟨rfl, rfl, z8⟩
        have db := Bg cb ad
        refine fF ad (fF ad (fF ad (nF aa ?_)))
        refine uv (AH (A8 rfl ad) rfl) (uv (AH (A8 rfl aa) rfl) (Aa ?_))
        obtain rfl := AL db
        exact mi kr ⟨rfl, rfl, z8⟩
       have dd := Bg ca ah
       refine fF ah (fF ah (nF aa ?_))
       refine uv (AH (A8 rfl ah) rfl) ?_
       refine nF aa (um (AM (b' := false) 37 rfl rfl rfl rfl (AM (b' := false) 37 rfl rfl rfl rfl (AM (b' := false) 37 rfl rfl rfl rfl (nF aa ?_)))))
       refine uv (AH rfl rfl) (uv (AH (A8 rfl aa) rfl) (Aa ?_))
       obtain rfl := AL dd
       exact mi kr ⟨rfl, rfl, z8⟩
      have cd := Bg bx af
      refine fF af (fF af ?_)
      refine uv (AH (A8 rfl af) rfl) ?_
      refine um (DO (b := false) 29 rfl rfl (um (DO (b := false) 29 rfl rfl (um (DO (b := false) 29 rfl rfl ?_)))))
      refine uv (B7 rfl rfl) ?_
      refine DO (b := false) 29 rfl rfl (um ?_)
      by_cases ai : k ≠ k2
      ·have cf := Bf cd ai
       refine nT ai (um (nT ai ?_))
       refine uv (B7 rfl rfl) (DO (b := false) 29 rfl rfl (uv (AW (Bn rfl ai) rfl) ?_))
       refine DO (b := false) 29 rfl rfl (um ?_)
       by_cases ae : x2 ≠ (-1)
       ·have de := Bf cf ae
        refine nT ae (um (nT ae ?_))
        obtain ⟨dv, df, dg⟩ := AG de
        refine cV call50 (H8 df) (nT ae (uv (BC rfl) (DO (b := false) 29 rfl rfl (uv (AW (Bn rfl ae) rfl) (uv (AH rfl rfl) (Aa ?_))))))
        obtain rfl := AL dg
        exact mi kr ⟨rfl, rfl, z8⟩
       have dh := Bg cf ae
       refine fF ae (fF ae (fF ae (DO (b := false) 29 rfl rfl ?_)))
       refine uv (AH (A8 rfl ae) rfl) (uv (AH rfl rfl) (Aa ?_))
       obtain rfl := AL dh
       exact mi kr ⟨rfl, rfl, z8⟩
      have Eg := Bg cd ai
      refine fF ai (fF ai (DO (b := false) 29 rfl rfl ?_))
      refine uv (AH (A8 rfl ai) rfl) ?_
      refine DO (b := false) 29 rfl rfl (um (AM (b' := false) 37 rfl rfl rfl rfl (AM (b' := false) 37 rfl rfl rfl rfl (AM (b' := false) 37 rfl rfl rfl rfl (DO (b := false) 29 rfl rfl ?_)))))
      refine uv (AH rfl rfl) (uv (AH rfl rfl) (Aa ?_))
      obtain rfl := AL Eg
      exact mi kr ⟨rfl, rfl, z8⟩
     refine A5 rfl (fun bd => ?_) (fun bd => ?_)
     ·have di := bt bc bd
      refine AN (ua (Aa (Ao (AA (Ah (Ah (AA (AA (Ah ?_)))))))))
      refine Ah (AA (Ah ?_))
      refine BU results181 ?_
      obtain rfl := AL di
      exact rfl
     have dk := bf bc bd
     refine Aq (AD (id := 3) (Am ?_))
     refine uv (Bd rfl rfl (BL.Eg aj al (Av.lt bp))) ?_
     refine um (Aa ?_)
     subst av; exact le kr ⟨_, _, rfl, ay, dk, rfl, rfl, z7⟩
    obtain rfl := BL.zero aj al
    rw [Ew] at ak
    refine AT (Af (Af ?_))
    refine Ay (AD (id := 1) ?_)
    exact mi kr ⟨ak, rfl, rfl, z3⟩
   rintro e1 _ _ ⟨cg, rfl, rfl, bg⟩
   refine AB _ bg ?_
   rw [G8] at cg
   refine Am (uv (Bd rfl rfl (BL.Eg ao c7 (Av.lt ab))) ?_)
   refine um (Aa ?_)
   subst ck; exact le kr ⟨_, _, rfl, cq, cg, rfl, rfl, z3⟩
  obtain rfl := BL.zero ao c7
  rw [C7] at r4
  refine AT (Af (Af ?_))
  refine Ay ?_
  exact mi kr ⟨r4, rfl, rfl, (sn _)⟩
 rintro e1 _ _ ⟨cj, rfl, rfl, bh⟩
 refine AB _ bh ?_
 rw [Hk] at cj
 refine AN (ua (Aa (Ao ?_)))
 refine BU results181 ?_
 obtain rfl := AL cj
 exact rfl
set_option maxHeartbeats 1000000 in
theorem Kr {Al : List (List Int)} {Ab : List ((List Int) × Int × Int)} {l : List Int} (_h_walks : Av 1 (BK 1 (iE .i64)) F AU AV walks) (_h_hears : Av 1 (BK 1 (iE .i64)) F Aw Ax Al) (_h_notices : Av 3 (Br (BK 1 (iE .i64)) (Br (iE .i64) (iE .i64))) F Aj Ai Ab) (ab : Av 1 (iE .i64) F Hp Hl l) {r : Int} (hr : HU walks Al Ad start Ab l = some r) :
    Bl Tryz.prog 182 #[.agg #[.slice AU walks.length AV, .slice Aw Al.length Ax, .int .i64 Ad, .int .i64 start, .slice Aj Ab.length Ai], .slice Hp l.length Hl] F (.int .i64 r) := by
 refine sp func182 ntmps182 fun K _ _ => ?_
 rw [HU] at hr
 refine AN ?_
 refine Bt rfl rfl ?_; intro b1 bu
 refine ua (Aa ?_)
 refine A0 (fun e1 F1 L1 => H5 = some r ∧ F = F1 ∧ L1 = [] ∧ e1.sub []) ?_ ?_
 ·refine AN (um ?_)
  refine uv (A7 underlying33 rfl) ?_
  refine um (Aa ?_)
  refine Ap ?_
  refine Bh (fun al e1 F1 L1 => LA l al fun tl k => E0 Ad l tl k = some r ∧ F = F1 ∧ L1 = [(b1, ce #[.slice AU walks.length AV, .slice Aw Al.length Ax, .int .i64 Ad, .int .i64 start, .slice Aj Ab.length Ai] 39)] ∧ e1.sub [(1, .slice Hp l.length Hl), (2, .pointer (some ⟨b1, 0, none⟩)), (7, .slice Hp l.length Hl), (8, .int .i64 (l.length : Int)), (9, .int .i64 k)]) _ (m0 kr ⟨_, _, rfl, BL.start _, hr, rfl, rfl, z5⟩) ?_
  rintro al e1 _ _ ⟨tl, k, aw, ad, r4, rfl, rfl, ax⟩
  refine AB _ ax (AN (uv (Bb rfl rfl) ?_))
  refine Aa (As ?_)
  refine cQ (fun c7 => ?_) fun c7 => ?_
  ·obtain ⟨x, bw, rfl, ay, ao, az⟩ := BL.succ ad c7
   rw [E0] at r4
   refine Aq (As ?_)
   refine Ap ?_
   refine AN (um ?_)
   obtain ⟨Rf, bx, bz, ba, ae, af, aq, rfl, bb, ah⟩ := Av.at (Ac _) ab ([(b1, ce #[.slice AU walks.length AV, .slice Aw Al.length Ax, .int .i64 Ad, .int .i64 start, .slice Aj Ab.length Ai] 39)]) ao.1 ay
   refine uv (AK underlying33 sizeOf3 rfl ae rfl ao) (uv (An isAgg3 rfl af (ah 0 (by decide))) ?_)
   refine ua (ua (Aa (As (AN (um ?_)))))
   refine uv (Ae U5 rfl) (uv (An isAgg3 rfl (Has.own 0 rfl) rfl) ?_)
   obtain ⟨bc, bd⟩ := A1 r4
   refine uv (Fa rfl rfl bc) ?_
   obtain ⟨ok, bg, ar⟩ := AG bd
   refine cV call50 (H8 bg) (uv (BC rfl) (Aa ?_))
   refine A5 rfl (fun ai => ?_) (fun ai => ?_)
   ·have bh := bt ar ai
    refine AN (ua (Aa ?_))
    refine kW kn ?_
    refine Ao (Ah (AA (Ah (Ah (AA (Ah ?_))))))
    refine BU results182 ?_
    obtain rfl := AL bh
    exact rfl
   have bj := bf ar ai
   refine Aq (AN (um (um ?_)))
   obtain ⟨bk, bl⟩ := A1 bj
   obtain ⟨l2, bm, bn⟩ := CH bl
   obtain ⟨ca, cb, bo, aa⟩ := Av.slice (Ac _) ab bk bm
   refine uv ((NK (l := 0) (h := k) underlying33 sizeOf3 rfl (.inl ⟨rfl, rfl⟩) (.inr ⟨_, rfl, rfl⟩) aa.1).eq aa.2) (um ?_)
   obtain ⟨cd, bp, au⟩ := AG bn
   refine cV call18 (C2 bo bp) (Aa ?_)
   refine A5 rfl (fun aj => ?_) (fun aj => ?_)
   ·have bq := bt au aj
    refine AN (ua (Aa ?_))
    refine kW kn ?_
    refine Ao (AA (Ah (Ah (AA (Ah ?_)))))
    refine BU results182 ?_
    obtain rfl := AL bq
    exact rfl
   have br := bf au aj
   refine Aq (AD (id := 1) (Am ?_))
   refine uv (Bd rfl rfl (BL.Eg ad c7 (Av.lt ab))) ?_
   refine um (Aa ?_)
   subst aw; exact le kr ⟨_, _, rfl, az, br, rfl, rfl, z5⟩
  obtain rfl := BL.zero ad c7
  rw [E0] at r4
  refine AT (Af (Af ?_))
  refine Ay ?_
  exact mi kn ⟨r4, rfl, rfl, (sn _)⟩
 rintro e1 _ _ ⟨av, rfl, rfl, ak⟩
 refine AB _ ak ?_
 rw [H5] at av
 refine AN (ua (Aa (Ao ?_)))
 refine BU results182 ?_
 obtain rfl := AL av
 exact rfl
set_option maxHeartbeats 1000000 in
theorem Ob {Al : List (List Int)} {Ab : List ((List Int) × Int × Int)} {aa : Option Addr} {ab : Nat} {quarter : List Int} {words : Int} (ah : Av 1 (BK 1 (iE .i64)) F AU AV walks) (ai : Av 1 (BK 1 (iE .i64)) F Aw Ax Al) (ad : Av 3 (Br (BK 1 (iE .i64)) (Br (iE .i64) (iE .i64))) F Aj Ai Ab) (ae : Av 1 (iE .i64) F aa ab quarter) {r : Int} (hr : JQ walks Al Ad start Ab quarter words hour = some r) :
    Bl Tryz.prog 183 #[.agg #[.slice AU walks.length AV, .slice Aw Al.length Ax, .int .i64 Ad, .int .i64 start, .slice Aj Ab.length Ai], .agg #[.slice aa quarter.length ab, .int .i64 words, .int .i64 hour]] F (.int .i64 r) := by
 refine sp func183 ntmps183 fun K _ _ => ?_
 rw [JQ] at hr
 refine AN ?_
 refine Bt rfl rfl ?_; intro b1 ba
 refine Bt rfl rfl ?_; intro b2 bb
 refine ua (Aa (As (AN ?_)))
 refine uv (Ae Qw rfl) (uv (An isAgg33 rfl (Has.own 0 rfl) rfl) (uv (A7 underlying33 rfl) (uv (CR rfl rfl) (Aa ?_))))
 refine cQ (fun c3 => ?_) fun c3 => ?_
 ·have r4 := Bf hr c3
  refine AN (ua (Aa ?_))
  refine kW kn ?_
  refine Ao (Ah ?_)
  refine BU results183 ?_
  obtain rfl := AL r4
  exact rfl
 have r5 := Bg hr c3
 refine Aq (As (AN ?_))
 refine uv (AS isAgg39 sizeOf39 rfl (Has.own 1 rfl) (CK rfl) rfl) (uv (Ae Qw rfl) (uv (An isAgg33 rfl (Has.own 0 rfl) rfl) ?_))
 obtain ⟨n, h6, r7⟩ := AG r5
 refine cV call182 (Kr ah ai ad ae h6) ?_
 refine ua (BX (um ?_))
 refine uv (B7 rfl rfl) (Aa ?_)
 refine cQ (fun c8 => ?_) fun c8 => ?_
 ·have r9 := Bf r7 c8
  refine AN (um (ua (Aa ?_)))
  refine kW kn ?_
  refine Ao (Ah ?_)
  refine BU results183 ?_
  obtain rfl := AL r9
  exact rfl
 have ao := Bg r7 c8
 refine Aq (As ?_)
 obtain ⟨k, aq, aj⟩ := AG ao
 refine jE ([]) [(26, .bool k)] ?_ ?_
 ·clear aj
  refine Am (uv (Ae UH rfl) (uv (An isAgg3 rfl (Has.own 0 rfl) rfl) ?_))
  obtain ⟨ok, ar, al⟩ := AG aq
  refine cV call50 (H8 ar) (uv (BC rfl) (um ?_))
  rcases Co (!ok) with af | af
  ·have au := bt al af
   refine fB af (fB af (fB af (fB af ?_)))
   refine uv (AW (Iy rfl af) rfl) (Aa ?_)
   obtain rfl := AL au
   exact mi kn ⟨rfl, rfl, z1⟩
  have av := bf al af
  refine nB af (uv (Ae UY rfl) (nB af (uv (An isAgg3 rfl (Has.own 0 rfl) rfl) (nB af ?_))))
  obtain ⟨bc, aw, ax⟩ := AG av
  refine cV call50 (H8 aw) (nB af (uv (BC rfl) (uv (AH (Iy rfl af) rfl) (Aa ?_))))
  obtain rfl := AL ax
  exact mi kn ⟨rfl, rfl, z1⟩
 refine A5 rfl (fun ak => ?_) (fun ak => ?_)
 ·have ay := bt aj ak
  refine AN (ua (Aa (Ao (Ah ?_))))
  refine BU results183 ?_
  obtain rfl := AL ay
  exact rfl
 have az := bf aj ak
 refine Aq (AN (ua (Aa (Ao ?_))))
 refine BU results183 ?_
 obtain rfl := AL az
 exact rfl
set_option maxHeartbeats 1000000 in
theorem RI {Al : List (List Int)} {Ab : List ((List Int) × Int × Int)} (ad : Av 1 (BK 1 (iE .i64)) F AU AV walks) (ab : Av 1 (BK 1 (iE .i64)) F Aw Ax Al) (aa : Av 3 (Br (BK 1 (iE .i64)) (Br (iE .i64) (iE .i64))) F Aj Ai Ab) {r : Int} (hr : Nt walks Al Ad start Ab = some r) :
    Bl Tryz.prog 122 #[.agg #[.slice AU walks.length AV, .slice Aw Al.length Ax, .int .i64 Ad, .int .i64 start, .slice Aj Ab.length Ai]] F (.int .i64 r) := by
 refine sp func122 ntmps122 fun K _ _ => ?_
 rw [Nt] at hr
 refine AN ?_
 refine Bt rfl rfl ?_; intro b1 dm
 refine ua (Aa (As ?_))
 refine Ap (AN (uv (AS isAgg39 sizeOf39 rfl (Has.own 0 rfl) (CK rfl) rfl) ?_))
 obtain ⟨ok, h2, r3⟩ := AG hr
 refine cV call179 (M0 ad ab aa h2) (uv (BC rfl) ?_)
 refine ua (Aa ?_)
 refine A5 rfl (fun c4 => ?_) (fun c4 => ?_)
 ·have r5 := bt r3 c4
  refine AN (ua (Aa ?_))
  refine kW kn ?_
  refine Ao (AA (Ah ?_))
  refine BU results122 ?_
  obtain rfl := AL r5
  exact rfl
 have r6 := bf r3 c4
 refine AN (uv (AS isAgg39 sizeOf39 rfl (Has.own 0 rfl) (CK rfl) rfl) (uv (Ae Vb rfl) (uv (An isAgg3 rfl (Has.own 0 rfl) rfl) ?_)))
 obtain ⟨dn, h7, r8⟩ := AG r6
 refine cV call180 (Ow ad ab aa h7) (uv (BC rfl) ?_)
 refine ua (Aa ?_)
 refine A5 rfl (fun c9 => ?_) (fun c9 => ?_)
 ·have cj := bt r8 c9
  refine AN (ua (Aa ?_))
  refine kW kn ?_
  refine Ao (AA (Ah ?_))
  refine BU results122 ?_
  obtain rfl := AL cj
  exact rfl
 have ck := bf r8 c9
 refine AN (uv (AS isAgg39 sizeOf39 rfl (Has.own 0 rfl) (CK rfl) rfl) ?_)
 obtain ⟨dp, cn, br⟩ := AG ck
 refine cV call181 (MO ad ab aa cn) (uv (BC rfl) ?_)
 refine ua (Aa ?_)
 refine A5 rfl (fun aq => ?_) (fun aq => ?_)
 ·have cp := bt br aq
  refine AN (ua (Aa ?_))
  refine kW kn ?_
  refine Ao (AA (Ah ?_))
  refine BU results122 ?_
  obtain rfl := AL cp
  exact rfl
 have cq := bf br aq
 refine Aq (AD (id := 0) ?_)
 refine A0 (fun e1 F1 L1 => Lk walks Al Ad start Ab = some r ∧ F = F1 ∧ L1 = [(b1, ce #[.slice AU walks.length AV, .slice Aw Al.length Ax, .int .i64 Ad, .int .i64 start, .slice Aj Ab.length Ai] 39)] ∧ e1.sub [(1, .pointer (some ⟨b1, 0, none⟩))]) ?_ ?_
 ·refine AN (uv (Ae Mw rfl) (uv (An isAgg36 rfl (Has.own 0 rfl) rfl) (uv (A7 underlying36 rfl) ?_)))
  refine um (Aa ?_)
  refine Ap ?_
  refine Bh (fun bu e1 F1 L1 => LA Al bu fun tl k => H7 walks Al Ad start Ab tl = some r ∧ F = F1 ∧ L1 = [(b1, ce #[.slice AU walks.length AV, .slice Aw Al.length Ax, .int .i64 Ad, .int .i64 start, .slice Aj Ab.length Ai] 39)] ∧ e1.sub [(1, .pointer (some ⟨b1, 0, none⟩)), (25, .slice Aw Al.length Ax), (26, .int .i64 (Al.length : Int)), (27, .int .i64 k)]) _ (m0 kr ⟨_, _, rfl, BL.start _, cq, rfl, rfl, z4⟩) ?_
  rintro bu e1 _ _ ⟨tl, k, ar, ah, aj, rfl, rfl, au⟩
  refine AB _ au (AN (uv (Bb rfl rfl) ?_))
  refine Aa (As ?_)
  refine cQ (fun ak => ?_) fun ak => ?_
  ·obtain ⟨x, dq, rfl, av, bw, aw⟩ := BL.succ ah ak
   rw [H7] at aj
   refine Aq (As ?_)
   refine Ap (AN ?_)
   obtain ⟨dr, dt, du, ct, ax, ay, bx, ⟨dv, dw, rfl, cu⟩, cv, az⟩ := Av.at (Ar (Ac _)) ab ([(b1, ce #[.slice AU walks.length AV, .slice Aw Al.length Ax, .int .i64 Ad, .int .i64 start, .slice Aj Ab.length Ai] 39)]) bw.1 av
   refine uv (AK underlying36 sizeOf33 rfl ax rfl bw) (uv (An isAgg33 rfl ay (az 0 (by decide))) ?_)
   refine ua (BX ?_)
   refine uv (AS isAgg39 sizeOf39 rfl (Has.own 0 rfl) (CK rfl) rfl) (um ?_)
   obtain ⟨n, cw, bz⟩ := AG aj
   refine cV call182 (Kr ad ab aa cu cw) ?_
   refine ua (BX (um ?_))
   refine uv (B7 rfl rfl) (Aa ?_)
   refine cQ (fun ba => ?_) fun ba => ?_
   ·have cx := Bf bz ba
    refine AN (um (ua (Aa ?_)))
    refine kW kn ?_
    refine Ao (AA (Ah (Ah (AA (Ah ?_)))))
    refine BU results122 ?_
    obtain rfl := AL cx
    exact rfl
   have cy := Bg bz ba
   refine Aq (AD (id := 2) (Am ?_))
   refine uv (Bd rfl rfl (BL.Eg ah ak (Av.lt ab))) ?_
   refine um (Aa ?_)
   subst ar; exact le kr ⟨_, _, rfl, aw, cy, rfl, rfl, z4⟩
  obtain rfl := BL.zero ah ak
  rw [H7] at aj
  refine AT (Af (Af ?_))
  refine Ay ?_
  exact mi kr ⟨aj, rfl, rfl, z1⟩
 rintro e1 _ _ ⟨ca, rfl, rfl, bb⟩
 refine AB _ bb ?_
 rw [Lk] at ca
 refine AN (ua (Aa ?_))
 refine A0 (fun e1 F1 L1 => ∃ (Cg : Int), Lm Cg = some r ∧ F = F1 ∧ L1 = [] ∧ e1.sub [(6, .int .i64 Cg)]) ?_ ?_
 ·refine AN (uv (Ae Nz rfl) (uv (An isAgg37 rfl (Has.own 0 rfl) rfl) (uv (A7 underlying37 rfl) ?_)))
  refine um (Aa ?_)
  refine Ap ?_
  refine Bh (fun cb e1 F1 L1 => LA Ab cb fun cd k2 => ∃ (ae : Int), H9 walks Al Ad start Ab cd ae = some r ∧ F = F1 ∧ L1 = [(b1, ce #[.slice AU walks.length AV, .slice Aw Al.length Ax, .int .i64 Ad, .int .i64 start, .slice Aj Ab.length Ai] 39)] ∧ e1.sub [(1, .pointer (some ⟨b1, 0, none⟩)), (6, .int .i64 ae), (39, .slice Aj Ab.length Ai), (40, .int .i64 (Ab.length : Int)), (41, .int .i64 k2)]) _ (m0 kr ⟨_, _, rfl, BL.start _, 0, ca, rfl, rfl, z5⟩) ?_
  rintro cb e1 _ _ ⟨cd, k2, bc, ai, ae, al, rfl, rfl, bd⟩
  refine AB _ bd (AN (uv (Bb rfl rfl) ?_))
  refine Aa (As ?_)
  refine cQ (fun ao => ?_) fun ao => ?_
  ·obtain ⟨x2, dx, rfl, bg, cf, bh⟩ := BL.succ ai ao
   rw [H9] at al
   refine Aq (As ?_)
   refine Ap (AN ?_)
   obtain ⟨dy, dz, eb, cz, bj, bk, af, ⟨_, _, rfl, ⟨ec, eg, rfl, da⟩, ⟨_, _, rfl, rfl, rfl⟩⟩, bl, bm⟩ := Av.at (Au (Ar (Ac _)) (Au (Ac _) (Ac _))) aa ([(b1, ce #[.slice AU walks.length AV, .slice Aw Al.length Ax, .int .i64 Ad, .int .i64 start, .slice Aj Ab.length Ai] 39)]) cf.1 bg
   refine uv (AK underlying37 sizeOf41 rfl bj rfl cf) (uv (AS isAgg41 sizeOf41 rfl bk af (BB af bl bm)) ?_)
   refine Bo rfl zeroValue41 ?_; intro eh db
   refine B1 (i := 0) sizeOf41 rfl rfl rfl (by simp [Value.oneCell']) rfl (CK rfl) (AI rfl ?_)
   refine Aa (As (AN ?_))
   refine uv (AS isAgg39 sizeOf39 rfl (Has.own 1 rfl) (CK rfl) rfl) (uv (AS isAgg41 sizeOf41 rfl (Has.own 0 rfl) (CK rfl) rfl) ?_)
   obtain ⟨n2, dd, cg⟩ := AG al
   refine cV call183 (Ob ad ab aa da dd) ?_
   refine ua (BX (um ?_))
   refine uv (B7 rfl rfl) (Aa ?_)
   refine cQ (fun bn => ?_) fun bn => ?_
   ·have de := Bf cg bn
    refine AN (um (ua (Aa ?_)))
    refine kW kn ?_
    refine Ao (Ah (AA (Ah (Ah (AA (Ah ?_))))))
    refine BU results122 ?_
    obtain rfl := AL de
    exact rfl
   have df := Bg cg bn
   refine Aq (Am (um ?_))
   refine uv (Ae Qw rfl) (uv (An isAgg33 rfl (Has.own 0 rfl) rfl) (uv (A7 underlying33 rfl) ?_))
   obtain ⟨dg, dh⟩ := A1 df
   refine uv (Bd rfl rfl dg) ?_
   refine ua (Aa (AD (id := 4) (Am ?_)))
   refine uv (Bd rfl rfl (BL.Eg ai ao (Av.lt aa))) ?_
   refine um (Aa ?_)
   subst bc; exact le (kd kr) ⟨_, _, rfl, bh, ae + (x2.1.length : Int), dh, rfl, rfl, z5⟩
  obtain rfl := BL.zero ai ao
  rw [H9] at al
  refine AT (Af (Af ?_))
  refine Ay ?_
  exact mi kn ⟨ae, al, rfl, rfl, z1⟩
 rintro e1 _ _ ⟨Cg, bo, rfl, rfl, bp⟩
 refine AB _ bp ?_
 rw [Lm] at bo
 refine As (AN (um ?_))
 refine uv (KS rfl rfl) (Aa ?_)
 refine cQ (fun bq => ?_) fun bq => ?_
 ·have di := Bf bo bq
  refine AN (ua (Aa (Ao (Ah ?_))))
  refine BU results122 ?_
  obtain rfl := AL di
  exact rfl
 have dk := Bg bo bq
 refine Aq (AN (ua (Aa (Ao ?_))))
 refine BU results122 ?_
 obtain rfl := AL dk
 exact rfl
set_option maxHeartbeats 1000000 in
theorem Qk {l : List Int} (ae : Av 1 (iE .i64) F Hp Hl l) {r : Int} (hr : LO l = some r) :
    Bl Tryz.prog 126 #[.slice Hp l.length Hl] F (.int .i64 r) := by
 refine sp func126 ntmps126 fun K _ _ => ?_
 rw [LO] at hr
 refine AN (ua (BX (ua (Aa ?_))))
 obtain ⟨out, h1, r2⟩ := AG hr
 refine jE ([]) [(3, .int .i64 out)] ?_ ?_
 ·clear r2
  refine AN (um ?_)
  refine uv (A7 underlying33 rfl) ?_
  refine um (Aa ?_)
  refine Ap ?_
  refine Bh (fun ao e1 F1 L1 => LA l ao fun tl k => ∃ (BD : Int), FA tl BD = some out ∧ F = F1 ∧ L1 = [] ∧ e1.sub [(3, .int .i64 BD), (6, .slice Hp l.length Hl), (7, .int .i64 (l.length : Int)), (8, .int .i64 k)]) _ (m0 kr ⟨_, _, rfl, BL.start _, -1, h1, rfl, rfl, z4⟩) ?_
  rintro ao e1 _ _ ⟨tl, k, aq, ad, BD, r5, rfl, rfl, ay⟩
  refine AB _ ay (AN (uv (Bb rfl rfl) ?_))
  refine Aa (As ?_)
  refine cQ (fun c8 => ?_) fun c8 => ?_
  ·obtain ⟨x, bj, rfl, af, ar, au⟩ := BL.succ ad c8
   rw [FA] at r5
   refine Aq (As ?_)
   refine Ap (AN ?_)
   obtain ⟨Ud, bk, bl, az, ah, ai, av, rfl, ba, aj⟩ := Av.at (Ac _) ae ([]) ar.1 af
   refine uv (AK underlying33 sizeOf3 rfl ah rfl ar) (uv (An isAgg3 rfl ai (aj 0 (by decide))) ?_)
   refine ua (Aa ?_)
   obtain ⟨k2, aw, ak⟩ := AG r5
   refine jE ([]) [(3, .int .i64 BD), (5, .int .i64 x), (6, .slice Hp l.length Hl), (7, .int .i64 (l.length : Int)), (8, .int .i64 k), (22, .bool k2)] ?_ ?_
   ·clear ak
    refine Am (um ?_)
    refine uv (B7 rfl rfl) (um ?_)
    by_cases aa : x ≠ (-1)
    ·have ax := Bf aw aa
     refine nT aa (um (nT aa ?_))
     refine uv (CR rfl rfl) ?_
     refine nT aa (um ?_)
     by_cases ab : BD = (-1)
     ·have bb := Bf ax ab
      refine fT ab (fT ab (fT ab (nT aa ?_)))
      refine uv (AW (Bn rfl ab) rfl) (uv (AW (Bn rfl aa) rfl) (Aa ?_))
      obtain rfl := AL bb
      exact mi kr ⟨rfl, rfl, z6⟩
     have bc := Bg ax ab
     refine nF ab (um (nF ab (um (nF ab ?_))))
     refine uv (Bb rfl rfl) (nT aa (uv (AH (A8 rfl ab) rfl) (uv (AW (Bn rfl aa) rfl) (Aa ?_))))
     obtain rfl := AL bc
     exact mi kr ⟨rfl, rfl, z6⟩
    have bd := Bg aw aa
    refine fF aa (fF aa (fF aa (fU (fU (fU (fF aa ?_))))))
    refine uv (AH (A8 rfl aa) rfl) (Aa ?_)
    obtain rfl := AL bd
    exact mi kr ⟨rfl, rfl, z6⟩
   refine A5 rfl (fun al => ?_) (fun al => ?_)
   ·have bg := bt ak al
    refine Am (um (ua (Aa (AD (id := 1) (Am ?_)))))
    refine uv (Bd rfl rfl (BL.Eg ad c8 (Av.lt ae))) ?_
    refine um (Aa ?_)
    subst aq; exact le kr ⟨_, _, rfl, au, x, bg, rfl, rfl, z4⟩
   have bh := bf ak al
   refine Aq (AD (id := 1) (Am ?_))
   refine uv (Bd rfl rfl (BL.Eg ad c8 (Av.lt ae))) ?_
   refine um (Aa ?_)
   subst aq; exact le kr ⟨_, _, rfl, au, BD, bh, rfl, rfl, z4⟩
  obtain rfl := BL.zero ad c8
  rw [FA] at r5
  refine AT (Af (Af ?_))
  refine Ay ?_
  obtain rfl := AL r5
  exact mi kr ⟨rfl, rfl, z1⟩
 refine AN (um (ua (Aa (Ao ?_))))
 refine BU results126 ?_
 obtain rfl := AL r2
 exact rfl
set_option maxHeartbeats 1000000 in
theorem JK {w : List Int} (ad : w.length = 25) {r : List Int} (hr : GD w = some r) :
    SH.Spec Tryz.prog 123 #[.agg (arr (cI .i64) w)] F [] fun _ L' v => v = .agg (arr (cI .i64) r) ∧ L' = [] ∧ r.length = 25 := by
 refine sp func123 ntmps123 fun K _ _ => ?_
 rw [GD] at hr
 refine AN ?_
 refine Bt rfl rfl ?_; intro b1 gq
 refine Bo rfl zeroValue152 ?_; intro b2 gr
 refine AI (L' := [(b2, ce (arr (cI .i64) (List.replicate 25 0)) 152), (b1, ce (arr (cI .i64) w) 152)]) rfl (BX (uv (Gq isAgg152 sizeOf152 rfl (Has.own 1 rfl) (Ci (A4 .i64) ad)) ?_))
 refine Bo rfl zeroValue152 ?_; intro b3 gu
 refine AI (L' := [(b3, ce (arr (cI .i64) (List.replicate 25 0)) 152), (b2, ce (arr (cI .i64) (List.replicate 25 0)) 152), (b1, ce (arr (cI .i64) w) 152)]) rfl (Ef (i := 0) sizeOf152 rfl rfl rfl (Ci (A4 .i64) List.length_replicate) (Ci (A4 .i64) ad) (Hc (A4 .i64)) (AI (L' := [(b3, ce (arr (cI .i64) w) 152), (b2, ce (arr (cI .i64) (List.replicate 25 0)) 152), (b1, ce (arr (cI .i64) w) 152)]) rfl (Aa ?_)))
 obtain ⟨out, h5, r6⟩ := AG hr
 refine A0 (fun e1 F1 L1 => A3 F F1 ∧ L1 = [(b3, ce (arr (cI .i64) out) 152), (b2, ce (arr (cI .i64) (List.replicate 25 0)) 152)] ∧ e1.sub [(2, .pointer (some ⟨b2, 0, none⟩)), (3, .pointer (some ⟨b3, 0, none⟩))] ∧ out.length = 25) ?_ ?_
 ·clear r6
  refine AN (um (Aa ?_))
  refine Ap ?_
  obtain ⟨g8, r9⟩ := A1 h5
  refine Bh (fun bq e1 F1 L1 => ∃ (k : Int), Dc 0 5 k bq ∧ ∃ (BD : List Int), El w bq k BD = some out ∧ A3 F F1 ∧ L1 = [(b3, ce (arr (cI .i64) BD) 152), (b2, ce (arr (cI .i64) (List.replicate 25 0)) 152), (b1, ce (arr (cI .i64) w) 152)] ∧ e1.sub [(1, .pointer (some ⟨b1, 0, none⟩)), (2, .pointer (some ⟨b2, 0, none⟩)), (3, .pointer (some ⟨b3, 0, none⟩)), (8, .int .i64 k)] ∧ BD.length = 25) _ (m0 kr ⟨_, Dc.start _ _, w, r9, A3.refl _, rfl, z4, ad⟩) ?_
  rintro bq e1 dv _ ⟨k, al, BD, br, ar, rfl, cd, h7⟩
  refine AB _ cd (AN (uv (Bb rfl rfl) ?_))
  refine Aa (As ?_)
  refine cQ (fun bu => ?_) fun bu => ?_
  ·obtain ⟨bq, rfl, cf⟩ := Dc.succ al bu
   rw [El] at br
   refine Aq ?_
   obtain ⟨af, ez, dw⟩ := AG br
   refine A0 (fun e1 F1 L1 => A3 dv F1 ∧ L1 = [(b3, ce (arr (cI .i64) af) 152), (b2, ce (arr (cI .i64) (List.replicate 25 0)) 152), (b1, ce (arr (cI .i64) w) 152)] ∧ e1.sub [(1, .pointer (some ⟨b1, 0, none⟩)), (2, .pointer (some ⟨b2, 0, none⟩)), (3, .pointer (some ⟨b3, 0, none⟩)), (8, .int .i64 k)] ∧ af.length = 25) ?_ ?_
   ·clear dw
    refine Ap ?_
    refine AN (um (ua (BX (um (Aa ?_)))))
    refine Ap ?_
    obtain ⟨fa, fb⟩ := A1 ez
    refine Bh (fun bw e1 F1 L1 => ∃ (k2 : Int), Dc 0 5 k2 bw ∧ ∃ (ae : List Int), En w k bw k2 ae = some af ∧ A3 dv F1 ∧ L1 = [(b3, ce (arr (cI .i64) ae) 152), (b2, ce (arr (cI .i64) (List.replicate 25 0)) 152), (b1, ce (arr (cI .i64) w) 152)] ∧ e1.sub [(1, .pointer (some ⟨b1, 0, none⟩)), (2, .pointer (some ⟨b2, 0, none⟩)), (3, .pointer (some ⟨b3, 0, none⟩)), (4, .int .i64 k), (8, .int .i64 k), (11, .int .i64 k2)] ∧ ae.length = 25) _ (m0 kr ⟨_, Dc.start _ _, BD, fb, A3.refl _, rfl, z6, h7⟩) ?_
    rintro bw e1 dx _ ⟨k2, ao, ae, bx, au, rfl, cg, dy⟩
    refine AB _ cg (AN (uv (Bb rfl rfl) ?_))
    refine Aa (As ?_)
    refine cQ (fun bz => ?_) fun bz => ?_
    ·obtain ⟨bw, rfl, cj⟩ := Dc.succ ao bz
     rw [En] at bx
     refine Aq ?_
     obtain ⟨ah, fe, dz⟩ := AG bx
     refine A0 (fun e1 F1 L1 => A3 dx F1 ∧ L1 = [(b3, ce (arr (cI .i64) ah) 152), (b2, ce (arr (cI .i64) (List.replicate 25 0)) 152), (b1, ce (arr (cI .i64) w) 152)] ∧ e1.sub [(1, .pointer (some ⟨b1, 0, none⟩)), (2, .pointer (some ⟨b2, 0, none⟩)), (3, .pointer (some ⟨b3, 0, none⟩)), (4, .int .i64 k), (8, .int .i64 k), (11, .int .i64 k2)] ∧ ah.length = 25) ?_ ?_
     ·clear dz
      refine Ap ?_
      refine AN (um (ua (BX (um (Aa ?_)))))
      refine Ap ?_
      obtain ⟨eb, ff⟩ := A1 fe
      refine Bh (fun ca e1 F1 L1 => ∃ (k3 : Int), Dc 0 5 k3 ca ∧ ∃ (aa : List Int), DE w k k2 ca k3 aa = some ah ∧ A3 dx F1 ∧ L1 = [(b3, ce (arr (cI .i64) aa) 152), (b2, ce (arr (cI .i64) (List.replicate 25 0)) 152), (b1, ce (arr (cI .i64) w) 152)] ∧ e1.sub [(1, .pointer (some ⟨b1, 0, none⟩)), (2, .pointer (some ⟨b2, 0, none⟩)), (3, .pointer (some ⟨b3, 0, none⟩)), (4, .int .i64 k), (5, .int .i64 k2), (8, .int .i64 k), (11, .int .i64 k2), (14, .int .i64 k3)] ∧ aa.length = 25) _ (m0 kr ⟨_, Dc.start _ _, ae, ff, A3.refl _, rfl, z8, dy⟩) ?_
      rintro ca e1 gv _ ⟨k3, ai, aa, cb, aq, rfl, ck, aj⟩
      refine AB _ ck (AN (uv (Bb rfl rfl) ?_))
      refine Aa (As ?_)
      refine cQ (fun av => ?_) fun av => ?_
      ·obtain ⟨ca, rfl, aw⟩ := Dc.succ ai av
       rw [DE] at cb
       refine Aq (As ?_)
       refine Ap ?_
       refine AN (um (ua (Aa ?_)))
       obtain ⟨k4, fg, cn⟩ := AG cb
       refine jE ([(b3, ce (arr (cI .i64) aa) 152), (b2, ce (arr (cI .i64) (List.replicate 25 0)) 152), (b1, ce (arr (cI .i64) w) 152)]) [(1, .pointer (some ⟨b1, 0, none⟩)), (2, .pointer (some ⟨b2, 0, none⟩)), (3, .pointer (some ⟨b3, 0, none⟩)), (4, .int .i64 k), (5, .int .i64 k2), (6, .int .i64 k3), (8, .int .i64 k), (11, .int .i64 k2), (14, .int .i64 k3), (30, .bool k4)] ?_ ?_
       ·clear cn
        refine Am (um (um ?_))
        obtain ⟨ec, fh⟩ := A1 fg
        refine uv (Bj underlying152 sizeOf150 rfl rfl ec) ?_
        obtain ⟨eg, fi⟩ := A1 fh
        obtain ⟨x, gw, cp, eh⟩ := Bx fi
        have cq : (k * 5 + k3 : Int).toNat = (k : Int).toNat * 5 + (k3 : Int).toNat := by have := ec; have := eg; omega
        have ct := Jh (A4 .i64) ad cq cp (FY (Cd (DM (A4 .i64) ad))) (Eb (Cd (DM (A4 .i64) ad)))
        refine uv (Bj underlying150 sizeOf3 rfl rfl eg) (uv (An isAgg3 rfl (Has.own 2 rfl) ((ct).2.2 0 (by decide))) (uv (B7 rfl rfl) (um ?_)))
        by_cases ab : x ≠ (-1)
        ·have fj := Bf eh ab
         refine nT ab (um (nT ab (um (nT ab ?_))))
         obtain ⟨ei, fk⟩ := A1 fj
         refine uv (Bj underlying152 sizeOf150 rfl rfl ei) (nT ab ?_)
         obtain ⟨ej, fl⟩ := A1 fk
         obtain ⟨x2, gz, cu, fm⟩ := Bx fl
         have cv : (k3 * 5 + k2 : Int).toNat = (k3 : Int).toNat * 5 + (k2 : Int).toNat := by have := ei; have := ej; omega
         have cw := Jh (A4 .i64) ad cv cu (FY (Cd (DM (A4 .i64) ad))) (Eb (Cd (DM (A4 .i64) ad)))
         refine uv (Bj underlying150 sizeOf3 rfl rfl ej) (nT ab (uv (An isAgg3 rfl (Has.own 2 rfl) ((cw).2.2 0 (by decide))) (nT ab (uv (B7 rfl rfl) (uv (AW (Bn rfl ab) rfl) (Aa ?_))))))
         obtain rfl := AL fm
         exact mi kr ⟨rfl, rfl, (sc rfl (sc rfl z8))⟩
        have fo := Bg eh ab
        refine fF ab (fF ab (fF ab (fF ab (fF ab (fF ab ?_)))))
        refine uv (AH (A8 rfl ab) rfl) (Aa ?_)
        obtain rfl := AL fo
        exact mi kr ⟨rfl, rfl, (sc rfl (sc rfl z8))⟩
       refine A5 rfl (fun cx => ?_) (fun cx => ?_)
       ·have fp := bt cn cx
        refine Dp [(.still, 0), (.still, 1), (.still, 2), (.still, 3), (.still, 4), (.still, 5), (.still, 6), (.still, 7), (.still, 8), (.still, 9), (.still, 10), (.still, 11), (.still, 12), (.still, 13), (.still, 14), (.still, 15), (.still, 16), (.still, 17), (.still, 20), (.seq, 18), (.seq, 19), (.still, 21), (.seq, 22)] (by kernel_rfl) (by kernel_rfl) (trivial) (by rfl) (by kernel_rfl) (mS [4] rfl (Bw rfl) (mS [5] rfl (Bw rfl) (mS [4] rfl (Bw rfl) (mS [5] rfl (Bw rfl) ?_))))
        obtain ⟨en, fq⟩ := A1 fp
        refine mS [3, 33] rfl (Bj underlying152 sizeOf150 rfl rfl en) ?_
        obtain ⟨eo, ft⟩ := A1 fq
        obtain ⟨x3, fv, cy, fw⟩ := Bx ft
        have cz : (k * 5 + k2 : Int).toNat = (k : Int).toNat * 5 + (k2 : Int).toNat := by have := en; have := eo; omega
        have da := Jh (A4 .i64) aj cz cy (FY (Cd (DM (A4 .i64) aj))) (Eb (Cd (DM (A4 .i64) aj)))
        refine mS [34, 35] rfl (Bj underlying150 sizeOf3 rfl rfl eo) (mL [36] ([(b3, ce (arr (cI .i64) aa) 152)]) rfl (s0 (s2 (s1 (s1 sr)))) (fun H F' L' ax ay => An isAgg3 rfl ((Has.own 0 rfl).ext ax ay) ((da).2.2 0 (by decide))) (mS [4] rfl (Bw rfl) (mS [6] rfl (Bw rfl) ?_)))
        obtain ⟨ep, fx⟩ := A1 fw
        refine mS [1, 38] rfl (Bj underlying152 sizeOf150 rfl rfl ep) ?_
        obtain ⟨er, fy⟩ := A1 fx
        obtain ⟨x4, ia, db, ga⟩ := Bx fy
        have dd : (k * 5 + k3 : Int).toNat = (k : Int).toNat * 5 + (k3 : Int).toNat := by have := ep; have := er; omega
        have de := Jh (A4 .i64) ad dd db (FY (Cd (DM (A4 .i64) ad))) (Eb (Cd (DM (A4 .i64) ad)))
        refine mS [39, 40] rfl (Bj underlying150 sizeOf3 rfl rfl er) (mL [41] ([(b1, ce (arr (cI .i64) w) 152)]) rfl (s0 (s1 (s1 (s2 sr)))) (fun H F' L' ax ay => An isAgg3 rfl ((Has.own 0 rfl).ext ax ay) ((de).2.2 0 (by decide))) (mS [6] rfl (Bw rfl) (mS [5] rfl (Bw rfl) ?_)))
        obtain ⟨eu, gb⟩ := A1 ga
        refine mS [1, 43] rfl (Bj underlying152 sizeOf150 rfl rfl eu) ?_
        obtain ⟨ew, gg⟩ := A1 gb
        obtain ⟨x5, ib, df, gh⟩ := Bx gg
        have az : (k3 * 5 + k2 : Int).toNat = (k3 : Int).toNat * 5 + (k2 : Int).toNat := by have := eu; have := ew; omega
        have ba := Jh (A4 .i64) ad az df (FY (Cd (DM (A4 .i64) ad))) (Eb (Cd (DM (A4 .i64) ad)))
        refine mS [44, 45] rfl (Bj underlying150 sizeOf3 rfl rfl ew) (mL [46] ([(b1, ce (arr (cI .i64) w) 152)]) rfl (s0 (s1 (s1 (s2 sr)))) (fun H F' L' ax ay => An isAgg3 rfl ((Has.own 0 rfl).ext ax ay) ((ba).2.2 0 (by decide))) ?_)
        obtain ⟨dg, dh⟩ := A1 gh
        refine mS (v := .int .i64 (x4 + x5)) [42, 47] rfl (Bd rfl rfl dg) ?_
        obtain ⟨bb, di⟩ := A1 dh
        refine mS [3, 31] rfl (Bj underlying152 sizeOf150 rfl rfl bb) ?_
        refine ⟨_, [(37, .int .i64 x3), (48, .int .i64 (x4 + x5))], rfl, rfl, z2, by kernel_rfl, ?_⟩; intro H
        refine bA (cs := #[.int .i64 x3, .int .i64 (x4 + x5)]) Cm [.int .i64 x3, .int .i64 (x4 + x5)] ?_; intro bc bd
        refine Aa ⟨_, rfl, A3.refl _, [20, 1, 0], by kernel_rfl, .inl (.inr (fun d h => by cases h; rfl)), (fc sm (fc sm (fc sm nm))), ?_⟩
        refine ⟨_, [(49, .slice (some ⟨bc, 0, none⟩) 2 2)], rfl, rfl, z1, by kernel_rfl, ?_⟩; intro H
        refine Bi 0 rfl bd ?_; intro dk ak bg
        refine AI (L' := [(b3, ce (arr (cI .i64) aa) 152), (b2, ce (arr (cI .i64) (List.replicate 25 0)) 152), (b1, ce (arr (cI .i64) w) 152)]) rfl ?_
        have dm : Av 1 (iE .i64) dk (some ⟨bc, 0, none⟩) 2 [x3, x4 + x5] := Av.BM (Ac _) (vss := [[.int .i64 x3], [.int .i64 (x4 + x5)]]) (xs := [x3, x4 + x5]) bg (.cons rfl (.cons rfl .nil)) rfl (by simp [maxLen])
        obtain ⟨n, dn, dp⟩ := AG di
        refine cV call126 (Qk dm dn) ?_
        refine Aa ⟨_, rfl, ak, [20, 1, 0], by kernel_rfl, .inl (.inr (fun d h => by cases h; rfl)), (fc sm (fc sm (fc sm nm))), ?_⟩
        obtain ⟨bh, dq⟩ := A1 dp
        have bj : (k * 5 + k2 : Int).toNat = (k : Int).toNat * 5 + (k2 : Int).toNat := by have := bb; have := bh; omega
        refine mS [32, 51] rfl (Bj underlying150 sizeOf3 rfl rfl bh) ?_
        refine ⟨_, [(50, .int .i64 n), (52, .pointer (some ⟨b3, 0 + (k : Int).toNat * 5 + (k2 : Int).toNat * 1, none⟩))], rfl, rfl, z2, by kernel_rfl, ?_⟩; intro H
        obtain ⟨l, bk, dr⟩ := CH dq
        have dt : l.length = 25 := by rw [bk, List.length_set]; exact aj
        refine Lw (i := 0) sizeOf3 (A4 .i64) rfl rfl rfl rfl bj (by have := fv; have := aj; omega) aj ?_
        refine AI (L' := [(b3, ce (arr (cI .i64) l) 152), (b2, ce (arr (cI .i64) (List.replicate 25 0)) 152), (b1, ce (arr (cI .i64) w) 152)]) (by rw [bk]; rfl) ?_
        refine Aa ⟨undef, rfl, A3.refl _, [], by kernel_rfl, .inl (.inl rfl), nm, ?_⟩
        refine Ff ?_
        refine AD (id := 5) (Am ?_)
        refine uv (Bd rfl rfl (Dc.Eg ai av eb)) ?_
        refine um (Aa ?_)
        exact le kr ⟨_, aw, l, dr, (aq.trans ak), rfl, z8, dt⟩
       have du := bf cn cx
       refine Aq (AD (id := 5) (Am ?_))
       refine uv (Bd rfl rfl (Dc.Eg ai av eb)) ?_
       refine um (Aa ?_)
       exact le kr ⟨_, aw, aa, du, aq, rfl, z8, aj⟩
      obtain rfl := Dc.zero ai av
      rw [DE] at cb
      refine AT (Af (Af ?_))
      refine Ay (AD (id := 3) ?_)
      obtain rfl := AL cb
      exact mi kr ⟨aq, rfl, z6, aj⟩
     rintro e1 gk _ ⟨bl, rfl, bm, gl⟩
     refine AB _ bm (Am (uv (Bd rfl rfl (Dc.Eg ao bz fa)) ?_))
     refine um (Aa ?_)
     exact le kr ⟨_, cj, ah, dz, (au.trans bl), rfl, z6, gl⟩
    obtain rfl := Dc.zero ao bz
    rw [En] at bx
    refine AT (Af (Af ?_))
    refine Ay (AD (id := 1) ?_)
    obtain rfl := AL bx
    exact mi kr ⟨au, rfl, z4, dy⟩
   rintro e1 gm _ ⟨bn, rfl, bo, gn⟩
   refine AB _ bo (Am (uv (Bd rfl rfl (Dc.Eg al bu g8)) ?_))
   refine um (Aa ?_)
   exact le kr ⟨_, cf, af, dw, (ar.trans bn), rfl, z4, gn⟩
  obtain rfl := Dc.zero al bu
  rw [El] at br
  refine AT (Af (Af ?_))
  refine Ay ?_
  obtain rfl := AL br
  exact mi (kc (kc kn)) ⟨ar, rfl, z2, h7⟩
 rintro e1 gp _ ⟨ey, rfl, bp, h4⟩
 refine AB _ bp (AN (uv (Gq isAgg152 sizeOf152 rfl (Has.own 0 rfl) (Ci (A4 .i64) h4)) (Ef (i := 1) sizeOf152 rfl rfl rfl (Ci (A4 .i64) List.length_replicate) (Ci (A4 .i64) h4) (Hc (A4 .i64)) (AI (L' := [(b3, ce (arr (cI .i64) out) 152), (b2, ce (arr (cI .i64) out) 152)]) rfl (Aa (kW (kd kr) (Ao ?_)))))))
 refine Jv results123 (Fg (cs := arr (cI .i64) out) isAgg152 sizeOf152 rfl (Has.own 0 rfl) (Eb (Cd (DM (A4 .i64) h4))) (G9 (DM (A4 .i64) h4) (Cd (DM (A4 .i64) h4)))) (s1 sr) ?_
 obtain rfl := AL r6
 exact ⟨rfl, rfl, h4⟩
set_option maxHeartbeats 1000000 in
theorem KO {s_ : List Int} (aq : Be 0 3 1 (iE .i64) F B0 FB BY s_ HP) (af : ∀ args w, (callFunc LW args).run Tryz.prog w = .ok (.enter LW args) w) (al : Hs Tryz.prog LW Q2 RF F (fun x : Int => #[.int .i64 x]) seq) {r : List Int} (hr : Gw s_ seq = some r) :
    SH.Spec Tryz.prog 227 #[.slice B0 FB BY, .func (.func LW) Q2 RF] F (HP ++ []) fun F' L' v => ∃ (ra : Option Addr) (rn : Nat) (rc : Nat) (rL : LH), v = .slice ra rn rc ∧ L' = rL ++ [] ∧ Be 0 3 1 (iE .i64) F' ra rn rc r rL := by
 refine sp func227 ntmps227 fun K _ _ => ?_
 rw [Gw] at hr
 refine E7 (L' := HP ++ []) (by simp) (AN ?_)
 refine Bt rfl rfl ?_; intro b1 ca
 refine ua (Aa ?_)
 obtain ⟨ax, h8, r9⟩ := AG hr
 refine A0 (fun e1 F1 L1 => ∃ (a2 : Option Addr) (n6 : Nat) (c3 : Nat) (ar : LH), A3 F F1 ∧ L1 = ((b1, ce #[.slice a2 n6 c3] 33) :: (ar ++ [])) ∧ e1.sub [(2, .pointer (some ⟨b1, 0, none⟩))] ∧ Be 0 3 1 (iE .i64) F1 a2 n6 c3 ax ar) ?_ ?_
 ·clear r9
  refine AN (um (Aa ?_))
  refine Ap ?_
  refine J0 (encs := (fun x : Int => #[.int .i64 x])) (xs := seq) rfl af rfl (fun _ => rfl) al (fun pre F1 L1 => ∃ (tl : List Int) (ah : List Int) (ai : Option Addr) (aj : Nat) (ak : Nat) (aa : LH), seq = pre ++ tl ∧ Dh tl ah = some ax ∧ L1 = ((b1, ce #[.slice ai aj ak] 33) :: (aa ++ [])) ∧ Be 0 3 1 (iE .i64) F1 ai aj ak ah aa) (fun _ _ _ => False) ?_ ?_ ?_ ?_ ?_ ?_
  ·rintro pre F1 F2 L1 ⟨tl, ah, ai, aj, ak, aa, ab, bh, rfl, ad⟩ hx; exact ⟨tl, ah, ai, aj, ak, aa, ab, bh, rfl, ad.mono (Ac _) hx⟩
  ·intro c F1 F2 L1 h hx; exact h
  ·exact ⟨_, s_, B0, FB, BY, HP, rfl, h8, rfl, aq⟩
  ·rintro cb bj bk bl bm bn ay bo pre x cd ae cf _ bp ⟨tl, ah, ai, aj, ak, aa, ab, az, rfl, ad⟩
   obtain rfl := NI ab ae
   rw [Dh] at az
   refine AB [(2, .pointer (some ⟨b1, 0, none⟩)), (6, .func (.func LW) Q2 RF), (7, .int .i64 x)] (by exact z3) ?_
   refine Am (ua (Aa ?_))
   refine ⟨rfl, ?_⟩
   refine Ap (Am (uv (An isAgg33 rfl (Has.own 0 rfl) rfl) (um ?_)))
   refine bA (cs := #[.int .i64 x]) Cm [.int .i64 x] ?_; intro cg bq
   obtain ⟨ba, br, bu, bw⟩ := GM az
   refine Fm (xs := ah) (ys := [x]) (zs := ba) rfl Cm rfl rfl (Nat.zero_le _) (fun _ => .c (.c .h)) ad (H2.box (vss := [[.int .i64 x]]) (ys := [x]) 0 rfl (Ac _) (.cons rfl .nil) rfl rfl) br bu (by decide) ?_; intro bb bc bd ao au
   refine kO (kd kr) (Cv (i := 0) sizeOf33 rfl rfl rfl rfl (CK rfl) (AI rfl ?_))
   refine Aa (AD (id := 1) ?_)
   refine ⟨(b1, ce #[.slice bb bc bd] 33) :: (ao ++ []), ⟨_, .refl _, sr⟩, ?_⟩; exact ⟨_, ba, bb, bc, bd, ao, (by rw [ae]; simp), bw, rfl, au⟩
  ·rintro cj _ av ⟨tl, ah, ai, aj, ak, aa, ab, bg, rfl, ad⟩
   obtain rfl := O9 ab; rw [Dh] at bg
   refine AD (id := 0) ?_
   obtain rfl := AL bg
   exact mi kr ⟨ai, aj, ak, aa, av, rfl, z1, ad⟩
  intro c F1 L1 hx h; exact h.elim
 rintro e1 ck _ ⟨a2, n6, c3, ar, bx, rfl, aw, bz⟩
 refine AB _ aw (AN (uv (An isAgg33 rfl (Has.own 0 rfl) rfl) ?_))
 refine ua (Aa ?_)
 refine kW (kd kr) (Ao (BU results227 ?_))
 obtain rfl := AL r9
 exact ⟨_, _, _, _, rfl, rfl, bz⟩
theorem Nv (aa : ∀ args w, (callFunc LW args).run Tryz.prog w = .ok (.enter LW args) w) (ab : Hs Tryz.prog LW Q2 RF F (fun x : Int => #[.int .i64 x]) seq) {r : List Int} (hr : I3 seq = some r) :
    SH.Spec Tryz.prog 184 #[.func (.func LW) Q2 RF] F [] fun F' L' v => ∃ (ra : Option Addr) (rn : Nat) (rc : Nat) (rL : LH), v = .slice ra rn rc ∧ L' = rL ++ [] ∧ Be 0 3 1 (iE .i64) F' ra rn rc r rL := by
 refine sp func184 ntmps184 fun K _ _ => ?_
 rw [I3] at hr
 refine AN (ua (BX (um ?_)))
 obtain ⟨l, h1, r2⟩ := AG hr
 refine c0 call227 (KO (Be.nil 0 _ _ _ _) aa ab h1) ?_; rintro _ F3 _ ae af ⟨a7, ah, c8, ai, rfl, rfl, ad⟩
 refine AI (lp (ln rfl)) ?_
 refine ua (Aa (Ao ?_))
 refine BU results184 ?_
 obtain rfl := AL r2
 exact ⟨_, _, _, _, rfl, rfl, ad.any⟩
theorem MF {x : Int} {r : Bool} (hr : II x = some r) :
    Bl Tryz.prog 279 #[.int .i64 x] F (.bool r) := by
 refine sp func279 ntmps279 fun K _ _ => ?_
 rw [II] at hr
 refine AN (ua (BX (um (um ?_))))
 refine uv (B7 rfl rfl) ?_
 refine ua (Aa (Ao ?_))
 refine BU results279 ?_
 obtain rfl := AL hr
 exact rfl
theorem M9 {x y : Int} {r : Bool} (hr : It x y = some r) :
    Bl Tryz.prog 257 #[.int .i64 x, .int .i64 y] F (.bool r) := by
 refine sp func257 ntmps257 fun K _ _ => ?_
 rw [It] at hr
 refine AN (ua (BX (um ?_)))
 obtain ⟨ok, h1, r2⟩ := AG hr
 refine cV call279 (MF h1) (um ?_)
 rcases Co ok with c3 | c3
 ·have r4 := bt r2 c3
  refine nB c3 (um (nB c3 ?_))
  obtain ⟨aa, h5, r6⟩ := AG r4
  refine cV call279 (MF h5) (nB c3 (uv (BC rfl) (uv (AW (Iy rfl c3) rfl) (um ?_))))
  rcases Co (!aa) with c7 | c7
  ·have r8 := bt r6 c7
   refine fB c7 (fB c7 (fB c7 ?_))
   refine uv (AW (Iy rfl c7) rfl) ?_
   refine ua (Aa (Ao ?_))
   refine BU results257 ?_
   obtain rfl := AL r8
   exact rfl
  have r9 := bf r6 c7
  refine nB c7 (um (nB c7 (um (nB c7 ?_))))
  refine uv (Bb rfl rfl) (uv (AH (Iy rfl c7) rfl) ?_)
  refine ua (Aa (Ao ?_))
  refine BU results257 ?_
  obtain rfl := AL r9
  exact rfl
 have ab := bf r2 c3
 refine fB c3 (fB c3 (fB c3 ?_))
 refine uv (AH (Iy rfl c3) rfl) ?_
 refine um (DO (b := false) 12 rfl rfl (um (DO (b := false) 12 rfl rfl (um (DO (b := false) 12 rfl rfl ?_)))))
 refine uv (Bb rfl rfl) (uv (AH rfl rfl) ?_)
 refine ua (Aa (Ao ?_))
 refine BU results257 ?_
 obtain rfl := AL ab
 exact rfl
set_option maxHeartbeats 1000000 in
theorem Jf {s_ : List Int} (bc : Be H6 3 1 (iE .i64) F B0 FB BY s_ HP) {r : List Int} (hr : EA s_ a b = some r) :
    SH.Spec Tryz.prog 251 #[.slice B0 FB BY, .int .i64 a, .int .i64 b] F (HP ++ []) fun F' L' v => ∃ (rL : LH), v = .tuple #[] ∧ L' = rL ++ [] ∧ Be H6 3 1 (iE .i64) F' B0 FB BY r rL := by
 refine sp func251 ntmps251 fun K _ _ => ?_
 rw [EA] at hr
 refine E7 (L' := HP ++ []) (by simp) ?_
 refine AN (um ?_)
 obtain ⟨g1, r2⟩ := A1 hr
 refine uv (Bd rfl rfl g1) ?_
 refine ua (Aa ?_)
 refine Ap ?_
 obtain ⟨g5, r6⟩ := A1 r2
 refine Bh (fun ax e1 F1 L1 => ∃ (i : Int), Dc (a + 1) b i ax ∧ ∃ (data : List Int) (ay : LH), Cr a ax i data = some r ∧ F = F1 ∧ L1 = (ay ++ []) ∧ e1.sub [(0, .slice B0 FB BY), (1, .int .i64 a), (2, .int .i64 b), (6, .int .i64 i)] ∧ Be H6 3 1 (iE .i64) F1 B0 FB BY data ay) _ (m0 kr ⟨_, Dc.start _ _, s_, HP, r6, rfl, rfl, z4, bc⟩) ?_
 rintro ax e1 _ _ ⟨i, bd, data, ay, r9, rfl, rfl, bg, db⟩
 refine AB _ bg ?_
 refine As (AN (um (um ?_)))
 refine uv (Bb rfl rfl) (Aa ?_)
 refine cQ (fun az => ?_) fun az => ?_
 ·obtain ⟨ax, rfl, bh⟩ := Dc.succ bd az
  rw [Cr] at r9
  refine Aq ?_
  obtain ⟨ae, dv, dd⟩ := AG r9
  refine A0 (fun e1 F1 L1 => ∃ (ai : LH), F = F1 ∧ L1 = (ai ++ []) ∧ e1.sub [(0, .slice B0 FB BY), (1, .int .i64 a), (2, .int .i64 b), (6, .int .i64 i)] ∧ Be H6 3 1 (iE .i64) F1 B0 FB BY ae ai) ?_ ?_
  ·clear dd
   refine Ap ?_
   refine AN (um (ua (Aa ?_)))
   refine Ap ?_
   refine Bh (fun ba e1 F1 L1 => ∃ (af : List Int) (j : Int) (aa : LH), Ct a ba af j = some ae ∧ F = F1 ∧ L1 = (aa ++ []) ∧ e1.sub [(0, .slice B0 FB BY), (1, .int .i64 a), (2, .int .i64 b), (6, .int .i64 i), (7, .int .i64 j)] ∧ Be H6 3 1 (iE .i64) F1 B0 FB BY af aa) FU (m0 kr ⟨data, i, ay, dv, rfl, rfl, z5, db⟩) ?_
   rintro ba e1 _ _ ⟨af, j, aa, bb, rfl, rfl, bj, ab⟩
   refine AB _ bj ?_
   rcases ba with _ | ba
   ·rw [Ct] at bb; cases bb
   rw [Ct] at bb
   refine As ?_
   obtain ⟨k, de, bk⟩ := AG bb
   refine jE ((aa ++ [])) [(0, .slice B0 FB BY), (1, .int .i64 a), (2, .int .i64 b), (6, .int .i64 i), (7, .int .i64 j), (30, .bool k)] ?_ ?_
   ·clear bk
    refine O6 (by kernel_rfl) (by kernel_rfl) (by kernel_rfl) ?_
    refine wm (wm ?_)
    refine wv (KS rfl rfl) (wm ?_)
    by_cases ad : a < j
    ·have dw := Bf de ad
     refine BN (b := true) 19 rfl (Env.Ky rfl ad) (wm (BN (b := true) 19 rfl (Env.Ky rfl ad) (wm (BN (b := true) 19 rfl (Env.Ky rfl ad) ?_))))
     obtain ⟨x, df, bl, dx⟩ := Bx dw
     obtain ⟨ft, fv, fw, dy, bm, bn, dg, rfl, dz, bo⟩ := Be.at (Ac _) ab (L := aa ++ []) fP df.1 bl
     refine wv (AK underlying33 sizeOf3 rfl bm rfl (Be.idx ab df)) (BN (b := true) 19 rfl (Env.Ky rfl ad) (wv (An isAgg3 rfl bn (bo 0 (by decide))) ?_))
     refine BN (b := true) 19 rfl (Env.Ky rfl ad) (wm (BN (b := true) 19 rfl (Env.Ky rfl ad) (wm (BN (b := true) 19 rfl (Env.Ky rfl ad) ?_))))
     obtain ⟨eb, ec⟩ := A1 dx
     refine wv (Fa rfl rfl eb) (BN (b := true) 19 rfl (Env.Ky rfl ad) ?_)
     obtain ⟨x2, dh, bp, eg⟩ := Bx ec
     obtain ⟨fx, fy, ga, eh, bq, br, di, rfl, ei, bu⟩ := Be.at (Ac _) ab (L := aa ++ []) fP dh.1 bp
     refine wv (AK underlying33 sizeOf3 rfl bq rfl (Be.idx ab dh)) (BN (b := true) 19 rfl (Env.Ky rfl ad) (wv (An isAgg3 rfl br (bu 0 (by decide))) (BN (b := true) 19 rfl (Env.Ky rfl ad) ?_)))
     obtain ⟨ok, ej, en⟩ := AG eg
     refine I8 rfl call257 rfl rfl rfl (M9 ej) (wv (AW (Bn rfl ad) rfl) (CQ ?_))
     obtain rfl := AL en
     exact mi kr ⟨rfl, rfl, z6⟩
    have eo := Bg de ad
    refine Bv (b' := false) 19 rfl (Env.Kt rfl ad) rfl rfl (Bv (b' := false) 19 rfl (Env.Kt rfl ad) rfl rfl (Bv (b' := false) 19 rfl (Env.Kt rfl ad) rfl rfl (Bv (b' := false) 19 rfl (Env.Kt rfl ad) rfl rfl (Bv (b' := false) 19 rfl (Env.Kt rfl ad) rfl rfl (Bv (b' := false) 19 rfl (Env.Kt rfl ad) rfl rfl (Bv (b' := false) 19 rfl (Env.Kt rfl ad) rfl rfl (Bv (b' := false) 19 rfl (Env.Kt rfl ad) rfl rfl (Bv (b' := false) 19 rfl (Env.Kt rfl ad) rfl rfl (Bv (b' := false) 19 rfl (Env.Kt rfl ad) rfl rfl ?_)))))))))
    refine wv (AH (A8 rfl ad) rfl) (CQ ?_)
    obtain rfl := AL eo
    exact mi kr ⟨rfl, rfl, z6⟩
   refine A5 rfl (fun bw => ?_) (fun bw => ?_)
   ·have ep := bt bk bw
    refine Aq (As ?_)
    refine Ap (Dp [(.still, 0), (.still, 1), (.still, 2), (.still, 3), (.still, 4), (.still, 5), (.still, 6), (.still, 7), (.still, 8), (.still, 9), (.still, 10), (.still, 11), (.still, 12), (.still, 13), (.still, 14), (.seq, 15), (.still, 16), (.seq, 17)] (by kernel_rfl) (by kernel_rfl) (trivial) (by rfl) (by kernel_rfl) (mS [0] rfl (Bw rfl) (mS [7] rfl (Bw rfl) (mS [0] rfl (Bw rfl) (mS [7] rfl (Bw rfl) ?_)))))
    obtain ⟨er, eu⟩ := A1 ep
    refine mS (v := .int .i64 (j - 1)) [36] rfl (Fa rfl rfl er) (mS [0] rfl (Bw rfl) (mS [7] rfl (Bw rfl) ?_))
    obtain ⟨ew, ey⟩ := A1 eu
    refine mS (v := .int .i64 (j - 1)) [39] rfl (Fa rfl rfl ew) ?_
    obtain ⟨x3, dk, bx, ez⟩ := Bx ey
    obtain ⟨gb, gg, gh, fa, bz, ca, dm, rfl, fb, cb⟩ := Be.at (Ac _) ab (L := aa ++ []) fP dk.1 bx
    refine mS [38, 40] rfl (AK underlying33 sizeOf3 rfl bz rfl (Be.idx ab dk)) (mL [41] (aa ++ []) rfl (s0 sr) (fun H F' L' cd cf => An isAgg3 rfl (ca.ext cd cf) (cb 0 (by decide))) (mS [0] rfl (Bw rfl) (mS [7] rfl (Bw rfl) ?_)))
    obtain ⟨x4, al, ao, fe⟩ := Bx ez
    obtain ⟨gk, gl, gm, ff, cg, cj, dn, rfl, fg, ck⟩ := Be.at (Ac _) ab (L := aa ++ []) fP al.1 ao
    refine mS [43, 44] rfl (AK underlying33 sizeOf3 rfl cg rfl (Be.idx ab al)) (mL [45] (aa ++ []) rfl (s0 sr) (fun H F' L' cd cf => An isAgg3 rfl (cj.ext cd cf) (ck 0 (by decide))) ?_)
    obtain ⟨fh, fi, gn, fj, aq, fk, dp, rfl, fl, fm⟩ := Be.at (Ac _) ab (L := aa ++ []) fP al.1 ao
    refine mS [33, 34] rfl (AK underlying33 sizeOf3 rfl aq rfl (Be.idx ab al)) ?_
    refine ⟨_, [(42, .int .i64 x3), (47, .pointer (some ⟨fh, fi + (j : Int).toNat * 1, none⟩))], rfl, rfl, z2, by kernel_rfl, ?_⟩; intro H
    obtain ⟨l, fo, fp⟩ := CH fe
    refine Gp (u := x3) sizeOf3 (Ac _) rfl aq rfl rfl (fun _ => .h) ab fo al ?_; intro cn ah
    refine Aa ⟨undef, rfl, A3.refl _, [4, 3, 2], by kernel_rfl, .inl (.inr (fun d h => by cases h)), (fc sm (fc sm (fc sm nm))), ?_⟩
    obtain ⟨x5, ak, ar, cp⟩ := Bx fp
    obtain ⟨cq, ct, fq, dq, aj, dr, cu, rfl, dt, du⟩ := Be.at (Ac _) ah (L := cn ++ []) fP ak.1 ar
    refine mS [35, 37] rfl (AK underlying33 sizeOf3 rfl aj rfl (Be.idx ah ak)) ?_
    refine ⟨_, [(46, .int .i64 x4), (48, .pointer (some ⟨cq, ct + (j - 1 : Int).toNat * 1, none⟩))], rfl, rfl, z2, by kernel_rfl, ?_⟩; intro H
    obtain ⟨l2, cv, cw⟩ := CH cp
    refine Gp (u := x4) sizeOf3 (Ac _) rfl aj rfl rfl (fun _ => .h) ah cv ak ?_; intro au av
    refine Aa ⟨undef, rfl, A3.refl _, [], by kernel_rfl, .inl (.inl rfl), nm, ?_⟩
    refine Ff ?_
    refine AD (id := 3) (Am (um ?_))
    obtain ⟨cx, cy⟩ := A1 cw
    refine uv (Fa rfl rfl cx) ?_
    refine ua (Aa ?_)
    exact le kr ⟨l2, j - 1, au, cy, rfl, rfl, z5, av⟩
   have cz := bf bk bw
   refine AT (Af (Af ?_))
   refine Ay (AD (id := 1) ?_)
   obtain rfl := AL cz
   exact mi kr ⟨aa, rfl, rfl, z4, ab⟩
  rintro e1 _ _ ⟨ai, rfl, rfl, aw, da⟩
  refine AB _ aw ?_
  refine Am (um ?_)
  refine uv (Bd rfl rfl (Dc.Eg bd az g5)) ?_
  refine ua (Aa ?_)
  exact le kr ⟨_, bh, ae, ai, dd, rfl, rfl, z4, da⟩
 obtain rfl := Dc.zero bd az
 rw [Cr] at r9
 refine AT (Af (Af ?_))
 refine Ay (QS (.inr rfl) results251 ?_)
 obtain rfl := AL r9
 exact ⟨_, rfl, rfl, db⟩
set_option maxHeartbeats 1000000 in
theorem O0 {x r : Int} (hr : Km x = some r) :
    Bl Tryz.prog 261 #[.int .u64 x] F (.int .i64 r) := by
 refine sp func261 ntmps261 fun K _ _ => ?_
 rw [Km] at hr
 refine AN (ua (Aa ?_))
 obtain ⟨x2, n, h1, r2⟩ := Es hr
 refine jE ([]) [(0, .int .u64 x2), (2, .int .i64 n)] ?_ ?_
 ·clear r2
  refine AN (um ?_)
  refine uv (HQ rfl rfl) (Aa ?_)
  refine cQ (fun c3 => ?_) fun c3 => ?_
  ·have r4 := Bf h1 c3
   refine AN (um ?_)
   refine uv (Ve rfl rfl (by decide)) ?_
   refine ua (Aa (Am (ua (Aa ?_))))
   obtain ⟨rfl, rfl⟩ := D2 r4
   exact mi kr ⟨rfl, rfl, z2⟩
  have r5 := Bg h1 c3
  refine Aq ?_
  obtain ⟨rfl, rfl⟩ := D2 r5
  exact mi kr ⟨rfl, rfl, z2⟩
 obtain ⟨x3, n2, h7, r8⟩ := Es r2
 refine jE ([]) [(0, .int .u64 x3), (2, .int .i64 n2)] ?_ ?_
 ·clear r8
  refine AN (um ?_)
  refine uv (HQ rfl rfl) (Aa ?_)
  refine cQ (fun c9 => ?_) fun c9 => ?_
  ·have af := Bf h7 c9
   refine AN (um ?_)
   refine uv (Ve rfl rfl (by decide)) ?_
   refine ua (Aa (Am (um ?_)))
   obtain ⟨ah, ai⟩ := A1 af
   refine uv (Bd rfl rfl ah) ?_
   refine ua (Aa ?_)
   obtain ⟨rfl, rfl⟩ := D2 ai
   exact mi kr ⟨rfl, rfl, z2⟩
  have aj := Bg h7 c9
  refine Aq ?_
  obtain ⟨rfl, rfl⟩ := D2 aj
  exact mi kr ⟨rfl, rfl, z2⟩
 obtain ⟨x4, n3, ad, ae⟩ := Es r8
 refine jE ([]) [(0, .int .u64 x4), (2, .int .i64 n3)] ?_ ?_
 ·clear ae
  refine AN (um ?_)
  refine uv (HQ rfl rfl) (Aa ?_)
  refine cQ (fun ab => ?_) fun ab => ?_
  ·have ak := Bf ad ab
   refine AN (um ?_)
   refine uv (Ve rfl rfl (by decide)) ?_
   refine ua (Aa (Am (um ?_)))
   obtain ⟨al, ao⟩ := A1 ak
   refine uv (Bd rfl rfl al) ?_
   refine ua (Aa ?_)
   obtain ⟨rfl, rfl⟩ := D2 ao
   exact mi kr ⟨rfl, rfl, z2⟩
  have aq := Bg ad ab
  refine Aq ?_
  obtain ⟨rfl, rfl⟩ := D2 aq
  exact mi kr ⟨rfl, rfl, z2⟩
 refine AN (um (um ?_))
 refine uv (Ux rfl underlying367 underlying5 rfl) ?_
 obtain ⟨x5, ar, aa, au⟩ := Bx ae
 refine uv (Uo underlying9 (congrArg (fun s => some (Value.string s)) TT) rfl ar.1 aa (Tx _ (List.mem_of_getElem? aa))) ?_
 obtain ⟨av, aw⟩ := A1 au
 refine uv (Uk underlying5 underlying3 rfl av) ?_
 obtain ⟨ax, ay⟩ := A1 aw
 refine uv (Bd rfl rfl ax) ?_
 refine ua (Aa (Ao ?_))
 refine BU results261 ?_
 obtain rfl := AL ay
 exact rfl
theorem Qj {x r : Int} (hr : LG x = some r) :
    Bl Tryz.prog 229 #[.int .u64 x] F (.int .i64 r) := by
 refine sp func229 ntmps229 fun K _ _ => ?_
 rw [LG] at hr
 refine AN (ua (Aa (As ?_)))
 refine A5 rfl (fun c1 => nomatch c1) (fun c1 => ?_)
 refine Aq (AN (um ?_))
 obtain ⟨n, h2, r3⟩ := AG hr
 refine cV call261 (O0 h2) ?_
 refine ua (Aa (Ao ?_))
 refine BU results229 ?_
 obtain rfl := AL r3
 exact rfl
theorem Kk {ab : (List Int) → Int → Int → Int → Option ((List Int))} (_ah : ∀ {B0 : Option Addr} {FB BY : Nat} {HP : LH} {s_ : List Int} {H6 : Nat} {a b aa : Int} {F : FS} (_ : Be H6 3 1 (iE .i64) F B0 FB BY s_ HP) {r : List Int} , ab s_ a b aa = some r → SH.Spec Tryz.prog 228 #[.slice B0 FB BY, .int .i64 a, .int .i64 b, .int .i64 aa] F (HP ++ []) fun F' L' v => ∃ (rL : LH), v = .tuple #[] ∧ L' = rL ++ [] ∧ Be H6 3 1 (iE .i64) F' B0 FB BY r rL) {s_ : List Int} {aa : Int} (ae : Be H6 3 1 (iE .i64) F B0 FB BY s_ HP) {r : List Int} (hr : FT ab s_ a b aa = some r) :
    SH.Spec Tryz.prog 228 #[.slice B0 FB BY, .int .i64 a, .int .i64 b, .int .i64 aa] F (HP ++ []) fun F' L' v => ∃ (rL : LH), v = .tuple #[] ∧ L' = rL ++ [] ∧ Be H6 3 1 (iE .i64) F' B0 FB BY r rL := by
 refine sp func228 ntmps228 fun K _ _ => ?_
 rw [FT] at hr
 refine E7 (L' := HP ++ []) (by simp) ?_
 refine AN (ua (BX (ua (Aa ?_))))
 refine Ap ?_
 refine Bh (fun ad e1 F1 L1 => DU s_ a b ad = some r ∧ F = F1 ∧ L1 = (HP ++ []) ∧ e1.sub [(0, .slice B0 FB BY), (1, .int .i64 a), (2, .int .i64 b), (3, .int .i64 aa), (8, .bool true), (9, .bool true)]) FU (m0 kr ⟨hr, rfl, rfl, z6⟩) ?_
 rintro ad e1 _ _ ⟨r3, rfl, rfl, ai⟩
 refine AB _ ai ?_
 rcases ad with _ | ad
 ·rw [DU] at r3; cases r3
 rw [DU] at r3
 refine Ap ?_
 refine AN (um (um ?_))
 obtain ⟨g5, r6⟩ := A1 r3
 refine uv (Fa rfl rfl g5) ?_
 refine ua (Aa (As (AN (um ?_))))
 refine uv (My rfl rfl) (Aa ?_)
 obtain ⟨g8, r9⟩ := A1 r6
 refine Ja rfl (fun c7 => ?_) (fun c7 => absurd g8 c7)
 refine AN (um (um (um ?_)))
 obtain ⟨au, aj, ak⟩ := AG r9
 refine Jw (Lb := HP ++ []) (Lr := []) rfl call251 rfl rfl rfl (pT pR (lp (ln rfl))) (Jf ae aj) ?_; rintro _ av _ al ao aq ⟨ar, rfl, rfl, af⟩
 refine AI (lp (ln rfl)) ?_
 refine Aa (Ao (Ah (AA (Ah (AA ?_)))))
 refine QS (.inl rfl) results228 ?_
 obtain rfl := AL ak
 exact ⟨_, rfl, rfl, af⟩
theorem Ks : ∀ (fu : Nat) {B0 : Option Addr} {FB BY : Nat} {HP : LH} {s_ : List Int} {H6 : Nat} {a b aa : Int} {F : FS} (_ : Be H6 3 1 (iE .i64) F B0 FB BY s_ HP) {r : List Int} , DJ fu s_ a b aa = some r → SH.Spec Tryz.prog 228 #[.slice B0 FB BY, .int .i64 a, .int .i64 b, .int .i64 aa] F (HP ++ []) fun F' L' v => ∃ (rL : LH), v = .tuple #[] ∧ L' = rL ++ [] ∧ Be H6 3 1 (iE .i64) F' B0 FB BY r rL := by
  intro fu
  induction fu with
  | zero => intros; rename_i hr; rw [DJ] at hr; cases hr
  | succ fu ih => intros; rename_i hr; rw [DJ] at hr; exact Kk ih (by assumption) hr
theorem MS {s_ : List Int} (aa : Be H6 3 1 (iE .i64) F B0 FB BY s_ HP) {r : List Int} (hr : Iz s_ = some r) :
    SH.Spec Tryz.prog 185 #[.slice B0 FB BY] F (HP ++ []) fun F' L' v => ∃ (rL : LH), v = .tuple #[] ∧ L' = rL ++ [] ∧ Be H6 3 1 (iE .i64) F' B0 FB BY r rL := by
 refine sp func185 ntmps185 fun K _ _ => ?_
 rw [Iz] at hr
 refine E7 (L' := HP ++ []) (by simp) ?_
 refine AN (um ?_)
 refine uv ((A7 underlying33 rfl).i (Be.Kw aa)) ?_
 refine ua (Aa (Am (um (um (um ?_)))))
 refine uv (Ux rfl underlying3 underlying319 rfl) ?_
 obtain ⟨n, h1, r2⟩ := AG hr
 refine cV call229 (Qj h1) ?_
 obtain ⟨ad, h3, r4⟩ := AG r2
 refine Jw (Lb := HP ++ []) (Lr := []) rfl call228 rfl rfl rfl (pT pR (lp (ln rfl))) ((Ks FU) aa h3) ?_; rintro _ F5 _ ae af ah ⟨ai, rfl, rfl, ab⟩
 refine AI (lp (ln rfl)) (Aa (QS (.inr rfl) results185 ?_))
 obtain rfl := AL r4
 exact ⟨_, rfl, rfl, ab⟩
theorem NQ (aa : ∀ args w, (callFunc LW args).run Tryz.prog w = .ok (.enter LW args) w) (ad : Hs Tryz.prog LW Q2 RF F (fun x : Int => #[.int .i64 x]) seq) {r : List Int} (hr : Jq seq = some r) :
    SH.Spec Tryz.prog 124 #[.func (.func LW) Q2 RF] F [] fun F' L' v => ∃ (ra : Option Addr) (rn : Nat) (rc : Nat) (rL : LH), v = .slice ra rn rc ∧ L' = rL ++ [] ∧ Be 0 3 1 (iE .i64) F' ra rn rc r rL := by
 refine sp func124 ntmps124 fun K _ _ => ?_
 rw [Jq] at hr
 refine AN (ua (BX (um ?_)))
 obtain ⟨l, h1, r2⟩ := AG hr
 refine c0 call184 (Nv aa ad h1) ?_; rintro _ F3 _ ar af ⟨a7, au, c8, ah, rfl, rfl, ab⟩
 replace ab := ab.new fun p hp => af p (by simp [hp])
 refine AI (lp (ln rfl)) ?_
 refine ua (BX (um ?_))
 obtain ⟨s_, ai, aj⟩ := AG r2
 refine Jw (Lb := ah ++ []) (Lr := []) rfl call185 rfl rfl rfl (pT pR (lp (ln rfl))) (MS ab ai) ?_; rintro _ av _ ak al ao ⟨aq, rfl, rfl, ae⟩
 refine AI (lp (ln rfl)) ?_
 refine BX (um (ua (Aa (Ao ?_))))
 refine BU results124 ?_
 obtain rfl := AL aj
 exact ⟨_, _, _, _, rfl, rfl, ae.any⟩
set_option maxHeartbeats 1000000 in
theorem Ln {ah : Nat} {s_ : List Int} {ao : Nat × Nat} (ae : F ah = some (.cells #[.slice B0 s_.length BY] 33 ao)) (aa : Av 1 (iE .i64) F B0 BY s_) {xs : List Int} (hr : G3 s_ = some xs) :
    Hs Tryz.prog 186 #[] #[.pointer (some ⟨ah, 0, none⟩)] F (fun x : Int => #[.int .i64 x]) xs := by
 intro G0 bm yv J Jx cf br hy Fc L0 hG bu
 replace ae := (bm.trans hG) _ _ ae
 replace aa := aa.mono (Ac _) (bm.trans hG)
 have ai : xs = [] ++ xs := rfl
 show SH.Spec Tryz.prog 186 #[yv, .pointer (some ⟨ah, 0, none⟩)] Fc L0 _
 refine sp func186 ntmps186 fun K _ _ => ?_
 rw [G3] at hr; refine E7 (L' := L0 ++ []) (by simp) ?_
 refine AN (uv (An isAgg33 rfl (Has.frozen ae) rfl) (uv (A7 underlying33 rfl) ?_))
 refine um (Aa ?_)
 refine Ap ?_
 refine Bh (fun bn e1 F1 L1 => LA s_ bn fun tl k => ∃ (ad : List Int) (aj : List Int) (aq : LH), Dx tl = some aj ∧ A3 Fc F1 ∧ L1 = (aq ++ []) ∧ e1.sub [(0, yv), (5, .slice B0 s_.length BY), (6, .int .i64 (s_.length : Int)), (7, .int .i64 k)] ∧ xs = ad ++ aj ∧ J ad F1 aq ∧ A3 G0 F1) _ (m0 kr ⟨_, _, rfl, BL.start _, [], xs, L0, hr, A3.refl _, rfl, z4, ai, bu, hG⟩) ?_
 rintro bn e1 cg _ ⟨tl, k, bw, ay, ad, aj, aq, r8, ar, rfl, bx, ab, bo, hG⟩
 refine AB _ bx ?_
 replace aa := aa.mono (Ac _) ar
 refine AN (uv (Bb rfl rfl) ?_)
 refine Aa (As ?_)
 refine cQ (fun ax => ?_) fun ax => ?_
 ·obtain ⟨x, cj, rfl, az, bp, ba⟩ := BL.succ ay ax
  rw [Dx] at r8
  refine Aq (As ?_)
  refine Ap (AN ?_)
  obtain ⟨ck, cn, cp, bz, bb, bc, bq, rfl, ca, bd⟩ := Av.at (Ac _) aa (aq ++ []) bp.1 az
  refine uv (AK underlying33 sizeOf3 rfl bb rfl bp) (uv (An isAgg3 rfl bc (bd 0 (by decide))) ?_)
  refine ua (BX (um (um ?_)))
  obtain ⟨ak, cb, au⟩ := TA r8
  refine OW (Lb := aq) (Lr := []) (vs := [.int .i64 x]) rfl rfl rfl fP (hy ad x ak (by rw [ab, au]) _ _ hG bo) ?_
  rintro cq ct bg al bh; obtain ⟨cd, rfl, av, aw⟩ := K7 bh
  replace aa := aa.mono (Ac _) al
  replace hG := hG.trans al
  refine uv (BC rfl) (Aa ?_)
  refine A5 rfl (fun bj => ?_) (fun bj => ?_)
  ·have bk := aw (by simpa using bj)
   refine Ao (AA (Ah (Ah (AA ?_))))
   refine Ju (.inl rfl) results186 (sr) ?_
   exact .inr (by rw [List.append_nil]; exact bk)
  have bl := av (by simpa using bj)
  have af : xs = (ad ++ [x]) ++ ak := by rw [ab, au]; simp
  refine Aq (AD (id := 1) (Am ?_))
  refine uv (Bd rfl rfl (BL.Eg ay ax (Av.lt aa))) ?_
  refine um (Aa ?_)
  subst bw; exact le kr ⟨_, _, rfl, ba, ad ++ [x], ak, bg, cb, (ar.trans al), rfl, z4, af, bl, hG⟩
 obtain rfl := BL.zero ay ax
 rw [Dx] at r8
 refine AT (Af (Af ?_))
 refine Ay (Ju (.inr rfl) results186 (sr) ?_)
 obtain rfl := AL r8
 exact .inl (by have e1 := ab; rw [List.append_nil] at e1; rw [List.append_nil, e1]; exact bo)
theorem LV {s_ : List Int} (aa : Av 1 (iE .i64) F B0 BY s_) {r : List Int} (hr : HN s_ = some r) :
    SH.Spec Tryz.prog 125 #[.slice B0 s_.length BY] F [] fun F' L' v => ∃ (ad : Array Value), v = .func (.func 186) #[] ad ∧ L' = [] ∧ Hs Tryz.prog 186 #[] ad F' (fun x : Int => #[.int .i64 x]) r := by
 refine sp func125 ntmps125 fun K _ _ => ?_
 rw [HN] at hr
 refine AN ?_
 refine Bt rfl rfl ?_; intro b1 ae
 refine ua (BX ?_)
 refine uv (BP rfl rfl) ?_
 refine ua (Aa ?_)
 refine Cs 0 rfl ae ?_; intro F2 af ah
 refine E7 (L' := []) rfl ?_
 replace aa := aa.mono (Ac _) af
 obtain ⟨l, h5, r7⟩ := AG hr
 have ab : Hs Tryz.prog 186 #[] #[.pointer (some ⟨b1, 0, none⟩)] F2 (fun x : Int => #[.int .i64 x]) l := Ln ah aa h5
 refine Ao (BU results125 ?_)
 obtain rfl := AL r7
 exact ⟨_, rfl, rfl, ab⟩
set_option maxHeartbeats 1000000 in
theorem Q1 {Al : List (List Int)} {Ab : List ((List Int) × Int × Int)} (ae : Av 1 (BK 1 (iE .i64)) F AU AV walks) (ad : Av 1 (BK 1 (iE .i64)) F Aw Ax Al) (ab : Av 3 (Br (BK 1 (iE .i64)) (Br (iE .i64) (iE .i64))) F Aj Ai Ab) {r : Option ((List (List Int)) × (List (List Int)) × Int × Int × (List ((List Int) × Int × Int)) × (List Int) × (List (Int × Int)) × (List Int))} {r2 : Int} (hr : Mu walks Al Ad start Ab = some (r, r2)) :
    SH.Spec Tryz.prog 49 #[.agg #[.slice AU walks.length AV, .slice Aw Al.length Ax, .int .i64 Ad, .int .i64 start, .slice Aj Ab.length Ai]] F [] fun F' L' v => ∃ (rv : Value), v = .tuple #[rv, .int .i64 r2] ∧ L' = [] ∧ PU 156 (Br (BK 1 (BK 1 (iE .i64))) (Br (BK 1 (BK 1 (iE .i64))) (Br (iE .i64) (Br (iE .i64) (Br (BK 3 (Br (BK 1 (iE .i64)) (Br (iE .i64) (iE .i64)))) (Br (IZ 25 (cI .i64)) (Br (BK 2 (Br (iE .i64) (iE .i64))) (IZ 15 (cI .i64))))))))) F' rv r := by
 refine sp func49 ntmps49 fun K _ _ => ?_
 rw [Mu] at hr
 refine AN ?_
 refine Bt rfl rfl ?_; intro b1 rj
 refine ua (ua (Aa (As (AN ?_))))
 refine uv (AS (cs := #[.slice AU walks.length AV, .slice Aw Al.length Ax, .int .i64 Ad, .int .i64 start, .slice Aj Ab.length Ai]) isAgg39 sizeOf39 rfl (Has.own 0 rfl) (CK rfl) rfl) ?_
 obtain ⟨n, h2, r3⟩ := AG hr
 refine cV call122 (RI ae ad ab h2) ?_
 refine ua (BX (um ?_))
 refine uv (B7 rfl rfl) (Aa ?_)
 refine cQ (fun c4 => ?_) fun c4 => ?_
 ·have r5 := Bf r3 c4
  refine AN (um (ua (ua (Aa ?_))))
  refine kW kn ?_
  refine Ao (Ah ?_)
  refine CT results49 (A6 rfl) (A6 rfl) (sr) ?_
  obtain ⟨rfl, rfl⟩ := D2 r5
  exact ⟨_, rfl, rfl, rfl⟩
 have r6 := Bg r3 c4
 refine Aq (AN ?_)
 refine uv (AS (cs := #[.slice AU walks.length AV, .slice Aw Al.length Ax, .int .i64 Ad, .int .i64 start, .slice Aj Ab.length Ai]) isAgg39 sizeOf39 rfl (Has.own 0 rfl) (CK rfl) rfl) ?_
 refine uv (BH (v := .agg ((([.slice AU walks.length AV] : List Value) ++ (([.slice Aw Al.length Ax] : List Value) ++ (([.int .i64 Ad] : List Value) ++ (([.int .i64 start] : List Value) ++ (([.slice Aj Ab.length Ai] : List Value) ++ ((List.replicate 25 0).flatMap (cI .i64) ++ (([.slice none 0 0] : List Value) ++ ((List.replicate 15 0).flatMap (cI .i64))))))))).toArray)) rfl (by intro w; kernel_rfl)) ?_
 refine Bt rfl rfl ?_; intro b7 p6
 refine ua (Aa ?_)
 obtain ⟨aj, h9, nq⟩ := AG r6
 refine A0 (fun e1 F1 L1 => F = F1 ∧ L1 = [(b7, ce ((([.slice AU walks.length AV] : List Value) ++ (([.slice Aw Al.length Ax] : List Value) ++ (([.int .i64 Ad] : List Value) ++ (([.int .i64 start] : List Value) ++ (([.slice Aj Ab.length Ai] : List Value) ++ (aj.flatMap (cI .i64) ++ (([.slice none 0 0] : List Value) ++ ((List.replicate 15 0).flatMap (cI .i64))))))))).toArray) 156), (b1, ce #[.slice AU walks.length AV, .slice Aw Al.length Ax, .int .i64 Ad, .int .i64 start, .slice Aj Ab.length Ai] 39)] ∧ e1.sub [(1, .pointer (some ⟨b1, 0, none⟩)), (5, .pointer (some ⟨b7, 0, none⟩))] ∧ aj.length = 25) ?_ ?_
 ·clear nq
  refine AN (um (Aa ?_))
  refine Ap ?_
  obtain ⟨p7, p8⟩ := A1 h9
  refine Bh (fun jf e1 F1 L1 => ∃ (k : Int), Dc 0 5 k jf ∧ ∃ (ak : List Int), HI walks jf k ak = some aj ∧ F = F1 ∧ L1 = [(b7, ce ((([.slice AU walks.length AV] : List Value) ++ (([.slice Aw Al.length Ax] : List Value) ++ (([.int .i64 Ad] : List Value) ++ (([.int .i64 start] : List Value) ++ (([.slice Aj Ab.length Ai] : List Value) ++ (ak.flatMap (cI .i64) ++ (([.slice none 0 0] : List Value) ++ ((List.replicate 15 0).flatMap (cI .i64))))))))).toArray) 156), (b1, ce #[.slice AU walks.length AV, .slice Aw Al.length Ax, .int .i64 Ad, .int .i64 start, .slice Aj Ab.length Ai] 39)] ∧ e1.sub [(1, .pointer (some ⟨b1, 0, none⟩)), (5, .pointer (some ⟨b7, 0, none⟩)), (23, .int .i64 k)] ∧ ak.length = 25) _ (m0 kr ⟨_, Dc.start _ _, List.replicate 25 0, p8, rfl, rfl, z3, List.length_replicate⟩) ?_
  rintro jf e1 _ _ ⟨k, ei, ak, jg, rfl, rfl, jn, nr⟩
  refine AB _ jn (AN (uv (Bb rfl rfl) ?_))
  refine Aa (As ?_)
  refine cQ (fun jh => ?_) fun jh => ?_
  ·obtain ⟨jf, rfl, jo⟩ := Dc.succ ei jh
   rw [HI] at jg
   refine Aq ?_
   obtain ⟨aq, p9, ns⟩ := AG jg
   refine A0 (fun e1 F1 L1 => F = F1 ∧ L1 = [(b7, ce ((([.slice AU walks.length AV] : List Value) ++ (([.slice Aw Al.length Ax] : List Value) ++ (([.int .i64 Ad] : List Value) ++ (([.int .i64 start] : List Value) ++ (([.slice Aj Ab.length Ai] : List Value) ++ (aq.flatMap (cI .i64) ++ (([.slice none 0 0] : List Value) ++ ((List.replicate 15 0).flatMap (cI .i64))))))))).toArray) 156), (b1, ce #[.slice AU walks.length AV, .slice Aw Al.length Ax, .int .i64 Ad, .int .i64 start, .slice Aj Ab.length Ai] 39)] ∧ e1.sub [(1, .pointer (some ⟨b1, 0, none⟩)), (5, .pointer (some ⟨b7, 0, none⟩)), (23, .int .i64 k)] ∧ aq.length = 25) ?_ ?_
   ·clear ns
    refine Ap ?_
    refine AN (um (ua (BX (um (Aa ?_)))))
    refine Ap ?_
    obtain ⟨nt, pa⟩ := A1 p9
    refine Bh (fun ji e1 F1 L1 => ∃ (k2 : Int), Dc 0 5 k2 ji ∧ ∃ (ar : List Int), Gd walks k ji k2 ar = some aq ∧ F = F1 ∧ L1 = [(b7, ce ((([.slice AU walks.length AV] : List Value) ++ (([.slice Aw Al.length Ax] : List Value) ++ (([.int .i64 Ad] : List Value) ++ (([.int .i64 start] : List Value) ++ (([.slice Aj Ab.length Ai] : List Value) ++ (ar.flatMap (cI .i64) ++ (([.slice none 0 0] : List Value) ++ ((List.replicate 15 0).flatMap (cI .i64))))))))).toArray) 156), (b1, ce #[.slice AU walks.length AV, .slice Aw Al.length Ax, .int .i64 Ad, .int .i64 start, .slice Aj Ab.length Ai] 39)] ∧ e1.sub [(1, .pointer (some ⟨b1, 0, none⟩)), (5, .pointer (some ⟨b7, 0, none⟩)), (6, .int .i64 k), (23, .int .i64 k), (26, .int .i64 k2)] ∧ ar.length = 25) _ (m0 kr ⟨_, Dc.start _ _, ak, pa, rfl, rfl, z5, nr⟩) ?_
    rintro ji e1 _ _ ⟨k2, da, ar, jj, rfl, rfl, jq, jk⟩
    refine AB _ jq (AN (uv (Bb rfl rfl) ?_))
    refine Aa (As ?_)
    refine cQ (fun fa => ?_) fun fa => ?_
    ·obtain ⟨ji, rfl, fb⟩ := Dc.succ da fa
     rw [Gd] at jj
     refine Aq (As ?_)
     refine Ap ?_
     refine AN (um (ua (BX (um (um (um ?_))))))
     refine uv (A2 rfl) (uv (Ae Mh rfl) ?_)
     obtain ⟨nu, pb⟩ := A1 jj
     refine uv (Bj underlying152 sizeOf150 rfl rfl nu) ?_
     obtain ⟨nv, pc⟩ := A1 pb
     obtain ⟨x, pd, pe, pf⟩ := Bx pc
     have jr : (k * 5 + k2 : Int).toNat = (k : Int).toNat * 5 + (k2 : Int).toNat := by have := nu; have := nv; omega
     refine uv (Bj underlying150 sizeOf3 rfl rfl nv) ?_
     obtain ⟨ws, nw, pg⟩ := CH pf
     have jl : ws.length = 25 := by rw [nw, List.length_set]; exact jk
     refine H4 (i := 0) sizeOf3 rfl (by have := jr; omega) rfl rfl rfl (BV (A := ([.slice AU walks.length AV] : List Value)) (k := 1) rfl (BV (A := ([.slice Aw Al.length Ax] : List Value)) (k := 1) rfl (BV (A := ([.int .i64 Ad] : List Value)) (k := 1) rfl (BV (A := ([.int .i64 start] : List Value)) (k := 1) rfl (BV (A := ([.slice Aj Ab.length Ai] : List Value)) (k := 1) rfl (NC (B := ([.slice none 0 0] : List Value) ++ ((List.replicate 15 0).flatMap (cI .i64))) (Px (p := (k * 5 + k2 : Int).toNat) (A4 .i64) (u := -1) rfl jk (by have := pd; have := jk; omega) F))))))) ?_
     refine AI (L' := [(b7, ce ((([.slice AU walks.length AV] : List Value) ++ (([.slice Aw Al.length Ax] : List Value) ++ (([.int .i64 Ad] : List Value) ++ (([.int .i64 start] : List Value) ++ (([.slice Aj Ab.length Ai] : List Value) ++ (ws.flatMap (cI .i64) ++ (([.slice none 0 0] : List Value) ++ ((List.replicate 15 0).flatMap (cI .i64))))))))).toArray) 156), (b1, ce #[.slice AU walks.length AV, .slice Aw Al.length Ax, .int .i64 Ad, .int .i64 start, .slice Aj Ab.length Ai] 39)]) (by rw [nw]; rfl) ?_
     refine Aa ?_
     obtain ⟨k3, ny, js⟩ := AG pg
     refine jE ([(b7, ce ((([.slice AU walks.length AV] : List Value) ++ (([.slice Aw Al.length Ax] : List Value) ++ (([.int .i64 Ad] : List Value) ++ (([.int .i64 start] : List Value) ++ (([.slice Aj Ab.length Ai] : List Value) ++ (ws.flatMap (cI .i64) ++ (([.slice none 0 0] : List Value) ++ ((List.replicate 15 0).flatMap (cI .i64))))))))).toArray) 156), (b1, ce #[.slice AU walks.length AV, .slice Aw Al.length Ax, .int .i64 Ad, .int .i64 start, .slice Aj Ab.length Ai] 39)]) [(1, .pointer (some ⟨b1, 0, none⟩)), (5, .pointer (some ⟨b7, 0, none⟩)), (6, .int .i64 k), (7, .int .i64 k2), (23, .int .i64 k), (26, .int .i64 k2), (47, .bool k3)] ?_ ?_
     ·clear js
      refine Am (um ?_)
      refine uv (Ae ND rfl) (uv (An isAgg36 rfl (Has.own 1 rfl) rfl) (uv (A7 underlying36 rfl) (uv (Bb rfl rfl) (um ?_))))
      by_cases bu : k < (walks.length : Int)
      ·have ph := Bf ny bu
       refine nT bu (um (nT bu ?_))
       refine uv (Ae ND rfl) (nT bu (uv (An isAgg36 rfl (Has.own 1 rfl) rfl) (nT bu (uv (A7 underlying36 rfl) (nT bu (uv (Bb rfl rfl) (uv (AW (Bn rfl bu) rfl) ?_)))))))
       refine Aa ?_
       obtain rfl := AL ph
       exact mi kr ⟨rfl, rfl, z7⟩
      have pj := Bg ny bu
      refine fF bu (fF bu (fF bu (fF bu (fF bu ?_))))
      refine uv (AH (A8 rfl bu) rfl) (Aa ?_)
      obtain rfl := AL pj
      exact mi kr ⟨rfl, rfl, z7⟩
     refine A5 rfl (fun jt => ?_) (fun jt => ?_)
     ·have pk := bt js jt
      refine Dp [(.still, 0), (.still, 1), (.still, 2), (.still, 3), (.still, 4), (.still, 5), (.still, 6), (.still, 7), (.still, 8), (.still, 9), (.still, 10), (.still, 11), (.still, 12), (.still, 13), (.still, 14), (.seq, 15)] (by kernel_rfl) (by kernel_rfl) (trivial) (by rfl) (by kernel_rfl) (mS [5] rfl (Bw rfl) (mS [6] rfl (Bw rfl) (mS [7] rfl (Bw rfl) (mS [1] rfl (Ae ND rfl) (mL [51] ([(b1, ce #[.slice AU walks.length AV, .slice Aw Al.length Ax, .int .i64 Ad, .int .i64 start, .slice Aj Ab.length Ai] 39)]) rfl (s0 (s1 (s2 sr))) (fun H F' L' db dd => An isAgg36 rfl ((Has.own 0 rfl).ext db dd) rfl) (mS [6] rfl (Bw rfl) ?_))))))
      obtain ⟨x2, nz, ju, pn⟩ := Bx pk
      obtain ⟨rk, rl, rm, po, jv, jw, o2, ⟨rp, rq, rfl, pq⟩, pr, jx⟩ := Av.at (Ar (Ac _)) ae ([]) nz.1 ju
      refine mS [52, 53] rfl (AK underlying36 sizeOf33 rfl jv rfl nz) (mL [54] ([]) rfl sm (fun H F' L' db dd => An isAgg33 rfl (jw.ext db dd) (jx 0 (by decide))) (mS [7] rfl (Bw rfl) ?_))
      obtain ⟨x3, o3, jz, pt⟩ := Bx pn
      obtain ⟨ru, ry, rz, pv, kb, kh, o4, rfl, pw, kj⟩ := Av.at (Ac _) pq ([]) o3.1 jz
      refine mS [55, 56] rfl (AK underlying33 sizeOf3 rfl kb rfl o3) (mL [57] ([]) rfl sm (fun H F' L' db dd => An isAgg3 rfl (kh.ext db dd) (kj 0 (by decide))) (mS [48] rfl (A2 rfl) (mS [59] rfl (Ae Mh rfl) ?_)))
      obtain ⟨o7, px⟩ := A1 pt
      refine mS [49, 60] rfl (Bj underlying152 sizeOf150 rfl rfl o7) ?_
      obtain ⟨o8, py⟩ := A1 px
      obtain ⟨x4, pz, q0, qb⟩ := Bx py
      have kl : (k * 5 + k2 : Int).toNat = (k : Int).toNat * 5 + (k2 : Int).toNat := by have := o7; have := o8; omega
      refine mS [50, 61] rfl (Bj underlying150 sizeOf3 rfl rfl o8) ?_
      refine ⟨_, [(58, .int .i64 x3), (62, .pointer (some ⟨b7, 5 + (k : Int).toNat * 5 + (k2 : Int).toNat * 1, none⟩))], rfl, rfl, z2, by kernel_rfl, ?_⟩; intro H
      obtain ⟨km, o9, qc⟩ := CH qb
      have qd : km.length = 25 := by rw [o9, List.length_set]; exact jl
      refine H4 (i := 0) sizeOf3 rfl (by have := kl; omega) rfl rfl rfl (BV (A := ([.slice AU walks.length AV] : List Value)) (k := 1) rfl (BV (A := ([.slice Aw Al.length Ax] : List Value)) (k := 1) rfl (BV (A := ([.int .i64 Ad] : List Value)) (k := 1) rfl (BV (A := ([.int .i64 start] : List Value)) (k := 1) rfl (BV (A := ([.slice Aj Ab.length Ai] : List Value)) (k := 1) rfl (NC (B := ([.slice none 0 0] : List Value) ++ ((List.replicate 15 0).flatMap (cI .i64))) (Px (p := (k * 5 + k2 : Int).toNat) (A4 .i64) (u := x3) rfl jl (by have := pz; have := jl; omega) F))))))) ?_
      refine AI (L' := [(b7, ce ((([.slice AU walks.length AV] : List Value) ++ (([.slice Aw Al.length Ax] : List Value) ++ (([.int .i64 Ad] : List Value) ++ (([.int .i64 start] : List Value) ++ (([.slice Aj Ab.length Ai] : List Value) ++ (km.flatMap (cI .i64) ++ (([.slice none 0 0] : List Value) ++ ((List.replicate 15 0).flatMap (cI .i64))))))))).toArray) 156), (b1, ce #[.slice AU walks.length AV, .slice Aw Al.length Ax, .int .i64 Ad, .int .i64 start, .slice Aj Ab.length Ai] 39)]) (by rw [o9]; rfl) ?_
      refine Aa ⟨undef, rfl, A3.refl _, [], by kernel_rfl, .inl (.inl rfl), nm, ?_⟩
      refine Ff ?_
      refine AD (id := 3) (Am ?_)
      refine uv (Bd rfl rfl (Dc.Eg da fa nt)) ?_
      refine um (Aa ?_)
      exact le kr ⟨_, fb, km, qc, rfl, rfl, z5, qd⟩
     have qe := bf js jt
     refine Aq (AD (id := 3) (Am ?_))
     refine uv (Bd rfl rfl (Dc.Eg da fa nt)) ?_
     refine um (Aa ?_)
     exact le kr ⟨_, fb, ws, qe, rfl, rfl, z5, jl⟩
    obtain rfl := Dc.zero da fa
    rw [Gd] at jj
    refine AT (Af (Af ?_))
    refine Ay (AD (id := 1) ?_)
    obtain rfl := AL jj
    exact mi kr ⟨rfl, rfl, z3, jk⟩
   rintro e1 _ _ ⟨rfl, rfl, ko, qf⟩
   refine AB _ ko (Am (uv (Bd rfl rfl (Dc.Eg ei jh p7)) ?_))
   refine um (Aa ?_)
   exact le kr ⟨_, jo, aq, ns, rfl, rfl, z3, qf⟩
  obtain rfl := Dc.zero ei jh
  rw [HI] at jg
  refine AT (Af (Af ?_))
  refine Ay ?_
  obtain rfl := AL jg
  exact mi kr ⟨rfl, rfl, z2, nr⟩
 rintro e1 _ _ ⟨rfl, rfl, kt, h8⟩
 refine AB _ kt ?_
 obtain ⟨aa, qg, oc⟩ := AG nq
 refine A0 (fun e1 F1 L1 => A3 F F1 ∧ L1 = [(b7, ce ((([.slice AU walks.length AV] : List Value) ++ (([.slice Aw Al.length Ax] : List Value) ++ (([.int .i64 Ad] : List Value) ++ (([.int .i64 start] : List Value) ++ (([.slice Aj Ab.length Ai] : List Value) ++ (aa.flatMap (cI .i64) ++ (([.slice none 0 0] : List Value) ++ ((List.replicate 15 0).flatMap (cI .i64))))))))).toArray) 156), (b1, ce #[.slice AU walks.length AV, .slice Aw Al.length Ax, .int .i64 Ad, .int .i64 start, .slice Aj Ab.length Ai] 39)] ∧ e1.sub [(1, .pointer (some ⟨b1, 0, none⟩)), (5, .pointer (some ⟨b7, 0, none⟩))] ∧ aa.length = 25) ?_ ?_
 ·clear oc
  refine AN (um ?_)
  refine uv (A2 rfl) (uv (Ae Mh rfl) (uv (AS (cs := arr (cI .i64) aj) isAgg152 sizeOf152 rfl (Has.own 0 rfl) (Eb (At (A := ([.slice AU walks.length AV] : List Value)) (k := 1) (o := 4) rfl (At (A := ([.slice Aw Al.length Ax] : List Value)) (k := 1) (o := 3) rfl (At (A := ([.int .i64 Ad] : List Value)) (k := 1) (o := 2) rfl (At (A := ([.int .i64 start] : List Value)) (k := 1) (o := 1) rfl (At (A := ([.slice Aj Ab.length Ai] : List Value)) (k := 1) (o := 0) rfl (Bm (DM (A4 .i64) h8)))))))) (G9 (DM (A4 .i64) h8) (At (A := ([.slice AU walks.length AV] : List Value)) (k := 1) (o := 4) rfl (At (A := ([.slice Aw Al.length Ax] : List Value)) (k := 1) (o := 3) rfl (At (A := ([.int .i64 Ad] : List Value)) (k := 1) (o := 2) rfl (At (A := ([.int .i64 start] : List Value)) (k := 1) (o := 1) rfl (At (A := ([.slice Aj Ab.length Ai] : List Value)) (k := 1) (o := 0) rfl (Bm (DM (A4 .i64) h8))))))))) ?_))
  obtain ⟨a, qh, ku⟩ := AG qg
  refine c0 call123 (JK h8 qh) ?_; rintro _ kv _ fe od ⟨rfl, rfl, ff⟩
  refine AI (ln rfl) ?_
  refine Bo rfl zeroValue152 ?_; intro ej fg
  refine AI (L' := [(ej, ce (arr (cI .i64) (List.replicate 25 0)) 152), (b7, ce ((([.slice AU walks.length AV] : List Value) ++ (([.slice Aw Al.length Ax] : List Value) ++ (([.int .i64 Ad] : List Value) ++ (([.int .i64 start] : List Value) ++ (([.slice Aj Ab.length Ai] : List Value) ++ (aj.flatMap (cI .i64) ++ (([.slice none 0 0] : List Value) ++ ((List.replicate 15 0).flatMap (cI .i64))))))))).toArray) 156), (b1, ce #[.slice AU walks.length AV, .slice Aw Al.length Ax, .int .i64 Ad, .int .i64 start, .slice Aj Ab.length Ai] 39)]) rfl (Ef (i := 0) sizeOf152 rfl rfl rfl (Ci (A4 .i64) List.length_replicate) (Ci (A4 .i64) ff) (Hc (A4 .i64)) (AI (L' := [(ej, ce (arr (cI .i64) a) 152), (b7, ce ((([.slice AU walks.length AV] : List Value) ++ (([.slice Aw Al.length Ax] : List Value) ++ (([.int .i64 Ad] : List Value) ++ (([.int .i64 start] : List Value) ++ (([.slice Aj Ab.length Ai] : List Value) ++ (aj.flatMap (cI .i64) ++ (([.slice none 0 0] : List Value) ++ ((List.replicate 15 0).flatMap (cI .i64))))))))).toArray) 156), (b1, ce #[.slice AU walks.length AV, .slice Aw Al.length Ax, .int .i64 Ad, .int .i64 start, .slice Aj Ab.length Ai] 39)]) rfl (Aa (Ap ?_))))
  refine Bh (fun jm e1 F1 L1 => ∃ (ai : List Int) (ah : List Int) (bl : Nat), HC jm ai ah = some aa ∧ A3 kv F1 ∧ L1 = [(bl, ce (arr (cI .i64) ah) 152), (b7, ce ((([.slice AU walks.length AV] : List Value) ++ (([.slice Aw Al.length Ax] : List Value) ++ (([.int .i64 Ad] : List Value) ++ (([.int .i64 start] : List Value) ++ (([.slice Aj Ab.length Ai] : List Value) ++ (ai.flatMap (cI .i64) ++ (([.slice none 0 0] : List Value) ++ ((List.replicate 15 0).flatMap (cI .i64))))))))).toArray) 156), (b1, ce #[.slice AU walks.length AV, .slice Aw Al.length Ax, .int .i64 Ad, .int .i64 start, .slice Aj Ab.length Ai] 39)] ∧ e1.sub [(1, .pointer (some ⟨b1, 0, none⟩)), (5, .pointer (some ⟨b7, 0, none⟩)), (8, .pointer (some ⟨bl, 0, none⟩))] ∧ ai.length = 25 ∧ K.w0.heap.size ≤ bl ∧ ah.length = 25) FU (m0 kr ⟨aj, a, ej, ku, A3.refl _, rfl, z3, h8, fg, ff⟩) ?_
  rintro jm e1 qi _ ⟨ai, ah, bl, de, dy, rfl, fh, cf, oe, bg⟩
  refine AB _ fh ?_
  rcases jm with _ | jm
  ·rw [HC] at de; cases de
  rw [HC] at de
  refine As (dW (wv (Gq isAgg152 sizeOf152 rfl (Has.own 0 rfl) (Ci (A4 .i64) bg)) (wm (wv (A2 rfl) (wv (Ae Mh rfl) (wv (AS (cs := arr (cI .i64) ai) isAgg152 sizeOf152 rfl (Has.own 1 rfl) (Eb (At (A := ([.slice AU walks.length AV] : List Value)) (k := 1) (o := 4) rfl (At (A := ([.slice Aw Al.length Ax] : List Value)) (k := 1) (o := 3) rfl (At (A := ([.int .i64 Ad] : List Value)) (k := 1) (o := 2) rfl (At (A := ([.int .i64 start] : List Value)) (k := 1) (o := 1) rfl (At (A := ([.slice Aj Ab.length Ai] : List Value)) (k := 1) (o := 0) rfl (Bm (DM (A4 .i64) cf)))))))) (G9 (DM (A4 .i64) cf) (At (A := ([.slice AU walks.length AV] : List Value)) (k := 1) (o := 4) rfl (At (A := ([.slice Aw Al.length Ax] : List Value)) (k := 1) (o := 3) rfl (At (A := ([.int .i64 Ad] : List Value)) (k := 1) (o := 2) rfl (At (A := ([.int .i64 start] : List Value)) (k := 1) (o := 1) rfl (At (A := ([.slice Aj Ab.length Ai] : List Value)) (k := 1) (o := 0) rfl (Bm (DM (A4 .i64) cf))))))))) ?_))))))
  obtain ⟨kz, l0⟩ := A1 de
  obtain ⟨ld, fi⟩ := A1 l0
  refine wv (YS (V4 _ _ _ _) (fun w => WB (Xc ah ai ⟨bg, kz⟩ ⟨cf, ld⟩ w)) rfl rfl) (CQ ?_)
  refine cQ (fun en => ?_) fun en => ?_
  ·have lg := Bf fi en
   refine Aq (As ?_)
   refine Ap ?_
   refine Am (um ?_)
   refine uv (Gq isAgg152 sizeOf152 rfl (Has.own 0 rfl) (Ci (A4 .i64) bg)) (uv (A2 rfl) (uv (Ae Mh rfl) (Tc (i := 1) sizeOf152 rfl rfl (lz (DM (A4 .i64) bg)) (J7 (A4 .i64) _) rfl (Pc (A := ([.slice AU walks.length AV] : List Value)) (k := 1) (o := 4) rfl (Pc (A := ([.slice Aw Al.length Ax] : List Value)) (k := 1) (o := 3) rfl (Pc (A := ([.int .i64 Ad] : List Value)) (k := 1) (o := 2) rfl (Pc (A := ([.int .i64 start] : List Value)) (k := 1) (o := 1) rfl (Pc (A := ([.slice Aj Ab.length Ai] : List Value)) (k := 1) (o := 0) rfl (Xu (B := ([.slice none 0 0] : List Value) ++ ((List.replicate 15 0).flatMap (cI .i64))) (DM (A4 .i64) cf))))))) (AI (L' := [(bl, ce (arr (cI .i64) ah) 152), (b7, ce ((([.slice AU walks.length AV] : List Value) ++ (([.slice Aw Al.length Ax] : List Value) ++ (([.int .i64 Ad] : List Value) ++ (([.int .i64 start] : List Value) ++ (([.slice Aj Ab.length Ai] : List Value) ++ (ah.flatMap (cI .i64) ++ (([.slice none 0 0] : List Value) ++ ((List.replicate 15 0).flatMap (cI .i64))))))))).toArray) 156), (b1, ce #[.slice AU walks.length AV, .slice Aw Al.length Ax, .int .i64 Ad, .int .i64 start, .slice Aj Ab.length Ai] 39)]) rfl ?_))))
   refine Aa (AD (id := 5) (As (AN ?_)))
   refine uv (Gq isAgg152 sizeOf152 rfl (Has.own 0 rfl) (Ci (A4 .i64) bg)) ?_
   refine Aa (Am ?_)
   refine Bo rfl zeroValue152 ?_; intro df fj
   refine AI (L' := [(df, ce (arr (cI .i64) (List.replicate 25 0)) 152), (bl, ce (arr (cI .i64) ah) 152), (b7, ce ((([.slice AU walks.length AV] : List Value) ++ (([.slice Aw Al.length Ax] : List Value) ++ (([.int .i64 Ad] : List Value) ++ (([.int .i64 start] : List Value) ++ (([.slice Aj Ab.length Ai] : List Value) ++ (ah.flatMap (cI .i64) ++ (([.slice none 0 0] : List Value) ++ ((List.replicate 15 0).flatMap (cI .i64))))))))).toArray) 156), (b1, ce #[.slice AU walks.length AV, .slice Aw Al.length Ax, .int .i64 Ad, .int .i64 start, .slice Aj Ab.length Ai] 39)]) rfl (Ef (i := 0) sizeOf152 rfl rfl rfl (Ci (A4 .i64) List.length_replicate) (Ci (A4 .i64) bg) (Hc (A4 .i64)) (AI (L' := [(df, ce (arr (cI .i64) ah) 152), (bl, ce (arr (cI .i64) ah) 152), (b7, ce ((([.slice AU walks.length AV] : List Value) ++ (([.slice Aw Al.length Ax] : List Value) ++ (([.int .i64 Ad] : List Value) ++ (([.int .i64 start] : List Value) ++ (([.slice Aj Ab.length Ai] : List Value) ++ (ah.flatMap (cI .i64) ++ (([.slice none 0 0] : List Value) ++ ((List.replicate 15 0).flatMap (cI .i64))))))))).toArray) 156), (b1, ce #[.slice AU walks.length AV, .slice Aw Al.length Ax, .int .i64 Ad, .int .i64 start, .slice Aj Ab.length Ai] 39)]) rfl ?_))
   refine Aa (Am ?_)
   refine uv (Gq isAgg152 sizeOf152 rfl (Has.own 0 rfl) (Ci (A4 .i64) bg)) ?_
   obtain ⟨a2, lh, lj⟩ := AG lg
   refine c0 call123 (JK bg lh) ?_; rintro _ qj _ fk og ⟨rfl, rfl, fl⟩
   refine AI (ln rfl) (Ef (i := 0) sizeOf152 rfl rfl rfl (Ci (A4 .i64) bg) (Ci (A4 .i64) fl) (Hc (A4 .i64)) (AI (L' := [(df, ce (arr (cI .i64) a2) 152), (bl, ce (arr (cI .i64) ah) 152), (b7, ce ((([.slice AU walks.length AV] : List Value) ++ (([.slice Aw Al.length Ax] : List Value) ++ (([.int .i64 Ad] : List Value) ++ (([.int .i64 start] : List Value) ++ (([.slice Aj Ab.length Ai] : List Value) ++ (ah.flatMap (cI .i64) ++ (([.slice none 0 0] : List Value) ++ ((List.replicate 15 0).flatMap (cI .i64))))))))).toArray) 156), (b1, ce #[.slice AU walks.length AV, .slice Aw Al.length Ax, .int .i64 Ad, .int .i64 start, .slice Aj Ab.length Ai] 39)]) rfl (Aa ?_)))
   exact le (kc (kd kr)) ⟨ah, a2, df, lj, (dy.trans fk), rfl, z3, bg, fj, fl⟩
  have lk := Bg fi en
  refine AT (Af (Af ?_))
  refine Ay ?_
  obtain rfl := AL lk
  exact mi (kd kr) ⟨(fe.trans dy), rfl, z2, cf⟩
 rintro e1 fm _ ⟨cg, rfl, fo, eo⟩
 refine AB _ fo ?_
 replace ae := ae.mono (Ar (Ac _)) cg
 replace ad := ad.mono (Ar (Ac _)) cg
 replace ab := ab.mono (Au (Ar (Ac _)) (Au (Ac _) (Ac _))) cg
 obtain ⟨bw, cj, ll, fp⟩ := Es oc
 refine A0 (fun e1 F1 L1 => ∃ (ep : Option Addr) (er : Nat) (eu : Nat) (ck : LH), A3 fm F1 ∧ L1 = ((b7, ce ((([.slice AU walks.length AV] : List Value) ++ (([.slice Aw Al.length Ax] : List Value) ++ (([.int .i64 Ad] : List Value) ++ (([.int .i64 start] : List Value) ++ (([.slice Aj Ab.length Ai] : List Value) ++ (aa.flatMap (cI .i64) ++ (([.slice ep er eu] : List Value) ++ (cj.flatMap (cI .i64))))))))).toArray) 156) :: (ck ++ [])) ∧ e1.sub [(5, .pointer (some ⟨b7, 0, none⟩))] ∧ Be K.w0.heap.size 58 2 (Br (iE .i64) (iE .i64)) F1 ep er eu bw ck ∧ cj.length = 15) ?_ ?_
 ·clear fp
  refine AN (uv (Ae Nz rfl) (uv (An isAgg37 rfl (Has.own 1 rfl) rfl) (uv (A7 underlying37 rfl) ?_)))
  refine um (Aa ?_)
  refine Ap ?_
  refine Bh (fun oh e1 F1 L1 => LA Ab oh fun tl k4 => ∃ (au : List (Int × Int)) (ao : List Int) (bo : Option Addr) (bp : Nat) (bq : Nat) (bb : LH), HH Al tl k4 au ao = some (bw, cj) ∧ A3 fm F1 ∧ L1 = ((b7, ce ((([.slice AU walks.length AV] : List Value) ++ (([.slice Aw Al.length Ax] : List Value) ++ (([.int .i64 Ad] : List Value) ++ (([.int .i64 start] : List Value) ++ (([.slice Aj Ab.length Ai] : List Value) ++ (aa.flatMap (cI .i64) ++ (([.slice bo bp bq] : List Value) ++ (ao.flatMap (cI .i64))))))))).toArray) 156) :: ((b1, ce #[.slice AU walks.length AV, .slice Aw Al.length Ax, .int .i64 Ad, .int .i64 start, .slice Aj Ab.length Ai] 39) :: (bb ++ []))) ∧ e1.sub [(1, .pointer (some ⟨b1, 0, none⟩)), (5, .pointer (some ⟨b7, 0, none⟩)), (84, .slice Aj Ab.length Ai), (85, .int .i64 (Ab.length : Int)), (86, .int .i64 k4)] ∧ Be K.w0.heap.size 58 2 (Br (iE .i64) (iE .i64)) F1 bo bp bq au bb ∧ ao.length = 15) _ (m0 (kc (kc (ke kr))) ⟨_, _, rfl, BL.start _, [], List.replicate 15 0, none, 0, 0, [], ll, A3.refl _, rfl, z5, Be.nil _ _ _ _ _, List.length_replicate⟩) ?_
  rintro oh e1 lq _ ⟨tl, k4, fq, cn, au, ao, bo, bp, bq, bb, dg, bx, rfl, ft, bh, fv⟩
  refine AB _ ft ?_
  replace ad := ad.mono (Ar (Ac _)) bx
  replace ab := ab.mono (Au (Ar (Ac _)) (Au (Ac _) (Ac _))) bx
  refine AN (uv (Bb rfl rfl) ?_)
  refine Aa (As ?_)
  refine cQ (fun dh => ?_) fun dh => ?_
  ·obtain ⟨x5, s5, rfl, fw, fx, fy⟩ := BL.succ cn dh
   rw [HH] at dg
   refine Aq ?_
   obtain ⟨bc, bk, lr, ga⟩ := Es dg
   refine A0 (fun e1 F1 L1 => ∃ (di : Option Addr) (dk : Nat) (dm : Nat) (bz : LH), A3 lq F1 ∧ L1 = ((b7, ce ((([.slice AU walks.length AV] : List Value) ++ (([.slice Aw Al.length Ax] : List Value) ++ (([.int .i64 Ad] : List Value) ++ (([.int .i64 start] : List Value) ++ (([.slice Aj Ab.length Ai] : List Value) ++ (aa.flatMap (cI .i64) ++ (([.slice di dk dm] : List Value) ++ (bk.flatMap (cI .i64))))))))).toArray) 156) :: ((b1, ce #[.slice AU walks.length AV, .slice Aw Al.length Ax, .int .i64 Ad, .int .i64 start, .slice Aj Ab.length Ai] 39) :: (bz ++ []))) ∧ e1.sub [(1, .pointer (some ⟨b1, 0, none⟩)), (5, .pointer (some ⟨b7, 0, none⟩)), (84, .slice Aj Ab.length Ai), (85, .int .i64 (Ab.length : Int)), (86, .int .i64 k4)] ∧ Be K.w0.heap.size 58 2 (Br (iE .i64) (iE .i64)) F1 di dk dm bc bz ∧ bk.length = 15) ?_ ?_
   ·clear ga
    refine Ap ?_
    refine AN (um ?_)
    obtain ⟨qk, ql, qn, oi, gb, gg, cp, ⟨_, _, rfl, ⟨gh, gk, rfl, lu⟩, ⟨_, _, rfl, rfl, rfl⟩⟩, gl, gm⟩ := Av.at (Au (Ar (Ac _)) (Au (Ac _) (Ac _))) ab ((b7, ce ((([.slice AU walks.length AV] : List Value) ++ (([.slice Aw Al.length Ax] : List Value) ++ (([.int .i64 Ad] : List Value) ++ (([.int .i64 start] : List Value) ++ (([.slice Aj Ab.length Ai] : List Value) ++ (aa.flatMap (cI .i64) ++ (([.slice bo bp bq] : List Value) ++ (ao.flatMap (cI .i64))))))))).toArray) 156) :: ((b1, ce #[.slice AU walks.length AV, .slice Aw Al.length Ax, .int .i64 Ad, .int .i64 start, .slice Aj Ab.length Ai] 39) :: (bb ++ []))) fx.1 fw
    refine uv (AK underlying37 sizeOf41 rfl gb rfl fx) (uv (AS (cs := #[.slice gh x5.1.length gk, .int .i64 x5.2.1, .int .i64 x5.2.2]) isAgg41 sizeOf41 rfl gg cp (BB cp gl gm)) ?_)
    refine Bo rfl zeroValue41 ?_; intro lv oj
    refine ua (B1 (i := 0) sizeOf41 rfl rfl rfl (by simp [Value.oneCell']) rfl (CK rfl) (AI (L' := (lv, ce #[.slice gh x5.1.length gk, .int .i64 x5.2.1, .int .i64 x5.2.2] 41) :: ((b7, ce ((([.slice AU walks.length AV] : List Value) ++ (([.slice Aw Al.length Ax] : List Value) ++ (([.int .i64 Ad] : List Value) ++ (([.int .i64 start] : List Value) ++ (([.slice Aj Ab.length Ai] : List Value) ++ (aa.flatMap (cI .i64) ++ (([.slice bo bp bq] : List Value) ++ (ao.flatMap (cI .i64))))))))).toArray) 156) :: ((b1, ce #[.slice AU walks.length AV, .slice Aw Al.length Ax, .int .i64 Ad, .int .i64 start, .slice Aj Ab.length Ai] 39) :: (bb ++ [])))) rfl (BX (uv (Ae Qw rfl) (uv (An isAgg33 rfl (Has.own 0 rfl) rfl) ?_)))))
    obtain ⟨y, lx, ly⟩ := AG lr
    refine c0 call125 (LV lu lx) ?_; rintro _ qo _ cq oo ⟨oq, rfl, rfl, ew⟩
    replace ad := ad.mono (Ar (Ac _)) cq
    replace bh := bh.mono (Au (Ac _) (Ac _)) cq
    refine AI (ln rfl) ?_
    obtain ⟨l, ma, mb⟩ := AG ly
    refine c0 call124 (NQ call186 ew ma) ?_; rintro _ ct _ cu gn ⟨dn, dp, dq, ba, rfl, rfl, bj⟩
    replace ad := ad.mono (Ar (Ac _)) cu
    replace bh := bh.mono (Au (Ac _) (Ac _)) cu
    replace bj := bj.new fun p hp => gn p (by simp [hp])
    refine AI (lp (ln rfl)) (kO (kf (fS fO) (kf (fS fO) (kf (fS fO) kr))) (uv ((A7 underlying33 rfl).i (Be.Kw bj)) ?_))
    refine um (Aa ?_)
    refine Ap (kW (kd kr) ?_)
    refine Bh (fun ot e1 F1 L1 => LA l ot fun ou k5 => ∃ (af : List (Int × Int)) (az : List Int) (av : Option Addr) (aw : Nat) (ax : Nat) (ay : LH), HE Al k4 ou af az = some (bc, bk) ∧ ct = F1 ∧ L1 = ((b7, ce ((([.slice AU walks.length AV] : List Value) ++ (([.slice Aw Al.length Ax] : List Value) ++ (([.int .i64 Ad] : List Value) ++ (([.int .i64 start] : List Value) ++ (([.slice Aj Ab.length Ai] : List Value) ++ (aa.flatMap (cI .i64) ++ (([.slice av aw ax] : List Value) ++ (az.flatMap (cI .i64))))))))).toArray) 156) :: ((b1, ce #[.slice AU walks.length AV, .slice Aw Al.length Ax, .int .i64 Ad, .int .i64 start, .slice Aj Ab.length Ai] 39) :: (ay ++ (ba ++ [])))) ∧ e1.sub [(1, .pointer (some ⟨b1, 0, none⟩)), (5, .pointer (some ⟨b7, 0, none⟩)), (9, .int .i64 k4), (84, .slice Aj Ab.length Ai), (85, .int .i64 (Ab.length : Int)), (86, .int .i64 k4), (94, .slice dn dp dq), (95, .int .i64 (l.length : Int)), (96, .int .i64 k5)] ∧ Be K.w0.heap.size 58 2 (Br (iE .i64) (iE .i64)) F1 av aw ax af ay ∧ az.length = 15) _ (m0 (kc (kc (kg (fS fP) kr))) ⟨_, _, rfl, BL.start _, au, ao, bo, bp, bq, bb, mb, rfl, rfl, (sc rfl z8), bh, fv⟩) ?_
    rintro ot e1 _ _ ⟨ou, k5, gp, cv, af, az, av, aw, ax, ay, dr, rfl, rfl, gq, cw, gr⟩
    refine AB _ gq (AN (uv (Bb rfl rfl) ?_))
    refine Aa (As ?_)
    refine cQ (fun dt => ?_) fun dt => ?_
    ·obtain ⟨x6, s6, rfl, gu, gv, gw⟩ := BL.succ cv dt
     rw [HE] at dr
     refine Aq ?_
     obtain ⟨bm, br, mc, gz⟩ := Es dr
     refine A0 (fun e1 F1 L1 => ∃ (du : Option Addr) (dv : Nat) (dw : Nat) (ca : LH), ct = F1 ∧ L1 = ((b7, ce ((([.slice AU walks.length AV] : List Value) ++ (([.slice Aw Al.length Ax] : List Value) ++ (([.int .i64 Ad] : List Value) ++ (([.int .i64 start] : List Value) ++ (([.slice Aj Ab.length Ai] : List Value) ++ (aa.flatMap (cI .i64) ++ (([.slice du dv dw] : List Value) ++ (br.flatMap (cI .i64))))))))).toArray) 156) :: ((b1, ce #[.slice AU walks.length AV, .slice Aw Al.length Ax, .int .i64 Ad, .int .i64 start, .slice Aj Ab.length Ai] 39) :: (ca ++ (ba ++ [])))) ∧ e1.sub [(1, .pointer (some ⟨b1, 0, none⟩)), (5, .pointer (some ⟨b7, 0, none⟩)), (9, .int .i64 k4), (84, .slice Aj Ab.length Ai), (85, .int .i64 (Ab.length : Int)), (86, .int .i64 k4), (94, .slice dn dp dq), (95, .int .i64 (l.length : Int)), (96, .int .i64 k5)] ∧ Be K.w0.heap.size 58 2 (Br (iE .i64) (iE .i64)) F1 du dv dw bm ca ∧ br.length = 15) ?_ ?_
     ·clear gz
      refine Ap (AN ?_)
      obtain ⟨qp, qq, qs, ow, ia, ib, me, rfl, oy, ic⟩ := Be.at (Ac _) bj (L := (b7, ce ((([.slice AU walks.length AV] : List Value) ++ (([.slice Aw Al.length Ax] : List Value) ++ (([.int .i64 Ad] : List Value) ++ (([.int .i64 start] : List Value) ++ (([.slice Aj Ab.length Ai] : List Value) ++ (aa.flatMap (cI .i64) ++ (([.slice av aw ax] : List Value) ++ (az.flatMap (cI .i64))))))))).toArray) 156) :: ((b1, ce #[.slice AU walks.length AV, .slice Aw Al.length Ax, .int .i64 Ad, .int .i64 start, .slice Aj Ab.length Ai] 39) :: (ay ++ (ba ++ [])))) (fC (fC (fS fP))) gv.1 gu
      refine uv (AK underlying33 sizeOf3 rfl ia rfl (Be.idx bj gv)) (uv (An isAgg3 rfl ib (ic 0 (by decide))) ?_)
      refine ua (Aa ?_)
      obtain ⟨bd, mg, ie⟩ := AG mc
      refine A0 (fun e1 F1 L1 => ct = F1 ∧ L1 = ((b7, ce ((([.slice AU walks.length AV] : List Value) ++ (([.slice Aw Al.length Ax] : List Value) ++ (([.int .i64 Ad] : List Value) ++ (([.int .i64 start] : List Value) ++ (([.slice Aj Ab.length Ai] : List Value) ++ (aa.flatMap (cI .i64) ++ (([.slice av aw ax] : List Value) ++ (bd.flatMap (cI .i64))))))))).toArray) 156) :: ((b1, ce #[.slice AU walks.length AV, .slice Aw Al.length Ax, .int .i64 Ad, .int .i64 start, .slice Aj Ab.length Ai] 39) :: (ay ++ (ba ++ [])))) ∧ e1.sub [(1, .pointer (some ⟨b1, 0, none⟩)), (5, .pointer (some ⟨b7, 0, none⟩)), (9, .int .i64 k4), (12, .int .i64 x6), (84, .slice Aj Ab.length Ai), (85, .int .i64 (Ab.length : Int)), (86, .int .i64 k4), (94, .slice dn dp dq), (95, .int .i64 (l.length : Int)), (96, .int .i64 k5)] ∧ bd.length = 15) ?_ ?_
      ·clear ie
       refine AN (uv (Ae Mw rfl) (uv (An isAgg36 rfl (Has.own 1 rfl) rfl) (uv (A7 underlying36 rfl) ?_)))
       refine um (Aa ?_)
       refine Ap ?_
       refine Bh (fun oz e1 F1 L1 => LA Al oz fun p0 k6 => ∃ (al : List Int), Gb k4 af x6 p0 k6 al = some bd ∧ ct = F1 ∧ L1 = ((b7, ce ((([.slice AU walks.length AV] : List Value) ++ (([.slice Aw Al.length Ax] : List Value) ++ (([.int .i64 Ad] : List Value) ++ (([.int .i64 start] : List Value) ++ (([.slice Aj Ab.length Ai] : List Value) ++ (aa.flatMap (cI .i64) ++ (([.slice av aw ax] : List Value) ++ (al.flatMap (cI .i64))))))))).toArray) 156) :: ((b1, ce #[.slice AU walks.length AV, .slice Aw Al.length Ax, .int .i64 Ad, .int .i64 start, .slice Aj Ab.length Ai] 39) :: (ay ++ (ba ++ [])))) ∧ e1.sub [(1, .pointer (some ⟨b1, 0, none⟩)), (5, .pointer (some ⟨b7, 0, none⟩)), (9, .int .i64 k4), (12, .int .i64 x6), (84, .slice Aj Ab.length Ai), (85, .int .i64 (Ab.length : Int)), (86, .int .i64 k4), (94, .slice dn dp dq), (95, .int .i64 (l.length : Int)), (96, .int .i64 k5), (101, .slice Aw Al.length Ax), (102, .int .i64 (Al.length : Int)), (103, .int .i64 k6)] ∧ al.length = 15) _ (m0 kr ⟨_, _, rfl, BL.start _, az, mg, rfl, rfl, (sc rfl (sc rfl (sc rfl (sc rfl (sc rfl z8))))), gr⟩) ?_
       rintro oz e1 _ _ ⟨p0, k6, dz, cb, al, dx, rfl, rfl, ig, bn⟩
       refine AB _ ig (AN (uv (Bb rfl rfl) ?_))
       refine Aa (As ?_)
       refine cQ (fun cx => ?_) fun cx => ?_
       ·obtain ⟨x7, s7, rfl, ij, ik, eb⟩ := BL.succ cb cx
        rw [Gb] at dx
        refine Aq (As ?_)
        refine Ap ?_
        refine AN (um ?_)
        obtain ⟨qt, qu, qw, p3, il, im, mh, ⟨qx, qy, rfl, mj⟩, p4, iq⟩ := Av.at (Ar (Ac _)) ad ((b7, ce ((([.slice AU walks.length AV] : List Value) ++ (([.slice Aw Al.length Ax] : List Value) ++ (([.int .i64 Ad] : List Value) ++ (([.int .i64 start] : List Value) ++ (([.slice Aj Ab.length Ai] : List Value) ++ (aa.flatMap (cI .i64) ++ (([.slice av aw ax] : List Value) ++ (al.flatMap (cI .i64))))))))).toArray) 156) :: ((b1, ce #[.slice AU walks.length AV, .slice Aw Al.length Ax, .int .i64 Ad, .int .i64 start, .slice Aj Ab.length Ai] 39) :: (ay ++ (ba ++ [])))) ik.1 ij
        refine uv (AK underlying36 sizeOf33 rfl il rfl ik) (uv (An isAgg33 rfl im (iq 0 (by decide))) ?_)
        refine ua (ua (BX (um (um ?_))))
        obtain ⟨ok, ml, ir⟩ := AG dx
        refine cV call18 (C2 mj ml) (Aa ?_)
        refine A5 rfl (fun ey => ?_) (fun ey => ?_)
        ·have mn := bt ir ey
         refine Dp [(.still, 0), (.still, 1), (.still, 2), (.still, 3), (.still, 4), (.still, 5), (.still, 6), (.still, 7), (.still, 8), (.still, 9), (.still, 10), (.still, 11), (.still, 12), (.still, 13), (.still, 14), (.still, 15), (.still, 16), (.still, 17), (.still, 18), (.seq, 19)] (by kernel_rfl) (by kernel_rfl) (trivial) (by rfl) (by kernel_rfl) (mS [5] rfl (Bw rfl) (mS [13] rfl (Bw rfl) (mS [9] rfl (Bw rfl) (mS [111] rfl (A2 rfl) (mS [114] rfl (Ae QV rfl) ?_)))))
         obtain ⟨iu, mo⟩ := A1 mn
         refine mS [112, 115] rfl (Bj underlying154 sizeOf153 rfl rfl iu) ?_
         obtain ⟨iv, mq⟩ := A1 mo
         obtain ⟨x8, mr, iw, mu⟩ := Bx mq
         have iy : (k6 * 3 + k4 : Int).toNat = (k6 : Int).toNat * 3 + (k4 : Int).toNat := by have := iu; have := iv; omega
         have iz := Jh (A4 .i64) bn iy iw (FY (At (A := ([.slice AU walks.length AV] : List Value)) (k := 1) (o := 30) rfl (At (A := ([.slice Aw Al.length Ax] : List Value)) (k := 1) (o := 29) rfl (At (A := ([.int .i64 Ad] : List Value)) (k := 1) (o := 28) rfl (At (A := ([.int .i64 start] : List Value)) (k := 1) (o := 27) rfl (At (A := ([.slice Aj Ab.length Ai] : List Value)) (k := 1) (o := 26) rfl (At (A := aa.flatMap (cI .i64)) (k := 25) (o := 1) (DM (A4 .i64) eo) (At (A := ([.slice av aw ax] : List Value)) (k := 1) (o := 0) rfl (Cd (DM (A4 .i64) bn)))))))))) (Eb (At (A := ([.slice AU walks.length AV] : List Value)) (k := 1) (o := 30) rfl (At (A := ([.slice Aw Al.length Ax] : List Value)) (k := 1) (o := 29) rfl (At (A := ([.int .i64 Ad] : List Value)) (k := 1) (o := 28) rfl (At (A := ([.int .i64 start] : List Value)) (k := 1) (o := 27) rfl (At (A := ([.slice Aj Ab.length Ai] : List Value)) (k := 1) (o := 26) rfl (At (A := aa.flatMap (cI .i64)) (k := 25) (o := 1) (DM (A4 .i64) eo) (At (A := ([.slice av aw ax] : List Value)) (k := 1) (o := 0) rfl (Cd (DM (A4 .i64) bn))))))))))
         refine mS [113, 116] rfl (Bj underlying153 sizeOf3 rfl rfl iv) (mL [117] ([(b7, ce ((([.slice AU walks.length AV] : List Value) ++ (([.slice Aw Al.length Ax] : List Value) ++ (([.int .i64 Ad] : List Value) ++ (([.int .i64 start] : List Value) ++ (([.slice Aj Ab.length Ai] : List Value) ++ (aa.flatMap (cI .i64) ++ (([.slice av aw ax] : List Value) ++ (al.flatMap (cI .i64))))))))).toArray) 156)]) rfl (s0 (s2 (s1 (s3 (s3 sr))))) (fun H F' L' db dd => An isAgg3 rfl ((Has.own 0 rfl).ext db dd) ((iz).2.2 0 (by decide))) (mS [5] rfl (Bw rfl) (mS [119] rfl (A2 rfl) (mS [120] rfl (Ae Pa rfl) (mL [121] ([(b7, ce ((([.slice AU walks.length AV] : List Value) ++ (([.slice Aw Al.length Ax] : List Value) ++ (([.int .i64 Ad] : List Value) ++ (([.int .i64 start] : List Value) ++ (([.slice Aj Ab.length Ai] : List Value) ++ (aa.flatMap (cI .i64) ++ (([.slice av aw ax] : List Value) ++ (al.flatMap (cI .i64))))))))).toArray) 156)]) rfl (s0 (s2 (s1 (s3 (s3 sr))))) (fun H F' L' db dd => An isAgg48 rfl ((Has.own 0 rfl).ext db dd) (E8 (At (A := ([.slice AU walks.length AV] : List Value)) (k := 1) (o := 29) rfl (At (A := ([.slice Aw Al.length Ax] : List Value)) (k := 1) (o := 28) rfl (At (A := ([.int .i64 Ad] : List Value)) (k := 1) (o := 27) rfl (At (A := ([.int .i64 start] : List Value)) (k := 1) (o := 26) rfl (At (A := ([.slice Aj Ab.length Ai] : List Value)) (k := 1) (o := 25) rfl (At (A := aa.flatMap (cI .i64)) (k := 25) (o := 0) (DM (A4 .i64) eo) (Bm rfl))))))))) (mS [122] rfl ((A7 underlying48 rfl).i (Be.Kw cw)) ?_))))))
         obtain ⟨mv, mw⟩ := A1 mu
         refine mS (v := .int .i64 (shl 1 (af.length : Int))) [123] rfl (X7 rfl rfl mv) (mS (v := .int .i64 (YR x8 (shl 1 (af.length : Int)))) [118, 124] rfl (Zs rfl rfl) (mS [111] rfl (A2 rfl) (mS [126] rfl (Ae QV rfl) ?_)))
         obtain ⟨j0, mx⟩ := A1 mw
         refine mS [112, 127] rfl (Bj underlying154 sizeOf153 rfl rfl j0) ?_
         obtain ⟨j1, my⟩ := A1 mx
         have j2 : (k6 * 3 + k4 : Int).toNat = (k6 : Int).toNat * 3 + (k4 : Int).toNat := by have := j0; have := j1; omega
         refine mS [113, 128] rfl (Bj underlying153 sizeOf3 rfl rfl j1) ?_
         refine ⟨_, [(125, .int .i64 (YR x8 (shl 1 (af.length : Int)))), (129, .pointer (some ⟨b7, 31 + (k6 : Int).toNat * 3 + (k4 : Int).toNat * 1, none⟩))], rfl, rfl, z2, by kernel_rfl, ?_⟩; intro H
         obtain ⟨mz, j3, na⟩ := CH my
         have nc : mz.length = 15 := by rw [j3, List.length_set]; exact bn
         refine H4 (i := 0) sizeOf3 rfl (by have := j2; omega) rfl rfl rfl (BV (A := ([.slice AU walks.length AV] : List Value)) (k := 1) rfl (BV (A := ([.slice Aw Al.length Ax] : List Value)) (k := 1) rfl (BV (A := ([.int .i64 Ad] : List Value)) (k := 1) rfl (BV (A := ([.int .i64 start] : List Value)) (k := 1) rfl (BV (A := ([.slice Aj Ab.length Ai] : List Value)) (k := 1) rfl (BV (A := aa.flatMap (cI .i64)) (k := 25) (DM (A4 .i64) eo) (BV (A := ([.slice av aw ax] : List Value)) (k := 1) rfl (Px (p := (k6 * 3 + k4 : Int).toNat) (A4 .i64) (u := YR x8 (shl 1 (af.length : Int))) rfl bn (by have := mr; have := bn; omega) ct)))))))) ?_
         refine AI (L' := (b7, ce ((([.slice AU walks.length AV] : List Value) ++ (([.slice Aw Al.length Ax] : List Value) ++ (([.int .i64 Ad] : List Value) ++ (([.int .i64 start] : List Value) ++ (([.slice Aj Ab.length Ai] : List Value) ++ (aa.flatMap (cI .i64) ++ (([.slice av aw ax] : List Value) ++ (mz.flatMap (cI .i64))))))))).toArray) 156) :: ((b1, ce #[.slice AU walks.length AV, .slice Aw Al.length Ax, .int .i64 Ad, .int .i64 start, .slice Aj Ab.length Ai] 39) :: (ay ++ (ba ++ [])))) (by rw [j3]; rfl) ?_
         refine Aa ⟨undef, rfl, A3.refl _, [], by kernel_rfl, .inl (.inl rfl), nm, ?_⟩
         refine Ff ?_
         refine AD (id := 11) (Am ?_)
         refine uv (Bd rfl rfl (BL.Eg cb cx (Av.lt ad))) ?_
         refine um (Aa ?_)
         subst dz; exact le kr ⟨_, _, rfl, eb, mz, na, rfl, rfl, (sc rfl (sc rfl (sc rfl (sc rfl (sc rfl z8))))), nc⟩
        have nd := bf ir ey
        refine Aq (AD (id := 11) (Am ?_))
        refine uv (Bd rfl rfl (BL.Eg cb cx (Av.lt ad))) ?_
        refine um (Aa ?_)
        subst dz; exact le kr ⟨_, _, rfl, eb, al, nd, rfl, rfl, (sc rfl (sc rfl (sc rfl (sc rfl (sc rfl z8))))), bn⟩
       obtain rfl := BL.zero cb cx
       rw [Gb] at dx
       refine AT (Af (Af ?_))
       refine Ay ?_
       obtain rfl := AL dx
       exact mi kr ⟨rfl, rfl, (sc rfl (sc rfl z8)), bn⟩
      rintro e1 _ _ ⟨rfl, rfl, j4, nf⟩
      refine AB _ j4 ?_
      refine Am (um (um ?_))
      refine uv (A2 rfl) (uv (Ae Pa rfl) (uv (An isAgg48 rfl (Has.own 0 rfl) (E8 (At (A := ([.slice AU walks.length AV] : List Value)) (k := 1) (o := 29) rfl (At (A := ([.slice Aw Al.length Ax] : List Value)) (k := 1) (o := 28) rfl (At (A := ([.int .i64 Ad] : List Value)) (k := 1) (o := 27) rfl (At (A := ([.int .i64 start] : List Value)) (k := 1) (o := 26) rfl (At (A := ([.slice Aj Ab.length Ai] : List Value)) (k := 1) (o := 25) rfl (At (A := aa.flatMap (cI .i64)) (k := 25) (o := 0) (DM (A4 .i64) eo) (Bm rfl))))))))) ?_))
      refine um (um ?_)
      refine uv (BH (v := .agg #[.int .i64 k4, .int .i64 x6]) rfl (by intro w; kernel_rfl)) ?_
      refine bA (cs := #[.int .i64 k4, .int .i64 x6]) WI [.agg #[.int .i64 k4, .int .i64 x6]] ?_; intro qz p5
      obtain ⟨c, ng, nh, ni⟩ := GM ie
      refine Fm (xs := af) (ys := [(k4, x6)]) (zs := c) rfl WI rfl rfl (Nat.le_refl _) (fun _ => .c (.c (.c .h))) cw (H2.box (vss := [[.int .i64 k4, .int .i64 x6]]) (ys := [(k4, x6)]) 0 rfl (Au (Ac _) (Ac _)) (.cons ⟨_, _, rfl, rfl, rfl⟩ .nil) rfl rfl) ng nh (by decide) ?_; intro j5 j6 j7 ec j8
      refine kO (kd kr) (uv (A2 rfl) (uv (Ae Pa rfl) (H4 (i := 0) sizeOf48 rfl rfl rfl rfl rfl (BV (A := ([.slice AU walks.length AV] : List Value)) (k := 1) (p := 29) rfl (BV (A := ([.slice Aw Al.length Ax] : List Value)) (k := 1) (p := 28) rfl (BV (A := ([.int .i64 Ad] : List Value)) (k := 1) (p := 27) rfl (BV (A := ([.int .i64 start] : List Value)) (k := 1) (p := 26) rfl (BV (A := ([.slice Aj Ab.length Ai] : List Value)) (k := 1) (p := 25) rfl (BV (A := aa.flatMap (cI .i64)) (k := 25) (p := 0) (DM (A4 .i64) eo) (NC (B := bd.flatMap (cI .i64)) WQ))))))) (AI (L' := (b7, ce ((([.slice AU walks.length AV] : List Value) ++ (([.slice Aw Al.length Ax] : List Value) ++ (([.int .i64 Ad] : List Value) ++ (([.int .i64 start] : List Value) ++ (([.slice Aj Ab.length Ai] : List Value) ++ (aa.flatMap (cI .i64) ++ (([.slice j5 j6 j7] : List Value) ++ (bd.flatMap (cI .i64))))))))).toArray) 156) :: ((b1, ce #[.slice AU walks.length AV, .slice Aw Al.length Ax, .int .i64 Ad, .int .i64 start, .slice Aj Ab.length Ai] 39) :: (ec ++ (ba ++ [])))) rfl ?_))))
      refine Aa (AD (id := 9) ?_)
      obtain ⟨rfl, rfl⟩ := D2 ni
      exact mi kr ⟨j5, j6, j7, ec, rfl, rfl, (sc rfl z8), j8, nf⟩
     rintro e1 _ _ ⟨du, dv, dw, ca, rfl, rfl, j9, ja, nj⟩
     refine AB _ j9 (Am (uv (Bd rfl rfl (BL.Eg cv dt (Be.X5 bj))) ?_))
     refine um (Aa ?_)
     subst gp; exact le kr ⟨_, _, rfl, gw, bm, br, du, dv, dw, ca, gz, rfl, rfl, (sc rfl z8), ja, nj⟩
    obtain rfl := BL.zero cv dt
    rw [HE] at dr
    refine AT (Af (Af ?_))
    refine Ay (AD (id := 7) ?_)
    obtain ⟨rfl, rfl⟩ := D2 dr
    exact mi (kc (kc (ka kn))) ⟨av, aw, ax, ay, (cq.trans cu), rfl, z5, cw, gr⟩
   rintro e1 re _ ⟨di, dk, dm, bz, eg, rfl, jb, jc, nk⟩
   refine AB _ jb ?_
   replace ab := ab.mono (Au (Ar (Ac _)) (Au (Ac _) (Ac _))) eg
   refine Am (uv (Bd rfl rfl (BL.Eg cn dh (Av.lt ab))) ?_)
   refine um (Aa ?_)
   subst fq; exact le kr ⟨_, _, rfl, fy, bc, bk, di, dk, dm, bz, ga, (bx.trans eg), rfl, z5, jc, nk⟩
  obtain rfl := BL.zero cn dh
  rw [HH] at dg
  refine AT (Af (Af ?_))
  refine Ay ?_
  obtain ⟨rfl, rfl⟩ := D2 dg
  exact mi (kc (kd kr)) ⟨bo, bp, bq, bb, bx, rfl, z1, bh, fv⟩
 rintro e1 rf _ ⟨ep, er, eu, ck, cy, rfl, jd, eh, np⟩
 refine AB _ jd ?_
 replace ae := ae.mono (Ar (Ac _)) cy
 replace ad := ad.mono (Ar (Ac _)) cy
 replace ab := ab.mono (Au (Ar (Ac _)) (Au (Ac _) (Ac _))) cy
 refine AN (um (ua (ua (Aa ?_))))
 obtain rfl := (Be.Eu eh).1
 refine TI (Nat.le_refl _) (Au (Ac _) (Ac _)) (fC fP) eh ?_; intro rh cz ez
 replace ae := ae.mono (Ar (Ac _)) cz
 replace ad := ad.mono (Ar (Ac _)) cz
 replace ab := ab.mono (Au (Ar (Ac _)) (Au (Ac _) (Ac _))) cz
 refine Cs 0 rfl p6 ?_; intro ri cd je
 refine E7 (L' := []) rfl ?_
 replace ae := ae.mono (Ar (Ac _)) cd
 replace ad := ad.mono (Ar (Ac _)) cd
 replace ab := ab.mono (Au (Ar (Ac _)) (Au (Ac _) (Ac _))) cd
 replace ez := ez.mono (Au (Ac _) (Ac _)) cd
 refine Ao (CT results49 (A6 rfl) (A6 rfl) (sr) ?_)
 obtain ⟨rfl, rfl⟩ := D2 fp
 exact ⟨_, rfl, rfl, ⟨_, _, _, rfl, je, ⟨_, _, rfl, ⟨_, _, rfl, ae⟩, ⟨_, _, rfl, ⟨_, _, rfl, ad⟩, ⟨_, _, rfl, rfl, ⟨_, _, rfl, rfl, ⟨_, _, rfl, ⟨_, _, rfl, ab⟩, ⟨_, _, rfl, ⟨rfl, eo⟩, ⟨_, _, rfl, ⟨_, _, rfl, ez⟩, ⟨rfl, np⟩⟩⟩⟩⟩⟩⟩⟩⟩⟩
set_option maxHeartbeats 1000000 in
theorem Mz {Al : List (List Int)} {Ab : List ((List Int) × Int × Int)} {af : Nat} {az : Nat × Nat} (aj : F MY = some (.cells #[.pointer (some ⟨Xt, 0, none⟩)] 147 T4)) (ae : F Xt = some (.cells ((([.slice AU walks.length AV] : List Value) ++ (([.slice Aw Al.length Ax] : List Value) ++ (([.int .i64 Ad] : List Value) ++ (([.int .i64 start] : List Value) ++ (([.slice Aj Ab.length Ai] : List Value) ++ (BS.flatMap (cI .i64) ++ (([.slice EF Cg.length ED] : List Value) ++ (IP.flatMap (cI .i64))))))))).toArray) 156 XX)) (_bz : Av 1 (BK 1 (iE .i64)) F AU AV walks) (ad : Av 1 (BK 1 (iE .i64)) F Aw Ax Al) (aa : Av 3 (Br (BK 1 (iE .i64)) (Br (iE .i64) (iE .i64))) F Aj Ai Ab) (al : BS.length = 25) (_ca : Av 2 (Br (iE .i64) (iE .i64)) F EF ED Cg) (ax : IP.length = 15) (ab : F af = some (.cells #[.int .i64 EB] 3 az)) {xs : List ((Int × Int) × Int)} (hr : Ij walks Al Ad start Ab BS Cg IP EB = some xs) :
    Hs Tryz.prog 187 #[] #[.pointer (some ⟨MY, 0, none⟩), .pointer (some ⟨af, 0, none⟩)] F (fun x : (Int × Int) × Int => #[.agg ((cP (cI .i64) (cI .i64)) x.1).toArray, .int .i64 x.2]) xs := by
 intro G0 bn yv J Jx ec dp hy Fc L0 hG dq
 replace aj := (bn.trans hG) _ _ aj
 replace ae := (bn.trans hG) _ _ ae
 replace ad := ad.mono (Ar (Ac _)) (bn.trans hG)
 replace aa := aa.mono (Au (Ar (Ac _)) (Au (Ac _) (Ac _))) (bn.trans hG)
 replace ab := (bn.trans hG) _ _ ab
 have bj : xs = [] ++ xs := rfl
 show SH.Spec Tryz.prog 187 #[yv, .pointer (some ⟨MY, 0, none⟩), .pointer (some ⟨af, 0, none⟩)] Fc L0 _
 refine sp func187 ntmps187 fun K _ _ => ?_
 rw [Ij] at hr; refine E7 (L' := L0 ++ []) (by simp) ?_
 refine AN (uv (An isAgg147 rfl (Has.frozen aj) rfl) (uv (A2 rfl) (uv (Ae K6 rfl) (uv (Ae Mw rfl) (uv (An isAgg36 rfl (Has.frozen ae) (E8 (At (A := ([.slice AU walks.length AV] : List Value)) (k := 1) (o := 0) rfl (Bm rfl)))) (uv (A7 underlying36 rfl) ?_))))))
 refine um (Aa ?_)
 refine Ap ?_
 refine Bh (fun da e1 F1 L1 => LA Al da fun tl k => ∃ (ba : List ((Int × Int) × Int)) (bb : List ((Int × Int) × Int)) (cb : LH), CL Ab IP EB tl k = some bb ∧ A3 Fc F1 ∧ L1 = (cb ++ []) ∧ e1.sub [(0, yv), (1, .pointer (some ⟨MY, 0, none⟩)), (2, .pointer (some ⟨af, 0, none⟩)), (12, .int .i64 (Al.length : Int)), (13, .int .i64 k)] ∧ xs = ba ++ bb ∧ J ba F1 cb ∧ A3 G0 F1) _ (m0 kr ⟨_, _, rfl, BL.start _, [], xs, L0, hr, A3.refl _, rfl, z5, bj, dq, hG⟩) ?_
 rintro da e1 db _ ⟨tl, k, dr, cg, ba, bb, cb, r8, av, rfl, dt, ay, dd, hG⟩
 refine AB _ dt ?_
 replace ad := ad.mono (Ar (Ac _)) av
 replace aa := aa.mono (Au (Ar (Ac _)) (Au (Ac _) (Ac _))) av
 replace ae := av _ _ ae
 replace aj := av _ _ aj
 replace ab := av _ _ ab
 refine AN (uv (Bb rfl rfl) ?_)
 refine Aa (As ?_)
 refine cQ (fun cd => ?_) fun cd => ?_
 ·obtain ⟨x, de, rfl, du, eg, cj⟩ := BL.succ cg cd
  rw [CL] at r8
  refine Aq ?_
  refine A0 (fun e1 F1 L1 => ∃ (ar : List ((Int × Int) × Int)) (au : List ((Int × Int) × Int)) (bc : LH), GR k (CL Ab IP EB de) = some au ∧ A3 db F1 ∧ L1 = (bc ++ []) ∧ e1.sub [(0, yv), (1, .pointer (some ⟨MY, 0, none⟩)), (2, .pointer (some ⟨af, 0, none⟩)), (12, .int .i64 (Al.length : Int)), (13, .int .i64 k)] ∧ xs = ar ++ au ∧ J ar F1 bc ∧ A3 G0 F1) ?_ ?_
  ·refine Ap ?_
   refine AN (um (ua (BX ?_)))
   refine uv (An isAgg147 rfl (Has.frozen aj) rfl) (uv (A2 rfl) (uv (Ae K6 rfl) (uv (Ae Nz rfl) (uv (An isAgg37 rfl (Has.frozen ae) (E8 (At (A := ([.slice AU walks.length AV] : List Value)) (k := 1) (o := 3) rfl (At (A := ([.slice Aw Al.length Ax] : List Value)) (k := 1) (o := 2) rfl (At (A := ([.int .i64 Ad] : List Value)) (k := 1) (o := 1) rfl (At (A := ([.int .i64 start] : List Value)) (k := 1) (o := 0) rfl (Bm rfl))))))) (uv (A7 underlying37 rfl) ?_)))))
   refine um (Aa ?_)
   refine Ap ?_
   refine Bh (fun df e1 F1 L1 => LA Ab df fun dg k2 => ∃ (ah : List ((Int × Int) × Int)) (ao : List ((Int × Int) × Int)) (aw : LH), Dn IP EB k (CL Ab IP EB de) dg k2 = some ao ∧ A3 db F1 ∧ L1 = (aw ++ []) ∧ e1.sub [(0, yv), (1, .pointer (some ⟨MY, 0, none⟩)), (2, .pointer (some ⟨af, 0, none⟩)), (4, .int .i64 k), (12, .int .i64 (Al.length : Int)), (13, .int .i64 k), (21, .int .i64 (Ab.length : Int)), (22, .int .i64 k2)] ∧ xs = ah ++ ao ∧ J ah F1 aw ∧ A3 G0 F1) _ (m0 kr ⟨_, _, rfl, BL.start _, ba, bb, cb, r8, A3.refl _, rfl, z8, ay, dd, hG⟩) ?_
   rintro df e1 eh _ ⟨dg, k2, bo, bd, ah, ao, aw, cf, aq, rfl, ck, ai, bk, hG⟩
   refine AB _ ck ?_
   replace aa := aa.mono (Au (Ar (Ac _)) (Au (Ac _) (Ac _))) aq
   replace ae := aq _ _ ae
   replace aj := aq _ _ aj
   replace ab := aq _ _ ab
   refine AN (uv (Bb rfl rfl) ?_)
   refine Aa (As ?_)
   refine cQ (fun bp => ?_) fun bp => ?_
   ·obtain ⟨x2, ei, rfl, dv, ej, bq⟩ := BL.succ bd bp
    rw [Dn] at cf
    refine Aq (As ?_)
    refine Ap ?_
    refine AN (um (ua ?_))
    refine dN (wv (An isAgg3 rfl (Has.frozen ab) rfl) (wv (An isAgg147 rfl (Has.frozen aj) rfl) ?_))
    refine wm (wm ?_)
    refine wv (A2 rfl) (wv (Ae QV rfl) ?_)
    obtain ⟨dh, dw⟩ := A1 cf
    refine wv (Bj underlying154 sizeOf153 rfl rfl dh) ?_
    obtain ⟨di, dx⟩ := A1 dw
    obtain ⟨x3, en, cn, dk⟩ := Bx dx
    have cp : (k * 3 + k2 : Int).toNat = (k : Int).toNat * 3 + (k2 : Int).toNat := by have := dh; have := di; omega
    have cq := Jh (A4 .i64) ax cp cn (FY (At (A := ([.slice AU walks.length AV] : List Value)) (k := 1) (o := 30) rfl (At (A := ([.slice Aw Al.length Ax] : List Value)) (k := 1) (o := 29) rfl (At (A := ([.int .i64 Ad] : List Value)) (k := 1) (o := 28) rfl (At (A := ([.int .i64 start] : List Value)) (k := 1) (o := 27) rfl (At (A := ([.slice Aj Ab.length Ai] : List Value)) (k := 1) (o := 26) rfl (At (A := BS.flatMap (cI .i64)) (k := 25) (o := 1) (DM (A4 .i64) al) (At (A := ([.slice EF Cg.length ED] : List Value)) (k := 1) (o := 0) rfl (Cd (DM (A4 .i64) ax)))))))))) (Eb (At (A := ([.slice AU walks.length AV] : List Value)) (k := 1) (o := 30) rfl (At (A := ([.slice Aw Al.length Ax] : List Value)) (k := 1) (o := 29) rfl (At (A := ([.int .i64 Ad] : List Value)) (k := 1) (o := 28) rfl (At (A := ([.int .i64 start] : List Value)) (k := 1) (o := 27) rfl (At (A := ([.slice Aj Ab.length Ai] : List Value)) (k := 1) (o := 26) rfl (At (A := BS.flatMap (cI .i64)) (k := 25) (o := 1) (DM (A4 .i64) al) (At (A := ([.slice EF Cg.length ED] : List Value)) (k := 1) (o := 0) rfl (Cd (DM (A4 .i64) ax))))))))))
    refine wv (Bj underlying153 sizeOf3 rfl rfl di) (wv (An isAgg3 rfl (Has.frozen ae) ((cq).2.2 0 (by decide))) (wv (TW rfl rfl) ?_))
    refine wa (ZJ (um ?_))
    refine uv (An isAgg3 rfl (Has.frozen ab) rfl) (uv (B7 rfl rfl) (um ?_))
    by_cases ak : (N5 EB x3) ≠ EB
    ·have dy := Bf dk ak
     refine nT ak (um (nT ak (um (nT ak (um (nT ak ?_))))))
     refine uv (BH (v := .agg #[.int .i64 k, .int .i64 k2]) rfl (by intro w; kernel_rfl)) ?_
     refine nT ak (um (nT ak ?_))
     obtain ⟨bl, dz, br⟩ := TA dy
     refine OW (Lb := aw) (Lr := []) (vs := [.agg #[.int .i64 k, .int .i64 k2], .int .i64 (N5 EB x3)]) rfl rfl rfl fP (hy ah ((k, k2), N5 EB x3) bl (by rw [ai, br]) _ _ hG bk) ?_
     rintro eo ep ct bm cu; obtain ⟨eb, rfl, bu, bw⟩ := K7 cu
     replace aa := aa.mono (Au (Ar (Ac _)) (Au (Ac _) (Ac _))) bm
     replace hG := hG.trans bm
     refine nT ak (uv (BC rfl) (uv (AW (Bn rfl ak) rfl) (Aa ?_)))
     refine A5 rfl (fun cv => ?_) (fun cv => ?_)
     ·have cw := bw (by simpa using cv)
      refine Ao (AA (Ah (Ah (AA (AA (Ah (Ah (AA ?_))))))))
      refine Ju (.inl rfl) results187 (sr) ?_
      exact .inr (by rw [List.append_nil]; exact cw)
     have cx := bu (by simpa using cv)
     have bg : xs = (ah ++ [((k, k2), N5 EB x3)]) ++ bl := by rw [ai, br]; simp
     refine Aq (AD (id := 3) (Am ?_))
     refine uv (Bd rfl rfl (BL.Eg bd bp (Av.lt aa))) ?_
     refine um (Aa ?_)
     subst bo; exact le kr ⟨_, _, rfl, bq, ah ++ [((k, k2), N5 EB x3)], bl, ct, dz, (aq.trans bm), rfl, z8, bg, cx, hG⟩
    have Eg := Bg dk ak
    refine fF ak (fF ak (fF ak (fF ak (fF ak (fF ak (fF ak ?_))))))
    refine uv (AH (A8 rfl ak) rfl) (Aa ?_)
    refine A5 rfl (fun dm => nomatch dm) (fun dm => ?_)
    refine Aq (AD (id := 3) (Am ?_))
    refine uv (Bd rfl rfl (BL.Eg bd bp (Av.lt aa))) ?_
    refine um (Aa ?_)
    subst bo; exact le kr ⟨_, _, rfl, bq, ah, ao, aw, Eg, aq, rfl, z8, ai, bk, hG⟩
   obtain rfl := BL.zero bd bp
   rw [Dn] at cf
   refine AT (Af (Af ?_))
   refine Ay (AD (id := 1) ?_)
   exact mi kr ⟨ah, ao, aw, cf, aq, rfl, z5, ai, bk, hG⟩
  rintro e1 er _ ⟨ar, au, bc, dn, bx, rfl, cy, bh, cz, hG⟩
  refine AB _ cy ?_
  replace ad := ad.mono (Ar (Ac _)) bx
  rw [GR] at dn
  refine Am (uv (Bd rfl rfl (BL.Eg cg cd (Av.lt ad))) ?_)
  refine um (Aa ?_)
  subst dr; exact le kr ⟨_, _, rfl, cj, ar, au, bc, dn, (av.trans bx), rfl, z5, bh, cz, hG⟩
 obtain rfl := BL.zero cg cd
 rw [CL] at r8
 refine AT (Af (Af ?_))
 refine Ay (Ju (.inr rfl) results187 (sr) ?_)
 obtain rfl := AL r8
 exact .inl (by have e1 := ay; rw [List.append_nil] at e1; rw [List.append_nil, e1]; exact dd)
set_option maxHeartbeats 1000000 in
theorem M4 {Al : List (List Int)} {Ab : List ((List Int) × Int × Int)} (af : F MY = some (.cells ((([.slice AU walks.length AV] : List Value) ++ (([.slice Aw Al.length Ax] : List Value) ++ (([.int .i64 Ad] : List Value) ++ (([.int .i64 start] : List Value) ++ (([.slice Aj Ab.length Ai] : List Value) ++ (BS.flatMap (cI .i64) ++ (([.slice EF Cg.length ED] : List Value) ++ (IP.flatMap (cI .i64))))))))).toArray) 156 T4)) (ab : Av 1 (BK 1 (iE .i64)) F AU AV walks) (ad : Av 1 (BK 1 (iE .i64)) F Aw Ax Al) (aa : Av 3 (Br (BK 1 (iE .i64)) (Br (iE .i64) (iE .i64))) F Aj Ai Ab) (ah : BS.length = 25) (ae : Av 2 (Br (iE .i64) (iE .i64)) F EF ED Cg) (aj : IP.length = 15) {r : List ((Int × Int) × Int)} (hr : I4 walks Al Ad start Ab BS Cg IP EB = some r) :
    SH.Spec Tryz.prog 127 #[.pointer (some ⟨MY, 0, none⟩), .int .i64 EB] F [] fun F' L' v => ∃ (aq : Array Value), v = .func (.func 187) #[] aq ∧ L' = [] ∧ Hs Tryz.prog 187 #[] aq F' (fun x : (Int × Int) × Int => #[.agg ((cP (cI .i64) (cI .i64)) x.1).toArray, .int .i64 x.2]) r := by
 refine sp func127 ntmps127 fun K _ _ => ?_
 rw [I4] at hr
 refine AN ?_
 refine Bt rfl rfl ?_; intro b1 ar
 refine Bt rfl rfl ?_; intro b2 au
 refine ua (BX ?_)
 refine uv (BP rfl rfl) ?_
 refine ua (Aa ?_)
 refine Cs 1 rfl ar ?_; intro F3 ak ao
 refine E7 (L' := [(b2, ce #[.int .i64 EB] 3)]) rfl ?_
 replace ab := ab.mono (Ar (Ac _)) ak
 replace ad := ad.mono (Ar (Ac _)) ak
 replace aa := aa.mono (Au (Ar (Ac _)) (Au (Ac _) (Ac _))) ak
 replace ae := ae.mono (Au (Ac _) (Ac _)) ak
 replace af := ak _ _ af
 refine Cs 0 rfl au ?_; intro F6 ai av
 refine E7 (L' := []) rfl ?_
 replace ab := ab.mono (Ar (Ac _)) ai
 replace ad := ad.mono (Ar (Ac _)) ai
 replace aa := aa.mono (Au (Ar (Ac _)) (Au (Ac _) (Ac _))) ai
 replace ae := ae.mono (Au (Ac _) (Ac _)) ai
 replace af := ai _ _ af
 replace ao := ai _ _ ao
 obtain ⟨l, h9, aw⟩ := AG hr
 have al : Hs Tryz.prog 187 #[] #[.pointer (some ⟨b1, 0, none⟩), .pointer (some ⟨b2, 0, none⟩)] F6 (fun x : (Int × Int) × Int => #[.agg ((cP (cI .i64) (cI .i64)) x.1).toArray, .int .i64 x.2]) l := Mz ao af ab ad aa ah ae aj av h9
 refine Ao (BU results127 ?_)
 obtain rfl := AL aw
 exact ⟨_, rfl, rfl, al⟩
set_option maxHeartbeats 1000000 in
theorem ID {s_ : List (Int × Int)} (ah : Be H6 64 2 (Br (iE .i64) (iE .i64)) F B0 FB BY s_ HP) {r : List (Int × Int)} (hr : D5 s_ = some r) :
    SH.Spec Tryz.prog 128 #[.slice B0 FB BY] F (HP ++ []) fun F' L' v => ∃ (rL : LH), v = .tuple #[] ∧ L' = rL ++ [] ∧ Be H6 64 2 (Br (iE .i64) (iE .i64)) F' B0 FB BY r rL := by
 refine sp func128 ntmps128 fun K _ _ => ?_
 rw [D5] at hr
 refine E7 (L' := HP ++ []) (by simp) ?_
 refine AN (um ?_)
 refine uv ((A7 underlying51 rfl).i (Be.Kw ah)) ?_
 obtain ⟨g1, r2⟩ := A1 hr
 refine uv (Fa rfl rfl g1) ?_
 refine ua (ua (Aa ?_))
 refine Ap ?_
 refine Bh (fun ao e1 F1 L1 => ∃ (aq : List (Int × Int)) (i : Int) (j : Int) (aa : LH), B9 ao aq i j = some r ∧ F = F1 ∧ L1 = (aa ++ []) ∧ e1.sub [(0, .slice B0 FB BY), (2, .int .i64 i), (3, .int .i64 j)] ∧ Be H6 64 2 (Br (iE .i64) (iE .i64)) F1 B0 FB BY aq aa) FU (m0 kr ⟨s_, 0, (s_.length : Int) - 1, HP, r2, rfl, rfl, z3, ah⟩) ?_
 rintro ao e1 _ _ ⟨aq, i, j, aa, r7, rfl, rfl, bp, ab⟩
 refine AB _ bp ?_
 rcases ao with _ | ao
 ·rw [B9] at r7; cases r7
 rw [B9] at r7
 refine As (AN (um (um ?_)))
 refine uv (Bb rfl rfl) (Aa ?_)
 refine cQ (fun c9 => ?_) fun c9 => ?_
 ·have bq := Bf r7 c9
  refine Aq (As ?_)
  refine Ap (Dp [(.still, 0), (.still, 1), (.still, 2), (.still, 3), (.still, 4), (.still, 5), (.still, 6), (.still, 7), (.still, 8), (.still, 9), (.still, 10), (.still, 11), (.still, 12), (.seq, 13), (.still, 14), (.seq, 15)] (by kernel_rfl) (by kernel_rfl) (trivial) (by rfl) (by kernel_rfl) (mS [0] rfl (Bw rfl) (mS [2] rfl (Bw rfl) (mS [0] rfl (Bw rfl) (mS [3] rfl (Bw rfl) (mS [0] rfl (Bw rfl) (mS [3] rfl (Bw rfl) ?_)))))))
  obtain ⟨x, bm, ar, br⟩ := Bx bq
  obtain ⟨df, dg, dh, bu, au, av, ad, ⟨_, _, rfl, rfl, rfl⟩, aw, ax⟩ := Be.at (Au (Ac _) (Ac _)) ab (L := aa ++ []) fP bm.1 ar
  refine mS [18, 19] rfl (AK underlying51 sizeOf64 rfl au rfl (Be.idx ab bm)) (mL [20] (aa ++ []) rfl (s0 sr) (fun H F' L' ay az => AS isAgg64 sizeOf64 rfl (av.ext ay az) ad (BB ad aw ax)) (mS [0] rfl (Bw rfl) (mS [2] rfl (Bw rfl) ?_)))
  obtain ⟨x2, ai, aj, bw⟩ := Bx br
  obtain ⟨di, dk, dm, bx, ba, bb, ae, ⟨_, _, rfl, rfl, rfl⟩, bc, bd⟩ := Be.at (Au (Ac _) (Ac _)) ab (L := aa ++ []) fP ai.1 aj
  refine mS [22, 23] rfl (AK underlying51 sizeOf64 rfl ba rfl (Be.idx ab ai)) (mL [24] (aa ++ []) rfl (s0 sr) (fun H F' L' ay az => AS isAgg64 sizeOf64 rfl (bb.ext ay az) ae (BB ae bc bd)) ?_)
  obtain ⟨bz, ca, dn, cb, ak, cd, bn, ⟨_, _, rfl, rfl, rfl⟩, cf, cg⟩ := Be.at (Au (Ac _) (Ac _)) ab (L := aa ++ []) fP ai.1 aj
  refine mS [14, 15] rfl (AK underlying51 sizeOf64 rfl ak rfl (Be.idx ab ai)) ?_
  refine ⟨_, [(21, .agg #[.int .i64 x.1, .int .i64 x.2]), (26, .pointer (some ⟨bz, ca + (i : Int).toNat * 2, none⟩))], rfl, rfl, z2, by kernel_rfl, ?_⟩; intro H
  obtain ⟨l, cj, ck⟩ := CH bw
  refine Gp (u := (x.1, x.2)) sizeOf64 (Au (Ac _) (Ac _)) rfl ak rfl ⟨_, _, rfl, rfl, rfl⟩ (fun _ => .h) ab cj ai ?_; intro bg af
  refine Aa ⟨undef, rfl, A3.refl _, [3, 2], by kernel_rfl, .inl (.inr (fun d h => by cases h)), (fc sm (fc sm nm)), ?_⟩
  obtain ⟨x3, bh, bj, cn⟩ := Bx ck
  obtain ⟨cp, cq, dp, ct, al, cu, bo, ⟨_, _, rfl, rfl, rfl⟩, cv, cw⟩ := Be.at (Au (Ac _) (Ac _)) af (L := bg ++ []) fP bh.1 bj
  refine mS [16, 17] rfl (AK underlying51 sizeOf64 rfl al rfl (Be.idx af bh)) ?_
  refine ⟨_, [(25, .agg #[.int .i64 x2.1, .int .i64 x2.2]), (27, .pointer (some ⟨cp, cq + (j : Int).toNat * 2, none⟩))], rfl, rfl, z2, by kernel_rfl, ?_⟩; intro H
  obtain ⟨l2, cx, cy⟩ := CH cn
  refine Gp (u := (x2.1, x2.2)) sizeOf64 (Au (Ac _) (Ac _)) rfl al rfl ⟨_, _, rfl, rfl, rfl⟩ (fun _ => .h) af cx bh ?_; intro bk bl
  refine Aa ⟨undef, rfl, A3.refl _, [], by kernel_rfl, .inl (.inl rfl), nm, ?_⟩
  refine Ff ?_
  refine AD (id := 1) (Am (um ?_))
  obtain ⟨cz, da⟩ := A1 cy
  refine uv (Bd rfl rfl cz) (um ?_)
  obtain ⟨db, dd⟩ := A1 da
  refine uv (Fa rfl rfl db) ?_
  refine ua (ua (Aa ?_))
  exact le kr ⟨l2, i + 1, j - 1, bk, dd, rfl, rfl, z3, bl⟩
 have de := Bg r7 c9
 refine AT (Af (Af ?_))
 refine Ay (QS (.inr rfl) results128 ?_)
 obtain rfl := AL de
 exact ⟨_, rfl, rfl, ab⟩
set_option maxHeartbeats 1000000 in
theorem NO {Al : List (List Int)} {Ab : List ((List Int) × Int × Int)} {ba : FuncId} {bb bc : Array Value} {ok : (Int × Int) → Option Bool} (ao : F MY = some (.cells ((([.slice AU walks.length AV] : List Value) ++ (([.slice Aw Al.length Ax] : List Value) ++ (([.int .i64 Ad] : List Value) ++ (([.int .i64 start] : List Value) ++ (([.slice Aj Ab.length Ai] : List Value) ++ (BS.flatMap (cI .i64) ++ (([.slice EF Cg.length ED] : List Value) ++ (IP.flatMap (cI .i64))))))))).toArray) 156 T4)) (av : Av 1 (BK 1 (iE .i64)) F AU AV walks) (ai : Av 1 (BK 1 (iE .i64)) F Aw Ax Al) (ah : Av 3 (Br (BK 1 (iE .i64)) (Br (iE .i64) (iE .i64))) F Aj Ai Ab) (aw : BS.length = 25) (ax : Av 2 (Br (iE .i64) (iE .i64)) F EF ED Cg) (eo : IP.length = 15) (bh : HG Tryz.prog F ba bb bc (Br (iE .i64) (iE .i64)) Value.bool ok) {r : List (Int × Int)} {r2 : Int} {r3 : Bool} (hr : Jt walks Al Ad start Ab BS Cg IP EB ok = some (r, r2, r3)) :
    SH.Spec Tryz.prog 52 #[.pointer (some ⟨MY, 0, none⟩), .int .i64 EB, .agg #[.func (.func ba) bb bc]] F [] fun F' L' v => ∃ (ra : Option Addr) (rn : Nat) (rc : Nat) (rL : LH), v = .tuple #[.slice ra rn rc, .int .i64 r2, .bool r3] ∧ L' = rL ++ [] ∧ Be 0 64 2 (Br (iE .i64) (iE .i64)) F' ra rn rc r rL := by
 refine sp func52 ntmps52 fun K _ _ => ?_
 rw [Jt] at hr
 refine AN ?_
 refine Bt rfl rfl ?_; intro b1 oj
 refine Bt rfl rfl ?_; intro b2 oo
 refine ua (ua (ua (BX ?_)))
 refine LX rfl ?_; intro b3 oq
 refine uv (An isAgg147 rfl (Has.own 2 rfl) rfl) (uv (A2 rfl) (uv (Ae K6 rfl) (uv (Ae Vb rfl) (uv (An isAgg3 rfl (Has.frozen ao) (E8 (At (A := ([.slice AU walks.length AV] : List Value)) (k := 1) (o := 2) rfl (At (A := ([.slice Aw Al.length Ax] : List Value)) (k := 1) (o := 1) rfl (At (A := ([.int .i64 Ad] : List Value)) (k := 1) (o := 0) rfl (Bm (B := ([.slice Aj Ab.length Ai] : List Value) ++ (BS.flatMap (cI .i64) ++ (([.slice EF Cg.length ED] : List Value) ++ (IP.flatMap (cI .i64))))) rfl)))))) (um ?_)))))
 refine uv (BH (v := .agg #[.int .i64 start, .int .i64 EB]) rfl (by intro w; kernel_rfl)) ?_
 refine uv (BH (v := .agg #[.int .i64 0, .int .i64 0, .int .i64 0, .int .i64 0, .int .i64 0]) rfl (by intro w; kernel_rfl)) ?_
 refine Ni (i := 0) (k := (start, EB)) (v := (0, 0, 0, 0, 0)) underlying268 NB rfl rfl rfl rfl (show Ih (vA (cP (cI .i64) (cI .i64))) (vA (cP (cI .i64) (cP (cI .i64) (cP (cI .i64) (cP (cI .i64) (cI .i64)))))) #[] ([] : List ((Int × Int) × (Int × Int × Int × Int × Int))) from Ih.nil) ?_; intro mb mc ju
 obtain ⟨met, h7, r8⟩ := CH hr
 rw [← h7] at ju
 refine AI rfl (um ?_)
 refine Bo rfl zeroValue268 ?_; intro b9 ot
 refine Cv (i := 0) sizeOf268 rfl rfl rfl rfl (CK rfl) (AI rfl (Aa ?_))
 obtain ⟨ae, me, jv⟩ := AG r8
 refine A0 (fun e1 F1 L1 => ∃ (bj : Array MapEntry) (bw : Nat), A3 F F1 ∧ L1 = [(b9, ce #[.map (some b3)] 268), (b3, .map bj bw), (b1, ce #[.pointer (some ⟨MY, 0, none⟩)] 147)] ∧ e1.sub [(1, .int .i64 EB), (3, .pointer (some ⟨b1, 0, none⟩)), (9, .pointer (some ⟨b9, 0, none⟩))] ∧ Ih (vA (cP (cI .i64) (cI .i64))) (vA (cP (cI .i64) (cP (cI .i64) (cP (cI .i64) (cP (cI .i64) (cI .i64)))))) bj ae) ?_ ?_
 ·clear jv
  refine AN (um (ua (Aa ?_)))
  refine Ap ?_
  refine Bh (fun gg e1 F1 L1 => ∃ (cg : List ((Int × Int) × (Int × Int × Int × Int × Int))) (ab : Int) (bx : Array MapEntry) (bz : Nat), EU walks Al Ad start Ab BS Cg IP EB ok gg cg ab = some ae ∧ A3 F F1 ∧ L1 = [(b9, ce #[.map (some b3)] 268), (b3, .map bx bz), (b2, ce #[.func (.func ba) bb bc] 164), (b1, ce #[.pointer (some ⟨MY, 0, none⟩)] 147)] ∧ e1.sub [(1, .int .i64 EB), (3, .pointer (some ⟨b1, 0, none⟩)), (5, .pointer (some ⟨b2, 0, none⟩)), (9, .pointer (some ⟨b9, 0, none⟩)), (10, .int .i64 ab)] ∧ Ih (vA (cP (cI .i64) (cI .i64))) (vA (cP (cI .i64) (cP (cI .i64) (cP (cI .i64) (cP (cI .i64) (cI .i64)))))) bx cg) FU (m0 kr ⟨met, EB, mb, mc, me, A3.refl _, rfl, z5, ju⟩) ?_
  rintro gg e1 jw _ ⟨cg, ab, bx, bz, ep, bl, rfl, gm, dk⟩
  refine AB _ gm ?_
  replace av := av.mono (Ar (Ac _)) bl
  replace ai := ai.mono (Ar (Ac _)) bl
  replace ah := ah.mono (Au (Ar (Ac _)) (Au (Ac _) (Ac _))) bl
  replace ax := ax.mono (Au (Ac _) (Ac _)) bl
  replace bh := bh.mono bl
  replace ao := bl _ _ ao
  rcases gg with _ | gg
  ·rw [EU] at ep; cases ep
  rw [EU] at ep
  refine As (AN (um ?_))
  refine uv (KS rfl rfl) (Aa ?_)
  refine cQ (fun gn => ?_) fun gn => ?_
  ·have mg := Bf ep gn
   refine Aq ?_
   obtain ⟨dm, jx, jz⟩ := AG mg
   refine A0 (fun e1 F1 L1 => ∃ (cj : Array MapEntry) (dn : Nat), A3 jw F1 ∧ L1 = [(b9, ce #[.map (some b3)] 268), (b3, .map cj dn), (b2, ce #[.func (.func ba) bb bc] 164), (b1, ce #[.pointer (some ⟨MY, 0, none⟩)] 147)] ∧ e1.sub [(1, .int .i64 EB), (3, .pointer (some ⟨b1, 0, none⟩)), (5, .pointer (some ⟨b2, 0, none⟩)), (9, .pointer (some ⟨b9, 0, none⟩)), (10, .int .i64 ab)] ∧ Ih (vA (cP (cI .i64) (cI .i64))) (vA (cP (cI .i64) (cP (cI .i64) (cP (cI .i64) (cP (cI .i64) (cI .i64)))))) cj dm) ?_ ?_
   ·clear jz
    refine Ap ?_
    refine As (AN (um (um ?_)))
    refine uv (TW rfl rfl) (uv (B7 rfl rfl) (Aa ?_))
    refine cQ (fun gp => ?_) fun gp => ?_
    ·have mh := Bf jx gp
     refine AT (Af ?_)
     refine Ay ?_
     obtain rfl := AL mh
     exact mi kr ⟨bx, bz, A3.refl _, rfl, z5, dk⟩
    have mj := Bg jx gp
    refine Aq (AN ?_)
    refine uv (An isAgg147 rfl (Has.own 3 rfl) rfl) (uv (A2 rfl) (uv (Ae K6 rfl) (uv (Ae Mw rfl) (uv (An isAgg36 rfl (Has.frozen ao) (E8 (At (A := ([.slice AU walks.length AV] : List Value)) (k := 1) (o := 0) rfl (Bm (B := ([.int .i64 Ad] : List Value) ++ (([.int .i64 start] : List Value) ++ (([.slice Aj Ab.length Ai] : List Value) ++ (BS.flatMap (cI .i64) ++ (([.slice EF Cg.length ED] : List Value) ++ (IP.flatMap (cI .i64))))))) rfl)))) (uv (A7 underlying36 rfl) ?_)))))
    refine um (Aa ?_)
    refine Ap ?_
    refine Bh (fun kb e1 F1 L1 => LA Al kb fun tl k => ∃ (af : List ((Int × Int) × (Int × Int × Int × Int × Int))) (bo : Array MapEntry) (ca : Nat), E4 walks Al Ad start Ab BS Cg IP ok ab tl k af = some dm ∧ A3 jw F1 ∧ L1 = [(b9, ce #[.map (some b3)] 268), (b3, .map bo ca), (b2, ce #[.func (.func ba) bb bc] 164), (b1, ce #[.pointer (some ⟨MY, 0, none⟩)] 147)] ∧ e1.sub [(1, .int .i64 EB), (3, .pointer (some ⟨b1, 0, none⟩)), (5, .pointer (some ⟨b2, 0, none⟩)), (9, .pointer (some ⟨b9, 0, none⟩)), (10, .int .i64 ab), (53, .int .i64 (Al.length : Int)), (54, .int .i64 k)] ∧ Ih (vA (cP (cI .i64) (cI .i64))) (vA (cP (cI .i64) (cP (cI .i64) (cP (cI .i64) (cP (cI .i64) (cI .i64)))))) bo af) _ (m0 kr ⟨_, _, rfl, BL.start _, cg, bx, bz, mj, A3.refl _, rfl, z7, dk⟩) ?_
    rintro kb e1 ml _ ⟨tl, k, gq, dp, af, bo, ca, gh, bm, rfl, gr, ck⟩
    refine AB _ gr ?_
    replace av := av.mono (Ar (Ac _)) bm
    replace ai := ai.mono (Ar (Ac _)) bm
    replace ah := ah.mono (Au (Ar (Ac _)) (Au (Ac _) (Ac _))) bm
    replace ax := ax.mono (Au (Ac _) (Ac _)) bm
    replace bh := bh.mono bm
    replace ao := bm _ _ ao
    refine AN (uv (Bb rfl rfl) ?_)
    refine Aa (As ?_)
    refine cQ (fun gk => ?_) fun gk => ?_
    ·obtain ⟨x, ou, rfl, mn, ow, gu⟩ := BL.succ dp gk
     rw [E4] at gh
     refine Aq ?_
     obtain ⟨dq, kh, kj⟩ := AG gh
     refine A0 (fun e1 F1 L1 => ∃ (cn : Array MapEntry) (dr : Nat), A3 ml F1 ∧ L1 = [(b9, ce #[.map (some b3)] 268), (b3, .map cn dr), (b2, ce #[.func (.func ba) bb bc] 164), (b1, ce #[.pointer (some ⟨MY, 0, none⟩)] 147)] ∧ e1.sub [(1, .int .i64 EB), (3, .pointer (some ⟨b1, 0, none⟩)), (5, .pointer (some ⟨b2, 0, none⟩)), (9, .pointer (some ⟨b9, 0, none⟩)), (10, .int .i64 ab), (53, .int .i64 (Al.length : Int)), (54, .int .i64 k)] ∧ Ih (vA (cP (cI .i64) (cI .i64))) (vA (cP (cI .i64) (cP (cI .i64) (cP (cI .i64) (cP (cI .i64) (cI .i64)))))) cn dq) ?_ ?_
     ·clear kj
      refine Ap ?_
      refine AN (um ?_)
      refine Bo rfl zeroValue3 ?_; intro cx mo
      refine Cv (i := 0) sizeOf3 rfl rfl rfl rfl (CK rfl) (AI rfl (BX (uv (An isAgg3 rfl (Has.own 0 rfl) rfl) (um ?_))))
      refine uv (BH (v := .agg #[.int .i64 k, .int .i64 ab]) rfl (by intro w; kernel_rfl)) ?_
      refine Bo rfl zeroValue265 ?_; intro cy mq
      refine B1 (i := 0) sizeOf265 rfl rfl rfl (by simp [Value.oneCell']) rfl (CK rfl) (AI rfl (BX (uv (An isAgg268 rfl (Has.own 2 rfl) rfl) (uv (AS (cs := #[.int .i64 k, .int .i64 ab]) isAgg265 sizeOf265 rfl (Has.own 0 rfl) (CK rfl) rfl) (uv (Gs.eq (v' := .tuple #[.agg #[.int .i64 (((Bz af (k, ab)).getD (0, 0, 0, 0, 0)).1), .int .i64 (((Bz af (k, ab)).getD (0, 0, 0, 0, 0)).2.1), .int .i64 (((Bz af (k, ab)).getD (0, 0, 0, 0, 0)).2.2.1), .int .i64 (((Bz af (k, ab)).getD (0, 0, 0, 0, 0)).2.2.2.1), .int .i64 (((Bz af (k, ab)).getD (0, 0, 0, 0, 0)).2.2.2.2)], .bool ((Bz af (k, ab)).isSome)]) (OJ (k := (k, ab)) (z0 := (0, 0, 0, 0, 0)) rfl underlying268 NB zeroValue267 rfl rfl (MR.own 3 rfl) (show Ih (vA (cP (cI .i64) (cI .i64))) (vA (cP (cI .i64) (cP (cI .i64) (cP (cI .i64) (cP (cI .i64) (cI .i64)))))) bo (af : List ((Int × Int) × (Int × Int × Int × Int × Int))) from ck)) rfl) ?_)))))
      refine um (ox rfl rfl rfl (ox rfl rfl rfl ?_))
      refine Bo rfl zeroValue267 ?_; intro cz mr
      refine B1 (i := 0) sizeOf267 rfl rfl rfl (by simp [Value.oneCell']) rfl (CK rfl) (AI rfl ?_)
      refine ua (Aa (As (AN (um ?_))))
      refine uv (BC rfl) (Aa ?_)
      refine A5 rfl (fun gv => ?_) (fun gv => ?_)
      ·have mu := bt kh gv
       refine AT (Af ?_)
       refine Ay ?_
       obtain rfl := AL mu
       exact mi (kd (kd (kd kr))) ⟨bo, ca, A3.refl _, rfl, z7, ck⟩
      have mv := bf kh gv
      refine Aq (AN ?_)
      refine uv (An isAgg147 rfl (Has.own 6 rfl) rfl) (um ?_)
      obtain ⟨y, mw, mx⟩ := AG mv
      refine c0 call127 (M4 ao av ai ah aw ax eo mw) ?_; rintro _ oy _ cp my ⟨mz, rfl, rfl, er⟩
      replace ah := ah.mono (Au (Ar (Ac _)) (Au (Ac _) (Ac _))) cp
      replace bh := bh.mono cp
      replace ao := cp _ _ ao
      refine AI (ln rfl) (Aa (Ap ?_))
      refine J0 (encs := (fun x : (Int × Int) × Int => #[.agg ((cP (cI .i64) (cI .i64)) x.1).toArray, .int .i64 x.2])) (xs := y) rfl call187 rfl (fun _ => rfl) er (fun pre F1 L1 => ∃ (en : List ((Int × Int) × Int)) (ak : List ((Int × Int) × (Int × Int × Int × Int × Int))) (aq : Array MapEntry) (bd : Nat), y = pre ++ en ∧ Dq Ab BS ok ab af k en ak = some dq ∧ L1 = [(cz, ce #[.int .i64 (((Bz af (k, ab)).getD (0, 0, 0, 0, 0)).1), .int .i64 (((Bz af (k, ab)).getD (0, 0, 0, 0, 0)).2.1), .int .i64 (((Bz af (k, ab)).getD (0, 0, 0, 0, 0)).2.2.1), .int .i64 (((Bz af (k, ab)).getD (0, 0, 0, 0, 0)).2.2.2.1), .int .i64 (((Bz af (k, ab)).getD (0, 0, 0, 0, 0)).2.2.2.2)] 267), (cy, ce #[.int .i64 k, .int .i64 ab] 265), (cx, ce #[.int .i64 k] 3), (b9, ce #[.map (some b3)] 268), (b3, .map aq bd), (b2, ce #[.func (.func ba) bb bc] 164), (b1, ce #[.pointer (some ⟨MY, 0, none⟩)] 147)] ∧ Ih (vA (cP (cI .i64) (cI .i64))) (vA (cP (cI .i64) (cP (cI .i64) (cP (cI .i64) (cP (cI .i64) (cI .i64)))))) aq ak) (fun _ _ _ => False) ?_ ?_ ?_ ?_ ?_ ?_
      ·rintro pre F1 F2 L1 ⟨en, ak, aq, bd, cb, na, rfl, bn⟩ hx; exact ⟨en, ak, aq, bd, cb, na, rfl, bn⟩
      ·intro c F1 F2 L1 h hx; exact h
      ·exact ⟨_, af, bo, ca, rfl, mx, rfl, ck⟩
      ·rintro oz nc nd nf ng nh kl ni pre x2 p0 bp p3 _ dt ⟨en, ak, aq, bd, cb, km, rfl, bn⟩
       obtain rfl := NI cb bp
       rw [Dq] at km
       replace ah := ah.mono (Au (Ar (Ac _)) (Au (Ac _) (Ac _))) dt
       replace bh := bh.mono dt
       replace ao := dt _ _ ao
       refine AB [(1, .int .i64 EB), (3, .pointer (some ⟨b1, 0, none⟩)), (5, .pointer (some ⟨b2, 0, none⟩)), (9, .pointer (some ⟨b9, 0, none⟩)), (10, .int .i64 ab), (11, .pointer (some ⟨cx, 0, none⟩)), (12, .pointer (some ⟨cy, 0, none⟩)), (13, .pointer (some ⟨cz, 0, none⟩)), (53, .int .i64 (Al.length : Int)), (54, .int .i64 k), (71, .agg #[.int .i64 x2.1.1, .int .i64 x2.1.2]), (72, .int .i64 x2.2)] (by exact (sc rfl (sc rfl (sc rfl (sc rfl z8))))) (AN ?_)
       refine Bo rfl zeroValue64 ?_; intro gw nj
       refine B1 (i := 0) sizeOf64 rfl rfl rfl (by simp [Value.oneCell']) rfl (CK rfl) (AI rfl ?_)
       refine Aa (Am (ua (Aa ?_)))
       refine ⟨rfl, ?_⟩
       refine Ap (dW (wv (An isAgg147 rfl (Has.own 7 rfl) rfl) (wv (An isAgg3 rfl (Has.own 3 rfl) rfl) (wv (Ae UK rfl) (wv (An isAgg3 rfl (Has.own 0 rfl) rfl) (wv (A2 rfl) (wv (Ae Mh rfl) ?_)))))))
       obtain ⟨ko, nk⟩ := A1 km
       refine wv (Bj underlying152 sizeOf150 rfl rfl ko) ?_
       obtain ⟨kt, np⟩ := A1 nk
       obtain ⟨x3, p4, gz, ku⟩ := Bx np
       have ia : (k * 5 + x2.1.1 : Int).toNat = (k : Int).toNat * 5 + (x2.1.1 : Int).toNat := by have := ko; have := kt; omega
       have ib := Jh (A4 .i64) aw ia gz (FY (At (A := ([.slice AU walks.length AV] : List Value)) (k := 1) (o := 4) rfl (At (A := ([.slice Aw Al.length Ax] : List Value)) (k := 1) (o := 3) rfl (At (A := ([.int .i64 Ad] : List Value)) (k := 1) (o := 2) rfl (At (A := ([.int .i64 start] : List Value)) (k := 1) (o := 1) rfl (At (A := ([.slice Aj Ab.length Ai] : List Value)) (k := 1) (o := 0) rfl (Bm (B := ([.slice EF Cg.length ED] : List Value) ++ (IP.flatMap (cI .i64))) (DM (A4 .i64) aw)))))))) (Eb (At (A := ([.slice AU walks.length AV] : List Value)) (k := 1) (o := 4) rfl (At (A := ([.slice Aw Al.length Ax] : List Value)) (k := 1) (o := 3) rfl (At (A := ([.int .i64 Ad] : List Value)) (k := 1) (o := 2) rfl (At (A := ([.int .i64 start] : List Value)) (k := 1) (o := 1) rfl (At (A := ([.slice Aj Ab.length Ai] : List Value)) (k := 1) (o := 0) rfl (Bm (B := ([.slice EF Cg.length ED] : List Value) ++ (IP.flatMap (cI .i64))) (DM (A4 .i64) aw))))))))
       refine wv (Bj underlying150 sizeOf3 rfl rfl kt) (wv (An isAgg3 rfl (Has.frozen ao) ((ib).2.2 0 (by decide))) ?_)
       refine wa (CQ (As (AN (um ?_))))
       refine uv (CR rfl rfl) (Aa ?_)
       refine cQ (fun ic => ?_) fun ic => ?_
       ·have nq := Bf ku ic
        refine AT (Af ?_)
        refine Ay ?_
        refine ⟨[(cz, ce #[.int .i64 (((Bz af (k, ab)).getD (0, 0, 0, 0, 0)).1), .int .i64 (((Bz af (k, ab)).getD (0, 0, 0, 0, 0)).2.1), .int .i64 (((Bz af (k, ab)).getD (0, 0, 0, 0, 0)).2.2.1), .int .i64 (((Bz af (k, ab)).getD (0, 0, 0, 0, 0)).2.2.2.1), .int .i64 (((Bz af (k, ab)).getD (0, 0, 0, 0, 0)).2.2.2.2)] 267), (cy, ce #[.int .i64 k, .int .i64 ab] 265), (cx, ce #[.int .i64 k] 3), (b9, ce #[.map (some b3)] 268), (b3, .map aq bd), (b2, ce #[.func (.func ba) bb bc] 164), (b1, ce #[.pointer (some ⟨MY, 0, none⟩)] 147)], ⟨_, .refl _, s1 (s2 (s2 (s2 (s2 (s2 (s2 (s2 sr)))))))⟩, ?_⟩; exact ⟨_, ak, aq, bd, (by rw [bp]; simp), nq, rfl, bn⟩
       have nr := Bg ku ic
       refine Aq (dW (wv (Ae OP rfl) (wv (An isAgg3 rfl (Has.own 1 rfl) rfl) (wm ?_))))
       obtain ⟨ns, nt⟩ := A1 nr
       refine wv (Bd rfl rfl ns) (wv (An isAgg147 rfl (Has.own 7 rfl) rfl) (wv (A2 rfl) (wv (Ae K6 rfl) (wv (Ae Nz rfl) (wv (An isAgg37 rfl (Has.frozen ao) (E8 (At (A := ([.slice AU walks.length AV] : List Value)) (k := 1) (o := 3) rfl (At (A := ([.slice Aw Al.length Ax] : List Value)) (k := 1) (o := 2) rfl (At (A := ([.int .i64 Ad] : List Value)) (k := 1) (o := 1) rfl (At (A := ([.int .i64 start] : List Value)) (k := 1) (o := 0) rfl (Bm (B := BS.flatMap (cI .i64) ++ (([.slice EF Cg.length ED] : List Value) ++ (IP.flatMap (cI .i64)))) rfl))))))) (wv (Ae UB rfl) (wv (An isAgg3 rfl (Has.own 0 rfl) rfl) ?_)))))))
       obtain ⟨x4, kv, eu, ie⟩ := Bx nt
       obtain ⟨nu, nv, nw, kz, ew, ey, ig, ⟨_, _, rfl, ⟨ny, nz, rfl, o2⟩, ⟨_, _, rfl, rfl, rfl⟩⟩, l0, ez⟩ := Av.at (Au (Ar (Ac _)) (Au (Ac _) (Ac _))) ah ([(gw, ce #[.int .i64 x2.1.1, .int .i64 x2.1.2] 64), (cz, ce #[.int .i64 (((Bz af (k, ab)).getD (0, 0, 0, 0, 0)).1), .int .i64 (((Bz af (k, ab)).getD (0, 0, 0, 0, 0)).2.1), .int .i64 (((Bz af (k, ab)).getD (0, 0, 0, 0, 0)).2.2.1), .int .i64 (((Bz af (k, ab)).getD (0, 0, 0, 0, 0)).2.2.2.1), .int .i64 (((Bz af (k, ab)).getD (0, 0, 0, 0, 0)).2.2.2.2)] 267), (cy, ce #[.int .i64 k, .int .i64 ab] 265), (cx, ce #[.int .i64 k] 3), (b9, ce #[.map (some b3)] 268), (b3, .map aq bd), (b2, ce #[.func (.func ba) bb bc] 164), (b1, ce #[.pointer (some ⟨MY, 0, none⟩)] 147)]) kv.1 eu
       refine wv (AK underlying37 sizeOf41 rfl ew rfl kv) (wv (Ae UH rfl) (wv (An isAgg3 rfl ey (ez 1 (by decide))) ?_))
       obtain ⟨ij, ik⟩ := A1 ie
       refine wv (Bd rfl rfl ij) ?_
       obtain ⟨end_, il, im⟩ := CH ik
       refine wv ((K3 rfl).i il) (ZJ (uv (Ae UK rfl) (uv (An isAgg3 rfl (Has.own 0 rfl) rfl) (um ?_))))
       refine uv (BH (v := .agg #[.int .i64 x2.1.1, .int .i64 x2.2]) rfl (by intro w; kernel_rfl)) ?_
       refine Bo rfl zeroValue265 ?_; intro fa ld
       refine B1 (i := 0) sizeOf265 rfl rfl rfl (by simp [Value.oneCell']) rfl (CK rfl) (AI rfl (BX (uv (An isAgg268 rfl (Has.own 5 rfl) rfl) (uv (AS (cs := #[.int .i64 x2.1.1, .int .i64 x2.2]) isAgg265 sizeOf265 rfl (Has.own 0 rfl) (CK rfl) rfl) (uv (Gs.eq (v' := .tuple #[.agg #[.int .i64 (((Bz ak (x2.1.1, x2.2)).getD (0, 0, 0, 0, 0)).1), .int .i64 (((Bz ak (x2.1.1, x2.2)).getD (0, 0, 0, 0, 0)).2.1), .int .i64 (((Bz ak (x2.1.1, x2.2)).getD (0, 0, 0, 0, 0)).2.2.1), .int .i64 (((Bz ak (x2.1.1, x2.2)).getD (0, 0, 0, 0, 0)).2.2.2.1), .int .i64 (((Bz ak (x2.1.1, x2.2)).getD (0, 0, 0, 0, 0)).2.2.2.2)], .bool ((Bz ak (x2.1.1, x2.2)).isSome)]) (OJ (k := (x2.1.1, x2.2)) (z0 := (0, 0, 0, 0, 0)) rfl underlying268 NB zeroValue267 rfl rfl (MR.own 6 rfl) (show Ih (vA (cP (cI .i64) (cI .i64))) (vA (cP (cI .i64) (cP (cI .i64) (cP (cI .i64) (cP (cI .i64) (cI .i64)))))) aq (ak : List ((Int × Int) × (Int × Int × Int × Int × Int))) from bn)) rfl) ?_)))))
       refine um (ox rfl rfl rfl (ox rfl rfl rfl ?_))
       refine Bo rfl zeroValue267 ?_; intro o3 lg
       refine B1 (i := 0) sizeOf267 rfl rfl rfl (by simp [Value.oneCell']) rfl (CK rfl) (AI rfl ?_)
       refine ua (Aa ?_)
       obtain ⟨k2, iq, du⟩ := AG im
       refine jE ([(fa, ce #[.int .i64 x2.1.1, .int .i64 x2.2] 265), (gw, ce #[.int .i64 x2.1.1, .int .i64 x2.1.2] 64), (cz, ce #[.int .i64 (((Bz af (k, ab)).getD (0, 0, 0, 0, 0)).1), .int .i64 (((Bz af (k, ab)).getD (0, 0, 0, 0, 0)).2.1), .int .i64 (((Bz af (k, ab)).getD (0, 0, 0, 0, 0)).2.2.1), .int .i64 (((Bz af (k, ab)).getD (0, 0, 0, 0, 0)).2.2.2.1), .int .i64 (((Bz af (k, ab)).getD (0, 0, 0, 0, 0)).2.2.2.2)] 267), (cy, ce #[.int .i64 k, .int .i64 ab] 265), (cx, ce #[.int .i64 k] 3), (b9, ce #[.map (some b3)] 268), (b3, .map aq bd), (b2, ce #[.func (.func ba) bb bc] 164), (b1, ce #[.pointer (some ⟨MY, 0, none⟩)] 147)]) [(1, .int .i64 EB), (3, .pointer (some ⟨b1, 0, none⟩)), (5, .pointer (some ⟨b2, 0, none⟩)), (9, .pointer (some ⟨b9, 0, none⟩)), (10, .int .i64 ab), (11, .pointer (some ⟨cx, 0, none⟩)), (12, .pointer (some ⟨cy, 0, none⟩)), (13, .pointer (some ⟨cz, 0, none⟩)), (15, .pointer (some ⟨gw, 0, none⟩)), (18, .int .i64 end_), (19, .pointer (some ⟨fa, 0, none⟩)), (53, .int .i64 (Al.length : Int)), (54, .int .i64 k), (71, .agg #[.int .i64 x2.1.1, .int .i64 x2.1.2]), (72, .int .i64 x2.2), (124, .bool k2)] ?_ ?_
       ·clear du
        refine Am (uv (Ae Wh rfl) (uv (An isAgg162 rfl (Has.own 8 rfl) rfl) (uv (Ae UB rfl) (uv (An isAgg3 rfl (Has.own 2 rfl) rfl) (um ?_)))))
        obtain ⟨o4, ir, fb⟩ := AG iq
        refine Em rfl bh.1 rfl rfl rfl (bh.2 _ (A3.refl _) _ _ _ ⟨_, _, rfl, rfl, rfl⟩ ir) (um ?_)
        rcases Co o4 with ar | ar
        ·have fe := bt fb ar
         refine nB ar (um (nB ar ?_))
         refine uv (BC rfl) ?_
         refine nB ar (um ?_)
         rcases Co (!((Bz ak (x2.1.1, x2.2)).isSome)) with ay | ay
         ·have iu := bt fe ay
          refine fB ay (fB ay (fB ay (fB ay (nB ar ?_))))
          refine uv (AW (Iy rfl ay) rfl) (uv (AW (Iy rfl ar) rfl) (Aa ?_))
          obtain rfl := AL iu
          exact mi (kd kr) ⟨rfl, rfl, (sc rfl (sc rfl (sc rfl (sc rfl (sc rfl (sc rfl (sc rfl (sc rfl z8))))))))⟩
         have iv := bf fe ay
         refine nB ay (um (nB ay ?_))
         refine uv (Ae OP rfl) (nB ay (uv (An isAgg3 rfl (Has.own 0 rfl) rfl) (nB ay (uv (Bb rfl rfl) (nB ar (uv (AH (Iy rfl ay) rfl) (uv (AW (Iy rfl ar) rfl) ?_)))))))
         refine Aa ?_
         obtain rfl := AL iv
         exact mi (kd kr) ⟨rfl, rfl, (sc rfl (sc rfl (sc rfl (sc rfl (sc rfl (sc rfl (sc rfl (sc rfl z8))))))))⟩
        have iw := bf fb ar
        refine fB ar (fB ar (fB ar (fU (fU (fU (fU (fB ar ?_)))))))
        refine uv (AH (Iy rfl ar) rfl) (Aa ?_)
        obtain rfl := AL iw
        exact mi (kd kr) ⟨rfl, rfl, (sc rfl (sc rfl (sc rfl (sc rfl (sc rfl (sc rfl (sc rfl (sc rfl z8))))))))⟩
       refine A5 rfl (fun dv => ?_) (fun dv => ?_)
       ·have iy := bt du dv
        refine Am (uv (An isAgg268 rfl (Has.own 5 rfl) rfl) (uv (AS (cs := #[.int .i64 x2.1.1, .int .i64 x2.2]) isAgg265 sizeOf265 rfl (Has.own 0 rfl) (CK rfl) rfl) (um (uv (AS (cs := #[.int .i64 x2.1.1, .int .i64 x2.1.2]) isAgg64 sizeOf64 rfl (Has.own 1 rfl) (CK rfl) rfl) (uv (AS (cs := #[.int .i64 k, .int .i64 ab]) isAgg265 sizeOf265 rfl (Has.own 3 rfl) (CK rfl) rfl) ?_)))))
        refine uv (BH (v := .agg #[.int .i64 end_, .int .i64 x2.1.1, .int .i64 x2.1.2, .int .i64 k, .int .i64 ab]) rfl (by intro w; kernel_rfl)) ?_
        refine P8 (i := 6) (k := (x2.1.1, x2.2)) (v := (end_, x2.1.1, x2.1.2, k, ab)) underlying268 NB rfl rfl rfl rfl (show Ih (vA (cP (cI .i64) (cI .i64))) (vA (cP (cI .i64) (cP (cI .i64) (cP (cI .i64) (cP (cI .i64) (cI .i64)))))) aq (ak : List ((Int × Int) × (Int × Int × Int × Int × Int))) from bn) ?_; intro da db dd
        obtain ⟨iz, j0, j1⟩ := CH iy
        rw [← j0] at dd
        refine AI rfl ?_
        refine Aa (AD (id := 5) ?_)
        refine ⟨[(cz, ce #[.int .i64 (((Bz af (k, ab)).getD (0, 0, 0, 0, 0)).1), .int .i64 (((Bz af (k, ab)).getD (0, 0, 0, 0, 0)).2.1), .int .i64 (((Bz af (k, ab)).getD (0, 0, 0, 0, 0)).2.2.1), .int .i64 (((Bz af (k, ab)).getD (0, 0, 0, 0, 0)).2.2.2.1), .int .i64 (((Bz af (k, ab)).getD (0, 0, 0, 0, 0)).2.2.2.2)] 267), (cy, ce #[.int .i64 k, .int .i64 ab] 265), (cx, ce #[.int .i64 k] 3), (b9, ce #[.map (some b3)] 268), (b3, .map da db), (b2, ce #[.func (.func ba) bb bc] 164), (b1, ce #[.pointer (some ⟨MY, 0, none⟩)] 147)], ⟨_, .refl _, s1 (s1 (s2 (s2 (s2 (s2 (s2 (s2 (s2 sr))))))))⟩, ?_⟩; exact ⟨_, iz, da, db, (by rw [bp]; simp), j1, rfl, dd⟩
       have j2 := bf du dv
       refine Aq (AD (id := 5) ?_)
       refine ⟨[(cz, ce #[.int .i64 (((Bz af (k, ab)).getD (0, 0, 0, 0, 0)).1), .int .i64 (((Bz af (k, ab)).getD (0, 0, 0, 0, 0)).2.1), .int .i64 (((Bz af (k, ab)).getD (0, 0, 0, 0, 0)).2.2.1), .int .i64 (((Bz af (k, ab)).getD (0, 0, 0, 0, 0)).2.2.2.1), .int .i64 (((Bz af (k, ab)).getD (0, 0, 0, 0, 0)).2.2.2.2)] 267), (cy, ce #[.int .i64 k, .int .i64 ab] 265), (cx, ce #[.int .i64 k] 3), (b9, ce #[.map (some b3)] 268), (b3, .map aq bd), (b2, ce #[.func (.func ba) bb bc] 164), (b1, ce #[.pointer (some ⟨MY, 0, none⟩)] 147)], ⟨_, .refl _, s1 (s1 (s2 (s2 (s2 (s2 (s2 (s2 (s2 sr))))))))⟩, ?_⟩; exact ⟨_, ak, aq, bd, (by rw [bp]; simp), j2, rfl, bn⟩
      ·rintro o7 _ ff ⟨en, ak, aq, bd, cb, fg, rfl, bn⟩
       obtain rfl := O9 cb; rw [Dq] at fg
       refine AD (id := 4) (AD (id := 3) ?_)
       obtain rfl := AL fg
       exact mi (kd (kd (kd kr))) ⟨aq, bd, (cp.trans ff), rfl, z7, bn⟩
      intro c F1 L1 hx h; exact h.elim
     rintro e1 o8 _ ⟨cn, dr, de, rfl, fh, j3⟩
     refine AB _ fh ?_
     replace ai := ai.mono (Ar (Ac _)) de
     refine Am (uv (Bd rfl rfl (BL.Eg dp gk (Av.lt ai))) ?_)
     refine um (Aa ?_)
     subst gq; exact le kr ⟨_, _, rfl, gu, dq, cn, dr, kj, (bm.trans de), rfl, z7, j3⟩
    obtain rfl := BL.zero dp gk
    rw [E4] at gh
    refine AT (Af (Af ?_))
    refine Ay (AD (id := 1) ?_)
    obtain rfl := AL gh
    exact mi kr ⟨bo, ca, bm, rfl, z5, ck⟩
   rintro e1 o9 _ ⟨cj, dn, fi, rfl, fj, j4⟩
   refine AB _ fj ?_
   refine Am (um ?_)
   obtain ⟨j5, j6⟩ := A1 jz
   refine uv (Fa rfl rfl j5) ?_
   refine ua (Aa ?_)
   exact le kr ⟨dm, ab - 1, cj, dn, j6, (bl.trans fi), rfl, z5, j4⟩
  have j7 := Bg ep gn
  refine AT (Af (Af ?_))
  refine Ay ?_
  obtain rfl := AL j7
  exact mi (kc (kc (kd kr))) ⟨bx, bz, bl, rfl, z3, dk⟩
 rintro e1 dw _ ⟨bj, bw, df, rfl, fk, fl⟩
 refine AB _ fk ?_
 replace ai := ai.mono (Ar (Ac _)) df
 replace ao := df _ _ ao
 refine AN ?_
 refine uv (BH (v := .agg #[.int .i64 (-1), .int .i64 0]) rfl (by intro w; kernel_rfl)) ?_
 refine Bo rfl zeroValue265 ?_; intro bk lh
 refine B1 (i := 0) sizeOf265 rfl rfl rfl (by simp [Value.oneCell']) rfl (CK rfl) (AI rfl ?_)
 refine ua (Aa ?_)
 obtain ⟨az, minute, j8, dx⟩ := Es jv
 refine jE ([(bk, ce #[.int .i64 az, .int .i64 0] 265), (b9, ce #[.map (some b3)] 268), (b3, .map bj bw)]) [(1, .int .i64 EB), (9, .pointer (some ⟨b9, 0, none⟩)), (22, .pointer (some ⟨bk, 0, none⟩)), (23, .int .i64 minute)] ?_ ?_
 ·clear dx
  refine AN (uv (An isAgg147 rfl (Has.own 3 rfl) rfl) (uv (A2 rfl) (uv (Ae K6 rfl) (uv (Ae Mw rfl) (uv (An isAgg36 rfl (Has.frozen ao) (E8 (At (A := ([.slice AU walks.length AV] : List Value)) (k := 1) (o := 0) rfl (Bm (B := ([.int .i64 Ad] : List Value) ++ (([.int .i64 start] : List Value) ++ (([.slice Aj Ab.length Ai] : List Value) ++ (BS.flatMap (cI .i64) ++ (([.slice EF Cg.length ED] : List Value) ++ (IP.flatMap (cI .i64))))))) rfl)))) (uv (A7 underlying36 rfl) ?_))))))
  refine um (Aa ?_)
  refine Ap (kW (kc (kc (kc kn))) ?_)
  refine Bh (fun lj e1 F1 L1 => LA Al lj fun lk k3 => ∃ (aj : Int) (al : Int), D7 ae lk k3 aj al = some (az, minute) ∧ dw = F1 ∧ L1 = [(bk, ce #[.int .i64 aj, .int .i64 0] 265), (b9, ce #[.map (some b3)] 268), (b3, .map bj bw)] ∧ e1.sub [(1, .int .i64 EB), (9, .pointer (some ⟨b9, 0, none⟩)), (22, .pointer (some ⟨bk, 0, none⟩)), (23, .int .i64 al), (138, .int .i64 (Al.length : Int)), (139, .int .i64 k3)]) _ (m0 kr ⟨_, _, rfl, BL.start _, -1, -1, j8, rfl, rfl, z6⟩) ?_
  rintro lj e1 _ _ ⟨lk, k3, dg, bq, aj, al, cq, rfl, rfl, fm⟩
  refine AB _ fm (AN (uv (Bb rfl rfl) ?_))
  refine Aa (As ?_)
  refine cQ (fun cd => ?_) fun cd => ?_
  ·obtain ⟨x5, p5, rfl, ll, oc, dh⟩ := BL.succ bq cd
   rw [D7] at cq
   refine Aq (As ?_)
   refine Ap ?_
   refine AN (um (ua (BX ?_)))
   refine uv (An isAgg268 rfl (Has.own 1 rfl) rfl) (um ?_)
   refine uv (BH (v := .agg #[.int .i64 k3, .int .i64 0]) rfl (by intro w; kernel_rfl)) ?_
   refine uv (Gs.eq (v' := .tuple #[.agg #[.int .i64 (((Bz ae (k3, 0)).getD (0, 0, 0, 0, 0)).1), .int .i64 (((Bz ae (k3, 0)).getD (0, 0, 0, 0, 0)).2.1), .int .i64 (((Bz ae (k3, 0)).getD (0, 0, 0, 0, 0)).2.2.1), .int .i64 (((Bz ae (k3, 0)).getD (0, 0, 0, 0, 0)).2.2.2.1), .int .i64 (((Bz ae (k3, 0)).getD (0, 0, 0, 0, 0)).2.2.2.2)], .bool ((Bz ae (k3, 0)).isSome)]) (OJ (k := (k3, 0)) (z0 := (0, 0, 0, 0, 0)) rfl underlying268 NB zeroValue267 rfl rfl (MR.own 2 rfl) (show Ih (vA (cP (cI .i64) (cI .i64))) (vA (cP (cI .i64) (cP (cI .i64) (cP (cI .i64) (cP (cI .i64) (cI .i64)))))) bj (ae : List ((Int × Int) × (Int × Int × Int × Int × Int))) from fl)) rfl) ?_
   refine um (ox rfl rfl rfl (ox rfl rfl rfl ?_))
   refine Bo rfl zeroValue267 ?_; intro dy lq
   refine B1 (i := 0) sizeOf267 rfl rfl rfl (by simp [Value.oneCell']) rfl (CK rfl) (AI rfl ?_)
   refine ua (Aa ?_)
   obtain ⟨k4, fo, dz⟩ := AG cq
   refine jE ([(dy, ce #[.int .i64 (((Bz ae (k3, 0)).getD (0, 0, 0, 0, 0)).1), .int .i64 (((Bz ae (k3, 0)).getD (0, 0, 0, 0, 0)).2.1), .int .i64 (((Bz ae (k3, 0)).getD (0, 0, 0, 0, 0)).2.2.1), .int .i64 (((Bz ae (k3, 0)).getD (0, 0, 0, 0, 0)).2.2.2.1), .int .i64 (((Bz ae (k3, 0)).getD (0, 0, 0, 0, 0)).2.2.2.2)] 267), (bk, ce #[.int .i64 aj, .int .i64 0] 265), (b9, ce #[.map (some b3)] 268), (b3, .map bj bw)]) [(1, .int .i64 EB), (9, .pointer (some ⟨b9, 0, none⟩)), (22, .pointer (some ⟨bk, 0, none⟩)), (23, .int .i64 al), (24, .int .i64 k3), (25, .pointer (some ⟨dy, 0, none⟩)), (138, .int .i64 (Al.length : Int)), (139, .int .i64 k3), (159, .bool k4)] ?_ ?_
   ·clear dz
    refine Am (um (um ?_))
    rcases Co ((Bz ae (k3, 0)).isSome) with au | au
    ·have fp := bt fo au
     refine nB au (um (nB au ?_))
     refine uv (CR rfl rfl) ?_
     refine nB au (um ?_)
     by_cases bg : al = (-1)
     ·have j9 := Bf fp bg
      refine fT bg (fT bg (fT bg (fT bg (nB au ?_))))
      refine uv (AW (Bn rfl bg) rfl) (uv (AW (Iy rfl au) rfl) (Aa ?_))
      obtain rfl := AL j9
      exact mi kr ⟨rfl, rfl, (sc rfl z8)⟩
     have ja := Bg fp bg
     refine nF bg (uv (Ae OP rfl) (nF bg (uv (An isAgg3 rfl (Has.own 0 rfl) rfl) ?_)))
     refine nF bg (um (nF bg ?_))
     refine uv (Bb rfl rfl) (nB au (uv (AH (A8 rfl bg) rfl) (uv (AW (Iy rfl au) rfl) (Aa ?_))))
     obtain rfl := AL ja
     exact mi kr ⟨rfl, rfl, (sc rfl z8)⟩
    have jb := bf fo au
    refine fB au (fB au (fB au (fU (fU (fU (fU (fB au ?_)))))))
    refine uv (AH (Iy rfl au) rfl) (Aa ?_)
    obtain rfl := AL jb
    exact mi kr ⟨rfl, rfl, (sc rfl z8)⟩
   refine A5 rfl (fun eb => ?_) (fun eb => ?_)
   ·have jc := bt dz eb
    refine Dp [(.still, 0), (.still, 1), (.still, 2), (.still, 3), (.seq, 4), (.seq, 5)] (by kernel_rfl) (by kernel_rfl) (trivial) (by rfl) (by kernel_rfl) (mS [24] rfl (Bw rfl) ?_)
    refine mS (v := .agg #[.int .i64 k3, .int .i64 0]) [160] rfl (BH (v := .agg #[.int .i64 k3, .int .i64 0]) rfl (by intro w; kernel_rfl)) ?_
    refine mS [25] rfl (Ae OP rfl) (mL [162] ([(dy, ce #[.int .i64 (((Bz ae (k3, 0)).getD (0, 0, 0, 0, 0)).1), .int .i64 (((Bz ae (k3, 0)).getD (0, 0, 0, 0, 0)).2.1), .int .i64 (((Bz ae (k3, 0)).getD (0, 0, 0, 0, 0)).2.2.1), .int .i64 (((Bz ae (k3, 0)).getD (0, 0, 0, 0, 0)).2.2.2.1), .int .i64 (((Bz ae (k3, 0)).getD (0, 0, 0, 0, 0)).2.2.2.2)] 267)]) rfl (s0 (s2 (s1 (s1 (s1 sr))))) (fun H F' L' od oe => An isAgg3 rfl ((Has.own 0 rfl).ext od oe) rfl) ?_)
    refine ⟨_, [(22, .pointer (some ⟨bk, 0, none⟩)), (161, .agg #[.int .i64 k3, .int .i64 0])], rfl, rfl, z2, by kernel_rfl, ?_⟩; intro H
    refine B1 (i := 1) sizeOf265 rfl rfl rfl (by simp [Value.oneCell']) rfl (CK rfl) (AI rfl ?_)
    refine Aa ⟨undef, rfl, A3.refl _, [3, 2], by kernel_rfl, .inl (.inr (fun d h => by cases h)), (fc (s0 (s2 (s1 (s1 (s1 sr))))) (fc sm nm)), ?_⟩
    refine ⟨_, [(163, .int .i64 (((Bz ae (k3, 0)).getD (0, 0, 0, 0, 0)).1))], rfl, rfl, z1, by kernel_rfl, ?_⟩; intro H
    obtain ⟨ct, jd, je⟩ := CH jc
    refine uv ((K3 rfl).i jd) ?_
    refine Aa ⟨_, rfl, A3.refl _, [], by kernel_rfl, .inl (.inl rfl), nm, ?_⟩
    refine Ff ?_
    refine AD (id := 7) (Am ?_)
    refine uv (Bd rfl rfl (BL.Eg bq cd (Av.lt ai))) ?_
    refine um (Aa ?_)
    subst dg; exact le (kd kr) ⟨_, _, rfl, dh, k3, ct, je, rfl, rfl, z6⟩
   have jf := bf dz eb
   refine Aq (AD (id := 7) (Am ?_))
   refine uv (Bd rfl rfl (BL.Eg bq cd (Av.lt ai))) ?_
   refine um (Aa ?_)
   subst dg; exact le (kd kr) ⟨_, _, rfl, dh, aj, al, jf, rfl, rfl, z6⟩
  obtain rfl := BL.zero bq cd
  rw [D7] at cq
  refine AT (Af (Af ?_))
  refine Ay ?_
  obtain ⟨rfl, rfl⟩ := D2 cq
  exact mi kr ⟨rfl, rfl, z4⟩
 refine As (AN (um ?_))
 refine uv (CR rfl rfl) (Aa ?_)
 refine cQ (fun ec => ?_) fun ec => ?_
 ·have jg := Bf dx ec
  refine AN (ua (ua (ua (Aa ?_))))
  refine kW kn ?_
  refine Ao (Ah ?_)
  refine M8 results52 (A6 rfl) (A6 rfl) (A6 rfl) (sr) ?_
  obtain ⟨rfl, rfl, rfl⟩ := Kf jg
  exact ⟨_, _, _, [], rfl, rfl, Be.nil _ _ _ _ _⟩
 have jh := Bg dx ec
 refine Aq (AN (ua (Aa ?_)))
 obtain ⟨out, ji, fq⟩ := AG jh
 refine A0 (fun e1 F1 L1 => ∃ (eg : Option Addr) (eh : Nat) (ei : Nat) (br : LH), dw = F1 ∧ L1 = (br ++ []) ∧ e1.sub [(23, .int .i64 minute), (27, .slice eg eh ei)] ∧ Be K.w0.heap.size 64 2 (Br (iE .i64) (iE .i64)) F1 eg eh ei out br) ?_ ?_
 ·clear fq
  refine Ap ?_
  refine Bh (fun gl e1 F1 L1 => ∃ (aa : Int) (ad : Int) (BD : List (Int × Int)) (cu : Option Addr) (cv : Nat) (cw : Nat) (bu : LH), EZ EB ae gl aa ad BD = some out ∧ dw = F1 ∧ L1 = ((bk, ce #[.int .i64 aa, .int .i64 ad] 265) :: ((b9, ce #[.map (some b3)] 268) :: ((b3, .map bj bw) :: (bu ++ [])))) ∧ e1.sub [(1, .int .i64 EB), (9, .pointer (some ⟨b9, 0, none⟩)), (22, .pointer (some ⟨bk, 0, none⟩)), (23, .int .i64 minute), (27, .slice cu cv cw)] ∧ Be K.w0.heap.size 64 2 (Br (iE .i64) (iE .i64)) F1 cu cv cw BD bu) FU (m0 (kc (kc (kc (ke kr)))) ⟨az, 0, [], none, 0, 0, [], ji, rfl, rfl, z5, Be.nil _ _ _ _ _⟩) ?_
  rintro gl e1 _ _ ⟨aa, ad, BD, cu, cv, cw, bu, cf, rfl, rfl, ft, di⟩
  refine AB _ ft ?_
  rcases gl with _ | gl
  ·rw [EZ] at cf; cases cf
  rw [EZ] at cf
  refine As (AN ?_)
  refine uv (Ae W1 rfl) (uv (An isAgg3 rfl (Has.own 0 rfl) rfl) (um (uv (B7 rfl rfl) (Aa ?_))))
  refine cQ (fun ej => ?_) fun ej => ?_
  ·have jj := Bf cf ej
   refine Aq (Ap (AN (uv (An isAgg268 rfl (Has.own 1 rfl) rfl) (uv (AS (cs := #[.int .i64 aa, .int .i64 ad]) isAgg265 sizeOf265 rfl (Has.own 0 rfl) (CK rfl) rfl) (uv (Gs.eq (v' := .agg #[.int .i64 (((Bz ae (aa, ad)).getD (0, 0, 0, 0, 0)).1), .int .i64 (((Bz ae (aa, ad)).getD (0, 0, 0, 0, 0)).2.1), .int .i64 (((Bz ae (aa, ad)).getD (0, 0, 0, 0, 0)).2.2.1), .int .i64 (((Bz ae (aa, ad)).getD (0, 0, 0, 0, 0)).2.2.2.1), .int .i64 (((Bz ae (aa, ad)).getD (0, 0, 0, 0, 0)).2.2.2.2)]) (S6 (k := (aa, ad)) (z0 := (0, 0, 0, 0, 0)) rfl underlying268 NB zeroValue267 rfl rfl (MR.own 2 rfl) (show Ih (vA (cP (cI .i64) (cI .i64))) (vA (cP (cI .i64) (cP (cI .i64) (cP (cI .i64) (cP (cI .i64) (cI .i64)))))) bj (ae : List ((Int × Int) × (Int × Int × Int × Int × Int))) from fl)) rfl) ?_)))))
   refine Bo rfl zeroValue267 ?_; intro og lr
   refine B1 (i := 0) sizeOf267 rfl rfl rfl (by simp [Value.oneCell']) rfl (CK rfl) (AI rfl ?_)
   refine BX (um ?_)
   refine uv (Ae WN rfl) (uv (AS (cs := #[.int .i64 (((Bz ae (aa, ad)).getD (0, 0, 0, 0, 0)).2.1), .int .i64 (((Bz ae (aa, ad)).getD (0, 0, 0, 0, 0)).2.2.1)]) isAgg64 sizeOf64 rfl (Has.own 0 rfl) (CK rfl) rfl) ?_)
   refine bA (cs := #[.int .i64 (((Bz ae (aa, ad)).getD (0, 0, 0, 0, 0)).2.1), .int .i64 (((Bz ae (aa, ad)).getD (0, 0, 0, 0, 0)).2.2.1)]) Ws [.agg #[.int .i64 (((Bz ae (aa, ad)).getD (0, 0, 0, 0, 0)).2.1), .int .i64 (((Bz ae (aa, ad)).getD (0, 0, 0, 0, 0)).2.2.1)]] ?_; intro oh lu
   obtain ⟨fv, jk, jl, jm⟩ := GM jj
   refine Fm (xs := BD) (ys := [(((Bz ae (aa, ad)).getD (0, 0, 0, 0, 0)).2.1, ((Bz ae (aa, ad)).getD (0, 0, 0, 0, 0)).2.2.1)]) (zs := fv) rfl Ws rfl rfl (Nat.le_refl _) (fun _ => .c (.c (.c (.c (.c .h))))) di (H2.box (vss := [[.int .i64 (((Bz ae (aa, ad)).getD (0, 0, 0, 0, 0)).2.1), .int .i64 (((Bz ae (aa, ad)).getD (0, 0, 0, 0, 0)).2.2.1)]]) (ys := [(((Bz ae (aa, ad)).getD (0, 0, 0, 0, 0)).2.1, ((Bz ae (aa, ad)).getD (0, 0, 0, 0, 0)).2.2.1)]) 0 rfl (Au (Ac _) (Ac _)) (.cons ⟨_, _, rfl, rfl, rfl⟩ .nil) rfl rfl) jk jl (by decide) ?_; intro jn jo jq fw fx
   refine kO (kd kr) ?_
   refine ua (Aa (Am ?_))
   refine uv (Ae V2 rfl) (uv (AS (cs := #[.int .i64 (((Bz ae (aa, ad)).getD (0, 0, 0, 0, 0)).2.2.2.1), .int .i64 (((Bz ae (aa, ad)).getD (0, 0, 0, 0, 0)).2.2.2.2)]) isAgg265 sizeOf265 rfl (Has.own 0 rfl) (CK rfl) rfl) (B1 (i := 1) sizeOf265 rfl rfl rfl (by simp [Value.oneCell']) rfl (CK rfl) (AI rfl ?_)))
   refine Aa (AD (id := 9) ?_)
   exact le (kd kr) ⟨((Bz ae (aa, ad)).getD (0, 0, 0, 0, 0)).2.2.2.1, ((Bz ae (aa, ad)).getD (0, 0, 0, 0, 0)).2.2.2.2, fv, jn, jo, jq, fw, jm, rfl, rfl, z5, fx⟩
  have jr := Bg cf ej
  refine AT (Af (Af ?_))
  refine Ay ?_
  obtain rfl := AL jr
  exact mi (kd (kd (kd kr))) ⟨cu, cv, cw, bu, rfl, rfl, z2, di⟩
 rintro e1 _ _ ⟨eg, eh, ei, br, rfl, rfl, fy, ga⟩
 refine AB _ fy ?_
 refine AN (um ?_)
 obtain ⟨s_, js, jt⟩ := AG fq
 refine Jw (Lb := br ++ []) (Lr := []) rfl call128 rfl rfl rfl (pT pR (lp (ln rfl))) (ID ga js) ?_; rintro _ oi _ lv lx ly ⟨ma, rfl, rfl, gb⟩
 refine AI (lp (ln rfl)) ?_
 refine BX (um (um (ua (ua (ua (Aa (Ao ?_)))))))
 refine M8 results52 (A6 rfl) (A6 rfl) (A6 rfl) (sr) ?_
 obtain ⟨rfl, rfl, rfl⟩ := Kf jt
 exact ⟨_, _, _, _, rfl, rfl, gb.any⟩
theorem Pj {Al : List (List Int)} {Ab : List ((List Int) × Int × Int)} (ab : F MY = some (.cells ((([.slice AU walks.length AV] : List Value) ++ (([.slice Aw Al.length Ax] : List Value) ++ (([.int .i64 Ad] : List Value) ++ (([.int .i64 start] : List Value) ++ (([.slice Aj Ab.length Ai] : List Value) ++ (BS.flatMap (cI .i64) ++ (([.slice EF Cg.length ED] : List Value) ++ (IP.flatMap (cI .i64))))))))).toArray) 156 T4)) (_h_walks : Av 1 (BK 1 (iE .i64)) F AU AV walks) (_h_hears : Av 1 (BK 1 (iE .i64)) F Aw Ax Al) (_h_notices : Av 3 (Br (BK 1 (iE .i64)) (Br (iE .i64) (iE .i64))) F Aj Ai Ab) (aa : BS.length = 25) (_h_pairs : Av 2 (Br (iE .i64) (iE .i64)) F EF ED Cg) (_h_hit : IP.length = 15) {r : Int} (hr : Ki walks Al Ad start Ab BS Cg IP = some r) :
    Bl Tryz.prog 53 #[.pointer (some ⟨MY, 0, none⟩)] F (.int .i64 r) := by
 refine sp func53 ntmps53 fun K _ _ => ?_
 rw [Ki] at hr
 refine AN (ua (BX (um ?_)))
 refine uv (A2 rfl) (uv (Ae Pa rfl) (uv (An isAgg48 rfl (Has.frozen ab) (E8 (At (k := 1) (o := 29) rfl (At (k := 1) (o := 28) rfl (At (k := 1) (o := 27) rfl (At (k := 1) (o := 26) rfl (At (k := 1) (o := 25) rfl (At (k := 25) (o := 0) (DM (A4 .i64) aa) (Bm rfl))))))))) (uv (A7 underlying48 rfl) ?_)))
 obtain ⟨g1, r2⟩ := A1 hr
 refine uv (X7 rfl rfl g1) ?_
 obtain ⟨g3, r4⟩ := A1 r2
 refine uv (Fa rfl rfl g3) ?_
 refine ua (Aa (Ao ?_))
 refine BU results53 ?_
 obtain rfl := AL r4
 exact rfl
theorem Oa {Ba minute : Int} {ab : Nat} {ad : Nat × Nat} {Al : List (List Int)} {Ab : List ((List Int) × Int × Int)} (ae : F ab = some (.cells #[.int .i64 last] 3 ad)) (ah : F MY = some (.cells #[.pointer (some ⟨Xt, 0, none⟩)] 147 T4)) (af : F Xt = some (.cells ((([.slice AU walks.length AV] : List Value) ++ (([.slice Aw Al.length Ax] : List Value) ++ (([.int .i64 Ad] : List Value) ++ (([.int .i64 start] : List Value) ++ (([.slice Aj Ab.length Ai] : List Value) ++ (BS.flatMap (cI .i64) ++ (([.slice EF Cg.length ED] : List Value) ++ (IP.flatMap (cI .i64))))))))).toArray) 156 XX)) (_h_walks : Av 1 (BK 1 (iE .i64)) F AU AV walks) (_h_hears : Av 1 (BK 1 (iE .i64)) F Aw Ax Al) (aa : Av 3 (Br (BK 1 (iE .i64)) (Br (iE .i64) (iE .i64))) F Aj Ai Ab) (_h_walks2 : BS.length = 25) (_h_pairs : Av 2 (Br (iE .i64) (iE .i64)) F EF ED Cg) (_h_hit : IP.length = 15) {r : Bool} (hr : Im Ba minute last walks Al Ad start Ab BS Cg IP = some r) :
    Bl Tryz.prog 188 #[.int .i64 Ba, .int .i64 minute, .pointer (some ⟨ab, 0, none⟩), .pointer (some ⟨MY, 0, none⟩)] F (.bool r) := by
 refine sp func188 ntmps188 fun K _ _ => ?_
 rw [Im] at hr
 refine AN (ua ?_)
 refine dN (wm (wv (An isAgg3 rfl (Has.frozen ae) rfl) (wv (An isAgg147 rfl (Has.frozen ah) rfl) (wv (A2 rfl) (wv (Ae K6 rfl) (wv (Ae Nz rfl) (wv (An isAgg37 rfl (Has.frozen af) (E8 (At (k := 1) (o := 3) rfl (At (k := 1) (o := 2) rfl (At (k := 1) (o := 1) rfl (At (k := 1) (o := 0) rfl (Bm rfl))))))) ?_)))))))
 refine wm ?_
 obtain ⟨x, g1, ak, r3⟩ := Bx hr
 obtain ⟨b4, o5, c6, ar, al, ao, aj, ⟨_, _, rfl, ⟨au, av, rfl, aw⟩, ⟨_, _, rfl, rfl, rfl⟩⟩, aq, ai⟩ := Av.at (Au (Ar (Ac _)) (Au (Ac _) (Ac _))) aa ([]) g1.1 ak
 refine wv (AK underlying37 sizeOf41 rfl al rfl g1) (wv (Ae UY rfl) (wv (An isAgg3 rfl ao (ai 2 (by decide))) (wv (Ul rfl rfl) (wv (My rfl rfl) ?_))))
 refine wa (CQ (Ao ?_))
 refine BU results188 ?_
 obtain rfl := AL r3
 exact rfl
set_option maxHeartbeats 1000000 in
theorem PF {Al : List (List Int)} {Ab : List ((List Int) × Int × Int)} (af : F MY = some (.cells ((([.slice AU walks.length AV] : List Value) ++ (([.slice Aw Al.length Ax] : List Value) ++ (([.int .i64 Ad] : List Value) ++ (([.int .i64 start] : List Value) ++ (([.slice Aj Ab.length Ai] : List Value) ++ (BS.flatMap (cI .i64) ++ (([.slice EF Cg.length ED] : List Value) ++ (IP.flatMap (cI .i64))))))))).toArray) 156 T4)) (ab : Av 1 (BK 1 (iE .i64)) F AU AV walks) (ad : Av 1 (BK 1 (iE .i64)) F Aw Ax Al) (aa : Av 3 (Br (BK 1 (iE .i64)) (Br (iE .i64) (iE .i64))) F Aj Ai Ab) (ah : BS.length = 25) (ae : Av 2 (Br (iE .i64) (iE .i64)) F EF ED Cg) (aj : IP.length = 15) {r : (Int × Int) → Option Bool} (hr : K2 walks Al Ad start Ab BS Cg IP last = some r) :
    SH.Spec Tryz.prog 129 #[.pointer (some ⟨MY, 0, none⟩), .int .i64 last] F [] fun F' L' v => ∃ (ar : FuncId) (au : Array Value) (av : Array Value), v = .agg #[.func (.func ar) au av] ∧ L' = [] ∧ HG Tryz.prog F' ar au av (Br (iE .i64) (iE .i64)) Value.bool r := by
 refine sp func129 ntmps129 fun K _ _ => ?_
 rw [K2] at hr
 refine AN ?_
 refine Bt rfl rfl ?_; intro b1 aw
 refine Bt rfl rfl ?_; intro b2 ax
 refine Bo rfl zeroValue164 ?_; intro b3 az
 refine BX (uv (BP rfl rfl) ?_)
 refine uv (BH (v := .agg (#[.func (.func 188) #[] #[.pointer (some ⟨b2, 0, none⟩), .pointer (some ⟨b1, 0, none⟩)]])) rfl (by intro w; kernel_rfl)) ?_
 refine B1 (i := 0) sizeOf164 rfl rfl rfl (by simp [Value.oneCell']) rfl (CK rfl) (AI rfl (Aa ?_))
 refine Cs 1 rfl ax ?_; intro F4 ak al
 refine E7 (L' := [(b3, ce (#[.func (.func 188) #[] #[.pointer (some ⟨b2, 0, none⟩), .pointer (some ⟨b1, 0, none⟩)]]) 164), (b1, ce #[.pointer (some ⟨MY, 0, none⟩)] 147)]) rfl ?_
 replace ab := ab.mono (Ar (Ac _)) ak
 replace ad := ad.mono (Ar (Ac _)) ak
 replace aa := aa.mono (Au (Ar (Ac _)) (Au (Ac _) (Ac _))) ak
 replace ae := ae.mono (Au (Ac _) (Ac _)) ak
 replace af := ak _ _ af
 refine Cs 1 rfl aw ?_; intro F7 ai ay
 refine E7 (L' := [(b3, ce (#[.func (.func 188) #[] #[.pointer (some ⟨b2, 0, none⟩), .pointer (some ⟨b1, 0, none⟩)]]) 164)]) rfl ?_
 replace ab := ab.mono (Ar (Ac _)) ai
 replace ad := ad.mono (Ar (Ac _)) ai
 replace aa := aa.mono (Au (Ar (Ac _)) (Au (Ac _) (Ac _))) ai
 replace ae := ae.mono (Au (Ac _) (Ac _)) ai
 replace af := ai _ _ af
 replace al := ai _ _ al
 have ao : HG Tryz.prog F7 188 #[] #[.pointer (some ⟨b2, 0, none⟩), .pointer (some ⟨b1, 0, none⟩)] (Br (iE .i64) (iE .i64)) Value.bool (fun aq : Int × Int => Im aq.1 aq.2 last walks Al Ad start Ab BS Cg IP) := ⟨call188, fun F2 h2 vs aq r ha hr => by obtain ⟨_, _, rfl, rfl, rfl⟩ := ha; exact Oa (h2 _ _ al) (h2 _ _ ay) (h2 _ _ af) (ab.mono (Ar (Ac _)) h2) (ad.mono (Ar (Ac _)) h2) (aa.mono (Au (Ar (Ac _)) (Au (Ac _) (Ac _))) h2) ah (ae.mono (Au (Ac _) (Ac _)) h2) aj hr⟩
 refine Ao (Jv results129 (Fg (cs := #[.func (.func 188) #[] #[.pointer (some ⟨b2, 0, none⟩), .pointer (some ⟨b1, 0, none⟩)]]) isAgg164 sizeOf164 rfl (Has.own 0 rfl) (CK rfl) rfl) (s1 sr) ?_)
 obtain rfl := AL hr
 exact ⟨_, _, _, rfl, rfl, ao⟩
theorem NV {Al : List (List Int)} {Ab : List ((List Int) × Int × Int)} (aj : F MY = some (.cells ((([.slice AU walks.length AV] : List Value) ++ (([.slice Aw Al.length Ax] : List Value) ++ (([.int .i64 Ad] : List Value) ++ (([.int .i64 start] : List Value) ++ (([.slice Aj Ab.length Ai] : List Value) ++ (BS.flatMap (cI .i64) ++ (([.slice EF Cg.length ED] : List Value) ++ (IP.flatMap (cI .i64))))))))).toArray) 156 T4)) (ad : Av 1 (BK 1 (iE .i64)) F AU AV walks) (ae : Av 1 (BK 1 (iE .i64)) F Aw Ax Al) (aa : Av 3 (Br (BK 1 (iE .i64)) (Br (iE .i64) (iE .i64))) F Aj Ai Ab) (ab : BS.length = 25) (af : Av 2 (Br (iE .i64) (iE .i64)) F EF ED Cg) (ah : IP.length = 15) {r : (Int × Int) → Option Bool} (hr : Jo walks Al Ad start Ab BS Cg IP = some r) :
    SH.Spec Tryz.prog 54 #[.pointer (some ⟨MY, 0, none⟩)] F [] fun F' L' v => ∃ (al : FuncId) (ao : Array Value) (aq : Array Value), v = .agg #[.func (.func al) ao aq] ∧ L' = [] ∧ HG Tryz.prog F' al ao aq (Br (iE .i64) (iE .i64)) Value.bool r := by
 refine sp func54 ntmps54 fun K _ _ => ?_
 rw [Jo] at hr
 refine AN ?_
 refine Bo rfl zeroValue164 ?_; intro b1 av
 refine BX (um ?_)
 obtain ⟨y, h2, r3⟩ := AG hr
 refine c0 call129 (PF aj ad ae aa ab af ah h2) ?_; rintro _ F4 _ aw ax ⟨ar, au, ak, rfl, rfl, ai⟩
 refine AI (ln rfl) (B1 (i := 0) sizeOf164 rfl rfl rfl (by simp [Value.oneCell']) rfl (CK rfl) (AI rfl ?_))
 refine Aa (Ao ?_)
 refine Jv results54 (Fg (cs := #[.func (.func ar) au ak]) isAgg164 sizeOf164 rfl (Has.own 0 rfl) (CK rfl) rfl) (s1 sr) ?_
 obtain rfl := AL r3
 exact ⟨_, _, _, rfl, rfl, ai⟩
set_option maxHeartbeats 1000000 in
theorem Sw {Al : List (List Int)} {Ab : List ((List Int) × Int × Int)} (af : Av 1 (BK 1 (iE .i64)) F AU AV walks) (ah : Av 1 (BK 1 (iE .i64)) F Aw Ax Al) (ab : Av 3 (Br (BK 1 (iE .i64)) (Br (iE .i64) (iE .i64))) F Aj Ai Ab) {r : List (Int × Int)} {r2 r3 : Int} (hr : N9 walks Al Ad start Ab = some (r, r2, r3)) :
    SH.Spec Tryz.prog 14 #[.agg #[.slice AU walks.length AV, .slice Aw Al.length Ax, .int .i64 Ad, .int .i64 start, .slice Aj Ab.length Ai]] F [] fun F' L' v => ∃ (ra : Option Addr) (rn : Nat) (rc : Nat) (rL : LH), v = .tuple #[.slice ra rn rc, .int .i64 r2, .int .i64 r3] ∧ L' = rL ++ [] ∧ Be 0 64 2 (Br (iE .i64) (iE .i64)) F' ra rn rc r rL := by
 refine sp func14 ntmps14 fun K _ _ => ?_
 rw [N9] at hr
 refine AN ?_
 refine Bt rfl rfl ?_; intro b1 cw
 refine ua (ua (ua (BX ?_)))
 refine uv (AS isAgg39 sizeOf39 rfl (Has.own 0 rfl) (CK rfl) rfl) ?_
 obtain ⟨d, n, h2, r4⟩ := Es hr
 refine c0 call49 (Q1 af ah ab h2) ?_; rintro _ F5 _ cx cy ⟨v9, rfl, rfl, aw⟩
 refine AI (ln rfl) ?_
 refine um (ox rfl rfl rfl (ox rfl rfl rfl (ua (ua (Aa (As (AN (um ?_))))))))
 refine uv (B7 rfl rfl) (Aa ?_)
 refine cQ (fun ax => ?_) fun ax => ?_
 ·have bh := Bf r4 ax
  refine AN (um (ua (ua (ua (Aa ?_)))))
  refine kW kn ?_
  refine Ao (Ah ?_)
  refine M8 results14 (A6 rfl) (A6 rfl) (A6 rfl) (sr) ?_
  obtain ⟨rfl, rfl, rfl⟩ := Kf bh
  exact ⟨_, _, _, [], rfl, rfl, Be.nil _ _ _ _ _⟩
 have bj := Bg r4 ax
 refine Aq (AN (um (um ?_)))
 obtain ⟨BS, ai, Bp, aj, ad, ak, Cg, IP, bk, bl⟩ := Wo bj
 have bd := aw; rw [bk] at bd; obtain ⟨bm, cz, bn, ay, aa, ⟨_, _, rfl, ⟨bo, bp, rfl, ao⟩, ⟨_, _, rfl, ⟨bq, br, rfl, aq⟩, ⟨_, _, rfl, rfl, ⟨_, _, rfl, rfl, ⟨_, _, rfl, ⟨bu, bw, rfl, ar⟩, ⟨_, _, rfl, ⟨rfl, az⟩, ⟨_, _, rfl, ⟨bx, bz, rfl, au⟩, ⟨rfl, ba⟩⟩⟩⟩⟩⟩⟩⟩⟩ := bd; subst ay
 have aa : F5 bm = some (.cells ((([.slice bo BS.length bp] : List Value) ++ (([.slice bq ai.length br] : List Value) ++ (([.int .i64 Bp] : List Value) ++ (([.int .i64 aj] : List Value) ++ (([.slice bu ad.length bw] : List Value) ++ (ak.flatMap (cI .i64) ++ (([.slice bx Cg.length bz] : List Value) ++ (IP.flatMap (cI .i64))))))))).toArray) 156 bn) := aa
 obtain ⟨n2, ca, cb⟩ := AG bl
 refine cV call53 (Pj aa ao aq ar az au ba ca) (um ?_)
 obtain ⟨y, cd, cf⟩ := AG cb
 refine c0 call54 (NV aa ao aq ar az au ba cd) ?_; rintro _ da _ ae cg ⟨cj, ck, cn, rfl, rfl, av⟩
 replace ao := ao.mono (Ar (Ac _)) ae
 replace aq := aq.mono (Ar (Ac _)) ae
 replace ar := ar.mono (Au (Ar (Ac _)) (Au (Ac _) (Ac _))) ae
 replace au := au.mono (Au (Ac _) (Ac _)) ae
 replace aa := ae _ _ aa
 refine AI (ln rfl) ?_
 obtain ⟨l, n3, ok, cp, bg⟩ := E5 cf
 refine c0 call52 (NO aa ao aq ar az au ba av cp) ?_; rintro _ db _ cq bb ⟨dd, de, df, ct, rfl, rfl, al⟩
 replace al := al.new fun p hp => bb p (by simp [hp])
 refine AI (lp (ln rfl)) (kO (kf (fS fO) kr) ?_)
 refine um (ox rfl rfl rfl (ox rfl rfl rfl (ox rfl rfl rfl (ua (ua (ua (Aa (As (AN ?_)))))))))
 refine um (uv (BC rfl) (Aa ?_))
 refine A5 rfl (fun bc => ?_) (fun bc => ?_)
 ·have cu := bt bg bc
  refine AN (ua (ua (ua (Aa ?_))))
  refine kW kn ?_
  refine Ao (Ah ?_)
  refine M8 results14 (A6 rfl) (A6 rfl) (A6 rfl) (sr) ?_
  obtain ⟨rfl, rfl, rfl⟩ := Kf cu
  exact ⟨_, _, _, [], rfl, rfl, Be.nil _ _ _ _ _⟩
 have cv := bf bg bc
 refine Aq (AN (um (um (ua (ua (ua (Aa ?_)))))))
 refine kW (kd kr) (Ao (M8 results14 (A6 rfl) (A6 rfl) (A6 rfl) (sr) ?_))
 obtain ⟨rfl, rfl, rfl⟩ := Kf cv
 exact ⟨_, _, _, _, rfl, rfl, al.any⟩
theorem SP {aa : Option Addr} {ab : Nat} {more : List Int} (ad : Av 1 (iE .i64) F aa ab more) {r : Int} (hr : On n more = some r) :
    Bl Tryz.prog 248 #[.int .i64 n, .slice aa more.length ab] F (.int .i64 r) := by
 refine sp func248 ntmps248 fun K _ _ => ?_
 rw [On] at hr
 refine AN (ua (Aa ?_))
 obtain ⟨n2, h1, r2⟩ := AG hr
 refine jE ([]) [(0, .int .i64 n2)] ?_ ?_
 ·clear r2
  refine AN (um ?_)
  refine uv (A7 underlying33 rfl) ?_
  refine um (Aa ?_)
  refine Ap ?_
  refine Bh (fun ak e1 F1 L1 => LA more ak fun tl k => ∃ (n3 : Int), IK tl n3 = some n2 ∧ F = F1 ∧ L1 = [] ∧ e1.sub [(0, .int .i64 n3), (7, .slice aa more.length ab), (8, .int .i64 (more.length : Int)), (9, .int .i64 k)]) _ (m0 kr ⟨_, _, rfl, BL.start _, n, h1, rfl, rfl, z4⟩) ?_
  rintro ak e1 _ _ ⟨tl, k, aq, ae, n3, r5, rfl, rfl, ar⟩
  refine AB _ ar (AN (uv (Bb rfl rfl) ?_))
  refine Aa (As ?_)
  refine cQ (fun c8 => ?_) fun c8 => ?_
  ·obtain ⟨x, ax, rfl, af, al, au⟩ := BL.succ ae c8
   rw [IK] at r5
   refine Aq (As ?_)
   refine Ap (AN ?_)
   obtain ⟨Ud, ay, az, av, ah, ai, ao, rfl, aw, aj⟩ := Av.at (Ac _) ad ([]) al.1 af
   refine uv (AK underlying33 sizeOf3 rfl ah rfl al) (uv (An isAgg3 rfl ai (aj 0 (by decide))) ?_)
   refine ua (Aa (Am (um (um ?_))))
   refine uv (Ul rfl rfl) ?_
   refine ua (Aa (AD (id := 1) (Am ?_)))
   refine uv (Bd rfl rfl (BL.Eg ae c8 (Av.lt ad))) ?_
   refine um (Aa ?_)
   subst aq; exact le kr ⟨_, _, rfl, au, if x < n3 then x else n3, r5, rfl, rfl, z4⟩
  obtain rfl := BL.zero ae c8
  rw [IK] at r5
  refine AT (Af (Af ?_))
  refine Ay ?_
  obtain rfl := AL r5
  exact mi kr ⟨rfl, rfl, z1⟩
 refine AN (um (ua (Aa (Ao ?_))))
 refine BU results248 ?_
 obtain rfl := AL r2
 exact rfl
theorem Qd {r : Bool} (hr : KC a b = some r) :
    Bl Tryz.prog 219 #[.int .i64 a, .int .i64 b] F (.bool r) := by
 refine sp func219 ntmps219 fun K _ _ => ?_
 rw [KC] at hr
 refine AN (ua (BX (um (um ?_))))
 obtain ⟨g1, r2⟩ := A1 hr
 refine uv (Fa rfl rfl g1) ?_
 obtain ⟨g3, r4⟩ := A1 r2
 refine uv (Bd rfl rfl g3) (uv (RG rfl rfl (by decide)) ?_)
 refine ua (BX (um (um ?_)))
 obtain ⟨g5, r6⟩ := A1 r4
 refine uv (Fa rfl rfl g5) ?_
 refine bA (cs := #[.int .i64 (8 - (Int.tmod ((a - b) + 8) 8))]) Cm [.int .i64 (8 - (Int.tmod ((a - b) + 8) 8))] ?_; intro b7 ab
 refine Bi 0 rfl ab ?_; intro F8 ah aa
 refine AI rfl ?_
 have ad : Av 1 (iE .i64) F8 (some ⟨b7, 0, none⟩) 1 [8 - (Int.tmod ((a - b) + 8) 8)] := Av.BM (Ac _) (vss := [[.int .i64 (8 - (Int.tmod ((a - b) + 8) 8))]]) (xs := [8 - (Int.tmod ((a - b) + 8) 8)]) aa (.cons rfl .nil) rfl (by simp [maxLen])
 obtain ⟨n, ae, af⟩ := AG r6
 refine cV call248 (SP ad ae) (uv (My rfl rfl) ?_)
 refine ua (Aa (Ao ?_))
 refine BU results219 ?_
 obtain rfl := AL af
 exact rfl
theorem MG {Ab : Int} {Al : List (List (List Int))} (_h_hears : Av 1 (BK 1 (BK 1 (iE .i64))) F Aw Ax Al) (aa : Av 1 (iE .i64) F AF AE Ak) (_h_cries : Av 3 (Br (iE .i64) (Br (iE .i64) (iE .i64))) F AR AQ Az) {r : Bool} (hr : Dy Ad Ab Al Ak Az hour Cf = some r) :
    Bl Tryz.prog 173 #[.agg #[.int .i64 Ad, .int .i64 Ab, .slice Aw Al.length Ax, .slice AF Ak.length AE, .slice AR Az.length AQ], .int .i64 hour, .int .i64 Cf] F (.bool r) := by
 refine sp func173 ntmps173 fun K _ _ => ?_
 rw [Dy] at hr
 refine AN ?_
 refine Bt rfl rfl ?_; intro b1 az
 refine ua (BX ?_)
 refine uv (Ae Hw rfl) (uv (An isAgg33 rfl (Has.own 0 rfl) rfl) (um ?_))
 obtain ⟨x, g2, aj, r4⟩ := Bx hr
 obtain ⟨b5, o6, c7, ba, ao, ad, ak, rfl, aq, ae⟩ := Av.at (Ac _) aa ([(b1, ce #[.int .i64 Ad, .int .i64 Ab, .slice Aw Al.length Ax, .slice AF Ak.length AE, .slice AR Az.length AQ] 100)]) g2.1 aj
 refine uv (AK underlying33 sizeOf3 rfl ao rfl g2) (uv (An isAgg3 rfl ad (ae 0 (by decide))) (uv (CR rfl rfl) (um ?_)))
 by_cases ab : x = (-1)
 ·have ar := Bf r4 ab
  refine fT ab (fT ab (fT ab (fT ab (fT ab (fT ab (fT ab ?_))))))
  refine uv (AW (Bn rfl ab) rfl) ?_
  refine ua (Aa ?_)
  refine kW kn (Ao (BU results173 ?_))
  obtain rfl := AL ar
  exact rfl
 have au := Bg r4 ab
 refine nF ab (um (nF ab ?_))
 refine uv (Ae Hw rfl) (nF ab (uv (An isAgg33 rfl (Has.own 0 rfl) rfl) ?_))
 refine nF ab (um (nF ab ?_))
 obtain ⟨bb, bc, bd, av, af, ah, al, rfl, aw, ai⟩ := Av.at (Ac _) aa ([(b1, ce #[.int .i64 Ad, .int .i64 Ab, .slice Aw Al.length Ax, .slice AF Ak.length AE, .slice AR Az.length AQ] 100)]) g2.1 aj
 refine uv (AK underlying33 sizeOf3 rfl af rfl g2) (nF ab (uv (An isAgg3 rfl ah (ai 0 (by decide))) (nF ab ?_)))
 obtain ⟨ok, ax, ay⟩ := AG au
 refine cV call219 (Qd ax) (uv (AH (A8 rfl ab) rfl) ?_)
 refine ua (Aa ?_)
 refine kW kn (Ao (BU results173 ?_))
 obtain rfl := AL ay
 exact rfl
theorem He {s_ : List Int} (aa : Av 1 (iE .i64) F B0 BY s_) {r : List Int} (hr : CZ s_ = some r) :
    SH.Spec Tryz.prog 110 #[.slice B0 s_.length BY] F [] fun F' L' v => ∃ (ra : Option Addr) (rn : Nat) (rc : Nat) (rL : LH), v = .slice ra rn rc ∧ L' = rL ++ [] ∧ Be 0 3 1 (iE .i64) F' ra rn rc r rL := by
 refine sp func110 ntmps110 fun K _ _ => ?_
 rw [CZ] at hr
 refine AN (ua (Aa (As (AN (um ?_)))))
 refine uv (Ph underlying33 rfl) (Aa ?_)
 refine A5 rfl (fun c1 => ?_) (fun c1 => ?_)
 ·have r2 := UQ hr (Av.isNone aa c1)
  refine AN (ua (Aa (Ao (Ah ?_))))
  refine BU results110 ?_
  obtain rfl := AL r2
  exact ⟨_, _, _, [], rfl, rfl, Be.nil _ _ _ _ _⟩
 have r3 := Vi hr
 refine Aq (AN ?_)
 refine Jk (cs := #[]) rfl rfl (MK Cm) ?_; intro b4 af
 refine um ?_
 have ae : Be K.w0.heap.size 3 1 (iE .i64) F (some ⟨b4, 0, none⟩) 0 0 ([] : List Int) [(b4, ce #[] 3)] := Be.BM (vss := []) (Ac _) af .nil rfl rfl (by simp [maxLen])
 generalize ab : ([(b4, ce #[] 3)] : LH) = ah at ae
 refine Cz (L' := ah ++ []) (by rw [← ab]; exact fO) ?_
 obtain ⟨l, h8, g9, ai⟩ := GM r3
 refine Fm (xs := ([] : List Int)) (ys := s_) (zs := l) rfl Cm rfl rfl (Nat.le_refl _) (fun _ => .h) ae (Av.src aa) h8 g9 (by decide) ?_; intro ak al ao aj ad
 refine ua (Aa (Ao ?_))
 refine BU results110 ?_
 obtain rfl := AL ai
 exact ⟨_, _, _, _, rfl, rfl, ad.any⟩
set_option maxHeartbeats 1000000 in
theorem Mj {Ab : Int} {Al : List (List (List Int))} {g : List Bool} (ah : F JI = some (.cells #[.int .i64 Ad, .int .i64 Ab, .slice Aw Al.length Ax, .slice AF Ak.length AE, .slice AR Az.length AQ] 247 Ox)) (ab : Av 1 (BK 1 (BK 1 (iE .i64))) F Aw Ax Al) (_h_readings : Av 1 (iE .i64) F AF AE Ak) (aa : Av 3 (Br (iE .i64) (Br (iE .i64) (iE .i64))) F AR AQ Az) (cy : g.length = 24) {r : List Bool} (hr : GZ Ad Ab Al Ak Az g hour Cf = some r) :
    SH.Spec Tryz.prog 160 #[.pointer (some ⟨JI, 0, none⟩), .agg (arr cB g), .int .i64 hour, .int .i64 Cf] F [] fun _ L' v => v = .agg (arr cB r) ∧ L' = [] ∧ r.length = 24 := by
 refine sp func160 ntmps160 fun K _ _ => ?_
 rw [GZ] at hr
 refine AN ?_
 refine Bt rfl rfl ?_; intro b1 ei
 refine Bo rfl zeroValue221 ?_; intro b2 ej
 refine AI rfl (Aa ?_)
 obtain ⟨g2, h4, r5⟩ := AG hr
 refine A0 (fun e1 F1 L1 => F = F1 ∧ L1 = [(b2, ce (arr cB (List.replicate 24 false)) 221), (b1, ce (arr cB g2) 221)] ∧ e1.sub [(5, .pointer (some ⟨b1, 0, none⟩)), (8, .pointer (some ⟨b2, 0, none⟩))] ∧ g2.length = 24) ?_ ?_
 ·clear r5
  refine AN (um ?_)
  refine uv (A2 rfl) (uv (Ae K4 rfl) (uv (Ae GS rfl) (uv (An isAgg98 rfl (Has.frozen ah) rfl) (uv (A7 underlying98 rfl) ?_))))
  refine um (Aa ?_)
  refine Ap ?_
  refine Bh (fun bz e1 F1 L1 => LA Az bz fun tl k => ∃ (g3 : List Bool), Ev Al hour Cf tl g3 = some g2 ∧ F = F1 ∧ L1 = [(b2, ce (arr cB (List.replicate 24 false)) 221), (b1, ce (arr cB g3) 221)] ∧ e1.sub [(0, .pointer (some ⟨JI, 0, none⟩)), (2, .int .i64 hour), (3, .int .i64 Cf), (5, .pointer (some ⟨b1, 0, none⟩)), (8, .pointer (some ⟨b2, 0, none⟩)), (17, .slice AR Az.length AQ), (18, .int .i64 (Az.length : Int)), (19, .int .i64 k)] ∧ g3.length = 24) _ (m0 kr ⟨_, _, rfl, BL.start _, g, h4, rfl, rfl, z8, cy⟩) ?_
  rintro bz e1 _ _ ⟨tl, k, cz, ao, g3, r9, rfl, rfl, aq, h6⟩
  refine AB _ aq (AN (uv (Bb rfl rfl) ?_))
  refine Aa (As ?_)
  refine cQ (fun ai => ?_) fun ai => ?_
  ·obtain ⟨x, en, rfl, ar, ca, au⟩ := BL.succ ao ai
   rw [Ev] at r9
   refine Aq ?_
   obtain ⟨g4, cb, cd⟩ := AG r9
   refine A0 (fun e1 F1 L1 => F = F1 ∧ L1 = [(b2, ce (arr cB (List.replicate 24 false)) 221), (b1, ce (arr cB g4) 221)] ∧ e1.sub [(0, .pointer (some ⟨JI, 0, none⟩)), (2, .int .i64 hour), (3, .int .i64 Cf), (5, .pointer (some ⟨b1, 0, none⟩)), (8, .pointer (some ⟨b2, 0, none⟩)), (17, .slice AR Az.length AQ), (18, .int .i64 (Az.length : Int)), (19, .int .i64 k)] ∧ g4.length = 24) ?_ ?_
   ·clear cd
    refine Ap (AN ?_)
    obtain ⟨eo, ep, er, da, av, aw, ad, ⟨_, _, rfl, rfl, ⟨_, _, rfl, rfl, rfl⟩⟩, ax, ay⟩ := Av.at (Au (Ac _) (Au (Ac _) (Ac _))) aa ([(b2, ce (arr cB (List.replicate 24 false)) 221), (b1, ce (arr cB g3) 221)]) ca.1 ar
    refine uv (AK underlying98 sizeOf132 rfl av rfl ca) (uv (AS isAgg132 sizeOf132 rfl aw ad (BB ad ax ay)) ?_)
    refine Bo rfl zeroValue132 ?_; intro ae db
    refine B1 (i := 0) sizeOf132 rfl rfl rfl (by simp [Value.oneCell']) rfl (CK rfl) (AI rfl ?_)
    refine Aa (As (AN ?_))
    refine uv (Ae Te rfl) (uv (An isAgg3 rfl (Has.own 0 rfl) rfl) (um (uv (B7 rfl rfl) (Aa ?_))))
    refine cQ (fun az => ?_) fun az => ?_
    ·have dd := Bf cb az
     refine AT (Af ?_)
     refine Ay ?_
     obtain rfl := AL dd
     exact mi (kd kr) ⟨rfl, rfl, z8, h6⟩
    have de := Bg cb az
    refine Aq (dW (wm (wv (A2 rfl) (wv (Ae K4 rfl) (wv (Ae G4 rfl) (wv (An isAgg97 rfl (Has.frozen ah) rfl) (wv (Ae Tf rfl) ?_)))))))
    refine wv (An isAgg3 rfl (Has.own 0 rfl) rfl) ?_
    obtain ⟨x2, cf, ba, df⟩ := Bx de
    obtain ⟨eu, ew, ey, dg, bb, bc, cg, ⟨ez, fa, rfl, dh⟩, di, bd⟩ := Av.at (Ar (Ar (Ac _))) ab ([(ae, ce #[.int .i64 x.1, .int .i64 x.2.1, .int .i64 x.2.2] 132), (b2, ce (arr cB (List.replicate 24 false)) 221), (b1, ce (arr cB g3) 221)]) cf.1 ba
    refine wv (AK underlying97 sizeOf36 rfl bb rfl cf) (wv (An isAgg36 rfl bc (bd 0 (by decide))) (wm ?_))
    obtain ⟨x3, cj, bg, dk⟩ := Bx df
    obtain ⟨fb, fe, ff, dm, bh, bj, ck, ⟨dn, dp, rfl, cn⟩, dq, bk⟩ := Av.at (Ar (Ac _)) dh ([(ae, ce #[.int .i64 x.1, .int .i64 x.2.1, .int .i64 x.2.2] 132), (b2, ce (arr cB (List.replicate 24 false)) 221), (b1, ce (arr cB g3) 221)]) cj.1 bg
    refine wv (AK underlying36 sizeOf33 rfl bh rfl cj) (wv (An isAgg33 rfl bj (bk 0 (by decide))) (wv (A7 underlying33 rfl) ?_))
    refine wm (CQ ?_)
    refine Ap ?_
    refine Bh (fun cp e1 F1 L1 => LA x3 cp fun cq k2 => ∃ (g5 : List Bool), Et x cq g5 = some g4 ∧ F = F1 ∧ L1 = [(ae, ce #[.int .i64 x.1, .int .i64 x.2.1, .int .i64 x.2.2] 132), (b2, ce (arr cB (List.replicate 24 false)) 221), (b1, ce (arr cB g5) 221)] ∧ e1.sub [(0, .pointer (some ⟨JI, 0, none⟩)), (2, .int .i64 hour), (3, .int .i64 Cf), (5, .pointer (some ⟨b1, 0, none⟩)), (8, .pointer (some ⟨b2, 0, none⟩)), (10, .pointer (some ⟨ae, 0, none⟩)), (17, .slice AR Az.length AQ), (18, .int .i64 (Az.length : Int)), (19, .int .i64 k), (38, .slice dn x3.length dp), (39, .int .i64 (x3.length : Int)), (40, .int .i64 k2)] ∧ g5.length = 24) _ (m0 kr ⟨_, _, rfl, BL.start _, g3, dk, rfl, rfl, (sc rfl (sc rfl (sc rfl (sc rfl z8)))), h6⟩) ?_
    rintro cp e1 _ _ ⟨cq, k2, bl, af, g5, aj, rfl, rfl, bm, ak⟩
    refine AB _ bm (AN (uv (Bb rfl rfl) ?_))
    refine Aa (As ?_)
    refine cQ (fun al => ?_) fun al => ?_
    ·obtain ⟨x4, fg, rfl, bn, ct, bo⟩ := BL.succ af al
     rw [Et] at aj
     refine Aq (As ?_)
     refine Ap (AN ?_)
     obtain ⟨fh, fi, fj, dr, bp, bq, cu, rfl, dt, br⟩ := Av.at (Ac _) cn ([(ae, ce #[.int .i64 x.1, .int .i64 x.2.1, .int .i64 x.2.2] 132), (b2, ce (arr cB (List.replicate 24 false)) 221), (b1, ce (arr cB g5) 221)]) ct.1 bn
     refine uv (AK underlying33 sizeOf3 rfl bp rfl ct) (uv (An isAgg3 rfl bq (br 0 (by decide))) ?_)
     refine ua (Aa ?_)
     refine Dp [(.still, 0), (.still, 1), (.still, 2), (.still, 3), (.still, 4), (.seq, 5)] (by kernel_rfl) (by kernel_rfl) (trivial) (by rfl) (by kernel_rfl) (mS [12] rfl (Bw rfl) (mS [10] rfl (Ae TH rfl) (mL [45] ([(ae, ce #[.int .i64 x.1, .int .i64 x.2.1, .int .i64 x.2.2] 132)]) rfl (s0 (s2 (s1 (s1 sr)))) (fun H F' L' du dv => An isAgg3 rfl ((Has.own 0 rfl).ext du dv) rfl) ?_)))
     obtain ⟨cv, dw⟩ := A1 aj
     refine mS [5, 44] rfl (Bj underlying221 sizeOf219 rfl rfl cv) ?_
     obtain ⟨cw, dx⟩ := A1 dw
     obtain ⟨x5, dy, dz, eb⟩ := Bx dx
     have bu : (x4 * 4 + x.2.2 : Int).toNat = (x4 : Int).toNat * 4 + (x.2.2 : Int).toNat := by have := cv; have := cw; omega
     refine mS [46, 47] rfl (Bj underlying219 sizeOf4 rfl rfl cw) ?_
     refine ⟨_, [(48, .pointer (some ⟨b1, 0 + (x4 : Int).toNat * 4 + (x.2.2 : Int).toNat * 1, none⟩))], rfl, rfl, z1, by kernel_rfl, ?_⟩; intro H
     obtain ⟨l, cx, ec⟩ := CH eb
     have eg : l.length = 24 := by rw [cx, List.length_set]; exact ak
     refine Lw (i := 2) sizeOf4 Bq rfl rfl rfl rfl bu (by have := dy; have := ak; omega) ak ?_
     refine AI (L' := [(ae, ce #[.int .i64 x.1, .int .i64 x.2.1, .int .i64 x.2.2] 132), (b2, ce (arr cB (List.replicate 24 false)) 221), (b1, ce (arr cB l) 221)]) (by rw [cx]; rfl) ?_
     refine Aa ⟨undef, rfl, A3.refl _, [], by kernel_rfl, .inl (.inl rfl), nm, ?_⟩
     refine Ff ?_
     refine AD (id := 3) (Am ?_)
     refine uv (Bd rfl rfl (BL.Eg af al (Av.lt cn))) ?_
     refine um (Aa ?_)
     subst bl; exact le kr ⟨_, _, rfl, bo, l, ec, rfl, rfl, (sc rfl (sc rfl (sc rfl (sc rfl z8)))), eg⟩
    obtain rfl := BL.zero af al
    rw [Et] at aj
    refine AT (Af (Af ?_))
    refine Ay (AD (id := 1) ?_)
    obtain rfl := AL aj
    exact mi (kd kr) ⟨rfl, rfl, z8, ak⟩
   rintro e1 _ _ ⟨rfl, rfl, bw, eh⟩
   refine AB _ bw (Am (uv (Bd rfl rfl (BL.Eg ao ai (Av.lt aa))) ?_))
   refine um (Aa ?_)
   subst cz; exact le kr ⟨_, _, rfl, au, g4, cd, rfl, rfl, z8, eh⟩
  obtain rfl := BL.zero ao ai
  rw [Ev] at r9
  refine AT (Af (Af ?_))
  refine Ay ?_
  obtain rfl := AL r9
  exact mi kr ⟨rfl, rfl, z2, h6⟩
 rintro e1 _ _ ⟨rfl, rfl, bx, h3⟩
 refine AB _ bx (AN (uv (Gq isAgg221 sizeOf221 rfl (Has.own 1 rfl) (Ci Bq h3)) (Ef (i := 0) sizeOf221 rfl rfl rfl (Ci Bq List.length_replicate) (Ci Bq h3) (Hc Bq) (AI rfl (Aa (kW (kc kn) (Ao ?_)))))))
 refine Jv results160 (Fg (cs := arr cB g2) isAgg221 sizeOf221 rfl (Has.own 0 rfl) (Eb (Cd (DM Bq h3))) (G9 (DM Bq h3) (Cd (DM Bq h3)))) (s1 sr) ?_
 obtain rfl := AL r5
 exact ⟨rfl, rfl, h3⟩
set_option maxHeartbeats 1000000 in
theorem Ql {ab : Nat} {ah : Nat × Nat} (aa : F ab = some (.cells #[.int .i64 Cf] 3 ah)) {xs : List Int} (hr : LP Cf = some xs) :
    Hs Tryz.prog 220 #[] #[.pointer (some ⟨ab, 0, none⟩)] F (fun x : Int => #[.int .i64 x]) xs := by
 intro G0 bo yv J Jx ca bp hy Fc L0 hG bq
 replace aa := (bo.trans hG) _ _ aa
 have ak : xs = [] ++ xs := rfl
 show SH.Spec Tryz.prog 220 #[yv, .pointer (some ⟨ab, 0, none⟩)] Fc L0 _
 refine sp func220 ntmps220 fun K _ _ => ?_
 rw [LP] at hr; refine E7 (L' := L0 ++ []) (by simp) ?_
 refine AN (um (Aa ?_))
 refine Ap ?_
 obtain ⟨g6, r7⟩ := A1 hr
 refine Bh (fun az e1 F1 L1 => ∃ (k : Int), Dc 0 8 k az ∧ ∃ (ae : List Int) (ai : List Int) (aq : LH), Fz Cf az k = some ai ∧ A3 Fc F1 ∧ L1 = (aq ++ []) ∧ e1.sub [(0, yv), (1, .pointer (some ⟨ab, 0, none⟩)), (4, .int .i64 k)] ∧ xs = ae ++ ai ∧ J ae F1 aq ∧ A3 G0 F1) _ (m0 kr ⟨_, Dc.start _ _, [], xs, L0, r7, A3.refl _, rfl, z3, ak, bq, hG⟩) ?_
 rintro az e1 cb _ ⟨k, ba, ae, ai, aq, bb, al, rfl, bc, ad, bd, hG⟩
 refine AB _ bc ?_
 replace aa := al _ _ aa
 refine AN (uv (Bb rfl rfl) ?_)
 refine Aa (As ?_)
 refine cQ (fun ar => ?_) fun ar => ?_
 ·obtain ⟨az, rfl, au⟩ := Dc.succ ba ar
  rw [Fz] at bb
  refine Aq (As ?_)
  refine Ap ?_
  refine AN (um (ua (BX (um ?_))))
  refine uv (An isAgg3 rfl (Has.frozen aa) rfl) ?_
  obtain ⟨ok, br, bm⟩ := AG bb
  refine cV call219 (Qd br) (um ?_)
  rcases Co ok with af | af
  ·have bu := bt bm af
   refine nB af (um (nB af (um (nB af ?_))))
   obtain ⟨ao, bw, av⟩ := TA bu
   refine OW (Lb := aq) (Lr := []) (vs := [.int .i64 k]) rfl rfl rfl fP (hy ae k ao (by rw [ad, av]) _ _ hG bd) ?_
   rintro cd cf bg aw bh; obtain ⟨bx, rfl, ax, ay⟩ := K7 bh
   replace hG := hG.trans aw
   refine nB af (uv (BC rfl) (uv (AW (Iy rfl af) rfl) (Aa ?_)))
   refine A5 rfl (fun bj => ?_) (fun bj => ?_)
   ·have bk := ay (by simpa using bj)
    refine Ao (AA (Ah (Ah (AA ?_))))
    refine Ju (.inl rfl) results220 (sr) ?_
    exact .inr (by rw [List.append_nil]; exact bk)
   have bl := ax (by simpa using bj)
   have aj : xs = (ae ++ [k]) ++ ao := by rw [ad, av]; simp
   refine Aq (AD (id := 1) (Am ?_))
   refine uv (Bd rfl rfl (Dc.Eg ba ar g6)) ?_
   refine um (Aa ?_)
   exact le kr ⟨_, au, ae ++ [k], ao, bg, bw, (al.trans aw), rfl, z3, aj, bl, hG⟩
  have bz := bf bm af
  refine fB af (fB af (fB af (fB af ?_)))
  refine uv (AH (Iy rfl af) rfl) (Aa ?_)
  refine A5 rfl (fun bn => nomatch bn) (fun bn => ?_)
  refine Aq (AD (id := 1) (Am ?_))
  refine uv (Bd rfl rfl (Dc.Eg ba ar g6)) ?_
  refine um (Aa ?_)
  exact le kr ⟨_, au, ae, ai, aq, bz, al, rfl, z3, ad, bd, hG⟩
 obtain rfl := Dc.zero ba ar
 rw [Fz] at bb
 refine AT (Af (Af ?_))
 refine Ay (Ju (.inr rfl) results220 (sr) ?_)
 obtain rfl := AL bb
 exact .inl (by have e1 := ad; rw [List.append_nil] at e1; rw [List.append_nil, e1]; exact bd)
theorem RT {r : List Int} (hr : J9 Cf = some r) :
    SH.Spec Tryz.prog 175 #[.int .i64 Cf] F [] fun F' L' v => ∃ (ab : Array Value), v = .func (.func 220) #[] ab ∧ L' = [] ∧ Hs Tryz.prog 220 #[] ab F' (fun x : Int => #[.int .i64 x]) r := by
 refine sp func175 ntmps175 fun K _ _ => ?_
 rw [J9] at hr
 refine AN ?_
 refine Bt rfl rfl ?_; intro b1 ad
 refine ua (BX ?_)
 refine uv (BP rfl rfl) ?_
 refine ua (Aa ?_)
 refine Cs 0 rfl ad ?_; intro F2 af ae
 refine E7 (L' := []) rfl ?_
 obtain ⟨l, h5, r7⟩ := AG hr
 have aa : Hs Tryz.prog 220 #[] #[.pointer (some ⟨b1, 0, none⟩)] F2 (fun x : Int => #[.int .i64 x]) l := Ql ae h5
 refine Ao (BU results175 ?_)
 obtain rfl := AL r7
 exact ⟨_, rfl, rfl, aa⟩
set_option maxHeartbeats 1000000 in
theorem Hg {s_ : List ((List Bool) × (List Int))} {f : ((List Bool) × (List Int)) → Option Bool} (ab : Av 25 (Br (IZ 24 cB) (BK 1 (iE .i64))) F B0 BY s_) (al : HG Tryz.prog F La KQ KW (Pu (Br (IZ 24 cB) (BK 1 (iE .i64)))) Value.bool f) {r : Int} (hr : Cu s_ f = some r) :
    Bl Tryz.prog 221 #[.slice B0 s_.length BY, .func (.func La) KQ KW] F (.int .i64 r) := by
 refine sp func221 ntmps221 fun K _ _ => ?_
 rw [Cu] at hr
 refine AN (ua (Aa ?_))
 refine A0 (fun e1 F1 L1 => CS = some r ∧ F = F1 ∧ L1 = [] ∧ e1.sub []) ?_ ?_
 ·refine AN (um ?_)
  refine uv (A7 underlying216 rfl) ?_
  refine um (Aa ?_)
  refine Ap ?_
  refine Bh (fun ao e1 F1 L1 => LA s_ ao fun tl k => Bs f tl k = some r ∧ F = F1 ∧ L1 = [] ∧ e1.sub [(0, .slice B0 s_.length BY), (1, .func (.func La) KQ KW), (7, .int .i64 (s_.length : Int)), (8, .int .i64 k)]) _ (m0 kr ⟨_, _, rfl, BL.start _, hr, rfl, rfl, z4⟩) ?_
  rintro ao e1 _ _ ⟨tl, k, MM, ad, r3, rfl, rfl, au⟩
  refine AB _ au (AN (uv (Bb rfl rfl) ?_))
  refine Aa (As ?_)
  refine cQ (fun c6 => ?_) fun c6 => ?_
  ·obtain ⟨x, bd, rfl, av, g9, aw⟩ := BL.succ ad c6
   rw [Bs] at r3
   refine Aq (As ?_)
   refine Ap ?_
   refine AN (um (ua (BX (um (um (um ?_))))))
   obtain ⟨J4, bg, bh, ax, ae, af, aa, ⟨_, _, rfl, ⟨rfl, ay⟩, ⟨bj, bk, rfl, az⟩⟩, ah, ai⟩ := Av.at (Au (CD (n := 24) (sz := 1) Bq) (Ar (Ac _))) ab ([]) g9.1 av
   refine uv (AK underlying216 sizeOf223 rfl ae rfl g9) (uv (AS isAgg223 sizeOf223 rfl af aa (BB aa ah ai)) ?_)
   obtain ⟨ok, ba, aq⟩ := AG r3
   refine Em rfl al.1 rfl rfl rfl (al.2 _ (A3.refl _) _ _ _ ⟨_, rfl, ⟨_, _, rfl, ⟨rfl, ay⟩, ⟨_, _, rfl, az⟩⟩⟩ ba) (Aa ?_)
   refine A5 rfl (fun aj => ?_) (fun aj => ?_)
   ·have bb := bt aq aj
    refine AN (um (ua (Aa (Ao (AA (Ah (Ah (AA (Ah ?_)))))))))
    refine BU results221 ?_
    obtain rfl := AL bb
    exact rfl
   have bc := bf aq aj
   refine Aq (AD (id := 1) (Am ?_))
   refine uv (Bd rfl rfl (BL.Eg ad c6 (Av.lt ab))) ?_
   refine um (Aa ?_)
   subst MM; exact le kr ⟨_, _, rfl, aw, bc, rfl, rfl, z4⟩
  obtain rfl := BL.zero ad c6
  rw [Bs] at r3
  refine AT (Af (Af ?_))
  refine Ay ?_
  exact mi kr ⟨r3, rfl, rfl, (sn _)⟩
 rintro e1 _ _ ⟨ar, rfl, rfl, ak⟩
 refine AB _ ak ?_
 rw [CS] at ar
 refine AN (ua (Aa (Ao ?_)))
 refine BU results221 ?_
 obtain rfl := AL ar
 exact rfl
theorem GC {s_ : List ((List Bool) × (List Int))} {f : ((List Bool) × (List Int)) → Option Bool} (aa : Av 25 (Br (IZ 24 cB) (BK 1 (iE .i64))) F B0 BY s_) (ab : HG Tryz.prog F La KQ KW (Pu (Br (IZ 24 cB) (BK 1 (iE .i64)))) Value.bool f) {r : Bool} (hr : BA s_ f = some r) :
    Bl Tryz.prog 176 #[.slice B0 s_.length BY, .func (.func La) KQ KW] F (.bool r) := by
 refine sp func176 ntmps176 fun K _ _ => ?_
 rw [BA] at hr
 refine AN (ua (BX (um (um ?_))))
 obtain ⟨n, h1, r2⟩ := AG hr
 refine cV call221 (Hg aa ab h1) (uv (HQ rfl rfl) ?_)
 refine ua (Aa (Ao ?_))
 refine BU results176 ?_
 obtain rfl := AL r2
 exact rfl
set_option maxHeartbeats 1000000 in
theorem JJ {aa : Int} {cv : FuncId} {cw cx : Array Value} {x : (Int × Int) → Option Bool} {bo : Nat} {x2 : Int} {bp : Nat × Nat} {bq : Nat} {Ab : Int} {Al : List (List (List Int))} {br : Nat × Nat} {ba al : Nat} {aj : Array MapEntry} {av : Nat} {x3 : List ((Int × (List Bool)) × Bool)} {bd : Nat × Nat} {ab : Nat} {ad : Option Addr} {ae af : Nat} {ai : LH} {aw : List (Int × (List Bool) × (List Int))} (aq : SI.length = 24) (ak : Av 1 (iE .i64) F FJ FI Fk) (cj : F V5 = some (.cells #[.func (.func cv) cw cx] 162 VA)) (cy : HG Tryz.prog F cv cw cx (Br (iE .i64) (iE .i64)) Value.bool x) (bb : F bo = some (.cells #[.int .i64 x2] 3 bp)) (ck : F JI = some (.cells #[.pointer (some ⟨bq, 0, none⟩)] 215 Ox)) (bu : F bq = some (.cells #[.int .i64 Ad, .int .i64 Ab, .slice Aw Al.length Ax, .slice AF Ak.length AE, .slice AR Az.length AQ] 247 br)) (ax : Av 1 (BK 1 (BK 1 (iE .i64))) F Aw Ax Al) (au : Av 1 (iE .i64) F AF AE Ak) (ay : Av 3 (Br (iE .i64) (Br (iE .i64) (iE .i64))) F AR AQ Az) (ao : F ba = some (.cells #[.map (some al)] 311 bd)) (az : FK IA (vA (cP (cI .i64) (cA cB))) Value.bool aj x3) (ah : Be 0 315 26 (Br (iE .i64) (Br (IZ 24 cB) (BK 1 (iE .i64)))) F ad ae af aw ai) {r : List ((Int × (List Bool)) × Bool)} {r2 : List (Int × (List Bool) × (List Int))} (hr : DL Cf SI Fk aa x x2 Ad Ab Al Ak Az x3 aw = some (r, r2)) :
    SH.Spec Tryz.prog 174 #[.agg ((([.int .i64 Cf] : List Value) ++ (SI.flatMap cB ++ (([.slice FJ Fk.length FI] : List Value)))).toArray), .int .i64 aa, .pointer (some ⟨V5, 0, none⟩), .pointer (some ⟨bo, 0, none⟩), .pointer (some ⟨JI, 0, none⟩), .pointer (some ⟨ba, 0, none⟩), .pointer (some ⟨ab, 0, none⟩)] F ((al, .map aj av) :: ((ab, ce #[.slice ad ae af] 310) :: (ai ++ []))) fun F' L' v => ∃ (bc : Array MapEntry) (bw : Nat) (cz : Option Addr) (da : Nat) (db : Nat) (dd : LH), v = .tuple #[] ∧ L' = (al, .map bc bw) :: ((ab, ce #[.slice cz da db] 310) :: (dd ++ [])) ∧ FK IA (vA (cP (cI .i64) (cA cB))) Value.bool bc r ∧ Be 0 315 26 (Br (iE .i64) (Br (IZ 24 cB) (BK 1 (iE .i64)))) F' cz da db r2 dd := by
 refine sp func174 ntmps174 fun K _ _ => ?_
 rw [DL] at hr
 refine E7 (L' := (al, .map aj av) :: ((ab, ce #[.slice ad ae af] 310) :: (ai ++ []))) (by simp) (AN ?_)
 refine Bt rfl rfl ?_; intro b1 fp
 refine Aa (As (AN ?_))
 refine uv (An isAgg162 rfl (Has.frozen cj) rfl) (uv (An isAgg3 rfl (Has.frozen bb) rfl) (um ?_))
 obtain ⟨ok, h2, r3⟩ := AG hr
 refine Em rfl cy.1 rfl rfl rfl (cy.2 _ (A3.refl _) _ _ _ ⟨_, _, rfl, rfl, rfl⟩ h2) (uv (BC rfl) (Aa ?_))
 refine A5 rfl (fun c4 => ?_) (fun c4 => ?_)
 ·have r5 := bt r3 c4
  refine kW (kd kr) ?_
  refine Ao (Ah ?_)
  refine QS (.inl rfl) results174 ?_
  obtain ⟨rfl, rfl⟩ := D2 r5
  exact ⟨_, _, _, _, _, _, rfl, rfl, az, ah.any⟩
 have r6 := bf r3 c4
 refine Aq (AN (um ?_))
 refine uv (An isAgg215 rfl (Has.frozen ck) rfl) (uv (Ae O1 rfl) (uv (Ae Q7 rfl) (uv (AS (cs := arr cB SI) isAgg221 sizeOf221 rfl (Has.own 0 rfl) (Eb (At (A := ([.int .i64 Cf] : List Value)) (k := 1) (o := 0) rfl (Bm (DM Bq aq)))) (G9 (DM Bq aq) (At (A := ([.int .i64 Cf] : List Value)) (k := 1) (o := 0) rfl (Bm (DM Bq aq))))) (uv (An isAgg3 rfl (Has.frozen bb) rfl) (um ?_)))))
 obtain ⟨a, h7, r8⟩ := AG r6
 refine c0 call160 (Mj bu ax au ay aq h7) ?_; rintro _ F9 _ bg dk ⟨rfl, rfl, ar⟩
 replace ak := ak.mono (Ac _) bg
 replace ah := ah.mono (Au (Ac _) (Au (CD (n := 24) (sz := 1) Bq) (Ar (Ac _)))) bg
 replace ao := bg _ _ ao
 refine AI (ln rfl) ?_
 refine uv (BH (v := .agg ((([.int .i64 aa] : List Value) ++ (a.flatMap cB)).toArray)) rfl (by intro w; obtain ⟨a0, a1, a2, a3, a4, a5, a6, a7, a8, a9, dm, dn, dp, dq, dr, dt, du, dv, dw, dx, dy, dz, eb, ec, rfl⟩ := Nx ar; kernel_rfl)) ?_
 refine Bo rfl zeroValue313 ?_; intro bl eg
 refine AI (L' := (bl, ce ((([.int .i64 0] : List Value) ++ ((List.replicate 24 false).flatMap cB)).toArray) 313) :: ((b1, ce ((([.int .i64 Cf] : List Value) ++ (SI.flatMap cB ++ (([.slice FJ Fk.length FI] : List Value)))).toArray) 315) :: ((al, .map aj av) :: ((ab, ce #[.slice ad ae af] 310) :: (ai ++ []))))) rfl (Ef (i := 0) sizeOf313 rfl rfl rfl (lz (la rfl (DM Bq List.length_replicate))) (lz (la rfl (DM Bq ar))) (N8 (by simp [Value.oneCell']) (J7 Bq _)) (AI (L' := (bl, ce ((([.int .i64 aa] : List Value) ++ (a.flatMap cB)).toArray) 313) :: ((b1, ce ((([.int .i64 Cf] : List Value) ++ (SI.flatMap cB ++ (([.slice FJ Fk.length FI] : List Value)))).toArray) 315) :: ((al, .map aj av) :: ((ab, ce #[.slice ad ae af] 310) :: (ai ++ []))))) rfl (BX (uv (An isAgg311 rfl (Has.frozen ao) rfl) (uv (AS (cs := (([.int .i64 aa] : List Value) ++ (a.flatMap cB)).toArray) isAgg313 sizeOf313 rfl (Has.own 0 rfl) (Eb (FX rfl (Bm rfl) (At (A := ([.int .i64 aa] : List Value)) (k := 1) (o := 0) rfl (Cd (DM Bq ar))))) (G9 (la rfl (DM Bq ar)) (FX rfl (Bm rfl) (At (A := ([.int .i64 aa] : List Value)) (k := 1) (o := 0) rfl (Cd (DM Bq ar)))))) ?_)))))
 obtain ⟨eh, de⟩ := A1 r8
 refine uv (Gs.eq (v' := .bool ((Bz x3 (aa, a)).getD false)) (R2 (k := (aa, a)) (z0 := false) rfl underlying311 U7 zeroValue4 rfl rfl (MR.own 2 rfl) (show FK IA (vA (cP (cI .i64) (cA cB))) Value.bool aj (x3 : List ((Int × (List Bool)) × Bool)) from az) ⟨eh, ar⟩) rfl) (uv (BC rfl) (Aa ?_))
 refine A5 rfl (fun cn => ?_) (fun cn => ?_)
 ·have ei := bt de cn
  refine AN (uv (An isAgg311 rfl (Has.frozen ao) rfl) (uv (AS (cs := (([.int .i64 aa] : List Value) ++ (a.flatMap cB)).toArray) isAgg313 sizeOf313 rfl (Has.own 0 rfl) (Eb (FX rfl (Bm rfl) (At (A := ([.int .i64 aa] : List Value)) (k := 1) (o := 0) rfl (Cd (DM Bq ar))))) (G9 (la rfl (DM Bq ar)) (FX rfl (Bm rfl) (At (A := ([.int .i64 aa] : List Value)) (k := 1) (o := 0) rfl (Cd (DM Bq ar)))))) ?_))
  obtain ⟨ej, en⟩ := A1 ei
  refine MA (i := 2) (k := (aa, a)) (v := true) underlying311 U7 rfl rfl rfl rfl (show FK IA (vA (cP (cI .i64) (cA cB))) Value.bool aj (x3 : List ((Int × (List Bool)) × Bool)) from az) ⟨ej, ar⟩ ?_; intro bh bj bx
  obtain ⟨met, eo, ep⟩ := CH en
  rw [← eo] at bx
  refine AI (L' := (bl, ce ((([.int .i64 aa] : List Value) ++ (a.flatMap cB)).toArray) 313) :: ((b1, ce ((([.int .i64 Cf] : List Value) ++ (SI.flatMap cB ++ (([.slice FJ Fk.length FI] : List Value)))).toArray) 315) :: ((al, .map bh bj) :: ((ab, ce #[.slice ad ae af] 310) :: (ai ++ []))))) rfl (Aa (Dp [(.still, 0), (.still, 1), (.still, 2), (.still, 3), (.still, 5), (.pre, 6), (.seq, 4), (.alloc (ce #[.int .i64 aa] 3) (fun b => .slice (some ⟨b, 0, none⟩) 1 1) [(35, .int .i64 aa)], 6), (.seq, 7), (.still, 8), (.seq, 9), (.seq, 10), (.seq, 11)] (by kernel_rfl) (by kernel_rfl) (⟨⟨_, _, rfl, rfl, rfl, rfl, rfl, Pk rfl (Ie Cm [.int .i64 aa] rfl (by decide) (by simp [Value.cells]) (by decide))⟩, trivial⟩) (by rfl) (by kernel_rfl) (mL [6] ([(ab, ce #[.slice ad ae af] 310)]) rfl (s0 (s1 (s1 (s1 (s2 (s3 sr)))))) (fun H F' L' bm bn => An isAgg310 rfl ((Has.own 0 rfl).ext bm bn) rfl) (mL [9] ([(bl, ce ((([.int .i64 aa] : List Value) ++ (a.flatMap cB)).toArray) 313)]) rfl (s0 (s2 (s1 (s1 (s1 (s3 sr)))))) (fun H F' L' bm bn => AS (cs := (([.int .i64 aa] : List Value) ++ (a.flatMap cB)).toArray) isAgg313 sizeOf313 rfl ((Has.own 0 rfl).ext bm bn) (Eb (FX rfl (Bm rfl) (At (A := ([.int .i64 aa] : List Value)) (k := 1) (o := 0) rfl (Cd (DM Bq ar))))) (G9 (la rfl (DM Bq ar)) (FX rfl (Bm rfl) (At (A := ([.int .i64 aa] : List Value)) (k := 1) (o := 0) rfl (Cd (DM Bq ar)))))) (mS [7] rfl (Ae TM rfl) (mL [32] ([(b1, ce ((([.int .i64 Cf] : List Value) ++ (SI.flatMap cB ++ (([.slice FJ Fk.length FI] : List Value)))).toArray) 315)]) rfl (s0 (s1 (s2 (s1 (s1 (s3 sr)))))) (fun H F' L' bm bn => An isAgg33 rfl ((Has.own 0 rfl).ext bm bn) (E8 (At (A := ([.int .i64 Cf] : List Value)) (k := 1) (o := 24) rfl (At (A := SI.flatMap cB) (k := 24) (o := 0) (DM Bq aq) (Cd rfl))))) (mS [1] rfl (Bw rfl) ?_)))))))
  refine ⟨⟨_, rfl, z1, by kernel_rfl⟩, ?_⟩
  refine ⟨_, [(33, .slice FJ Fk.length FI)], rfl, rfl, z1, by kernel_rfl, ?_⟩; intro H
  obtain ⟨l, er, eu⟩ := AG ep
  refine c0 call110 (He ak er) ?_; rintro _ fq _ bz cp ⟨ew, ey, ez, cq, rfl, rfl, bk⟩
  replace ah := ah.mono (Au (Ac _) (Au (CD (n := 24) (sz := 1) Bq) (Ar (Ac _)))) bz
  replace bk := bk.new fun p hp => cp p (by simp [hp])
  refine AI (lp (ln rfl)) (kO (kf (fS fO) (kf (fS fO) (kf (fS fO) (kf (fS fO) kr)))) ?_)
  refine Aa ⟨_, rfl, bz, [5, 1, 0], by kernel_rfl, .inl (.inr (fun d h => by cases h; rfl)), (fc sm (fc (s0 (s2 (s1 (s1 (s1 (s3 (s3 sr))))))) (fc (s0 (s1 (s1 (s1 (s2 (s3 (s3 sr))))))) nm))), ?_⟩
  refine SD rfl ?_; intro df fa
  refine U4 (L' := (df, ce #[.int .i64 aa] 3) :: ((bl, ce ((([.int .i64 aa] : List Value) ++ (a.flatMap cB)).toArray) 313) :: ((b1, ce ((([.int .i64 Cf] : List Value) ++ (SI.flatMap cB ++ (([.slice FJ Fk.length FI] : List Value)))).toArray) 315) :: ((al, .map bh bj) :: ((ab, ce #[.slice ad ae af] 310) :: (cq ++ (ai ++ []))))))) rfl ?_
  refine ⟨_, [(34, .slice ew ey ez), (36, .slice (some ⟨df, 0, none⟩) 1 1)], rfl, rfl, z2, by kernel_rfl, ?_⟩; intro H
  obtain ⟨l2, fb, fe, ff⟩ := GM eu
  refine Fm (xs := l) (ys := [aa]) (zs := l2) rfl Cm rfl rfl (Nat.le_refl _) (fun _ => .c (.c (.c (.c (.c .h))))) bk (H2.box (vss := [[.int .i64 aa]]) (ys := [aa]) 0 rfl (Ac _) (.cons rfl .nil) rfl rfl) fb fe (by decide) ?_; intro ca cg cb fg cd
  refine kO (kd kr) ?_
  refine Aa ⟨_, rfl, A3.refl _, [1, 0], by kernel_rfl, .inl (.inr (fun d h => by cases h; rfl)), (fc (s0 (s2 (s1 (s1 (s1 (s3 (s3 sr))))))) (fc (s0 (s1 (s1 (s1 (s2 (s3 (s3 sr))))))) nm)), ?_⟩
  refine mL [31, 37] ([]) rfl sm (fun H F' L' bm bn => BH (v := .agg ((([.int .i64 aa] : List Value) ++ (a.flatMap cB ++ (([.slice ca cg cb] : List Value)))).toArray)) rfl (by intro w; obtain ⟨a0, a1, a2, a3, a4, a5, a6, a7, a8, a9, dm, dn, dp, dq, dr, dt, du, dv, dw, dx, dy, dz, eb, ec, rfl⟩ := Nx ar; kernel_rfl)) ?_
  refine ⟨_, [(38, .agg ((([.int .i64 aa] : List Value) ++ (a.flatMap cB ++ (([.slice ca cg cb] : List Value)))).toArray))], rfl, rfl, z1, by kernel_rfl, ?_⟩; intro H
  refine Jk (cs := (([.int .i64 aa] : List Value) ++ (a.flatMap cB ++ (([.slice ca cg cb] : List Value)))).toArray) rfl rfl (Nc UN (.agg (([.int .i64 aa] : List Value) ++ (a.flatMap cB ++ (([.slice ca cg cb] : List Value)))).toArray) (lz (la rfl (la (DM Bq ar) rfl))) (by decide)) ?_; intro fh fi
  refine Aa ⟨_, rfl, A3.refl _, [0], by kernel_rfl, .inl (.inr (fun d h => by cases h; rfl)), (fc (s0 (s1 (s1 (s1 (s1 (s2 (s3 (s3 sr)))))))) nm), ?_⟩
  refine ⟨_, [(30, .slice ad ae af), (39, .slice (some ⟨fh, 0, none⟩) 1 1)], rfl, rfl, z2, by kernel_rfl, ?_⟩; intro H
  obtain rfl := (Be.Eu cd).1
  refine C1 (Nat.le_refl _) (Ac _) (fC (fC (fC (fC (fC fP))))) cd ?_; intro ft cf fj
  replace ah := ah.mono (Au (Ac _) (Au (CD (n := 24) (sz := 1) Bq) (Ar (Ac _)))) cf
  obtain ⟨l3, fk, fl, fm⟩ := GM ff
  refine Fm (xs := aw) (ys := [(aa, a, l2)]) (zs := l3) rfl UN rfl rfl (Nat.zero_le _) (fun _ => .c (.c (.c (.c (.c .h))))) ah (H2.box (vss := [(([.int .i64 aa] : List Value) ++ (a.flatMap cB ++ (([.slice ca l2.length cb] : List Value))))]) (ys := [(aa, a, l2)]) 0 rfl (Au (Ac _) (Au (CD (n := 24) (sz := 1) Bq) (Ar (Ac _)))) (.cons ⟨_, _, rfl, rfl, ⟨_, _, rfl, ⟨rfl, ar⟩, ⟨_, _, rfl, fj⟩⟩⟩ .nil) (by simp) rfl) fk fl (by decide) ?_; intro dg dh di ct cu
  refine kO (kd kr) ?_
  refine Aa ⟨_, rfl, cf, [], by kernel_rfl, .inl (.inl rfl), nm, ?_⟩
  refine ⟨_, [(6, .pointer (some ⟨ab, 0, none⟩)), (40, .slice dg dh di)], rfl, rfl, z2, by kernel_rfl, ?_⟩; intro H
  refine Cv (i := 3) sizeOf310 rfl rfl rfl rfl (CK rfl) (AI (L' := (bl, ce ((([.int .i64 aa] : List Value) ++ (a.flatMap cB)).toArray) 313) :: ((b1, ce ((([.int .i64 Cf] : List Value) ++ (SI.flatMap cB ++ (([.slice FJ Fk.length FI] : List Value)))).toArray) 315) :: ((al, .map bh bj) :: ((ab, ce #[.slice dg dh di] 310) :: (ct ++ []))))) rfl ?_)
  refine Aa ⟨undef, rfl, A3.refl _, [], by kernel_rfl, .inl (.inl rfl), nm, ?_⟩
  refine Ff (Ju (.inr rfl) results174 (s1 (s1 (s2 (s2 (s4 sr))))) ?_)
  obtain ⟨rfl, rfl⟩ := D2 fm
  exact ⟨_, _, _, _, _, _, rfl, rfl, bx, cu.any⟩
 have fo := bf de cn
 refine Aq (Ju (.inr rfl) results174 (s1 (s1 (s2 (s2 (s4 sr))))) ?_)
 obtain ⟨rfl, rfl⟩ := D2 fo
 exact ⟨_, _, _, _, _, _, rfl, rfl, az, ah.any⟩
theorem MQ {ah : List Bool} {aa : Option Addr} {ab : Nat} {ad : List Int} (af : SI.length = 24) (_h_course : Av 1 (iE .i64) F FJ FI Fk) (ai : F V5 = some (.cells ((([.int .i64 Cf] : List Value) ++ (ah.flatMap cB ++ (([.slice aa ad.length ab] : List Value)))).toArray) 315 VA)) (ae : ah.length = 24) (_h_course2 : Av 1 (iE .i64) F aa ab ad) {r : Bool} (hr : Fp SI Fk Cf ah ad = some r) :
    Bl Tryz.prog 177 #[.agg ((SI.flatMap cB ++ (([.slice FJ Fk.length FI] : List Value))).toArray), .pointer (some ⟨V5, 0, none⟩)] F (.bool r) := by
 refine sp func177 ntmps177 fun K _ _ => ?_
 rw [Fp] at hr
 refine AN ?_
 refine Bt rfl rfl ?_; intro b1 aj
 refine ua (BX ?_)
 refine uv (Ae QJ rfl) (uv (AS isAgg221 sizeOf221 rfl (Has.own 0 rfl) (Eb (Bm (DM Bq af))) (G9 (DM Bq af) (Bm (DM Bq af)))) (uv (Ae O1 rfl) (uv (Ae Q7 rfl) (uv (AS isAgg221 sizeOf221 rfl (Has.frozen ai) (Eb (At (k := 1) (o := 0) rfl (Bm (DM Bq ae)))) (G9 (DM Bq ae) (At (k := 1) (o := 0) rfl (Bm (DM Bq ae))))) (uv (UP (XL _ _ _ _) (fun w => Wp (Xw SI ah af ae w)) rfl rfl) ?_)))))
 refine ua (Aa ?_)
 refine kW kn (Ao (BU results177 ?_))
 obtain rfl := AL hr
 exact rfl
end Go.Proofs.YtfmapnhfamoecaaGreat
