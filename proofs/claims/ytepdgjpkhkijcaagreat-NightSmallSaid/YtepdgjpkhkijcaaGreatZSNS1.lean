/- The walks that this claim needs, printed by a program of mine; part 1. -/
import Derived.Test.YtepdgjpkhkijcaaGreatZSShX
import Derived.Test.YtepdgjpkhkijcaaGreatZSShZ
import Derived.Test.YtepdgjpkhkijcaaGreatZSYC
import Derived.Test.YtepdgjpkhkijcaaGreatZSYD
import Derived.Test.YtepdgjpkhkijcaaGreatZSTf
import Derived.Test.YtepdgjpkhkijcaaGreatZSTd
namespace Go.Proofs.YtepdgjpkhkijcaaGreat
open Go.SH Go.PL
open Tryz 
variable {G4 : Array MapEntry} {NI NR KW KI K9 Lj : Array Value} {F : FS} {NK KT Ln : FuncId} {AZ hour m Bx n r3 BO : Int} {ok : Int → Option Bool} {BW : List (Int × Int)} {rows : List (List Bool)} {Af Ab : List (List Int)} {Hx MM HL Om Ff JS Ai Jy Ad Dd GY : Nat} {KD MV O0 : Nat × Nat} {Aj JA Ac Dc GX : Option Addr} {v1 : Value}
set_option maxHeartbeats 1000000 in
theorem Cd {r r2 : List (List Int)} (hr : B8 = some (r, r2)) :
    SH.Spec Tryz.prog 4 #[] F [] fun F' L' v => ∃ (ad : Nat) (ae : Nat) (ah : Nat) (ai : Nat) (a6 : Nat) (aa : Nat) (ab : Nat), v = .agg #[.slice (some ⟨ad, 0, none⟩) 4 4, .slice (some ⟨a6, 0, none⟩) 2 2] ∧ L' = [(ad, ce #[.slice none 0 0, .slice (some ⟨ae, 0, none⟩) 1 1, .slice (some ⟨ah, 0, none⟩) 1 1, .slice (some ⟨ai, 0, none⟩) 2 2] 22), (ae, ce #[.int .i64 0] 3), (ah, ce #[.int .i64 1] 3), (ai, ce #[.int .i64 0, .int .i64 2] 3), (a6, ce #[.slice (some ⟨aa, 0, none⟩) 4 4, .slice (some ⟨ab, 0, none⟩) 4 4] 36), (aa, ce #[.int .i64 0, .int .i64 0, .int .i64 2, .int .i64 1] 35), (ab, ce #[.int .i64 0, .int .i64 0, .int .i64 2, .int .i64 0] 35)] ∧ F = F' := by
 refine sp func4 ntmps4 fun K _ _ => ?_
 rw [B8] at hr
 refine AI ?_
 refine A1 rfl zeroValue26 ?_; intro b1 aj
 refine BI ?_
 refine bA (cs := #[.int .i64 0]) BN [.int .i64 0] ?_; intro b2 ak
 refine bA (cs := #[.int .i64 1]) BN [.int .i64 1] ?_; intro b3 al
 refine bA (cs := #[.int .i64 0, .int .i64 2]) BN [.int .i64 0, .int .i64 2] ?_; intro b4 ao
 refine bA (cs := #[.slice none 0 0, .slice (some ⟨b2, 0, none⟩) 1 1, .slice (some ⟨b3, 0, none⟩) 1 1, .slice (some ⟨b4, 0, none⟩) 2 2]) FP [.slice none 0 0, .slice (some ⟨b2, 0, none⟩) 1 1, .slice (some ⟨b3, 0, none⟩) 1 1, .slice (some ⟨b4, 0, none⟩) 2 2] ?_; intro b5 aq
 refine bA (cs := #[.int .i64 0, .int .i64 0, .int .i64 2, .int .i64 1]) Kp [.int .i64 0, .int .i64 0, .int .i64 2, .int .i64 1] ?_; intro b6 ar
 refine bA (cs := #[.int .i64 0, .int .i64 0, .int .i64 2, .int .i64 0]) Kp [.int .i64 0, .int .i64 0, .int .i64 2, .int .i64 0] ?_; intro b7 au
 refine bA (cs := #[.slice (some ⟨b6, 0, none⟩) 4 4, .slice (some ⟨b7, 0, none⟩) 4 4]) KX [.slice (some ⟨b6, 0, none⟩) 4 4, .slice (some ⟨b7, 0, none⟩) 4 4] ?_; intro b8 av
 refine uv (BL (v := .agg #[.slice (some ⟨b5, 0, none⟩) 4 4, .slice (some ⟨b8, 0, none⟩) 2 2]) rfl (by intro w; kernel_rfl)) ?_
 refine A6 (i := 7) sizeOf26 rfl rfl rfl (by simp [Value.oneCell']) rfl (A5 rfl) (AD rfl (Aa (kW (kf (fC (fC (fC (fC (fC (fC (fC fO))))))) (kf (fC (fC (fC fO))) (kf (fC (fC (fC (fC (fC fO))))) (kf (fC (fC (fC (fC fO)))) (kf (fC (fC (fC fO))) (kc (kf (fC fO) kr))))))) (As (Lm results4 (CK (cs := #[.slice (some ⟨b5, 0, none⟩) 4 4, .slice (some ⟨b8, 0, none⟩) 2 2]) isAgg26 sizeOf26 rfl (Has.own 0 rfl) (A5 rfl) rfl) (s1 (s2 (s2 (s2 (s2 (s2 (s2 (s2 sr)))))))) ?_)))))
 obtain ⟨rfl, rfl⟩ := BT hr
 exact ⟨_, _, _, _, _, _, _, rfl, rfl, rfl⟩
theorem D3 {lo hi : Int} {r : Bool} (hr : E3 n lo hi = some r) :
    Ba Tryz.prog 55 #[.int .i64 n, .int .i64 lo, .int .i64 hi] F (.bool r) := by
 refine sp func55 ntmps55 fun K _ _ => ?_
 rw [E3] at hr
 refine AI (ua (BI (um (um ?_))))
 refine uv (Hy rfl rfl) (um ?_)
 by_cases c1 : lo ≤ n
 ·have r2 := AQ hr c1
  refine nT c1 (um (nT c1 (um (nT c1 ?_))))
  refine uv (Q6 rfl rfl) (uv (Aw (AS rfl c1) rfl) ?_)
  refine ua (Aa (As ?_))
  refine BD results55 ?_
  obtain rfl := AH r2
  exact rfl
 have r3 := AR hr c1
 refine fF c1 (fF c1 (fF c1 ?_))
 refine uv (Ar (AM rfl c1) rfl) ?_
 refine ua (Aa (As ?_))
 refine BD results55 ?_
 obtain rfl := AH r3
 exact rfl
set_option maxHeartbeats 1000000 in
theorem GI {s_ : List (List Int)} {f : (List Int) → Option Bool} (a6 : Au 1 (Bm 1 (iE .i64)) F GX GY s_) (aj : KE Tryz.prog F NK NI NR (Bm 1 (iE .i64)) Value.bool f) {r : Int} (hr : Cs s_ f = some r) :
    Ba Tryz.prog 127 #[.slice GX s_.length GY, .func (.func NK) NI NR] F (.int .i64 r) := by
 refine sp func127 ntmps127 fun K _ _ => ?_
 rw [Cs] at hr
 refine AI (ua (Aa ?_))
 refine AK (fun e1 F1 L1 => B9 = some r ∧ F = F1 ∧ L1 = [] ∧ e1.sub []) ?_ ?_
 ·refine AI (um ?_)
  refine uv (AJ underlying24 rfl) ?_
  refine um (Aa ?_)
  refine Ap ?_
  refine A2 (fun ak e1 F1 L1 => LA s_ ak fun tl k => Bv f tl k = some r ∧ F = F1 ∧ L1 = [] ∧ e1.sub [(0, .slice GX s_.length GY), (1, .func (.func NK) NI NR), (7, .int .i64 (s_.length : Int)), (8, .int .i64 k)]) _ (m0 kr ⟨_, _, rfl, A8.start _, hr, rfl, rfl, z4⟩) ?_
  rintro ak e1 _ _ ⟨tl, k, ar, aa, r3, rfl, rfl, au⟩
  refine Az _ au (AI (uv (AV rfl rfl) ?_))
  refine Aa (At ?_)
  refine cQ (fun c6 => ?_) fun c6 => ?_
  ·obtain ⟨x, bd, rfl, av, g9, aw⟩ := A8.succ aa c6
   rw [Bv] at r3
   refine Aq (At ?_)
   refine Ap ?_
   refine AI (um (ua (BI (um (um (um ?_))))))
   obtain ⟨PK, bg, bh, ax, ab, ad, al, ⟨bj, bk, rfl, ay⟩, az, ae⟩ := Au.at (Ak (Ae _)) a6 ([]) g9.1 av
   refine uv (AF underlying24 sizeOf36 rfl ab rfl g9) (uv (Ao isAgg36 rfl ad (ae 0 (by decide))) ?_)
   obtain ⟨ok, ba, ao⟩ := AB r3
   refine Hn rfl aj.1 rfl rfl rfl (aj.2 _ (AN.refl _) _ _ _ ⟨_, _, rfl, ay⟩ ba) (Aa ?_)
   refine AT rfl (fun ah => ?_) (fun ah => ?_)
   ·have bb := bt ao ah
    refine AI (um (ua (Aa (As (Ay (Al (Al (Ay (Al ?_)))))))))
    refine BD results127 ?_
    obtain rfl := AH bb
    exact rfl
   have bc := bf ao ah
   refine Aq (Ax (id := 1) (An ?_))
   refine uv (AY rfl rfl (A8.CC aa c6 (Au.lt a6))) ?_
   refine um (Aa ?_)
   subst ar; exact le kr ⟨_, _, rfl, aw, bc, rfl, rfl, z4⟩
  obtain rfl := A8.zero aa c6
  rw [Bv] at r3
  refine AL (Am (Am ?_))
  refine AA ?_
  exact mi kr ⟨r3, rfl, rfl, (sn _)⟩
 rintro e1 _ _ ⟨aq, rfl, rfl, ai⟩
 refine Az _ ai ?_
 rw [B9] at aq
 refine AI (ua (Aa (As ?_)))
 refine BD results127 ?_
 obtain rfl := AH aq
 exact rfl
theorem FT {s_ : List (List Int)} {f : (List Int) → Option Bool} (a6 : Au 1 (Bm 1 (iE .i64)) F GX GY s_) (aa : KE Tryz.prog F NK NI NR (Bm 1 (iE .i64)) Value.bool f) {r : Bool} (hr : Cb s_ f = some r) :
    Ba Tryz.prog 106 #[.slice GX s_.length GY, .func (.func NK) NI NR] F (.bool r) := by
 refine sp func106 ntmps106 fun K _ _ => ?_
 rw [Cb] at hr
 refine AI (ua (BI (um (um ?_))))
 obtain ⟨n, h1, r2⟩ := AB hr
 refine cV call127 (GI a6 aa h1) (uv (Hy rfl rfl) ?_)
 refine ua (Aa (As ?_))
 refine BD results106 ?_
 obtain rfl := AH r2
 exact rfl
theorem J4 {ab : Option Addr} {ad : Nat} {x : List Int} {so : (List Int) → Option Bool} (ae : Au 1 (iE .i64) F ab ad x) (a6 : F Om = some (.cells #[.func (.func Ln) K9 Lj] 99 O0)) (aa : KE Tryz.prog F Ln K9 Lj (Bm 1 (iE .i64)) Value.bool so) {r : Bool} (hr : DO x so = some r) :
    Ba Tryz.prog 107 #[.slice ab x.length ad, .pointer (some ⟨Om, 0, none⟩)] F (.bool r) := by
 refine sp func107 ntmps107 fun K _ _ => ?_
 rw [DO] at hr
 refine AI (ua (BI ?_))
 refine uv (Ao isAgg99 rfl (Has.frozen a6) rfl) (um ?_)
 obtain ⟨ok, h1, r2⟩ := AB hr
 refine Hn rfl aa.1 rfl rfl rfl (aa.2 _ (AN.refl _) _ _ _ ⟨_, _, rfl, ae⟩ h1) (uv (BM rfl) ?_)
 refine ua (Aa (As ?_))
 refine BD results107 ?_
 obtain rfl := AH r2
 exact rfl
theorem HQ {l : List (List Int)} {so : (List Int) → Option Bool} (aa : Au 1 (Bm 1 (iE .i64)) F JA Jy l) (a6 : KE Tryz.prog F Ln K9 Lj (Bm 1 (iE .i64)) Value.bool so) {r : Bool} (hr : Et l so = some r) :
    Ba Tryz.prog 56 #[.slice JA l.length Jy, .func (.func Ln) K9 Lj] F (.bool r) := by
 refine sp func56 ntmps56 fun K _ _ => ?_
 rw [Et] at hr
 refine AI ?_
 refine By rfl rfl ?_; intro b1 ae
 refine ua (BI (um ?_))
 refine uv (D5 rfl rfl) ?_
 refine AO 0 rfl ae ?_; intro F2 ab ah
 refine AD rfl ?_
 replace aa := aa.mono (Ak (Ae _)) ab
 replace a6 := a6.mono ab
 have ai : KE Tryz.prog F2 107 #[] #[.pointer (some ⟨b1, 0, none⟩)] (Bm 1 (iE .i64)) Value.bool (fun ad : (List Int) => DO ad so) := ⟨call107, fun F2 h2 vs ad r ha hr => by obtain ⟨a5, c6, rfl, h7⟩ := ha; exact J4 h7 (h2 _ _ ah) (a6.mono h2) hr⟩
 obtain ⟨ok, h9, aj⟩ := AB hr
 refine cV call106 (FT aa ai h9) (uv (BM rfl) ?_)
 refine ua (Aa (As ?_))
 refine BD results56 ?_
 obtain rfl := AH aj
 exact rfl
theorem KH {s_ : List Int} {v : Int} (a6 : Au 1 (iE .i64) F GX GY s_) {r : Int} (hr : G3 s_ v = some r) :
    Ba Tryz.prog 108 #[.slice GX s_.length GY, .int .i64 v] F (.int .i64 r) := by
 refine sp func108 ntmps108 fun K _ _ => ?_
 rw [G3] at hr
 refine AI (ua (Aa ?_))
 refine AK (fun e1 F1 L1 => FK = some r ∧ F = F1 ∧ L1 = [] ∧ e1.sub []) ?_ ?_
 ·refine AI (um ?_)
  refine uv (AJ underlying22 rfl) ?_
  refine um (Aa ?_)
  refine Ap ?_
  refine A2 (fun aj e1 F1 L1 => LA s_ aj fun tl k => C9 v tl k = some r ∧ F = F1 ∧ L1 = [] ∧ e1.sub [(0, .slice GX s_.length GY), (1, .int .i64 v), (7, .int .i64 (s_.length : Int)), (8, .int .i64 k)]) _ (m0 kr ⟨_, _, rfl, A8.start _, hr, rfl, rfl, z4⟩) ?_
  rintro aj e1 _ _ ⟨tl, k, ao, aa, r3, rfl, rfl, aq⟩
  refine Az _ aq (AI (uv (AV rfl rfl) ?_))
  refine Aa (At ?_)
  refine cQ (fun c6 => ?_) fun c6 => ?_
  ·obtain ⟨x, az, rfl, ar, g9, au⟩ := A8.succ aa c6
   rw [C9] at r3
   refine Aq (At ?_)
   refine Ap ?_
   refine AI (um (ua (BI (um (um (um ?_))))))
   obtain ⟨PK, ba, bb, av, ab, ad, ak, rfl, aw, ae⟩ := Au.at (Ae _) a6 ([]) g9.1 ar
   refine uv (AF underlying22 sizeOf3 rfl ab rfl g9) (uv (Ao isAgg3 rfl ad (ae 0 (by decide))) (uv (Bb rfl rfl) (Aa ?_)))
   refine cQ (fun ah => ?_) fun ah => ?_
   ·have ax := AQ r3 ah
    refine AI (um (ua (Aa (As (Ay (Al (Al (Ay (Al ?_)))))))))
    refine BD results108 ?_
    obtain rfl := AH ax
    exact rfl
   have ay := AR r3 ah
   refine Aq (Ax (id := 1) (An ?_))
   refine uv (AY rfl rfl (A8.CC aa c6 (Au.lt a6))) ?_
   refine um (Aa ?_)
   subst ao; exact le kr ⟨_, _, rfl, au, ay, rfl, rfl, z4⟩
  obtain rfl := A8.zero aa c6
  rw [C9] at r3
  refine AL (Am (Am ?_))
  refine AA ?_
  exact mi kr ⟨r3, rfl, rfl, (sn _)⟩
 rintro e1 _ _ ⟨al, rfl, rfl, ai⟩
 refine Az _ ai ?_
 rw [FK] at al
 refine AI (ua (Aa (As ?_)))
 refine BD results108 ?_
 obtain rfl := AH al
 exact rfl
theorem J6 {s_ : List Int} {v : Int} (a6 : Au 1 (iE .i64) F GX GY s_) {r : Bool} (hr : FH s_ v = some r) :
    Ba Tryz.prog 58 #[.slice GX s_.length GY, .int .i64 v] F (.bool r) := by
 refine sp func58 ntmps58 fun K _ _ => ?_
 rw [FH] at hr
 refine AI (ua (BI (um (um ?_))))
 obtain ⟨n, h1, r2⟩ := AB hr
 refine cV call108 (KH a6 h1) (uv (Hy rfl rfl) ?_)
 refine ua (Aa (As ?_))
 refine BD results58 ?_
 obtain rfl := AH r2
 exact rfl
set_option maxHeartbeats 1000000 in
theorem Gx {s_ : List Int} {f : Int → Option Bool} (a6 : Au 1 (iE .i64) F GX GY s_) (aj : KE Tryz.prog F NK NI NR (iE .i64) Value.bool f) {r : Int} (hr : Co s_ f = some r) :
    Ba Tryz.prog 128 #[.slice GX s_.length GY, .func (.func NK) NI NR] F (.int .i64 r) := by
 refine sp func128 ntmps128 fun K _ _ => ?_
 rw [Co] at hr
 refine AI (ua (Aa ?_))
 refine AK (fun e1 F1 L1 => B0 = some r ∧ F = F1 ∧ L1 = [] ∧ e1.sub []) ?_ ?_
 ·refine AI (um ?_)
  refine uv (AJ underlying36 rfl) ?_
  refine um (Aa ?_)
  refine Ap ?_
  refine A2 (fun ak e1 F1 L1 => LA s_ ak fun tl k => Bs f tl k = some r ∧ F = F1 ∧ L1 = [] ∧ e1.sub [(0, .slice GX s_.length GY), (1, .func (.func NK) NI NR), (7, .int .i64 (s_.length : Int)), (8, .int .i64 k)]) _ (m0 kr ⟨_, _, rfl, A8.start _, hr, rfl, rfl, z4⟩) ?_
  rintro ak e1 _ _ ⟨tl, k, ar, aa, r3, rfl, rfl, au⟩
  refine Az _ au (AI (uv (AV rfl rfl) ?_))
  refine Aa (At ?_)
  refine cQ (fun c6 => ?_) fun c6 => ?_
  ·obtain ⟨x, bc, rfl, av, g9, aw⟩ := A8.succ aa c6
   rw [Bs] at r3
   refine Aq (At ?_)
   refine Ap ?_
   refine AI (um (ua (BI (um (um (um ?_))))))
   obtain ⟨PK, bd, bg, ax, ab, ad, al, rfl, ay, ae⟩ := Au.at (Ae _) a6 ([]) g9.1 av
   refine uv (AF underlying36 sizeOf35 rfl ab rfl g9) (uv (Ao isAgg35 rfl ad (ae 0 (by decide))) ?_)
   obtain ⟨ok, az, ao⟩ := AB r3
   refine Hn rfl aj.1 rfl rfl rfl (aj.2 _ (AN.refl _) _ _ _ rfl az) (Aa ?_)
   refine AT rfl (fun ah => ?_) (fun ah => ?_)
   ·have ba := bt ao ah
    refine AI (um (ua (Aa (As (Ay (Al (Al (Ay (Al ?_)))))))))
    refine BD results128 ?_
    obtain rfl := AH ba
    exact rfl
   have bb := bf ao ah
   refine Aq (Ax (id := 1) (An ?_))
   refine uv (AY rfl rfl (A8.CC aa c6 (Au.lt a6))) ?_
   refine um (Aa ?_)
   subst ar; exact le kr ⟨_, _, rfl, aw, bb, rfl, rfl, z4⟩
  obtain rfl := A8.zero aa c6
  rw [Bs] at r3
  refine AL (Am (Am ?_))
  refine AA ?_
  exact mi kr ⟨r3, rfl, rfl, (sn _)⟩
 rintro e1 _ _ ⟨aq, rfl, rfl, ai⟩
 refine Az _ ai ?_
 rw [B0] at aq
 refine AI (ua (Aa (As ?_)))
 refine BD results128 ?_
 obtain rfl := AH aq
 exact rfl
theorem FF {s_ : List Int} {f : Int → Option Bool} (a6 : Au 1 (iE .i64) F GX GY s_) (aa : KE Tryz.prog F NK NI NR (iE .i64) Value.bool f) {r : Bool} (hr : B5 s_ f = some r) :
    Ba Tryz.prog 109 #[.slice GX s_.length GY, .func (.func NK) NI NR] F (.bool r) := by
 refine sp func109 ntmps109 fun K _ _ => ?_
 rw [B5] at hr
 refine AI (ua (BI (um (um ?_))))
 obtain ⟨n, h1, r2⟩ := AB hr
 refine cV call128 (Gx a6 aa h1) (uv (Hy rfl rfl) ?_)
 refine ua (Aa (As ?_))
 refine BD results109 ?_
 obtain rfl := AH r2
 exact rfl
theorem Lu {x : Int} {so : Int → Option Bool} (a6 : F Om = some (.cells #[.func (.func Ln) K9 Lj] 102 O0)) (aa : KE Tryz.prog F Ln K9 Lj (iE .i64) Value.bool so) {r : Bool} (hr : Gq x so = some r) :
    Ba Tryz.prog 110 #[.int .i64 x, .pointer (some ⟨Om, 0, none⟩)] F (.bool r) := by
 refine sp func110 ntmps110 fun K _ _ => ?_
 rw [Gq] at hr
 refine AI (ua (BI ?_))
 refine uv (Ao isAgg102 rfl (Has.frozen a6) rfl) (um ?_)
 obtain ⟨ok, h1, r2⟩ := AB hr
 refine Hn rfl aa.1 rfl rfl rfl (aa.2 _ (AN.refl _) _ _ _ rfl h1) (uv (BM rfl) ?_)
 refine ua (Aa (As ?_))
 refine BD results110 ?_
 obtain rfl := AH r2
 exact rfl
theorem Ma {l : List Int} {so : Int → Option Bool} (aa : Au 1 (iE .i64) F JA Jy l) (a6 : KE Tryz.prog F Ln K9 Lj (iE .i64) Value.bool so) {r : Bool} (hr : IV l so = some r) :
    Ba Tryz.prog 60 #[.slice JA l.length Jy, .func (.func Ln) K9 Lj] F (.bool r) := by
 refine sp func60 ntmps60 fun K _ _ => ?_
 rw [IV] at hr
 refine AI ?_
 refine By rfl rfl ?_; intro b1 ae
 refine ua (BI (um ?_))
 refine uv (D5 rfl rfl) ?_
 refine AO 0 rfl ae ?_; intro F2 ab ah
 refine AD rfl ?_
 replace aa := aa.mono (Ae _) ab
 replace a6 := a6.mono ab
 have ai : KE Tryz.prog F2 110 #[] #[.pointer (some ⟨b1, 0, none⟩)] (iE .i64) Value.bool (fun ad : Int => Gq ad so) := ⟨call110, fun F2 h2 vs ad r ha hr => by obtain rfl := ha; exact Lu (h2 _ _ ah) (a6.mono h2) hr⟩
 obtain ⟨ok, h6, r7⟩ := AB hr
 refine cV call109 (FF aa ai h6) (uv (BM rfl) ?_)
 refine ua (Aa (As ?_))
 refine BD results60 ?_
 obtain rfl := AH r7
 exact rfl
theorem JM {r : Bool} (hr : FG m = some r) :
    Ba Tryz.prog 61 #[.int .i64 m] F (.bool r) := by
 refine sp func61 ntmps61 fun K _ _ => ?_
 rw [FG] at hr
 refine AI (ua (BI (um ?_)))
 obtain ⟨ok, h1, r2⟩ := AB hr
 refine cV call55 (D3 h1) ?_
 refine ua (Aa (As ?_))
 refine BD results61 ?_
 obtain rfl := AH r2
 exact rfl
theorem M8 {l : List Int} (aa : Au 1 (iE .i64) F JA Jy l) {r : Bool} (hr : I0 l = some r) :
    Ba Tryz.prog 59 #[.slice JA l.length Jy] F (.bool r) := by
 refine sp func59 ntmps59 fun K _ _ => ?_
 rw [I0] at hr
 refine AI (ua (BI (um ?_)))
 have ab : KE Tryz.prog F 61 #[] #[] (iE .i64) Value.bool (fun a6 : Int => FG a6) := ⟨call61, fun F2 h2 vs a6 r ha hr => by obtain rfl := ha; exact JM hr⟩
 obtain ⟨ok, h2, r3⟩ := AB hr
 refine cV call60 (Ma aa ab h2) ?_
 refine ua (Aa (As ?_))
 refine BD results59 ?_
 obtain rfl := AH r3
 exact rfl
theorem MZ {l : List Int} {a6 : Nat} {ad : Int} {aa : Nat × Nat} (_h_l : Au 1 (iE .i64) F JA Jy l) (ab : F a6 = some (.cells #[.int .i64 ad] 3 aa)) {r : Bool} (hr : I4 l ad = some r) :
    Ba Tryz.prog 57 #[.slice JA l.length Jy, .pointer (some ⟨a6, 0, none⟩)] F (.bool r) := by
 refine sp func57 ntmps57 fun K _ _ => ?_
 rw [I4] at hr
 refine AI (ua (BI (um ?_)))
 refine uv (AJ underlying36 rfl) (uv (Ao isAgg3 rfl (Has.frozen ab) rfl) (uv (Bb rfl rfl) ?_))
 refine ua (Aa (As ?_))
 refine BD results57 ?_
 obtain rfl := AH hr
 exact rfl
set_option maxHeartbeats 1000000 in
theorem GC (a6 : Au 1 (Bm 1 (iE .i64)) F Ac Ad Ab) (aa : Au 1 (Bm 1 (iE .i64)) F Aj Ai Af) {r : Int} (hr : FY Ab Af = some r) :
    Ba Tryz.prog 12 #[.agg #[.slice Ac Ab.length Ad, .slice Aj Af.length Ai]] F (.int .i64 r) := by
 refine sp func12 ntmps12 fun K _ _ => ?_
 rw [FY] at hr
 refine AI ?_
 refine By rfl rfl ?_; intro b1 ep
 refine ua (BI ?_)
 refine uv (Av Cy rfl) (uv (Ao isAgg23 rfl (Has.own 0 rfl) rfl) (uv (AJ underlying23 rfl) ?_))
 refine A1 rfl zeroValue3 ?_; intro b2 cz
 refine A0 (i := 0) sizeOf3 rfl rfl rfl rfl (A5 rfl) (AD rfl ?_)
 refine Aa (At ?_)
 obtain ⟨k, h3, r4⟩ := AB hr
 refine jF ([(b1, ce #[.slice Ac Ab.length Ad, .slice Aj Af.length Ai] 26)]) [(1, .pointer (some ⟨b1, 0, none⟩)), (27, .bool k)] ?_ fun ai aj => ?_
 ·clear r4
  refine An (uv (Ao isAgg3 rfl (Has.own 0 rfl) rfl) ?_)
  obtain ⟨ok, h5, r6⟩ := AB h3
  refine cV call55 (D3 h5) (uv (BM rfl) (um ?_))
  rcases Bf (!ok) with c7 | c7
  ·have r8 := bt r6 c7
   refine fB c7 (fB c7 (fB c7 (fB c7 (fB c7 ?_))))
   refine uv (Aw (En rfl c7) rfl) ?_
   refine um (Ah (b' := true) 21 rfl rfl rfl rfl (Ah (b' := true) 21 rfl rfl rfl rfl (Ah (b' := true) 21 rfl rfl rfl rfl (Ah (b' := true) 21 rfl rfl rfl rfl (Ah (b' := true) 21 rfl rfl rfl rfl ?_)))))
   refine uv (Aw rfl rfl) (Aa ?_)
   obtain rfl := AH r8
   exact mi (kd kr) ⟨AN.refl _, rfl, z2⟩
  have r9 := bf r6 c7
  refine nB c7 (uv (Av Bz rfl) (nB c7 (uv (Ao isAgg24 rfl (Has.own 1 rfl) rfl) (nB c7 (uv (AJ underlying24 rfl) (nB c7 ?_))))))
  obtain ⟨da, db, cc⟩ := AB r9
  refine cV call55 (D3 db) (nB c7 (uv (BM rfl) (uv (Ar (En rfl c7) rfl) (um ?_))))
  rcases Bf (!da) with ab | ab
  ·have dd := bt cc ab
   refine fB ab (fB ab (fB ab (fB ab (fB ab ?_))))
   refine uv (Aw (En rfl ab) rfl) (Aa ?_)
   obtain rfl := AH dd
   exact mi (kd kr) ⟨AN.refl _, rfl, z2⟩
  have de := bf cc ab
  refine nB ab (uv (Av Bz rfl) (nB ab (uv (Ao isAgg24 rfl (Has.own 1 rfl) rfl) (nB ab (uv (D5 rfl rfl) (nB ab ?_))))))
  refine AO 0 rfl cz ?_; intro df ak av
  refine AD rfl ?_
  replace aa := aa.mono (Ak (Ae _)) ak
  have aw : KE Tryz.prog df 57 #[] #[.pointer (some ⟨b2, 0, none⟩)] (Bm 1 (iE .i64)) Value.bool (fun al : (List Int) => I4 al (Ab.length : Int)) := ⟨call57, fun F2 h2 vs al r ha hr => by obtain ⟨er, et, rfl, dg⟩ := ha; exact MZ dg (h2 _ _ av) hr⟩
  obtain ⟨eu, dh, di⟩ := AB de
  refine cV call56 (HQ aa aw dh) (nB ab (uv (BM rfl) (uv (Ar (En rfl ab) rfl) (Aa ?_))))
  obtain rfl := AH di
  exact mi kr ⟨ak, rfl, z2⟩
 replace a6 := a6.mono (Ak (Ae _)) aj
 replace aa := aa.mono (Ak (Ae _)) aj
 refine AT rfl (fun ax => ?_) (fun ax => ?_)
 ·have dk := bt r4 ax
  refine AI (ua (Aa ?_))
  refine kW kn ?_
  refine As (Al ?_)
  refine BD results12 ?_
  obtain rfl := AH dk
  exact rfl
 have dm := bf r4 ax
 refine Aq ?_
 refine AK (fun e1 F1 L1 => JZ Af = some r ∧ ai = F1 ∧ L1 = [(b1, ce #[.slice Ac Ab.length Ad, .slice Aj Af.length Ai] 26)] ∧ e1.sub [(1, .pointer (some ⟨b1, 0, none⟩))]) ?_ ?_
 ·refine AI (uv (Av Cy rfl) (uv (Ao isAgg23 rfl (Has.own 0 rfl) rfl) (uv (AJ underlying23 rfl) ?_)))
  refine um (Aa ?_)
  refine Ap ?_
  refine A2 (fun cd e1 F1 L1 => LA Ab cd fun tl k2 => EK Af tl k2 = some r ∧ ai = F1 ∧ L1 = [(b1, ce #[.slice Ac Ab.length Ad, .slice Aj Af.length Ai] 26)] ∧ e1.sub [(1, .pointer (some ⟨b1, 0, none⟩)), (29, .slice Ac Ab.length Ad), (30, .int .i64 (Ab.length : Int)), (31, .int .i64 k2)]) _ (m0 kr ⟨_, _, rfl, A8.start _, dm, rfl, rfl, z4⟩) ?_
  rintro cd e1 _ _ ⟨tl, k2, ay, ae, ao, rfl, rfl, az⟩
  refine Az _ az (AI (uv (AV rfl rfl) ?_))
  refine Aa (At ?_)
  refine cQ (fun aq => ?_) fun aq => ?_
  ·obtain ⟨x, cf, rfl, ba, cg, bb⟩ := A8.succ ae aq
   rw [EK] at ao
   refine Aq ?_
   refine AK (fun e1 F1 L1 => JW k2 (EK Af cf) = some r ∧ ai = F1 ∧ L1 = [(b1, ce #[.slice Ac Ab.length Ad, .slice Aj Af.length Ai] 26)] ∧ e1.sub [(1, .pointer (some ⟨b1, 0, none⟩)), (29, .slice Ac Ab.length Ad), (30, .int .i64 (Ab.length : Int)), (31, .int .i64 k2)]) ?_ ?_
   ·refine Ap ?_
    refine AI (um ?_)
    obtain ⟨ew, ey, ez, dp, bc, bd, cj, ⟨ck, cn, rfl, bg⟩, dq, bh⟩ := Au.at (Ak (Ae _)) a6 ([(b1, ce #[.slice Ac Ab.length Ad, .slice Aj Af.length Ai] 26)]) cg.1 ba
    refine uv (AF underlying23 sizeOf22 rfl bc rfl cg) (uv (Ao isAgg22 rfl bd (bh 0 (by decide))) ?_)
    refine ua (ua (BI (um ?_)))
    refine uv (AJ underlying22 rfl) ?_
    refine um (Aa ?_)
    refine Ap ?_
    refine A2 (fun cp e1 F1 L1 => LA x cp fun cq k3 => G9 k2 x (EK Af cf) cq k3 = some r ∧ ai = F1 ∧ L1 = [(b1, ce #[.slice Ac Ab.length Ad, .slice Aj Af.length Ai] 26)] ∧ e1.sub [(1, .pointer (some ⟨b1, 0, none⟩)), (4, .int .i64 k2), (5, .slice ck x.length cn), (29, .slice Ac Ab.length Ad), (30, .int .i64 (Ab.length : Int)), (31, .int .i64 k2), (36, .slice ck x.length cn), (37, .int .i64 (x.length : Int)), (38, .int .i64 k3)]) _ (m0 kr ⟨_, _, rfl, A8.start _, ao, rfl, rfl, (sc rfl z8)⟩) ?_
    rintro cp e1 _ _ ⟨cq, k3, bj, ah, ar, rfl, rfl, bk⟩
    refine Az _ bk (AI (uv (AV rfl rfl) ?_))
    refine Aa (At ?_)
    refine cQ (fun au => ?_) fun au => ?_
    ·obtain ⟨x2, fa, rfl, bl, cr, bm⟩ := A8.succ ah au
     rw [G9] at ar
     refine Aq (At ?_)
     refine Ap ?_
     refine AI (um ?_)
     obtain ⟨fb, fe, ff, dr, bn, bo, ct, rfl, dt, bp⟩ := Au.at (Ae _) bg ([(b1, ce #[.slice Ac Ab.length Ad, .slice Aj Af.length Ai] 26)]) cr.1 bl
     refine uv (AF underlying22 sizeOf3 rfl bn rfl cr) (uv (Ao isAgg3 rfl bo (bp 0 (by decide))) ?_)
     refine ua (ua (Aa (At (AI (um (um ?_))))))
     obtain ⟨du, dv⟩ := AX ar
     refine uv (C7 rfl rfl du) ?_
     obtain ⟨fg, dw, cu⟩ := AB dv
     refine cV call55 (D3 dw) (uv (BM rfl) (Aa ?_))
     refine AT rfl (fun bq => ?_) (fun bq => ?_)
     ·have dx := bt cu bq
      refine AI (ua (Aa ?_))
      refine kW kn ?_
      refine As (Al (Ay (Al (Al (Ay (Ay (Al (Al (Ay ?_)))))))))
      refine Al (BD results12 ?_)
      obtain rfl := AH dx
      exact rfl
     have dy := bf cu bq
     refine Aq (AI (um (um ?_)))
     obtain ⟨dz, eb⟩ := AX dy
     obtain ⟨x3, ec, ef⟩ := BS eb
     obtain ⟨fh, fi, eg, ad⟩ := Au.slice (Ae _) bg dz ec
     refine uv ((Nc (l := 0) (h := k3) underlying22 sizeOf3 rfl (.inl ⟨rfl, rfl⟩) (.inr ⟨_, rfl, rfl⟩) ad.1).eq ad.2) (um ?_)
     obtain ⟨fj, eh, cv⟩ := AB ef
     refine cV call58 (J6 eg eh) (Aa ?_)
     refine AT rfl (fun br => ?_) (fun br => ?_)
     ·have ei := bt cv br
      refine AI (ua (Aa ?_))
      refine kW kn ?_
      refine As (Ay (Al (Al (Ay (Ay (Al (Al (Ay (Al ?_)))))))))
      refine BD results12 ?_
      obtain rfl := AH ei
      exact rfl
     have ej := bf cv br
     refine Aq (Ax (id := 3) (An ?_))
     refine uv (AY rfl rfl (A8.CC ah au (Au.lt bg))) ?_
     refine um (Aa ?_)
     subst bj; exact le kr ⟨_, _, rfl, bm, ej, rfl, rfl, (sc rfl z8)⟩
    obtain rfl := A8.zero ah au
    rw [G9] at ar
    refine AL (Am (Am ?_))
    refine AA (Ax (id := 1) ?_)
    exact mi kr ⟨ar, rfl, rfl, z4⟩
   rintro e1 _ _ ⟨cw, rfl, rfl, bu⟩
   refine Az _ bu ?_
   rw [JW] at cw
   refine An (uv (AY rfl rfl (A8.CC ae aq (Au.lt a6))) ?_)
   refine um (Aa ?_)
   subst ay; exact le kr ⟨_, _, rfl, bb, cw, rfl, rfl, z4⟩
  obtain rfl := A8.zero ae aq
  rw [EK] at ao
  refine AL (Am (Am ?_))
  refine AA ?_
  exact mi kr ⟨ao, rfl, rfl, z1⟩
 rintro e1 _ _ ⟨cx, rfl, rfl, bw⟩
 refine Az _ bw ?_
 rw [JZ] at cx
 refine At (AI ?_)
 refine uv (Av Bz rfl) (uv (Ao isAgg24 rfl (Has.own 0 rfl) rfl) ?_)
 have bx : KE Tryz.prog ai 59 #[] #[] (Bm 1 (iE .i64)) Value.bool (fun al : (List Int) => I0 al) := ⟨call59, fun F2 h2 vs al r ha hr => by obtain ⟨fk, fl, rfl, en⟩ := ha; exact M8 en hr⟩
 obtain ⟨fm, eo, cy⟩ := AB cx
 refine cV call56 (HQ aa bx eo) (uv (BM rfl) (Aa ?_))
 refine AT rfl (fun bz => ?_) (fun bz => ?_)
 ·have ca := bt cy bz
  refine AI (ua (Aa ?_))
  refine kW kn ?_
  refine As (Al ?_)
  refine BD results12 ?_
  obtain rfl := AH ca
  exact rfl
 have cb := bf cy bz
 refine Aq (AI (ua (Aa ?_)))
 refine kW kn (As (BD results12 ?_))
 obtain rfl := AH cb
 exact rfl
theorem BY {v2 : Value} (a6 : F Hx = some (.cells #[.slice Ac Ab.length Ad, .slice Aj Af.length Ai, v1, v2] 113 KD)) (_h_listens : Au 1 (Bm 1 (iE .i64)) F Ac Ad Ab) (_h_hours : Au 1 (Bm 1 (iE .i64)) F Aj Ai Af) {r : Int} (hr : BX Ab Af = some r) :
    Ba Tryz.prog 69 #[.pointer (some ⟨Hx, 0, none⟩)] F (.int .i64 r) := by
 refine sp func69 ntmps69 fun K _ _ => ?_
 rw [BX] at hr
 refine AI (ua (BI (um ?_)))
 refine uv (Bo rfl) (uv (Av HP rfl) (uv (Av Cy rfl) (uv (Ao isAgg23 rfl (Has.frozen a6) rfl) (uv (AJ underlying23 rfl) ?_))))
 obtain ⟨g3, r4⟩ := AX hr
 refine uv (OM rfl rfl g3) ?_
 refine ua (Aa (As ?_))
 refine BD results69 ?_
 obtain rfl := AH r4
 exact rfl
set_option maxHeartbeats 1000000 in
theorem JO {s_ : List Int} {f : Int → Option Bool} (a6 : Au 1 (iE .i64) F GX GY s_) (aj : KE Tryz.prog F NK NI NR (iE .i64) Value.bool f) {r : Int} (hr : Ft s_ f = some r) :
    Ba Tryz.prog 130 #[.slice GX s_.length GY, .func (.func NK) NI NR] F (.int .i64 r) := by
 refine sp func130 ntmps130 fun K _ _ => ?_
 rw [Ft] at hr
 refine AI (ua (Aa ?_))
 refine AK (fun e1 F1 L1 => Ep = some r ∧ F = F1 ∧ L1 = [] ∧ e1.sub []) ?_ ?_
 ·refine AI (um ?_)
  refine uv (AJ underlying22 rfl) ?_
  refine um (Aa ?_)
  refine Ap ?_
  refine A2 (fun ak e1 F1 L1 => LA s_ ak fun tl k => Cj f tl k = some r ∧ F = F1 ∧ L1 = [] ∧ e1.sub [(0, .slice GX s_.length GY), (1, .func (.func NK) NI NR), (7, .int .i64 (s_.length : Int)), (8, .int .i64 k)]) _ (m0 kr ⟨_, _, rfl, A8.start _, hr, rfl, rfl, z4⟩) ?_
  rintro ak e1 _ _ ⟨tl, k, ar, aa, r3, rfl, rfl, au⟩
  refine Az _ au (AI (uv (AV rfl rfl) ?_))
  refine Aa (At ?_)
  refine cQ (fun c6 => ?_) fun c6 => ?_
  ·obtain ⟨x, bc, rfl, av, g9, aw⟩ := A8.succ aa c6
   rw [Cj] at r3
   refine Aq (At ?_)
   refine Ap ?_
   refine AI (um (ua (BI (um (um (um ?_))))))
   obtain ⟨PK, bd, bg, ax, ab, ad, al, rfl, ay, ae⟩ := Au.at (Ae _) a6 ([]) g9.1 av
   refine uv (AF underlying22 sizeOf3 rfl ab rfl g9) (uv (Ao isAgg3 rfl ad (ae 0 (by decide))) ?_)
   obtain ⟨ok, az, ao⟩ := AB r3
   refine Hn rfl aj.1 rfl rfl rfl (aj.2 _ (AN.refl _) _ _ _ rfl az) (Aa ?_)
   refine AT rfl (fun ah => ?_) (fun ah => ?_)
   ·have ba := bt ao ah
    refine AI (um (ua (Aa (As (Ay (Al (Al (Ay (Al ?_)))))))))
    refine BD results130 ?_
    obtain rfl := AH ba
    exact rfl
   have bb := bf ao ah
   refine Aq (Ax (id := 1) (An ?_))
   refine uv (AY rfl rfl (A8.CC aa c6 (Au.lt a6))) ?_
   refine um (Aa ?_)
   subst ar; exact le kr ⟨_, _, rfl, aw, bb, rfl, rfl, z4⟩
  obtain rfl := A8.zero aa c6
  rw [Cj] at r3
  refine AL (Am (Am ?_))
  refine AA ?_
  exact mi kr ⟨r3, rfl, rfl, (sn _)⟩
 rintro e1 _ _ ⟨aq, rfl, rfl, ai⟩
 refine Az _ ai ?_
 rw [Ep] at aq
 refine AI (ua (Aa (As ?_)))
 refine BD results130 ?_
 obtain rfl := AH aq
 exact rfl
theorem FX {s_ : List Int} {f : Int → Option Bool} (a6 : Au 1 (iE .i64) F GX GY s_) (aa : KE Tryz.prog F NK NI NR (iE .i64) Value.bool f) {r : Bool} (hr : Db s_ f = some r) :
    Ba Tryz.prog 119 #[.slice GX s_.length GY, .func (.func NK) NI NR] F (.bool r) := by
 refine sp func119 ntmps119 fun K _ _ => ?_
 rw [Db] at hr
 refine AI (ua (BI (um (um ?_))))
 obtain ⟨n, h1, r2⟩ := AB hr
 refine cV call130 (JO a6 aa h1) (uv (Hy rfl rfl) ?_)
 refine ua (Aa (As ?_))
 refine BD results119 ?_
 obtain rfl := AH r2
 exact rfl
theorem Lq {out : Int} {a6 : Nat × Nat} (aa : F HL = some (.cells #[.int .i64 out] 3 a6)) {r : Bool} (hr : Gk m out = some r) :
    Ba Tryz.prog 120 #[.int .i64 m, .pointer (some ⟨HL, 0, none⟩)] F (.bool r) := by
 refine sp func120 ntmps120 fun K _ _ => ?_
 rw [Gk] at hr
 refine AI (ua (BI ?_))
 refine uv (Ao isAgg3 rfl (Has.frozen aa) rfl) (um ?_)
 obtain ⟨g1, r2⟩ := AX hr
 refine uv (K0 rfl rfl g1) (uv (KA rfl rfl) (uv (Bb rfl rfl) ?_))
 refine ua (Aa (As ?_))
 refine BD results120 ?_
 obtain rfl := AH r2
 exact rfl
set_option maxHeartbeats 1000000 in
theorem JT (aj : F Hx = some (.cells #[.slice Ac Ab.length Ad, .slice Aj Af.length Ai, .map (some Ff), v1] 113 KD)) (a6 : Au 1 (Bm 1 (iE .i64)) F Ac Ad Ab) (_h_hours : Au 1 (Bm 1 (iE .i64)) F Aj Ai Af) (ad : HO (Value.int .i64) (Value.int .i64) G4 BW) {r : Int} {r2 : List (Int × Int)} (hr : Hq Ab Af BW AZ = some (r, r2)) :
    SH.Spec Tryz.prog 82 #[.pointer (some ⟨Hx, 0, none⟩), .int .i64 AZ] F [(Ff, .map G4 JS)] fun _ L' v => ∃ (ab : Array MapEntry) (ah : Nat), v = .int .i64 r ∧ L' = [(Ff, .map ab ah)] ∧ HO (Value.int .i64) (Value.int .i64) ab r2 := by
 refine sp func82 ntmps82 fun K _ _ => ?_
 rw [Hq] at hr
 refine AI (ua (Aa (At (AI (um ?_)))))
 refine uv (Bo rfl) (uv (Av O2 rfl) (uv (Ao isAgg110 rfl (Has.frozen aj) rfl) (um (uv (FM.eq (v' := .tuple #[.int .i64 ((LD BW AZ).getD 0), .bool ((LD BW AZ).isSome)]) (Qd (k := AZ) (z0 := 0) rfl underlying110 (NT underlying3) zeroValue3 rfl rfl (Oc.own 0 rfl) (show HO (Value.int .i64) (Value.int .i64) G4 (BW : List (Int × Int)) from ad)) rfl) ?_))))
 refine um (ox rfl rfl rfl (ox rfl rfl rfl (ua (ua (BI (um (Aa ?_)))))))
 refine AT rfl (fun c2 => ?_) (fun c2 => ?_)
 ·have r3 := bt hr c2
  refine AI (um (ua (Aa (As (Al ?_)))))
  refine BD results82 ?_
  obtain ⟨rfl, rfl⟩ := BT r3
  exact ⟨_, _, rfl, rfl, ad⟩
 have r4 := bf hr c2
 refine Aq (AI ?_)
 refine A1 rfl zeroValue3 ?_; intro b5 cp
 refine A0 (i := 0) sizeOf3 rfl rfl rfl rfl (A5 rfl) (AD rfl (Aa ?_))
 obtain ⟨out, h6, r7⟩ := AB r4
 refine jE ([(b5, ce #[.int .i64 out] 3), (Ff, .map G4 JS)]) [(0, .pointer (some ⟨Hx, 0, none⟩)), (1, .int .i64 AZ), (7, .pointer (some ⟨b5, 0, none⟩))] ?_ ?_
 ·clear r7
  refine AI (um ?_)
  refine uv (Bo rfl) (uv (Av HP rfl) (uv (Av Cy rfl) (uv (Ao isAgg23 rfl (Has.frozen aj) rfl) (uv (AJ underlying23 rfl) ?_))))
  refine um (Aa ?_)
  refine Ap ?_
  refine A2 (fun bd e1 F1 L1 => LA Ab bd fun tl k => ∃ (aa : Int), Dn AZ tl k aa = some out ∧ F = F1 ∧ L1 = [(b5, ce #[.int .i64 aa] 3), (Ff, .map G4 JS)] ∧ e1.sub [(0, .pointer (some ⟨Hx, 0, none⟩)), (1, .int .i64 AZ), (7, .pointer (some ⟨b5, 0, none⟩)), (25, .slice Ac Ab.length Ad), (26, .int .i64 (Ab.length : Int)), (27, .int .i64 k)]) _ (m0 kr ⟨_, _, rfl, A8.start _, 0, h6, rfl, rfl, z6⟩) ?_
  rintro bd e1 _ _ ⟨tl, k, bg, au, aa, av, rfl, rfl, aw⟩
  refine Az _ aw (AI (uv (AV rfl rfl) ?_))
  refine Aa (At ?_)
  refine cQ (fun ak => ?_) fun ak => ?_
  ·obtain ⟨x, cq, rfl, ax, bh, al⟩ := A8.succ au ak
   rw [Dn] at av
   refine Aq (At ?_)
   refine Ap ?_
   refine AI (um ?_)
   obtain ⟨cr, ct, cu, bn, ay, az, bj, ⟨cv, cw, rfl, bo⟩, bp, ba⟩ := Au.at (Ak (Ae _)) a6 ([(b5, ce #[.int .i64 aa] 3), (Ff, .map G4 JS)]) bh.1 ax
   refine uv (AF underlying23 sizeOf22 rfl ay rfl bh) (uv (Ao isAgg22 rfl az (ba 0 (by decide))) ?_)
   refine ua (ua (Aa ?_))
   obtain ⟨k2, bq, bb⟩ := AB av
   refine jE ([(b5, ce #[.int .i64 aa] 3), (Ff, .map G4 JS)]) [(0, .pointer (some ⟨Hx, 0, none⟩)), (1, .int .i64 AZ), (7, .pointer (some ⟨b5, 0, none⟩)), (8, .int .i64 k), (25, .slice Ac Ab.length Ad), (26, .int .i64 (Ab.length : Int)), (27, .int .i64 k), (46, .bool k2)] ?_ ?_
   ·clear bb
    refine An (um (um ?_))
    obtain ⟨br, bk⟩ := AX bq
    refine uv (K0 rfl rfl br) (uv (KA rfl rfl) (uv (Bb rfl rfl) (um ?_)))
    by_cases ae : (Ji (shr AZ k) 1) = 0
    ·have bl := AQ bk ae
     refine nT ae (um (nT ae ?_))
     refine uv (AJ underlying22 rfl) (nT ae (uv (Bb rfl rfl) ?_))
     refine nT ae (um ?_)
     by_cases ai : (x.length : Int) = 0
     ·have bu := AQ bl ai
      refine fT ai (fT ai (fT ai (nT ae ?_)))
      refine uv (Aw (AS rfl ai) rfl) (uv (Aw (AS rfl ae) rfl) (Aa ?_))
      obtain rfl := AH bu
      exact mi kr ⟨rfl, rfl, z8⟩
     have bw := AR bl ai
     refine nF ai (um (nF ai ?_))
     refine uv (D5 rfl rfl) (nF ai ?_)
     obtain ⟨ok, bx, bz⟩ := AB bw
     refine Bi (Lt := [(b5, ce #[.int .i64 aa] 3)]) (Lr := [(Ff, .map G4 JS)]) rfl call119 rfl rfl rfl (pR) (fun F2 h2 h3 => by exact FX (bo.mono (Ae _) h2) (show KE Tryz.prog F2 120 #[] #[.pointer (some ⟨b5, 0, none⟩)] (iE .i64) Value.bool (fun bm : Int => Gk bm aa) from ⟨call120, fun F3 h4 vs bm r ha hr => by obtain rfl := ha; exact Lq (h4 _ _ (h3 (b5, ce #[.int .i64 aa] 3) (List.mem_cons_self ..))) hr⟩) bx) ?_
     refine nT ae (uv (Ar (AM rfl ai) rfl) (uv (Aw (AS rfl ae) rfl) (Aa ?_)))
     obtain rfl := AH bz
     exact mi kr ⟨rfl, rfl, z8⟩
    have ca := AR bk ae
    refine fF ae (fF ae (fF ae (fF ae (fU (fU (fU (fF ae ?_)))))))
    refine uv (Ar (AM rfl ae) rfl) (Aa ?_)
    obtain rfl := AH ca
    exact mi kr ⟨rfl, rfl, z8⟩
   refine AT rfl (fun bc => ?_) (fun bc => ?_)
   ·have cb := bt bb bc
    refine Bd [(.still, 0), (.still, 1), (.still, 2), (.still, 3), (.seq, 4)] (by kernel_rfl) (by kernel_rfl) (trivial) (by rfl) (by kernel_rfl) (mL [7] ([(b5, ce #[.int .i64 aa] 3)]) rfl (s0 (s2 (s1 sr))) (fun H F' L' ao aq => Ao isAgg3 rfl ((Has.own 0 rfl).ext ao aq) rfl) (mS [8] rfl (Bj rfl) ?_))
    obtain ⟨cc, cd⟩ := AX cb
    refine mS (v := .int .i64 (shl 1 k)) [48] rfl (OM rfl rfl cc) (mS (v := .int .i64 (O4 aa (shl 1 k))) [47, 49] rfl (QC rfl rfl) ?_)
    refine ⟨_, [(7, .pointer (some ⟨b5, 0, none⟩)), (50, .int .i64 (O4 aa (shl 1 k)))], rfl, rfl, z2, by kernel_rfl, ?_⟩; intro H
    refine A0 (i := 0) sizeOf3 rfl rfl rfl rfl (A5 rfl) (AD rfl ?_)
    refine Aa ⟨undef, rfl, AN.refl _, [], by kernel_rfl, .inl (.inl rfl), nm, ?_⟩
    refine BC ?_
    refine Ax (id := 1) (An ?_)
    refine uv (AY rfl rfl (A8.CC au ak (Au.lt a6))) ?_
    refine um (Aa ?_)
    subst bg; exact le kr ⟨_, _, rfl, al, O4 aa (shl 1 k), cd, rfl, rfl, z6⟩
   have cf := bf bb bc
   refine Aq (Ax (id := 1) (An ?_))
   refine uv (AY rfl rfl (A8.CC au ak (Au.lt a6))) ?_
   refine um (Aa ?_)
   subst bg; exact le kr ⟨_, _, rfl, al, aa, cf, rfl, rfl, z6⟩
  obtain rfl := A8.zero au ak
  rw [Dn] at av
  refine AL (Am (Am ?_))
  refine AA ?_
  obtain rfl := AH av
  exact mi kr ⟨rfl, rfl, z3⟩
 refine At (Bd [(.still, 0), (.still, 1), (.still, 2), (.still, 3), (.still, 4), (.still, 5), (.seq, 6)] (by kernel_rfl) (by kernel_rfl) (trivial) (by rfl) (by kernel_rfl) (mS [0] rfl (Bj rfl) (mS [52] rfl (Bo rfl) (mS [53] rfl (Av O2 rfl) (mL [54] ([]) rfl sm (fun H F' L' ao aq => Ao isAgg110 rfl ((Has.frozen aj).ext ao aq) rfl) (mS [1] rfl (Bj rfl) (mL [7] ([(b5, ce #[.int .i64 out] 3)]) rfl (s0 (s2 (s1 sr))) (fun H F' L' ao aq => Ao isAgg3 rfl ((Has.own 0 rfl).ext ao aq) rfl) ?_)))))))
 refine ⟨_, [(55, .map (some Ff)), (56, .int .i64 AZ), (57, .int .i64 out)], rfl, rfl, z3, by kernel_rfl, ?_⟩; intro H
 refine OG (i := 1) (k := AZ) (v := out) underlying110 (NT underlying3) rfl rfl rfl rfl (show HO (Value.int .i64) (Value.int .i64) G4 (BW : List (Int × Int)) from ad) ?_; intro cg cj ar
 obtain ⟨met, ck, cn⟩ := BS r7
 rw [← ck] at ar
 refine AD rfl ?_
 refine Aa ⟨undef, rfl, AN.refl _, [], by kernel_rfl, .inl (.inl rfl), nm, ?_⟩
 refine BC (AI (uv (Ao isAgg3 rfl (Has.own 0 rfl) rfl) ?_))
 refine ua (Aa ?_)
 refine kW (kd kr) (As (BD results82 ?_))
 obtain ⟨rfl, rfl⟩ := BT cn
 exact ⟨_, _, rfl, rfl, ar⟩
set_option maxHeartbeats 1000000 in
theorem JH (al : F Hx = some (.cells #[.slice Ac Ab.length Ad, .slice Aj Af.length Ai, .map (some Ff), v1] 113 KD)) (ai : Au 1 (Bm 1 (iE .i64)) F Ac Ad Ab) (a6 : Au 1 (Bm 1 (iE .i64)) F Aj Ai Af) (ao : HO (Value.int .i64) (Value.int .i64) G4 BW) {r : Int} {r2 : List (Int × Int)} (hr : Hw Ab Af BW hour AZ = some (r, r2)) :
    SH.Spec Tryz.prog 103 #[.pointer (some ⟨Hx, 0, none⟩), .int .i64 hour, .int .i64 AZ] F [(Ff, .map G4 JS)] fun _ L' v => ∃ (aa : Array MapEntry) (aj : Nat), v = .int .i64 r ∧ L' = [(Ff, .map aa aj)] ∧ HO (Value.int .i64) (Value.int .i64) aa r2 := by
 refine sp func103 ntmps103 fun K _ _ => ?_
 rw [Hw] at hr
 refine AI (ua (BI (um (um ?_))))
 obtain ⟨n, az, h2, r3⟩ := A9 hr
 refine cG call82 (JT al ai a6 ao h2) ?_; rintro _ F4 _ bq dk dm ⟨ar, au, rfl, rfl, ba⟩
 replace a6 := a6.mono (Ak (Ae _)) bq
 replace al := bq _ _ al
 refine AD (lb (ln rfl)) ?_
 refine ua (BI (ua (Aa ?_)))
 obtain ⟨out, ck, br⟩ := AB r3
 refine jE ([(Ff, .map ar au)]) [(8, .int .i64 out)] ?_ ?_
 ·clear br
  refine AI (um ?_)
  refine uv (Bo rfl) (uv (Av HP rfl) (uv (Av Bz rfl) (uv (Ao isAgg24 rfl (Has.frozen al) rfl) (um ?_))))
  obtain ⟨x, bu, bb, cn⟩ := A7 ck
  obtain ⟨dp, dq, dr, cp, bc, bd, bw, ⟨bx, bz, rfl, bg⟩, cq, bh⟩ := Au.at (Ak (Ae _)) a6 ([(Ff, .map ar au)]) bu.1 bb
  refine uv (AF underlying24 sizeOf36 rfl bc rfl bu) (uv (Ao isAgg36 rfl bd (bh 0 (by decide))) (uv (AJ underlying36 rfl) ?_))
  refine um (Aa ?_)
  refine Ap ?_
  refine A2 (fun ca e1 F1 L1 => LA x ca fun tl k => ∃ (ak : Int), Dt n tl k ak = some out ∧ F4 = F1 ∧ L1 = [(Ff, .map ar au)] ∧ e1.sub [(7, .int .i64 n), (8, .int .i64 ak), (21, .slice bx x.length bz), (22, .int .i64 (x.length : Int)), (23, .int .i64 k)]) _ (m0 kr ⟨_, _, rfl, A8.start _, 0, cn, rfl, rfl, z5⟩) ?_
  rintro ca e1 _ _ ⟨tl, k, av, aq, ak, ay, rfl, rfl, bj⟩
  refine Az _ bj (AI (uv (AV rfl rfl) ?_))
  refine Aa (At ?_)
  refine cQ (fun aw => ?_) fun aw => ?_
  ·obtain ⟨x2, dt, rfl, bk, cb, ax⟩ := A8.succ aq aw
   rw [Dt] at ay
   refine Aq (At ?_)
   refine Ap ?_
   refine AI (um ?_)
   obtain ⟨du, dv, dw, cr, bl, bm, cc, rfl, ct, bn⟩ := Au.at (Ae _) bg ([(Ff, .map ar au)]) cb.1 bk
   refine uv (AF underlying36 sizeOf35 rfl bl rfl cb) (uv (Ao isAgg35 rfl bm (bn 0 (by decide))) ?_)
   refine ua (ua (Aa ?_))
   obtain ⟨k2, cd, bo⟩ := AB ay
   refine jE ([(Ff, .map ar au)]) [(7, .int .i64 n), (8, .int .i64 ak), (9, .int .i64 k), (21, .slice bx x.length bz), (22, .int .i64 (x.length : Int)), (23, .int .i64 k), (47, .bool k2)] ?_ ?_
   ·clear bo
    refine An (um ?_)
    refine uv (Bb rfl rfl) (um ?_)
    by_cases ab : x2 = 1
    ·have cu := AQ cd ab
     refine nT ab (um (nT ab (um (nT ab ?_))))
     obtain ⟨cv, cf⟩ := AX cu
     refine uv (K0 rfl rfl cv) (nT ab (uv (KA rfl rfl) (nT ab (uv (Bb rfl rfl) (uv (Aw (AS rfl ab) rfl) (um ?_))))))
     by_cases ad : (Ji (shr n k) 1) = 0
     ·have cw := AQ cf ad
      refine fT ad (fT ad (fT ad (fU (fU (fU (fU (fU (fT ad ?_))))))))
      refine uv (Aw (AS rfl ad) rfl) (Aa ?_)
      obtain rfl := AH cw
      exact mi kr ⟨rfl, rfl, z7⟩
     have cg := AR cf ad
     refine nF ad (um (nF ad ?_))
     refine uv (Bb rfl rfl) ?_
     refine nF ad (um ?_)
     by_cases ae : x2 = 2
     ·have cx := AQ cg ae
      refine nT ae (um (nT ae (um (nT ae ?_))))
      obtain ⟨cy, cz⟩ := AX cx
      refine uv (K0 rfl rfl cy) (nT ae (uv (KA rfl rfl) (nT ae (uv (Bb rfl rfl) (nF ad (uv (Aw (AS rfl ae) rfl) (uv (Ar (AM rfl ad) rfl) ?_)))))))
      refine Aa ?_
      obtain rfl := AH cz
      exact mi kr ⟨rfl, rfl, z7⟩
     have da := AR cg ae
     refine fF ae (fF ae (fF ae (fF ae (fF ae (nF ad ?_)))))
     refine uv (Ar (AM rfl ae) rfl) (uv (Ar (AM rfl ad) rfl) (Aa ?_))
     obtain rfl := AH da
     exact mi kr ⟨rfl, rfl, z7⟩
    have cj := AR cd ab
    refine fF ab (fF ab (fF ab (fF ab (fF ab ?_))))
    refine uv (Ar (AM rfl ab) rfl) ?_
    refine um (HC (b := false) 37 rfl rfl (um (HC (b := false) 37 rfl rfl ?_)))
    refine uv (Bb rfl rfl) ?_
    refine HC (b := false) 37 rfl rfl (um ?_)
    by_cases ah : x2 = 2
    ·have db := AQ cj ah
     refine nT ah (um (nT ah (um (nT ah ?_))))
     obtain ⟨dd, CC⟩ := AX db
     refine uv (K0 rfl rfl dd) (nT ah (uv (KA rfl rfl) (nT ah (uv (Bb rfl rfl) (HC (b := false) 37 rfl rfl (uv (Aw (AS rfl ah) rfl) (uv (Ar rfl rfl) ?_)))))))
     refine Aa ?_
     obtain rfl := AH CC
     exact mi kr ⟨rfl, rfl, z7⟩
    have de := AR cj ah
    refine fF ah (fF ah (fF ah (fF ah (fF ah (HC (b := false) 37 rfl rfl ?_)))))
    refine uv (Ar (AM rfl ah) rfl) (uv (Ar rfl rfl) (Aa ?_))
    obtain rfl := AH de
    exact mi kr ⟨rfl, rfl, z7⟩
   refine AT rfl (fun bp => ?_) (fun bp => ?_)
   ·have df := bt bo bp
    refine An (um (um ?_))
    obtain ⟨dg, dh⟩ := AX df
    refine uv (OM rfl rfl dg) (uv (QC rfl rfl) ?_)
    refine ua (Aa (Ax (id := 1) (An ?_)))
    refine uv (AY rfl rfl (A8.CC aq aw (Au.lt bg))) ?_
    refine um (Aa ?_)
    subst av; exact le kr ⟨_, _, rfl, ax, O4 ak (shl 1 k), dh, rfl, rfl, z5⟩
   have di := bf bo bp
   refine Aq (Ax (id := 1) (An ?_))
   refine uv (AY rfl rfl (A8.CC aq aw (Au.lt bg))) ?_
   refine um (Aa ?_)
   subst av; exact le kr ⟨_, _, rfl, ax, ak, di, rfl, rfl, z5⟩
  obtain rfl := A8.zero aq aw
  rw [Dt] at ay
  refine AL (Am (Am ?_))
  refine AA ?_
  obtain rfl := AH ay
  exact mi kr ⟨rfl, rfl, z1⟩
 refine AI (um (ua (Aa (As ?_))))
 refine BD results103 ?_
 obtain ⟨rfl, rfl⟩ := BT br
 exact ⟨_, _, rfl, rfl, ba⟩
set_option maxHeartbeats 1000000 in
theorem Ct (a6 : Au 1 (Bm 1 (iE .i64)) F Ac Ad Ab) (aa : Au 1 (Bm 1 (iE .i64)) F Aj Ai Af) {r : Option ((List (List Int)) × (List (List Int)) × (List (Int × Int)) × (List (List Bool)))} {r2 : Int} (hr : Cx Ab Af = some (r, r2)) :
    SH.Spec Tryz.prog 67 #[.agg #[.slice Ac Ab.length Ad, .slice Aj Af.length Ai]] F [] fun F' L' v => ∃ (rv : Value) (rL : LH), v = .tuple #[rv, .int .i64 r2] ∧ L' = rL ++ [] ∧ Km F' rv r rL := by
 refine sp func67 ntmps67 fun K _ _ => ?_
 rw [Cx] at hr
 refine AI ?_
 refine By rfl rfl ?_; intro b1 fy
 refine ua (ua (Aa (At (AI ?_))))
 refine uv (AE isAgg26 sizeOf26 rfl (Has.own 0 rfl) (A5 rfl) rfl) ?_
 obtain ⟨n, h2, r3⟩ := AB hr
 refine cV call12 (GC a6 aa h2) ?_
 refine ua (BI (um ?_))
 refine uv (BH rfl rfl) (Aa ?_)
 refine cQ (fun c4 => ?_) fun c4 => ?_
 ·have r5 := AQ r3 c4
  refine AI (um (ua (ua (Aa ?_))))
  refine kW kn ?_
  refine As (Al ?_)
  refine Bu results67 (AP rfl) (AP rfl) (sr) ?_
  obtain ⟨rfl, rfl⟩ := BT r5
  exact ⟨_, [], rfl, rfl, LY _⟩
 have r6 := AR r3 c4
 refine Aq (AI ?_)
 refine uv (AE isAgg26 sizeOf26 rfl (Has.own 0 rfl) (A5 rfl) rfl) ?_
 refine PH rfl ?_; intro b7 g0
 refine uv (BL (v := .agg #[.slice Ac Ab.length Ad, .slice Aj Af.length Ai, .map (some b7), .slice none 0 0]) rfl (by intro w; kernel_rfl)) ?_
 refine By rfl rfl ?_; intro b8 eo
 refine ua (Aa ?_)
 obtain ⟨ak, av, ep, eb⟩ := A9 r6
 refine AK (fun e1 F1 L1 => ∃ (cb : Array MapEntry) (az : Nat) (dd : Option Addr) (de : Nat) (df : Nat) (bo : LH), AN F F1 ∧ L1 = ((b8, ce #[.slice Ac Ab.length Ad, .slice Aj Af.length Ai, .map (some b7), .slice dd de df] 113) :: ((b7, .map cb az) :: (bo ++ []))) ∧ e1.sub [(5, .pointer (some ⟨b8, 0, none⟩))] ∧ HO (Value.int .i64) (Value.int .i64) cb ak ∧ AW K.w0.heap.size 148 64 (LP 64 cB) F1 dd de df av bo) ?_ ?_
 ·clear eb
  refine AI (uv (Av Bz rfl) (uv (Ao isAgg24 rfl (Has.own 2 rfl) rfl) (uv (AJ underlying24 rfl) ?_)))
  refine um (Aa ?_)
  refine Ap (kW (kc (kc kn)) ?_)
  refine A2 (fun ec e1 F1 L1 => LA Af ec fun tl k => ∃ (ab : List (Int × Int)) (ad : List (List Bool)) (ao : Array MapEntry) (aw : Nat) (aq : Option Addr) (ar : Nat) (au : Nat) (ah : LH), Gw Ab Af tl k ab ad = some (ak, av) ∧ AN F F1 ∧ L1 = ((b8, ce #[.slice Ac Ab.length Ad, .slice Aj Af.length Ai, .map (some b7), .slice aq ar au] 113) :: ((b7, .map ao aw) :: (ah ++ []))) ∧ e1.sub [(5, .pointer (some ⟨b8, 0, none⟩)), (20, .int .i64 (Af.length : Int)), (21, .int .i64 k)] ∧ HO (Value.int .i64) (Value.int .i64) ao ab ∧ AW K.w0.heap.size 148 64 (LP 64 cB) F1 aq ar au ad ah) _ (m0 (kc (kc (ke kr))) ⟨_, _, rfl, A8.start _, [], [], #[], 0, none, 0, 0, [], ep, AN.refl _, rfl, z3, HO.nil, AW.nil _ _ _ _ _⟩) ?_
  rintro ec e1 dg _ ⟨tl, k, dh, bp, ab, ad, ao, aw, aq, ar, au, ah, cu, ba, rfl, di, cc, bb⟩
  refine Az _ di ?_
  replace a6 := a6.mono (Ak (Ae _)) ba
  replace aa := aa.mono (Ak (Ae _)) ba
  refine AI (uv (AV rfl rfl) ?_)
  refine Aa (At ?_)
  refine cQ (fun cv => ?_) fun cv => ?_
  ·obtain ⟨x, g8, rfl, er, ga, dk⟩ := A8.succ bp cv
   rw [Gw] at cu
   refine Aq ?_
   obtain ⟨ai, al, et, ef⟩ := A9 cu
   refine AK (fun e1 F1 L1 => ∃ (bc : Array MapEntry) (bq : Nat) (cw : Option Addr) (cx : Nat) (cy : Nat) (bd : LH), AN dg F1 ∧ L1 = ((b8, ce #[.slice Ac Ab.length Ad, .slice Aj Af.length Ai, .map (some b7), .slice cw cx cy] 113) :: ((b7, .map bc bq) :: (bd ++ []))) ∧ e1.sub [(5, .pointer (some ⟨b8, 0, none⟩)), (20, .int .i64 (Af.length : Int)), (21, .int .i64 k)] ∧ HO (Value.int .i64) (Value.int .i64) bc ai ∧ AW K.w0.heap.size 148 64 (LP 64 cB) F1 cw cx cy al bd) ?_ ?_
   ·clear ef
    refine Ap ?_
    refine AI (um (ua (BI ?_)))
    refine A1 rfl zeroValue148 ?_; intro bk eu
    refine AD rfl (Aa ?_)
    obtain ⟨aj, r3, ew, eg⟩ := A9 et
    refine AK (fun e1 F1 L1 => ∃ (bg : Array MapEntry) (br : Nat), AN dg F1 ∧ L1 = ((bk, ce (arr cB r3) 148) :: ((b8, ce #[.slice Ac Ab.length Ad, .slice Aj Af.length Ai, .map (some b7), .slice aq ar au] 113) :: ((b7, .map bg br) :: (ah ++ [])))) ∧ e1.sub [(5, .pointer (some ⟨b8, 0, none⟩)), (7, .pointer (some ⟨bk, 0, none⟩)), (20, .int .i64 (Af.length : Int)), (21, .int .i64 k)] ∧ HO (Value.int .i64) (Value.int .i64) bg aj ∧ r3.length = 64) ?_ ?_
    ·clear eg
     refine AI (um ?_)
     obtain ⟨n2, ey, ez⟩ := AB ew
     refine Bi (Lt := [(b8, ce #[.slice Ac Ab.length Ad, .slice Aj Af.length Ai, .map (some b7), .slice aq ar au] 113)]) (Lr := (bk, ce (arr cB (List.replicate 64 false)) 148) :: ((b7, .map ao aw) :: (ah ++ []))) rfl call69 rfl rfl rfl (((fC fO).trans (pC pR))) (fun F2 h2 h3 => by exact BY (h3 (b8, ce #[.slice Ac Ab.length Ad, .slice Aj Af.length Ai, .map (some b7), .slice aq ar au] 113) (List.mem_cons_self ..)) (a6.mono (Ak (Ae _)) h2) (aa.mono (Ak (Ae _)) h2) ey) ?_
     refine um (Aa ?_)
     refine Ap ?_
     obtain ⟨fa, fb⟩ := AX ez
     refine A2 (fun cz e1 F1 L1 => ∃ (k2 : Int), CZ 0 n2 k2 cz ∧ ∃ (ae : List (Int × Int)) (r4 : List Bool) (ax : Array MapEntry) (bh : Nat), Gt Ab Af k cz k2 ae r4 = some (aj, r3) ∧ AN dg F1 ∧ L1 = ((bk, ce (arr cB r4) 148) :: ((b8, ce #[.slice Ac Ab.length Ad, .slice Aj Af.length Ai, .map (some b7), .slice aq ar au] 113) :: ((b7, .map ax bh) :: (ah ++ [])))) ∧ e1.sub [(5, .pointer (some ⟨b8, 0, none⟩)), (6, .int .i64 k), (7, .pointer (some ⟨bk, 0, none⟩)), (20, .int .i64 (Af.length : Int)), (21, .int .i64 k), (25, .int .i64 n2), (26, .int .i64 k2)] ∧ HO (Value.int .i64) (Value.int .i64) ax ae ∧ r4.length = 64) _ (m0 kr ⟨_, CZ.start _ _, ab, List.replicate 64 false, ao, aw, fb, AN.refl _, rfl, z7, cc, List.length_replicate⟩) ?_
     rintro cz e1 gb _ ⟨k2, bu, ae, r4, ax, bh, da, bj, rfl, dm, cd, cf⟩
     refine Az _ dm ?_
     replace a6 := a6.mono (Ak (Ae _)) bj
     replace aa := aa.mono (Ak (Ae _)) bj
     refine AI (uv (AV rfl rfl) ?_)
     refine Aa (At ?_)
     refine cQ (fun db => ?_) fun db => ?_
     ·obtain ⟨cz, rfl, dp⟩ := CZ.succ bu db
      rw [Gt] at da
      refine Aq (At ?_)
      refine Ap ?_
      refine AI (um (ua (Aa (An (um (um (um (um ?_))))))))
      obtain ⟨n3, BW, fe, ff⟩ := A9 da
      refine Is (Lb := [(b7, .map ax bh)]) (Lt := [(b8, ce #[.slice Ac Ab.length Ad, .slice Aj Af.length Ai, .map (some b7), .slice aq ar au] 113)]) (Lr := (bk, ce (arr cB r4) 148) :: (ah ++ [])) rfl call103 rfl rfl rfl (pT ((fC (fC fO)).trans (pC ((fC fO).trans (pC pR)))) (lb (ln (lb (ln rfl))))) (fun F2 h2 h3 => by exact JH (h3 (b8, ce #[.slice Ac Ab.length Ad, .slice Aj Af.length Ai, .map (some b7), .slice aq ar au] 113) (List.mem_cons_self ..)) (a6.mono (Ak (Ae _)) h2) (aa.mono (Ak (Ae _)) h2) cd fe) (fun _ _ _ _ hq => by obtain ⟨bw, bx, rfl, rfl, bz⟩ := hq; exact ⟨_, _, rfl, rfl, bz⟩) ?_; rintro _ gg _ dq fg fh ⟨bw, bx, rfl, rfl, bz⟩
      refine AD (lb (ln (lb (ln rfl)))) (uv (Bb rfl rfl) ?_)
      obtain ⟨x2, eh, fi, fj⟩ := A7 ff
      refine uv (B6 underlying148 sizeOf4 rfl rfl (Ci cf eh)) ?_
      obtain ⟨r5, ei, fk⟩ := BS fj
      have fl : r5.length = 64 := by rw [ei, List.length_set]; exact cf
      refine He (i := 2) sizeOf4 BU rfl rfl rfl rfl (Ci cf eh) cf ?_
      refine AD (L' := (b7, .map bw bx) :: ((b8, ce #[.slice Ac Ab.length Ad, .slice Aj Af.length Ai, .map (some b7), .slice aq ar au] 113) :: ((bk, ce (arr cB r5) 148) :: (ah ++ [])))) (by rw [ei]; rfl) ?_
      refine Aa (Ax (id := 3) (An ?_))
      refine uv (AY rfl rfl (CZ.CC bu db fa)) ?_
      refine um (Aa ?_)
      exact le (kf (fC (fC fO)) (kf (fC fO) kr)) ⟨_, dp, BW, r5, bw, bx, fk, (bj.trans dq), rfl, z7, bz, fl⟩
     obtain rfl := CZ.zero bu db
     rw [Gt] at da
     refine AL (Am (Am ?_))
     refine AA ?_
     obtain ⟨rfl, rfl⟩ := BT da
     exact mi kr ⟨ax, bh, bj, rfl, z4, cd, cf⟩
    rintro e1 gh _ ⟨bg, br, cg, rfl, dr, dt, du⟩
    refine Az _ dr ?_
    replace bb := bb.mono (Bg (n := 64) (sz := 1) BU) cg
    refine Bd [(.still, 0), (.still, 1), (.still, 2), (.still, 3), (.still, 4), (.still, 5), (.seq, 6), (.seq, 7), (.still, 8), (.still, 9), (.seq, 10)] (by kernel_rfl) (by kernel_rfl) (trivial) (by rfl) (by kernel_rfl) (mS [5] rfl (Bj rfl) (mS [5] rfl (Bj rfl) (mS [38] rfl (Bo rfl) (mS [39] rfl (Av JB rfl) (mL [40] ([(b8, ce #[.slice Ac Ab.length Ad, .slice Aj Af.length Ai, .map (some b7), .slice aq ar au] 113)]) rfl (s0 (s1 (s2 (s1 (s3 sr))))) (fun H F' L' dv dw => Ao isAgg111 rfl ((Has.own 0 rfl).ext dv dw) rfl) (mL [7] ([(bk, ce (arr cB r3) 148)]) rfl (s0 (s2 (s1 (s1 (s3 sr))))) (fun H F' L' dv dw => Lz isAgg148 sizeOf148 rfl ((Has.own 0 rfl).ext dv dw) (H8 BU du)) ?_))))))
    refine ⟨_, [(42, .agg (arr cB r3))], rfl, rfl, z1, by kernel_rfl, ?_⟩; intro H
    refine Gn (cs := arr cB r3) rfl rfl (Np Px BU du rfl (by decide)) ?_; intro fm fo
    refine Aa ⟨_, rfl, AN.refl _, [4, 3, 2, 1, 0], by kernel_rfl, .inl (.inr (fun d h => by cases h; rfl)), (fc (s0 (s1 (s1 (s2 (s1 (s3 sr)))))) (fc sm (fc sm (fc sm (fc sm nm))))), ?_⟩
    refine ⟨_, [(41, .slice aq ar au), (43, .slice (some ⟨fm, 0, none⟩) 1 1)], rfl, rfl, z2, by kernel_rfl, ?_⟩; intro H
    obtain ⟨l, fp, fq, fs⟩ := E0 eg
    refine Dm (xs := ad) (ys := [r3]) (zs := l) rfl Px rfl rfl (Nat.le_refl _) (fun _ => .c (.c (.c (.c .h)))) bb (GO.box (vss := [(arr cB r3).toList]) (ys := [r3]) 0 rfl (Bg (n := 64) (sz := 1) BU) (.cons ⟨rfl, du⟩ .nil) (by simp) rfl) fp fq (by decide) ?_; intro ej cj en ck cn
    refine kO (kd kr) ?_
    refine Aa ⟨_, rfl, AN.refl _, [0], by kernel_rfl, .inl (.inr (fun d h => by cases h; rfl)), (fc sm nm), ?_⟩
    refine mS [37] rfl (Bo rfl) (mS [45] rfl (Av JB rfl) ?_)
    refine ⟨_, [(44, .slice ej cj en), (46, .pointer (some ⟨b8, 3, none⟩))], rfl, rfl, z2, by kernel_rfl, ?_⟩; intro H
    refine A0 (i := 1) sizeOf111 rfl rfl rfl rfl (A5 rfl) (AD rfl ?_)
    refine Aa ⟨undef, rfl, AN.refl _, [], by kernel_rfl, .inl (.inl rfl), nm, ?_⟩
    refine BC (Ax (id := 1) ?_)
    obtain ⟨rfl, rfl⟩ := BT fs
    exact mi (kd kr) ⟨bg, br, ej, cj, en, ck, cg, rfl, z3, dt, cn⟩
   rintro e1 ft _ ⟨bc, bq, cw, cx, cy, bd, bl, rfl, cp, dx, dy⟩
   refine Az _ cp ?_
   replace aa := aa.mono (Ak (Ae _)) bl
   refine An (uv (AY rfl rfl (A8.CC bp cv (Au.lt aa))) ?_)
   refine um (Aa ?_)
   subst dh; exact le kr ⟨_, _, rfl, dk, ai, al, bc, bq, cw, cx, cy, bd, ef, (ba.trans bl), rfl, z3, dx, dy⟩
  obtain rfl := A8.zero bp cv
  rw [Gw] at cu
  refine AL (Am (Am ?_))
  refine AA ?_
  obtain ⟨rfl, rfl⟩ := BT cu
  exact mi kr ⟨ao, aw, aq, ar, au, ah, ba, rfl, z1, cc, bb⟩
 rintro e1 fv _ ⟨cb, az, dd, de, df, bo, bm, rfl, cq, dz, cr⟩
 refine Az _ cq ?_
 replace a6 := a6.mono (Ak (Ae _)) bm
 replace aa := aa.mono (Ak (Ae _)) bm
 refine AI (um (ua (ua (Aa ?_))))
 obtain rfl := (AW.Be cr).1
 refine Ke (Nat.le_refl _) (Bg (n := 64) (sz := 1) BU) (fC (fC fP)) cr ?_; intro fw bn ca
 replace a6 := a6.mono (Ak (Ae _)) bn
 replace aa := aa.mono (Ak (Ae _)) bn
 refine Ge 0 rfl eo ?_; intro fx ay ct
 refine Fu (L' := [(b7, .map cb az)]) rfl ?_
 replace a6 := a6.mono (Ak (Ae _)) ay
 replace aa := aa.mono (Ak (Ae _)) ay
 replace ca := ca.mono (Bg (n := 64) (sz := 1) BU) ay
 refine As (Bu results67 (AP rfl) (AP rfl) (sr) ?_)
 obtain ⟨rfl, rfl⟩ := BT eb
 exact ⟨_, [(b7, .map cb az)], rfl, rfl, NX ct a6 aa dz ca⟩
set_option maxHeartbeats 1000000 in
theorem Ij {s_ : List (List Bool)} {v : List Bool} (aa : Au 64 (LP 64 cB) F GX GY s_) (al : v.length = 64) {r : Int} (hr : Dj s_ v = some r) :
    Ba Tryz.prog 129 #[.slice GX s_.length GY, .agg (arr cB v)] F (.int .i64 r) := by
 refine sp func129 ntmps129 fun K _ _ => ?_
 rw [Dj] at hr
 refine AI ?_
 refine By rfl rfl ?_; intro b1 bc
 refine ua (Aa ?_)
 refine AK (fun e1 F1 L1 => CT = some r ∧ F = F1 ∧ L1 = [] ∧ e1.sub []) ?_ ?_
 ·refine AI (um ?_)
  refine uv (AJ underlying111 rfl) ?_
  refine um (Aa ?_)
  refine Ap ?_
  refine A2 (fun ao e1 F1 L1 => LA s_ ao fun tl k => BQ v tl k = some r ∧ F = F1 ∧ L1 = [(b1, ce (arr cB v) 148)] ∧ e1.sub [(0, .slice GX s_.length GY), (3, .pointer (some ⟨b1, 0, none⟩)), (7, .int .i64 (s_.length : Int)), (8, .int .i64 k)]) _ (m0 kr ⟨_, _, rfl, A8.start _, hr, rfl, rfl, z4⟩) ?_
  rintro ao e1 _ _ ⟨tl, k, au, ab, r4, rfl, rfl, av⟩
  refine Az _ av (AI (uv (AV rfl rfl) ?_))
  refine Aa (At ?_)
  refine cQ (fun c7 => ?_) fun c7 => ?_
  ·obtain ⟨x, bd, rfl, aw, aq, ax⟩ := A8.succ ab c7
   rw [BQ] at r4
   refine Aq (At ?_)
   refine Ap ?_
   refine AI (um (ua ?_))
   refine dN (wv (Lz isAgg148 sizeOf148 rfl (Has.own 0 rfl) (H8 BU al)) ?_)
   refine wm (wm ?_)
   obtain ⟨KZ, bg, bh, ay, ad, ae, a6, ⟨rfl, az⟩, ah, ai⟩ := Au.at (Bg (n := 64) (sz := 1) BU) aa ([(b1, ce (arr cB v) 148)]) aq.1 aw
   refine wv (AF underlying111 sizeOf148 rfl ad rfl aq) (wv (AE isAgg148 sizeOf148 rfl ae a6 (HN a6 ah ai)) (wv (Nh (OD _ _ _ _) (Pv al az) rfl rfl) (BV ?_)))
   refine cQ (fun aj => ?_) fun aj => ?_
   ·have ba := AQ r4 aj
    refine AI (um (ua (Aa ?_)))
    refine kW kn ?_
    refine As (Ay (Al (Al (Ay (Al ?_)))))
    refine BD results129 ?_
    obtain rfl := AH ba
    exact rfl
   have bb := AR r4 aj
   refine Aq (Ax (id := 1) (An ?_))
   refine uv (AY rfl rfl (A8.CC ab c7 (Au.lt aa))) ?_
   refine um (Aa ?_)
   subst au; exact le kr ⟨_, _, rfl, ax, bb, rfl, rfl, z4⟩
  obtain rfl := A8.zero ab c7
  rw [BQ] at r4
  refine AL (Am (Am ?_))
  refine AA ?_
  exact mi kn ⟨r4, rfl, rfl, (sn _)⟩
 rintro e1 _ _ ⟨ar, rfl, rfl, ak⟩
 refine Az _ ak ?_
 rw [CT] at ar
 refine AI (ua (Aa (As ?_)))
 refine BD results129 ?_
 obtain rfl := AH ar
 exact rfl
theorem Hv {s_ : List (List Bool)} {v : List Bool} (a6 : Au 64 (LP 64 cB) F GX GY s_) (aa : v.length = 64) {r : Bool} (hr : CS s_ v = some r) :
    Ba Tryz.prog 114 #[.slice GX s_.length GY, .agg (arr cB v)] F (.bool r) := by
 refine sp func114 ntmps114 fun K _ _ => ?_
 rw [CS] at hr
 refine AI ?_
 refine By rfl rfl ?_; intro b1 ab
 refine ua (BI (um ?_))
 refine uv (Lz isAgg148 sizeOf148 rfl (Has.own 0 rfl) (H8 BU aa)) ?_
 obtain ⟨n, h2, r3⟩ := AB hr
 refine cV call129 (Ij a6 aa h2) (uv (Hy rfl rfl) ?_)
 refine ua (Aa ?_)
 refine kW kn (As (BD results114 ?_))
 obtain rfl := AH r3
 exact rfl
theorem H2 (aa : F Hx = some (.cells #[.slice Ac Ab.length Ad, .slice Aj Af.length Ai, v1, .slice Dc rows.length Dd] 113 KD)) (_h_listens : Au 1 (Bm 1 (iE .i64)) F Ac Ad Ab) (_h_hours : Au 1 (Bm 1 (iE .i64)) F Aj Ai Af) (a6 : Au 64 (LP 64 cB) F Dc Dd rows) {r : Bool} (hr : Fz Ab Af rows = some r) :
    Ba Tryz.prog 68 #[.pointer (some ⟨Hx, 0, none⟩)] F (.bool r) := by
 refine sp func68 ntmps68 fun K _ _ => ?_
 rw [Fz] at hr
 refine AI (ua (BI (um ?_)))
 refine uv (Bo rfl) (uv (Av JB rfl) (uv (Ao isAgg111 rfl (Has.frozen aa) rfl) ?_))
 refine uv (BL (v := .agg (arr cB (List.replicate 64 false))) rfl (by intro w; kernel_rfl)) ?_
 obtain ⟨ok, h2, r3⟩ := AB hr
 refine cV call114 (Hv a6 List.length_replicate h2) ?_
 refine ua (Aa (As ?_))
 refine BD results68 ?_
 obtain rfl := AH r3
 exact rfl
set_option maxHeartbeats 1000000 in
theorem Gb (a6 : Au 1 (Bm 1 (iE .i64)) F Ac Ad Ab) (aa : Au 1 (Bm 1 (iE .i64)) F Aj Ai Af) {r : Option ((List (List Int)) × (List (List Int)) × (List (Int × Int)) × (List (List Bool)))} {r2 : Int} (hr : Gg Ab Af = some (r, r2)) :
    SH.Spec Tryz.prog 15 #[.agg #[.slice Ac Ab.length Ad, .slice Aj Af.length Ai]] F [] fun F' L' v => ∃ (rv : Value) (rL : LH), v = .tuple #[rv, .int .i64 r2] ∧ L' = rL ++ [] ∧ Km F' rv r rL := by
 refine sp func15 ntmps15 fun K _ _ => ?_
 rw [Gg] at hr
 refine AI ?_
 refine By rfl rfl ?_; intro b1 bl
 refine ua (ua (BI ?_))
 refine uv (AE isAgg26 sizeOf26 rfl (Has.own 0 rfl) (A5 rfl) rfl) ?_
 obtain ⟨d, n, h2, r3⟩ := A9 hr
 refine c0 call67 (Ct a6 aa h2) ?_; rintro _ F4 _ bm bn ⟨v8, az, rfl, rfl, ba⟩
 refine AD (lp (ln rfl)) (kO (kf (fS fO) kr) ?_)
 refine um (ox rfl rfl rfl (ox rfl rfl rfl (ua (ua (Aa (At (AI (um ?_))))))))
 refine uv (BH rfl rfl) (Aa ?_)
 refine cQ (fun ai => ?_) fun ai => ?_
 ·have bb := AQ r3 ai
  refine AI (um (ua (ua (Aa ?_))))
  refine kW kn ?_
  refine As (Al ?_)
  refine Bu results15 (AP rfl) (AP rfl) (sr) ?_
  obtain ⟨rfl, rfl⟩ := BT bb
  exact ⟨_, [], rfl, rfl, LY _⟩
 have bc := AR r3 ai
 refine Aq (At (At ?_))
 obtain ⟨ab, aj, BW, rows, bd, bg⟩ := GV bc
 have ar := ba; rw [bd] at ar; obtain ⟨bo, bp, bq, br, bu, bw, au, ad, ae, bx, bz, ak, ah, av, aw, al, ax, ao⟩ := CM ar; subst ak; subst ao
 refine Fu (L' := [(b1, ce #[.slice Ac Ab.length Ad, .slice Aj Af.length Ai] 26), (au, .map ad ae)]) rfl ?_
 refine An (um ?_)
 obtain ⟨ok, bh, ay⟩ := AB bg
 refine cV call68 (H2 ah av aw ax bh) (Aa ?_)
 refine AT rfl (fun aq => ?_) (fun aq => ?_)
 ·have bj := bt ay aq
  refine AI (ua (ua (Aa ?_)))
  refine kW kn ?_
  refine As (Al ?_)
  refine Bu results15 (AP rfl) (AP rfl) (sr) ?_
  obtain ⟨rfl, rfl⟩ := BT bj
  exact ⟨_, [], rfl, rfl, LY _⟩
 have bk := bf ay aq
 refine Aq (AI (um (ua (ua (Aa ?_)))))
 refine kW (kd kr) (As (Bu results15 (AP rfl) (AP rfl) (sr) ?_))
 obtain ⟨rfl, rfl⟩ := BT bk
 exact ⟨_, [(au, .map ad ae)], rfl, rfl, NX ah av aw al ax⟩
set_option maxHeartbeats 1000000 in
theorem LU {ae : Nat} {au : Nat × Nat} (ak : F Hx = some (.cells #[.pointer (some ⟨MM, 0, none⟩)] 45 KD)) (ad : F MM = some (.cells #[.slice Ac Ab.length Ad, .slice Aj Af.length Ai, v1, .slice Dc rows.length Dd] 113 MV)) (aa : Au 1 (Bm 1 (iE .i64)) F Ac Ad Ab) (ah : Au 1 (Bm 1 (iE .i64)) F Aj Ai Af) (ab : Au 64 (LP 64 cB) F Dc Dd rows) (a6 : F ae = some (.cells #[.int .i64 hour] 3 au)) {xs : List Int} (hr : IU Ab Af rows hour = some xs) :
    K8 Tryz.prog 115 #[] #[.pointer (some ⟨Hx, 0, none⟩), .pointer (some ⟨ae, 0, none⟩)] F (fun x : Int => #[.int .i64 x]) xs := by
 intro G0 bc yv J Jx db cr hy Fc L0 hG ct
 replace ak := (bc.trans hG) _ _ ak
 replace ad := (bc.trans hG) _ _ ad
 replace aa := aa.mono (Ak (Ae _)) (bc.trans hG)
 replace ah := ah.mono (Ak (Ae _)) (bc.trans hG)
 replace ab := ab.mono (Bg (n := 64) (sz := 1) BU) (bc.trans hG)
 replace a6 := (bc.trans hG) _ _ a6
 have ay : xs = [] ++ xs := rfl
 show SH.Spec Tryz.prog 115 #[yv, .pointer (some ⟨Hx, 0, none⟩), .pointer (some ⟨ae, 0, none⟩)] Fc L0 _
 refine sp func115 ntmps115 fun K _ _ => ?_
 rw [IU] at hr; refine Fu (L' := L0 ++ []) (by simp) ?_
 refine AI (uv (Ao isAgg45 rfl (Has.frozen ak) rfl) ?_)
 obtain ⟨n, h2, r3⟩ := AB hr
 refine cV call69 (BY ad aa ah h2) ?_
 refine um (Aa ?_)
 refine Ap ?_
 obtain ⟨g9, cu⟩ := AX r3
 refine A2 (fun bn e1 F1 L1 => ∃ (k : Int), CZ 0 n k bn ∧ ∃ (aj : List Int) (av : List Int) (bd : LH), Du rows hour bn k = some av ∧ AN Fc F1 ∧ L1 = (bd ++ []) ∧ e1.sub [(0, yv), (1, .pointer (some ⟨Hx, 0, none⟩)), (2, .pointer (some ⟨ae, 0, none⟩)), (6, .int .i64 n), (7, .int .i64 k)] ∧ xs = aj ++ av ∧ J aj F1 bd ∧ AN G0 F1) _ (m0 kr ⟨_, CZ.start _ _, [], xs, L0, cu, AN.refl _, rfl, z5, ay, ct, hG⟩) ?_
 rintro bn e1 dd _ ⟨k, aw, aj, av, bd, bo, al, rfl, bp, ai, bq, hG⟩
 refine Az _ bp ?_
 replace ab := ab.mono (Bg (n := 64) (sz := 1) BU) al
 replace ad := al _ _ ad
 replace ak := al _ _ ak
 replace a6 := al _ _ a6
 refine AI (uv (AV rfl rfl) ?_)
 refine Aa (At ?_)
 refine cQ (fun bg => ?_) fun bg => ?_
 ·obtain ⟨bn, rfl, bh⟩ := CZ.succ aw bg
  rw [Du] at bo
  refine Aq (At ?_)
  refine Ap ?_
  refine AI (um (ua (Aa (At ?_))))
  refine Bd [(.still, 0), (.still, 1), (.still, 2), (.still, 3), (.still, 4), (.still, 5), (.still, 6), (.still, 7), (.still, 8), (.still, 9), (.still, 10), (.still, 11), (.seq, 12), (.still, 13), (.still, 14)] (by kernel_rfl) (by kernel_rfl) (trivial) (by rfl) (by kernel_rfl) (mL [1] ([]) rfl sm (fun H F' L' aq ar => Ao isAgg45 rfl ((Has.frozen ak).ext aq ar) rfl) (mS [10] rfl (Bo rfl) (mS [11] rfl (Av JB rfl) (mL [12] ([]) rfl sm (fun H F' L' aq ar => Ao isAgg111 rfl ((Has.frozen ad).ext aq ar) rfl) (mL [2] ([]) rfl sm (fun H F' L' aq ar => Ao isAgg3 rfl ((Has.frozen a6).ext aq ar) rfl) (mS [4] rfl (Bj rfl) ?_))))))
  obtain ⟨x, ck, br, cv⟩ := A7 bo
  obtain ⟨de, df, dg, cw, bu, bw, bj, ⟨rfl, cn⟩, bx, bz⟩ := Au.at (Bg (n := 64) (sz := 1) BU) ab ([]) ck.1 br
  refine mS [13, 14] rfl (AF underlying111 sizeOf148 rfl bu rfl ck) ?_
  obtain ⟨x2, cx, ca, cp⟩ := A7 cv
  have cb := OX BU cn ca bz bj bx
  refine mS [15, 16] rfl (B6 underlying148 sizeOf4 rfl rfl (Ci cn cx)) (mL [17] ([]) rfl sm (fun H F' L' aq ar => Ao isAgg4 rfl (bw.ext aq ar) ((cb).2.2 0 (by decide))) (mS [18] rfl (Bj rfl) ?_))
  rcases Bf x2 with ao | ao
  ·have cy := bt cp ao
   refine Pj 19 (v := yv) (ek := [(0, yv), (19, .bool x2)]) (Ls := []) rfl rfl (Df rfl ao) rfl rfl rfl (z2) (by kernel_rfl) sm (fun H F' L' aq ar => Bj rfl) (Pj 19 (v := .int .i64 k) (ek := [(4, .int .i64 k), (19, .bool x2)]) (Ls := []) rfl rfl (Df rfl ao) rfl rfl rfl (z2) (by kernel_rfl) sm (fun H F' L' aq ar => Bj rfl) ?_)
   refine ⟨_, [(19, .bool x2), (20, yv), (21, .int .i64 k)], rfl, rfl, z3, by kernel_rfl, ?_⟩; intro H
   refine nB ao ?_
   obtain ⟨az, cz, bk⟩ := Rg cy
   refine Qy (Lb := bd) (Lr := []) (vs := [.int .i64 k]) rfl rfl rfl fP (hy aj k az (by rw [ai, bk]) _ _ hG bq) ?_
   rintro dh di cc ba cd; obtain ⟨bb, rfl, bl, bm⟩ := Pk cd
   replace hG := hG.trans ba
   refine Aa ⟨_, rfl, ba, [2, 1, 0], by kernel_rfl, .inl (.inr (fun d h => by cases h; rfl)), (fc sm (fc sm (fc sm nm))), ?_⟩
   refine Pj 19 (v := .bool (!bb)) (ek := [(19, .bool x2), (22, .bool bb)]) (Ls := []) rfl rfl (Df rfl ao) rfl rfl rfl (z2) (by kernel_rfl) sm (fun H F' L' aq ar => BM rfl) (mS (v := .bool (!bb)) [19, 23] rfl (Aw (En rfl ao) rfl) (BC ?_))
   refine AT rfl (fun cf => ?_) (fun cf => ?_)
   ·have cg := bm (by simpa using cf)
    refine As (Ay (Al (Al (Ay ?_))))
    refine Pw (.inl rfl) results115 (sr) ?_
    exact .inr (by rw [List.append_nil]; exact cg)
   have cj := bl (by simpa using cf)
   have ax : xs = (aj ++ [k]) ++ az := by rw [ai, bk]; simp
   refine Aq (Ax (id := 1) (An ?_))
   refine uv (AY rfl rfl (CZ.CC aw bg g9)) ?_
   refine um (Aa ?_)
   exact le kr ⟨_, bh, aj ++ [k], az, cc, cz, (al.trans ba), rfl, z5, ax, cj, hG⟩
  have da := bf cp ao
  refine Oq (ek := [(19, .bool x2)]) (b' := false) 19 rfl rfl (Df rfl ao) rfl rfl rfl rfl z1 (by kernel_rfl) (Oq (ek := [(19, .bool x2)]) (b' := false) 19 rfl rfl (Df rfl ao) rfl rfl rfl rfl z1 (by kernel_rfl) ?_)
  refine ⟨_, [(19, .bool x2), (20, undef), (21, undef)], rfl, rfl, z3, by kernel_rfl, ?_⟩; intro H
  refine fB ao ?_
  refine Aa ⟨_, rfl, AN.refl _, [2, 1, 0], by kernel_rfl, .inl (.inr (fun d h => by cases h; rfl)), (fc sm (fc sm (fc sm nm))), ?_⟩
  refine Oq (ek := [(19, .bool x2)]) (b' := false) 19 rfl rfl (Df rfl ao) rfl rfl rfl rfl z1 (by kernel_rfl) (mS (v := .bool false) [19, 23] rfl (Ar (En rfl ao) rfl) (BC ?_))
  refine AT rfl (fun cq => nomatch cq) (fun cq => ?_)
  refine Aq (Ax (id := 1) (An ?_))
  refine uv (AY rfl rfl (CZ.CC aw bg g9)) ?_
  refine um (Aa ?_)
  exact le kr ⟨_, bh, aj, av, bd, da, al, rfl, z5, ai, bq, hG⟩
 obtain rfl := CZ.zero aw bg
 rw [Du] at bo
 refine AL (Am (Am ?_))
 refine AA (Pw (.inr rfl) results115 (sr) ?_)
 obtain rfl := AH bo
 exact .inl (by have e1 := ai; rw [List.append_nil] at e1; rw [List.append_nil, e1]; exact bq)
theorem Bt (ad : F Hx = some (.cells #[.slice Ac Ab.length Ad, .slice Aj Af.length Ai, v1, .slice Dc rows.length Dd] 113 KD)) (a6 : Au 1 (Bm 1 (iE .i64)) F Ac Ad Ab) (aa : Au 1 (Bm 1 (iE .i64)) F Aj Ai Af) (ab : Au 64 (LP 64 cB) F Dc Dd rows) {r : List Int} (hr : BA Ab Af rows hour = some r) :
    SH.Spec Tryz.prog 70 #[.pointer (some ⟨Hx, 0, none⟩), .int .i64 hour] F [] fun F' L' v => ∃ (ak : Array Value), v = .func (.func 115) #[] ak ∧ L' = [] ∧ K8 Tryz.prog 115 #[] ak F' (fun x : Int => #[.int .i64 x]) r := by
 refine sp func70 ntmps70 fun K _ _ => ?_
 rw [BA] at hr
 refine AI ?_
 refine By rfl rfl ?_; intro b2 al
 refine By rfl rfl ?_; intro b3 ao
 refine ua (BI ?_)
 refine uv (D5 rfl rfl) ?_
 refine ua (Aa ?_)
 refine Ge 1 rfl al ?_; intro F4 ai aj
 refine Fu (L' := [(b3, ce #[.int .i64 hour] 3)]) rfl ?_
 replace a6 := a6.mono (Ak (Ae _)) ai
 replace aa := aa.mono (Ak (Ae _)) ai
 replace ab := ab.mono (Bg (n := 64) (sz := 1) BU) ai
 replace ad := ai _ _ ad
 refine Ge 0 rfl ao ?_; intro F7 ae aq
 refine Fu (L' := []) rfl ?_
 replace a6 := a6.mono (Ak (Ae _)) ae
 replace aa := aa.mono (Ak (Ae _)) ae
 replace ab := ab.mono (Bg (n := 64) (sz := 1) BU) ae
 replace ad := ae _ _ ad
 replace aj := ae _ _ aj
 obtain ⟨l, ar, au⟩ := AB hr
 have ah : K8 Tryz.prog 115 #[] #[.pointer (some ⟨b2, 0, none⟩), .pointer (some ⟨b3, 0, none⟩)] F7 (fun x : Int => #[.int .i64 x]) l := LU aj ad a6 aa ab aq ar
 refine As (BD results70 ?_)
 obtain rfl := AH au
 exact ⟨_, rfl, rfl, ah⟩
theorem KG {r : Int} (hr : JN BO = some r) :
    Ba Tryz.prog 71 #[.int .i64 BO] F (.int .i64 r) := by
 refine sp func71 ntmps71 fun K _ _ => ?_
 rw [JN] at hr
 refine AI (ua (BI (ua (Aa ?_))))
 obtain ⟨n, h1, r2⟩ := AB hr
 refine jE ([]) [(3, .int .i64 n)] ?_ ?_
 ·clear r2
  refine Ap ?_
  refine A2 (fun aa e1 F1 L1 => ∃ (a6 : Int) (n2 : Int), HI aa a6 n2 = some n ∧ F = F1 ∧ L1 = [] ∧ e1.sub [(0, .int .i64 a6), (3, .int .i64 n2)]) FU (m0 kr ⟨BO, 0, h1, rfl, rfl, z2⟩) ?_
  rintro aa e1 _ _ ⟨a6, n2, r5, rfl, rfl, ab⟩
  refine Az _ ab ?_
  rcases aa with _ | aa
  ·rw [HI] at r5; cases r5
  rw [HI] at r5
  refine At (AI (um ?_))
  refine uv (Em rfl rfl) (Aa ?_)
  refine cQ (fun c7 => ?_) fun c7 => ?_
  ·have r8 := AQ r5 c7
   refine Aq (At ?_)
   refine Ap ?_
   refine An (um (um ?_))
   refine uv (KA rfl rfl) ?_
   obtain ⟨g9, ad⟩ := AX r8
   refine uv (AY rfl rfl g9) ?_
   refine ua (Aa (Ax (id := 1) (An (um ?_))))
   refine uv (K0 rfl rfl (by decide)) ?_
   refine ua (Aa ?_)
   exact le kr ⟨shr a6 1, n2 + (Ji a6 1), ad, rfl, rfl, z2⟩
  have ae := AR r5 c7
  refine AL (Am (Am ?_))
  refine AA ?_
  obtain rfl := AH ae
  exact mi kr ⟨rfl, rfl, z1⟩
 refine AI (um (ua (Aa (As ?_))))
 refine BD results71 ?_
 obtain rfl := AH r2
 exact rfl
theorem GD {a6 : Option Addr} {aa : Nat} {more : List Int} (ab : Au 1 (iE .i64) F a6 aa more) {r : Int} (hr : FV n more = some r) :
    Ba Tryz.prog 72 #[.int .i64 n, .slice a6 more.length aa] F (.int .i64 r) := by
 refine sp func72 ntmps72 fun K _ _ => ?_
 rw [FV] at hr
 refine AI (ua (Aa ?_))
 obtain ⟨n2, h1, r2⟩ := AB hr
 refine jE ([]) [(0, .int .i64 n2)] ?_ ?_
 ·clear r2
  refine AI (um ?_)
  refine uv (AJ underlying22 rfl) ?_
  refine um (Aa ?_)
  refine Ap ?_
  refine A2 (fun ak e1 F1 L1 => LA more ak fun tl k => ∃ (n3 : Int), GZ tl n3 = some n2 ∧ F = F1 ∧ L1 = [] ∧ e1.sub [(0, .int .i64 n3), (7, .slice a6 more.length aa), (8, .int .i64 (more.length : Int)), (9, .int .i64 k)]) _ (m0 kr ⟨_, _, rfl, A8.start _, n, h1, rfl, rfl, z4⟩) ?_
  rintro ak e1 _ _ ⟨tl, k, aq, ad, n3, r5, rfl, rfl, ar⟩
  refine Az _ ar (AI (uv (AV rfl rfl) ?_))
  refine Aa (At ?_)
  refine cQ (fun c8 => ?_) fun c8 => ?_
  ·obtain ⟨x, ax, rfl, ae, al, au⟩ := A8.succ ad c8
   rw [GZ] at r5
   refine Aq (At ?_)
   refine Ap (AI ?_)
   obtain ⟨Nb, ay, az, av, ah, ai, ao, rfl, aw, aj⟩ := Au.at (Ae _) ab ([]) al.1 ae
   refine uv (AF underlying22 sizeOf3 rfl ah rfl al) (uv (Ao isAgg3 rfl ai (aj 0 (by decide))) ?_)
   refine ua (Aa (An (um (um ?_))))
   refine uv (Od rfl rfl) ?_
   refine ua (Aa (Ax (id := 1) (An ?_)))
   refine uv (AY rfl rfl (A8.CC ad c8 (Au.lt ab))) ?_
   refine um (Aa ?_)
   subst aq; exact le kr ⟨_, _, rfl, au, if x < n3 then x else n3, r5, rfl, rfl, z4⟩
  obtain rfl := A8.zero ad c8
  rw [GZ] at r5
  refine AL (Am (Am ?_))
  refine AA ?_
  obtain rfl := AH r5
  exact mi kr ⟨rfl, rfl, z1⟩
 refine AI (um (ua (Aa (As ?_))))
 refine BD results72 ?_
 obtain rfl := AH r2
 exact rfl
theorem DU {before r : Int} (hr : DR before BO = some r) :
    Ba Tryz.prog 73 #[.int .i64 before, .int .i64 BO] F (.int .i64 r) := by
 refine sp func73 ntmps73 fun K _ _ => ?_
 rw [DR] at hr
 refine AI (ua (BI (um (um ?_))))
 refine uv (Nu rfl rfl) ?_
 obtain ⟨n, h1, r2⟩ := AB hr
 refine cV call71 (KG h1) ?_
 refine ua (Aa (As ?_))
 refine BD results73 ?_
 obtain rfl := AH r2
 exact rfl
set_option maxHeartbeats 1000000 in
theorem H7 (ao : F Hx = some (.cells #[.slice Ac Ab.length Ad, .slice Aj Af.length Ai, v1, .slice Dc rows.length Dd] 113 KD)) (a6 : Au 1 (Bm 1 (iE .i64)) F Ac Ad Ab) (aa : Au 1 (Bm 1 (iE .i64)) F Aj Ai Af) (ad : Au 64 (LP 64 cB) F Dc Dd rows) {r : List (List Int)} (hr : FD Ab Af rows = some r) :
    SH.Spec Tryz.prog 16 #[.pointer (some ⟨Hx, 0, none⟩)] F [] fun F' L' v => ∃ (ra : Option Addr) (rn : Nat) (rc : Nat) (rL : LH), v = .slice ra rn rc ∧ L' = rL ++ [] ∧ BG 0 22 3 1 (iE .i64) F' ra rn rc r rL := by
 refine sp func16 ntmps16 fun K _ _ => ?_
 rw [FD] at hr
 refine AI ?_
 refine By rfl rfl ?_; intro b2 oe
 refine ua (BI ?_)
 refine A1 rfl zeroValue23 ?_; intro b3 og
 refine Aa ?_
 obtain ⟨out, ld, j9⟩ := AB hr
 refine AK (fun e1 F1 L1 => ∃ (a4 : Option Addr) (n8 : Nat) (c5 : Nat) (fv : LH), AN F F1 ∧ L1 = ((b3, ce #[.slice a4 n8 c5] 23) :: (fv ++ [])) ∧ e1.sub [(3, .pointer (some ⟨b3, 0, none⟩))] ∧ BG K.w0.heap.size 22 3 1 (iE .i64) F1 a4 n8 c5 out fv) ?_ ?_
 ·clear j9
  refine AI (uv (Ao isAgg45 rfl (Has.own 1 rfl) rfl) (uv (Bo rfl) (uv (Av HP rfl) (uv (Av Bz rfl) (uv (Ao isAgg24 rfl (Has.frozen ao) rfl) (uv (AJ underlying24 rfl) ?_))))))
  refine um (Aa ?_)
  refine Ap ?_
  refine A2 (fun ja e1 F1 L1 => LA Af ja fun tl k => ∃ (bz : List (List Int)) (bc : Option Addr) (bd : Nat) (bg : Nat) (bo : LH), Ec Ab Af rows tl k bz = some out ∧ AN F F1 ∧ L1 = ((b3, ce #[.slice bc bd bg] 23) :: ((b2, ce #[.pointer (some ⟨Hx, 0, none⟩)] 45) :: (bo ++ []))) ∧ e1.sub [(1, .pointer (some ⟨b2, 0, none⟩)), (3, .pointer (some ⟨b3, 0, none⟩)), (13, .int .i64 (Af.length : Int)), (14, .int .i64 k)] ∧ BG K.w0.heap.size 22 3 1 (iE .i64) F1 bc bd bg bz bo) _ (m0 (kc (kc (ke kr))) ⟨_, _, rfl, A8.start _, [], none, 0, 0, [], ld, AN.refl _, rfl, z4, BG.nil _ _ _ _ _ _⟩) ?_
  rintro ja e1 jb _ ⟨tl, k, fw, cy, bz, bc, bd, bg, bo, fo, bm, rfl, fx, ca⟩
  refine Az _ fx ?_
  replace a6 := a6.mono (Ak (Ae _)) bm
  replace aa := aa.mono (Ak (Ae _)) bm
  replace ad := ad.mono (Bg (n := 64) (sz := 1) BU) bm
  replace ao := bm _ _ ao
  refine AI (uv (AV rfl rfl) ?_)
  refine Aa (At ?_)
  refine cQ (fun fp => ?_) fun fp => ?_
  ·obtain ⟨x, oh, rfl, lg, oi, fy⟩ := A8.succ cy fp
   rw [Ec] at fo
   refine Aq ?_
   obtain ⟨di, lh, jc⟩ := AB fo
   refine AK (fun e1 F1 L1 => ∃ (fq : Option Addr) (fs : Nat) (ft : Nat) (cb : LH), AN jb F1 ∧ L1 = ((b3, ce #[.slice fq fs ft] 23) :: ((b2, ce #[.pointer (some ⟨Hx, 0, none⟩)] 45) :: (cb ++ []))) ∧ e1.sub [(1, .pointer (some ⟨b2, 0, none⟩)), (3, .pointer (some ⟨b3, 0, none⟩)), (13, .int .i64 (Af.length : Int)), (14, .int .i64 k)] ∧ BG K.w0.heap.size 22 3 1 (iE .i64) F1 fq fs ft di cb) ?_ ?_
   ·clear jc
    refine Ap ?_
    refine AI (um ?_)
    refine A1 rfl zeroValue3 ?_; intro cc lj
    refine A0 (i := 0) sizeOf3 rfl rfl rfl rfl (A5 rfl) (AD rfl (BI (uv (Ao isAgg45 rfl (Has.own 2 rfl) rfl) ?_)))
    obtain ⟨n, lk, ll⟩ := AB lh
    refine cV call69 (BY ao a6 aa lk) ?_
    obtain ⟨lq, lr⟩ := AX ll
    obtain ⟨l, lu, lv⟩ := BS lr
    refine Jr (R := (iE .i64)) (z0 := 0) (zs := l) rfl BN (by decide) (Ae _) (fun _ => rfl) rfl lq lu (fun _ => .c (.c (.c .n))) ?_; intro au ab g0 cz
    refine A1 rfl zeroValue22 ?_; intro bn lx
    refine A0 (i := 0) sizeOf22 rfl rfl rfl rfl (A5 rfl) (AD rfl (Aa ?_))
    obtain ⟨da, l2, ly, jd⟩ := A9 lv
    refine AK (fun e1 F1 L1 => ∃ (db : LH) (dd : LH), AN jb F1 ∧ L1 = ((bn, ce #[.slice au ab ab] 22) :: ((b3, ce #[.slice bc bd bg] 23) :: ((b2, ce #[.pointer (some ⟨Hx, 0, none⟩)] 45) :: (db ++ (dd ++ []))))) ∧ e1.sub [(1, .pointer (some ⟨b2, 0, none⟩)), (3, .pointer (some ⟨b3, 0, none⟩)), (5, .pointer (some ⟨bn, 0, none⟩)), (13, .int .i64 (Af.length : Int)), (14, .int .i64 k)] ∧ BG K.w0.heap.size 22 3 1 (iE .i64) F1 bc bd bg da db ∧ AW K.w0.heap.size 3 1 (iE .i64) F1 au ab ab l2 dd) ?_ ?_
    ·clear jd
     refine AI (uv (Ao isAgg45 rfl (Has.own 3 rfl) rfl) (uv (Ao isAgg3 rfl (Has.own 1 rfl) rfl) ?_))
     obtain ⟨y, lz, ma⟩ := AB ly
     refine c0 call70 (Bt ao a6 aa ad lz) ?_; rintro _ oj _ bh mb ⟨mc, rfl, rfl, dk⟩
     replace a6 := a6.mono (Ak (Ae _)) bh
     replace aa := aa.mono (Ak (Ae _)) bh
     replace ad := ad.mono (Bg (n := 64) (sz := 1) BU) bh
     replace ca := ca.mono (Ae _) bh
     replace cz := cz.mono (Ae _) bh
     replace ao := bh _ _ ao
     refine AD (ln rfl) (Aa (Ap (kW (kc (kc (kc (kc (kg (fS fP) kr))))) ?_)))
     refine Cu (encs := (fun x : Int => #[.int .i64 x])) (xs := y) rfl call115 rfl (fun _ => rfl) dk (fun pre F1 L1 => ∃ (dg : List Int) (aw : List (List Int)) (l3 : List Int) (al : LH) (av : LH), y = pre ++ dg ∧ CG Ab Af rows k dg aw l3 = some (da, l2) ∧ L1 = ((bn, ce #[.slice au ab ab] 22) :: ((cc, ce #[.int .i64 k] 3) :: ((b3, ce #[.slice bc bd bg] 23) :: ((b2, ce #[.pointer (some ⟨Hx, 0, none⟩)] 45) :: (al ++ (av ++ [])))))) ∧ BG K.w0.heap.size 22 3 1 (iE .i64) F1 bc bd bg aw al ∧ AW K.w0.heap.size 3 1 (iE .i64) F1 au ab ab l3 av) (fun _ _ _ => False) ?_ ?_ ?_ ?_ ?_ ?_
     ·rintro pre F1 F2 L1 ⟨dg, aw, l3, al, av, bp, me, rfl, ax, aq⟩ hx; exact ⟨dg, aw, l3, al, av, bp, me, rfl, ax.mono (Ae _) hx, aq.mono (Ae _) hx⟩
     ·intro c F1 F2 L1 h hx; exact h
     ·exact ⟨_, bz, l, bo, g0, rfl, ma, rfl, ca, cz⟩
     ·rintro oo mg mh mj ml mn je g8 pre x2 mo bq oq _ cd ⟨dg, aw, l3, al, av, bp, ga, rfl, ax, aq⟩
      obtain rfl := Dr bp bq
      rw [CG] at ga
      replace a6 := a6.mono (Ak (Ae _)) cd
      replace aa := aa.mono (Ak (Ae _)) cd
      replace ad := ad.mono (Bg (n := 64) (sz := 1) BU) cd
      replace ao := cd _ _ ao
      refine Az [(1, .pointer (some ⟨b2, 0, none⟩)), (3, .pointer (some ⟨b3, 0, none⟩)), (4, .pointer (some ⟨cc, 0, none⟩)), (5, .pointer (some ⟨bn, 0, none⟩)), (13, .int .i64 (Af.length : Int)), (14, .int .i64 k), (23, .int .i64 x2)] (by exact z7) (An ?_)
      refine A1 rfl zeroValue3 ?_; intro cf mq
      refine A0 (i := 0) sizeOf3 rfl rfl rfl rfl (A5 rfl) (AD rfl (Aa ?_))
      refine ⟨rfl, ?_⟩
      refine Ap ?_
      refine At (AI ?_)
      refine uv (Ao isAgg3 rfl (Has.own 2 rfl) rfl) (uv (Bb rfl rfl) (Aa ?_))
      refine cQ (fun gb => ?_) fun gb => ?_
      ·have mr := AQ ga gb
       refine At (Bd [(.still, 0), (.still, 1), (.still, 2), (.seq, 3), (.still, 4), (.seq, 5)] (by kernel_rfl) (by kernel_rfl) (trivial) (by rfl) (by kernel_rfl) (mL [5] ([(bn, ce #[.slice au ab ab] 22)]) rfl (s0 (s1 (s2 (s1 (s1 (s1 (s3 (s3 sr)))))))) (fun H F' L' aj ak => Ao isAgg22 rfl ((Has.own 0 rfl).ext aj ak) rfl) (mL [6] ([(cf, ce #[.int .i64 x2] 3)]) rfl (s0 (s2 (s1 (s1 (s1 (s1 (s3 (s3 sr)))))))) (fun H F' L' aj ak => Ao isAgg3 rfl ((Has.own 0 rfl).ext aj ak) rfl) (mL [6] ([(cf, ce #[.int .i64 x2] 3)]) rfl (s0 (s2 (s1 (s1 (s1 (s1 (s3 (s3 sr)))))))) (fun H F' L' aj ak => Ao isAgg3 rfl ((Has.own 0 rfl).ext aj ak) rfl) ?_))))
       refine ⟨_, [(28, .int .i64 x2)], rfl, rfl, z1, by kernel_rfl, ?_⟩; intro H
       obtain ⟨n2, mu, mv⟩ := AB mr
       refine cV call71 (KG mu) ?_
       refine Aa ⟨_, rfl, AN.refl _, [1, 0], by kernel_rfl, .inl (.inr (fun d h => by cases h; rfl)), (fc (s0 (s2 (s1 (s1 (s1 (s1 (s3 (s3 sr)))))))) (fc (s0 (s1 (s2 (s1 (s1 (s1 (s3 (s3 sr)))))))) nm)), ?_⟩
       obtain ⟨x3, gg, gh, mw⟩ := A7 mv
       obtain ⟨mx, my, ot, mz, dm, na, jf, rfl, nc, nf⟩ := AW.at (Ae _) aq (L := av ++ []) fP gg.1 gh
       refine mS [26, 27] rfl (AF underlying22 sizeOf3 rfl dm rfl (AW.idx aq gg)) ?_
       refine ⟨_, [(29, .int .i64 n2), (30, .pointer (some ⟨mx, my + (x2 : Int).toNat * 1, none⟩))], rfl, rfl, z2, by kernel_rfl, ?_⟩; intro H
       obtain ⟨l4, ng, gi⟩ := BS mw
       refine CQ (u := n2) sizeOf3 (Ae _) rfl dm rfl rfl (fun _ => .c (.c (.c (.c (.c (.s .h)))))) aq ng gg ?_; intro cg dp
       refine Aa ⟨undef, rfl, AN.refl _, [], by kernel_rfl, .inl (.inl rfl), nm, ?_⟩
       refine BC ?_
       refine AL (Am ?_)
       refine AA ?_
       refine ⟨(bn, ce #[.slice au ab ab] 22) :: ((cc, ce #[.int .i64 k] 3) :: ((b3, ce #[.slice bc bd bg] 23) :: ((b2, ce #[.pointer (some ⟨Hx, 0, none⟩)] 45) :: (al ++ (cg ++ []))))), ⟨_, .refl _, s1 (s2 (s2 (s2 (s2 (s4 (s4 sr))))))⟩, ?_⟩; exact ⟨_, aw, l4, al, cg, (by rw [bq]; simp), gi, rfl, ax, dp⟩
      have gj := AR ga gb
      refine Aq (AI ?_)
      refine uv (Ao isAgg22 rfl (Has.own 1 rfl) rfl) (uv (Ao isAgg3 rfl (Has.own 0 rfl) rfl) ?_)
      obtain ⟨x4, de, dq, gk⟩ := A7 gj
      obtain ⟨nh, ni, nj, jg, cj, jh, gl, rfl, ji, jj⟩ := AW.at (Ae _) aq (L := (cf, ce #[.int .i64 x2] 3) :: ((bn, ce #[.slice au ab ab] 22) :: ((cc, ce #[.int .i64 k] 3) :: ((b3, ce #[.slice bc bd bg] 23) :: ((b2, ce #[.pointer (some ⟨Hx, 0, none⟩)] 45) :: (al ++ (av ++ []))))))) (fC (fC (fC (fC (fC (fS fP)))))) de.1 dq
      refine uv (AF underlying22 sizeOf3 rfl cj rfl (AW.idx aq de)) ?_
      obtain ⟨l5, gm, gn⟩ := BS gk
      refine CQ (u := 100) sizeOf3 (Ae _) rfl cj rfl rfl (fun _ => .c (.c (.c (.c (.c (.s .h)))))) aq gm de ?_; intro dr br
      refine BI (uv (Ao isAgg45 rfl (Has.own 4 rfl) rfl) (uv (Ao isAgg3 rfl (Has.own 2 rfl) rfl) ?_))
      obtain ⟨gp, gq⟩ := AX gn
      refine uv (C7 rfl rfl gp) ?_
      obtain ⟨y2, gr, gu⟩ := AB gq
      refine c0 call70 (Bt ao a6 aa ad gr) ?_; rintro _ nk _ ck jk ⟨dt, rfl, rfl, df⟩
      replace ax := ax.mono (Ae _) ck
      replace br := br.mono (Ae _) ck
      refine AD (ln rfl) (Aa (Ap ?_))
      refine HV g8 (encs := (fun x : Int => #[.int .i64 x])) (xs := y2) rfl call115 rfl (fun _ => rfl) df (fun pre F1 L1 => ∃ (dh : List Int) (ay : List (List Int)) (l6 : List Int) (ai : LH) (ae : LH), y2 = pre ++ dh ∧ D7 k x2 (CG Ab Af rows k mo) dh ay l6 = some (da, l2) ∧ L1 = ((cf, ce #[.int .i64 x2] 3) :: ((bn, ce #[.slice au ab ab] 22) :: ((cc, ce #[.int .i64 k] 3) :: ((b3, ce #[.slice bc bd bg] 23) :: ((b2, ce #[.pointer (some ⟨Hx, 0, none⟩)] 45) :: (ai ++ (ae ++ []))))))) ∧ BG K.w0.heap.size 22 3 1 (iE .i64) F1 bc bd bg ay ai ∧ AW K.w0.heap.size 3 1 (iE .i64) F1 au ab ab l6 ae) (fun _ _ _ => False) ?_ ?_ ?_ ?_ ?_ ?_
      ·rintro pre F1 F2 L1 ⟨dh, ay, l6, ai, ae, az, gv, rfl, ar, ah⟩ hx; exact ⟨dh, ay, l6, ai, ae, az, gv, rfl, ar.mono (Ae _) hx, ah.mono (Ae _) hx⟩
      ·intro c F1 F2 L1 h hx; exact h
      ·exact ⟨_, aw, l5, al, dr, rfl, gu, rfl, ax, br⟩
      ·rintro np jl jm jn jo jq gw jr pre x5 ou bu nq _ js ⟨dh, ay, l6, ai, ae, az, du, rfl, ar, ah⟩
       obtain rfl := Dr az bu
       rw [D7] at du
       refine Az [(1, .pointer (some ⟨b2, 0, none⟩)), (3, .pointer (some ⟨b3, 0, none⟩)), (4, .pointer (some ⟨cc, 0, none⟩)), (5, .pointer (some ⟨bn, 0, none⟩)), (6, .pointer (some ⟨cf, 0, none⟩)), (13, .int .i64 (Af.length : Int)), (14, .int .i64 k), (23, .int .i64 x2), (37, .func (.func 115) #[] dt), (38, .int .i64 x5)] (by exact (sc rfl (sc rfl z8))) ?_
       refine An (ua (Aa ?_))
       refine ⟨rfl, ?_⟩
       refine Ap ?_
       obtain ⟨x6, dv, cn, gx⟩ := A7 du
       have dw := (BG.Be ar).1
       refine Kw (fC (fC (fC (fC (fC fP))))) ar cn ?_; intro jt bj cp nr ns nt bk cq bl ba bw
       refine kW (kf (fS (fS (fS fO))) (kf (fS (fS (fS fO))) (kf (fS (fS (fS fO))) (kf (fS (fS (fS fO))) (kf (fS (fS (fS fO))) kr))))) (Bd [(.still, 0), (.still, 1), (.still, 2), (.still, 3), (.still, 4), (.still, 5), (.still, 6), (.still, 7), (.still, 8), (.still, 9), (.still, 10), (.still, 11), (.still, 12), (.still, 13), (.still, 14), (.still, 15), (.seq, 16), (.still, 17), (.seq, 18), (.seq, 19), (.still, 20), (.seq, 21)] (by kernel_rfl) (by kernel_rfl) (trivial) (by rfl) (by kernel_rfl) (mL [5] ([(bn, ce #[.slice au ab ab] 22)]) rfl (s0 (s1 (s2 (s1 (s1 (s1 (s3 (s3 (s3 (s3 sr)))))))))) (fun H F' L' aj ak => Ao isAgg22 rfl ((Has.own 0 rfl).ext aj ak) rfl) (mL [6] ([(cf, ce #[.int .i64 x2] 3)]) rfl (s0 (s2 (s1 (s1 (s1 (s1 (s3 (s3 (s3 (s3 sr)))))))))) (fun H F' L' aj ak => Ao isAgg3 rfl ((Has.own 0 rfl).ext aj ak) rfl) (mL [5] ([(bn, ce #[.slice au ab ab] 22)]) rfl (s0 (s1 (s2 (s1 (s1 (s1 (s3 (s3 (s3 (s3 sr)))))))))) (fun H F' L' aj ak => Ao isAgg22 rfl ((Has.own 0 rfl).ext aj ak) rfl) (mL [6] ([(cf, ce #[.int .i64 x2] 3)]) rfl (s0 (s2 (s1 (s1 (s1 (s1 (s3 (s3 (s3 (s3 sr)))))))))) (fun H F' L' aj ak => Ao isAgg3 rfl ((Has.own 0 rfl).ext aj ak) rfl) ?_)))))
       obtain ⟨x7, bx, cr, gy⟩ := A7 gx
       obtain ⟨nu, nv, nw, ju, dx, dy, gz, rfl, jv, dz⟩ := AW.at (Ae _) ah (L := ae ++ []) fP bx.1 cr
       refine mS [41, 42] rfl (AF underlying22 sizeOf3 rfl dx rfl (AW.idx ah bx)) (mL [43] (ae ++ []) rfl (s0 (s1 (s1 (s1 (s1 (s1 (s3 (s3 (s3 (s4 sr)))))))))) (fun H F' L' aj ak => Ao isAgg3 rfl (dy.ext aj ak) (dz 0 (by decide))) (mL [3] ([(b3, ce #[.slice bc bd bg] 23)]) rfl (s0 (s1 (s1 (s1 (s2 (s1 (s3 (s3 (s3 (s3 sr)))))))))) (fun H F' L' aj ak => Ao isAgg23 rfl ((Has.own 0 rfl).ext aj ak) rfl) (mL [4] ([(cc, ce #[.int .i64 k] 3)]) rfl (s0 (s1 (s1 (s2 (s1 (s1 (s3 (s3 (s3 (s3 sr)))))))))) (fun H F' L' aj ak => Ao isAgg3 rfl ((Has.own 0 rfl).ext aj ak) rfl) ?_)))
       obtain ⟨ia, ib⟩ := AX gy
       refine mS (v := .int .i64 (k - 1)) [46] rfl (C7 rfl rfl ia) ?_
       obtain ⟨ny, nz, o0, jw, eb, ec, ic, rfl, jx, ef⟩ := AW.at Cm bl (L := bj ++ []) fP dv.1 cq
       refine mS [45, 47] rfl (AF underlying23 sizeOf22 rfl eb rfl (K2 dw dv)) (mL [48] (bj ++ []) rfl (s0 (s1 (s1 (s1 (s1 (s1 (s4 (s3 (s3 (s3 sr)))))))))) (fun H F' L' aj ak => Ao isAgg22 rfl (ec.ext aj ak) (ef 0 (by decide))) (mS [7] rfl (Bj rfl) ?_))
       obtain ⟨x8, eg, eh, ie⟩ := A7 ib
       obtain ⟨o1, o2, o3, jz, ei, ej, ig, rfl, kb, en⟩ := AW.at (Ae _) ba (L := bk ++ []) fP eg.1 eh
       refine mS [49, 50] rfl (AF underlying22 sizeOf3 rfl ei rfl (AW.idx ba eg)) (mL [51] (bk ++ []) rfl (s0 (s1 (s1 (s1 (s1 (s1 (s3 (s4 (s3 (s3 sr)))))))))) (fun H F' L' aj ak => Ao isAgg3 rfl (ej.ext aj ak) (en 0 (by decide))) (mS [7] rfl (Bj rfl) (mL [6] ([(cf, ce #[.int .i64 x2] 3)]) rfl (s0 (s2 (s1 (s1 (s1 (s1 (s3 (s3 (s3 (s3 sr)))))))))) (fun H F' L' aj ak => Ao isAgg3 rfl ((Has.own 0 rfl).ext aj ak) rfl) ?_)))
       refine ⟨_, [(53, .int .i64 x5), (54, .int .i64 x2)], rfl, rfl, z2, by kernel_rfl, ?_⟩; intro H
       obtain ⟨n3, ij, ik⟩ := AB ie
       refine cV call73 (DU ij) ?_
       refine Aa ⟨_, rfl, AN.refl _, [13, 12, 11, 10, 9, 8, 7, 6, 5, 4, 3, 2, 1, 0], by kernel_rfl, .inl (.inr (fun d h => by cases h; rfl)), (fc (s0 (s1 (s1 (s1 (s1 (s1 (s3 (s4 (s3 (s3 sr)))))))))) (fc sm (fc sm (fc (s0 (s1 (s1 (s1 (s1 (s1 (s4 (s3 (s3 (s3 sr)))))))))) (fc sm (fc sm (fc (s0 (s1 (s1 (s2 (s1 (s1 (s3 (s3 (s3 (s3 sr)))))))))) (fc (s0 (s1 (s1 (s1 (s2 (s1 (s3 (s3 (s3 (s3 sr)))))))))) (fc (s0 (s1 (s1 (s1 (s1 (s1 (s3 (s3 (s3 (s4 sr)))))))))) (fc sm (fc (s0 (s2 (s1 (s1 (s1 (s1 (s3 (s3 (s3 (s3 sr)))))))))) (fc (s0 (s1 (s2 (s1 (s1 (s1 (s3 (s3 (s3 (s3 sr)))))))))) (fc (s0 (s2 (s1 (s1 (s1 (s1 (s3 (s3 (s3 (s3 sr)))))))))) (fc (s0 (s1 (s2 (s1 (s1 (s1 (s3 (s3 (s3 (s3 sr)))))))))) nm)))))))))))))), ?_⟩
       obtain ⟨il, im⟩ := AX ik
       refine mS (v := .int .i64 (x8 + n3)) [52, 55] rfl (AY rfl rfl il) ?_
       refine ⟨_, [(56, .int .i64 (x8 + n3))], rfl, rfl, z1, by kernel_rfl, ?_⟩; intro H
       refine bA (cs := #[.int .i64 (x8 + n3)]) BN [.int .i64 (x8 + n3)] ?_; intro eo ep
       refine Aa ⟨_, rfl, AN.refl _, [8, 7, 6, 5, 4, 3, 2, 1, 0], by kernel_rfl, .inl (.inr (fun d h => by cases h; rfl)), (fc sm (fc (s0 (s1 (s1 (s1 (s2 (s1 (s1 (s3 (s3 (s3 (s3 sr))))))))))) (fc (s0 (s1 (s1 (s1 (s1 (s2 (s1 (s3 (s3 (s3 (s3 sr))))))))))) (fc (s0 (s1 (s1 (s1 (s1 (s1 (s1 (s3 (s3 (s3 (s4 sr))))))))))) (fc sm (fc (s0 (s1 (s2 (s1 (s1 (s1 (s1 (s3 (s3 (s3 (s3 sr))))))))))) (fc (s0 (s1 (s1 (s2 (s1 (s1 (s1 (s3 (s3 (s3 (s3 sr))))))))))) (fc (s0 (s1 (s2 (s1 (s1 (s1 (s1 (s3 (s3 (s3 (s3 sr))))))))))) (fc (s0 (s1 (s1 (s2 (s1 (s1 (s1 (s3 (s3 (s3 (s3 sr))))))))))) nm))))))))), ?_⟩
       refine ⟨_, [(44, .int .i64 x7), (57, .slice (some ⟨eo, 0, none⟩) 1 1)], rfl, rfl, z2, by kernel_rfl, ?_⟩; intro H
       refine AO 0 rfl ep ?_; intro iq bb er
       refine AD rfl ?_
       replace bl := bl.mono Cm bb
       replace bw := bw.mono (Ae _) bb
       replace ah := ah.mono (Ae _) bb
       replace ba := ba.mono (Ae _) bb
       have ir : Au 1 (iE .i64) iq (some ⟨eo, 0, none⟩) 1 [x8 + n3] := Au.AG (Ae _) (vss := [[.int .i64 (x8 + n3)]]) (xs := [x8 + n3]) er (.cons rfl .nil) rfl (by simp [maxLen])
       obtain ⟨n4, iu, iv⟩ := AB im
       refine cV call72 (GD ir iu) ?_
       refine Aa ⟨_, rfl, bb, [8, 7, 6, 1, 0], by kernel_rfl, .inl (.inr (fun d h => by cases h; rfl)), (fc sm (fc (s0 (s1 (s1 (s2 (s1 (s1 (s3 (s3 (s3 (s3 sr)))))))))) (fc (s0 (s1 (s1 (s1 (s2 (s1 (s3 (s3 (s3 (s3 sr)))))))))) (fc (s0 (s2 (s1 (s1 (s1 (s1 (s3 (s3 (s3 (s3 sr)))))))))) (fc (s0 (s1 (s2 (s1 (s1 (s1 (s3 (s3 (s3 (s3 sr)))))))))) nm))))), ?_⟩
       obtain ⟨iw, iy, o4, kh, ct, kj, iz, rfl, kl, km⟩ := AW.at (Ae _) ah (L := ae ++ []) fP bx.1 cr
       refine mS [39, 40] rfl (AF underlying22 sizeOf3 rfl ct rfl (AW.idx ah bx)) ?_
       refine ⟨_, [(58, .int .i64 n4), (59, .pointer (some ⟨iw, iy + (x2 : Int).toNat * 1, none⟩))], rfl, rfl, z2, by kernel_rfl, ?_⟩; intro H
       obtain ⟨l7, j0, j1⟩ := BS iv
       refine CQ (u := n4) sizeOf3 (Ae _) rfl ct rfl rfl (fun _ => .c (.c (.c (.c (.c (.s (.s (.s .h)))))))) ah j0 bx ?_; intro cu et
       refine Aa ⟨undef, rfl, AN.refl _, [], by kernel_rfl, .inl (.inl rfl), nm, ?_⟩
       refine BC (Ax (id := 5) ?_)
       refine ⟨(cf, ce #[.int .i64 x2] 3) :: ((bn, ce #[.slice au ab ab] 22) :: ((cc, ce #[.int .i64 k] 3) :: ((b3, ce #[.slice bc bd bg] 23) :: ((b2, ce #[.pointer (some ⟨Hx, 0, none⟩)] 45) :: ((bj ++ (bk ++ (cp ++ []))) ++ (cu ++ [])))))), (show KL _ _ from KL.eq kr (by simp only [List.append_assoc, List.append_nil])), ?_⟩; exact ⟨_, ay, l7, (bj ++ (bk ++ (cp ++ []))), cu, (by rw [bu]; simp), j1, rfl, (K5.Kj bw bl cq ba cn), et⟩
      ·rintro o5 _ ko ⟨dh, ay, l6, ai, ae, az, eu, rfl, ar, ah⟩
       obtain rfl := D8 az; rw [D7] at eu
       refine Ax (id := 4) (Ax (id := 3) ?_)
       refine ⟨(bn, ce #[.slice au ab ab] 22) :: ((cc, ce #[.int .i64 k] 3) :: ((b3, ce #[.slice bc bd bg] 23) :: ((b2, ce #[.pointer (some ⟨Hx, 0, none⟩)] 45) :: (ai ++ (ae ++ []))))), ⟨_, .refl _, s1 (s2 (s2 (s2 (s2 (s4 (s4 sr))))))⟩, ?_⟩; exact ⟨_, ay, l6, ai, ae, (by rw [bq]; simp), eu, rfl, ar, ah⟩
      intro c F1 L1 hx h; exact h.elim
     ·rintro o7 _ ew ⟨dg, aw, l3, al, av, bp, ey, rfl, ax, aq⟩
      obtain rfl := D8 bp; rw [CG] at ey
      refine Ax (id := 2) ?_
      obtain ⟨rfl, rfl⟩ := BT ey
      exact mi (kc (kd kr)) ⟨al, av, (bh.trans ew), rfl, z5, ax, aq⟩
     intro c F1 L1 hx h; exact h.elim
    rintro e1 j2 _ ⟨db, dd, ez, rfl, fa, j3, j4⟩
    refine Az _ fa (An (uv (Ao isAgg23 rfl (Has.own 1 rfl) rfl) (uv (Ao isAgg22 rfl (Has.own 0 rfl) rfl) ?_)))
    refine bA (cs := #[.slice au ab ab]) FP [.slice au ab ab] ?_; intro o8 kt
    obtain ⟨j5, fb, j6, j7⟩ := E0 jd
    refine MF (fC (fC (fC (fC fP)))) j3 ?_; intro cv ku kv fe cw
    refine kO (kf (fS (fS fO)) (kf (fS (fS fO)) (kf (fS (fS fO)) (kf (fS (fS fO)) kr)))) ?_
    refine Dm (xs := cv) (ys := [(au, ab, ab)]) (zs := cv ++ [(au, ab, ab)]) rfl FP rfl rfl (Nat.le_refl _) (fun _ => .c (.c (.c (.c .h)))) fe (GO.box (vss := [[.slice au ab ab]]) (ys := [(au, ab, ab)]) 0 rfl Cm (.cons rfl .nil) rfl rfl) rfl (QZ cw fb j6) (by decide) ?_; intro ff fg fh kz fi
    refine kO (kd kr) ?_
    refine Bp (p := fun X => BG K.w0.heap.size 22 3 1 (iE .i64) j2 ff fg fh j5 X) (K3.push cw rfl fi j4 fb) (pT ((fC (fC (fC fP))).trans (pA ((fC (fC (fC (fS fP)))).trans (pA ((fC (fC (fC fP))).trans (pA pR)))))) (lp (lp (lp (ln rfl))))) ?_; intro fj fk
    refine kO (kf (fS fO) (kf (fS fO) (kf (fS fO) kr))) (A0 (i := 1) sizeOf23 rfl rfl rfl rfl (A5 rfl) (AD rfl ?_))
    refine Aa (Ax (id := 1) ?_)
    obtain rfl := AH j7
    exact mi (kd kr) ⟨ff, fg, fh, fj, ez, rfl, z4, fk⟩
   rintro e1 o9 _ ⟨fq, fs, ft, cb, cx, rfl, fl, j8⟩
   refine Az _ fl ?_
   replace aa := aa.mono (Ak (Ae _)) cx
   refine An (uv (AY rfl rfl (A8.CC cy fp (Au.lt aa))) ?_)
   refine um (Aa ?_)
   subst fw; exact le kr ⟨_, _, rfl, fy, di, fq, fs, ft, cb, jc, (bm.trans cx), rfl, z4, j8⟩
  obtain rfl := A8.zero cy fp
  rw [Ec] at fo
  refine AL (Am (Am ?_))
  refine AA ?_
  obtain rfl := AH fo
  exact mi (kc (kd kr)) ⟨bc, bd, bg, bo, bm, rfl, z1, ca⟩
 rintro e1 oc _ ⟨a4, n8, c5, fv, la, rfl, fm, od⟩
 refine Az _ fm (AI (uv (Ao isAgg23 rfl (Has.own 0 rfl) rfl) ?_))
 refine ua (Aa ?_)
 refine kW (kd kr) (As (BD results16 ?_))
 obtain rfl := AH j9
 exact ⟨_, _, _, _, rfl, rfl, od.any⟩
theorem Kr (a6 : Au 1 (Bm 1 (iE .i64)) F Ac Ad Ab) (aa : Au 1 (Bm 1 (iE .i64)) F Aj Ai Af) {r : List (List Int)} {r2 : Int} (hr : Ja Ab Af = some (r, r2)) :
    SH.Spec Tryz.prog 5 #[.agg #[.slice Ac Ab.length Ad, .slice Aj Af.length Ai]] F [] fun F' L' v => ∃ (ra : Option Addr) (rn : Nat) (rc : Nat) (rL : LH), v = .tuple #[.slice ra rn rc, .int .i64 r2] ∧ L' = rL ++ [] ∧ BG 0 22 3 1 (iE .i64) F' ra rn rc r rL := by
 refine sp func5 ntmps5 fun K _ _ => ?_
 rw [Ja] at hr
 refine AI ?_
 refine By rfl rfl ?_; intro b1 bm
 refine ua (ua (BI ?_))
 refine uv (AE isAgg26 sizeOf26 rfl (Has.own 0 rfl) (A5 rfl) rfl) ?_
 obtain ⟨d, n, h2, r3⟩ := A9 hr
 refine c0 call15 (Gb a6 aa h2) ?_; rintro _ F4 _ bn bo ⟨v8, au, rfl, rfl, av⟩
 refine AD (lp (ln rfl)) (kO (kf (fS fO) kr) ?_)
 refine um (ox rfl rfl rfl (ox rfl rfl rfl (ua (ua (Aa (At (AI (um ?_))))))))
 refine uv (BH rfl rfl) (Aa ?_)
 refine cQ (fun ae => ?_) fun ae => ?_
 ·have aw := AQ r3 ae
  refine AI (um (ua (ua (Aa ?_))))
  refine kW kn ?_
  refine As (Al ?_)
  refine Bu results5 (AP rfl) (AP rfl) (sr) ?_
  obtain ⟨rfl, rfl⟩ := BT aw
  exact ⟨_, _, _, [], rfl, rfl, BG.nil _ _ _ _ _ _⟩
 have ax := AR r3 ae
 refine Aq (At ?_)
 obtain ⟨ad, ah, BW, rows, ay, az⟩ := GV ax
 have ar := av; rw [ay] at ar; obtain ⟨bp, bq, br, bu, bw, bx, ba, ai, aj, bz, ca, ak, al, bb, bc, bd, bg, ao⟩ := CM ar; subst ak; subst ao
 refine Fu (L' := [(b1, ce #[.slice Ac Ab.length Ad, .slice Aj Af.length Ai] 26), (ba, .map ai aj)]) rfl ?_
 refine An (um ?_)
 obtain ⟨l, bh, bj⟩ := AB az
 refine c0 call16 (H7 al bb bc bg bh) ?_; rintro _ cb _ bk aq ⟨cc, cd, cf, bl, rfl, rfl, ab⟩
 replace ab := ab.new fun p hp => aq p (by simp [hp])
 refine AD (lp (ln rfl)) (kO (kf (fS fO) (kf (fS fO) kr)) ?_)
 refine ua (ua (Aa ?_))
 refine kW (kd (kd kr)) (As (Bu results5 (AP rfl) (AP rfl) (sr) ?_))
 obtain ⟨rfl, rfl⟩ := BT bj
 exact ⟨_, _, _, _, rfl, rfl, ab.any⟩
set_option maxHeartbeats 1000000 in
theorem LJ (a6 : Au 1 (Bm 1 (iE .i64)) F Ac Ad Ab) (aa : Au 1 (Bm 1 (iE .i64)) F Aj Ai Af) {r r2 : Int} (hr : J7 Ab Af AZ = some (r, r2)) :
    Ba Tryz.prog 26 #[.agg #[.slice Ac Ab.length Ad, .slice Aj Af.length Ai], .int .i64 AZ] F (.tuple #[.int .i64 r, .int .i64 r2]) := by
 refine sp func26 ntmps26 fun K _ _ => ?_
 rw [J7] at hr
 refine AI ?_
 refine By rfl rfl ?_; intro b1 cb
 refine ua (ua (BI ?_))
 refine uv (AE isAgg26 sizeOf26 rfl (Has.own 0 rfl) (A5 rfl) rfl) ?_
 obtain ⟨d, n, h2, r3⟩ := A9 hr
 refine c0 call67 (Ct a6 aa h2) ?_; rintro _ F4 _ cc cd ⟨v8, az, rfl, rfl, ba⟩
 refine AD (lp (ln rfl)) (kO (kf (fS fO) kr) ?_)
 refine um (ox rfl rfl rfl (ox rfl rfl rfl (ua (ua (Aa (At (AI (um ?_))))))))
 refine uv (BH rfl rfl) (Aa ?_)
 refine cQ (fun ai => ?_) fun ai => ?_
 ·have bb := AQ r3 ai
  refine AI (um (ua (ua (Aa ?_))))
  refine kW kn ?_
  refine As (Al ?_)
  refine Bu results26 (AP rfl) (AP rfl) (sr) ?_
  obtain ⟨rfl, rfl⟩ := BT bb
  exact rfl
 have bc := AR r3 ai
 refine Aq (At (At ?_))
 obtain ⟨ab, aj, BW, rows, bd, bg⟩ := GV bc
 have au := ba; rw [bd] at au; obtain ⟨cf, cg, cj, ck, cn, cp, av, ad, ae, cq, cr, ak, ah, aw, ax, al, ct, ao⟩ := CM au; subst ak; subst ao
 refine Fu (L' := [(b1, ce #[.slice Ac Ab.length Ad, .slice Aj Af.length Ai] 26), (av, .map ad ae)]) rfl ?_
 refine An (um (um ?_))
 obtain ⟨n2, bh, bj⟩ := AB bg
 refine cV call69 (BY ah aw ax bh) ?_
 obtain ⟨bk, bl⟩ := AX bj
 refine uv (C7 rfl rfl bk) ?_
 obtain ⟨ok, bm, ay⟩ := AB bl
 refine cV call55 (D3 bm) (uv (BM rfl) (Aa ?_))
 refine AT rfl (fun aq => ?_) (fun aq => ?_)
 ·have bn := bt ay aq
  refine AI (ua (ua (Aa ?_)))
  refine kW kn ?_
  refine As (Al ?_)
  refine Bu results26 (AP rfl) (AP rfl) (sr) ?_
  obtain ⟨rfl, rfl⟩ := BT bn
  exact rfl
 have bo := bf ay aq
 refine Aq (AI (um (um ?_)))
 obtain ⟨n3, ar, bp, bq⟩ := A9 bo
 refine Oi (Lb := [(av, .map ad ae)]) (Lr := [(b1, ce #[.slice Ac Ab.length Ad, .slice Aj Af.length Ai] 26)]) rfl call82 rfl rfl rfl (((fC fO).trans (pC pR))) (JT ah aw ax al bp) ?_; rintro _ cu _ br bu bw ⟨bx, bz, rfl, rfl, ca⟩
 refine AD (lb (ln rfl)) ?_
 refine ua (ua (Aa ?_))
 refine kW kn (As (Bu results26 (AP rfl) (AP rfl) (sr) ?_))
 obtain ⟨rfl, rfl⟩ := BT bq
 exact rfl
set_option maxHeartbeats 1000000 in
theorem Mi (ao : F Hx = some (.cells #[.slice Ac Ab.length Ad, .slice Aj Af.length Ai, v1, .slice Dc rows.length Dd] 113 KD)) (a6 : Au 1 (Bm 1 (iE .i64)) F Ac Ad Ab) (ab : Au 1 (Bm 1 (iE .i64)) F Aj Ai Af) (aj : Au 64 (LP 64 cB) F Dc Dd rows) (ak : KE Tryz.prog F KT KW KI (iE .i64) Value.bool ok) {r : List (List Int)} (hr : Jg Ab Af rows ok = some r) :
    SH.Spec Tryz.prog 121 #[.pointer (some ⟨Hx, 0, none⟩), .agg #[.func (.func KT) KW KI]] F [] fun F' L' v => ∃ (ra : Option Addr) (rn : Nat) (rc : Nat) (rL : LH), v = .slice ra rn rc ∧ L' = rL ++ [] ∧ AW 0 142 64 (LP 64 (cI .i64)) F' ra rn rc r rL := by
 refine sp func121 ntmps121 fun K _ _ => ?_
 rw [Jg] at hr
 refine AI ?_
 refine By rfl rfl ?_; intro b2 kb
 refine ua (BI (um ?_))
 refine uv (Bo rfl) (uv (Av HP rfl) (uv (Av Bz rfl) (uv (Ao isAgg24 rfl (Has.frozen ao) rfl) (uv (AJ underlying24 rfl) ?_))))
 obtain ⟨g3, r4⟩ := AX hr
 obtain ⟨l, h5, r6⟩ := BS r4
 refine Jr (R := (LP 64 (cI .i64))) (z0 := List.replicate 64 0) (zs := l) rfl Qz (by decide) (Bg (n := 64) (sz := 1) (Cq .i64)) (fun _ => ⟨rfl, rfl⟩) rfl g3 h5 (fun _ => .c .n) ?_; intro a7 aa ia ib
 refine A1 rfl zeroValue155 ?_; intro Nb ic
 refine A0 (i := 0) sizeOf155 rfl rfl rfl rfl (A5 rfl) (AD rfl (Aa ?_))
 obtain ⟨out, ie, gj⟩ := AB r6
 refine AK (fun e1 F1 L1 => ∃ (bn : LH), AN F F1 ∧ L1 = ((Nb, ce #[.slice a7 aa aa] 155) :: (bn ++ [])) ∧ e1.sub [(5, .pointer (some ⟨Nb, 0, none⟩))] ∧ AW K.w0.heap.size 142 64 (LP 64 (cI .i64)) F1 a7 aa aa out bn) ?_ ?_
 ·clear gj
  refine AI (um ?_)
  refine uv (Bo rfl) (uv (Av HP rfl) (uv (Av Bz rfl) (uv (Ao isAgg24 rfl (Has.frozen ao) rfl) (uv (AJ underlying24 rfl) ?_))))
  obtain ⟨ig, ij⟩ := AX ie
  refine uv (C7 rfl rfl ig) ?_
  refine A1 rfl zeroValue3 ?_; intro ik ef
  refine A0 (i := 0) sizeOf3 rfl rfl rfl rfl (A5 rfl) (AD rfl (Aa (Ap ?_)))
  refine A2 (fun dy e1 F1 L1 => ∃ (bb : List (List Int)) (h : Int) (aw : LH) (al : Nat), EE Ab Af rows ok dy bb h = some out ∧ AN F F1 ∧ L1 = ((al, ce #[.int .i64 h] 3) :: ((Nb, ce #[.slice a7 aa aa] 155) :: ((b2, ce #[.func (.func KT) KW KI] 132) :: (aw ++ [])))) ∧ e1.sub [(0, .pointer (some ⟨Hx, 0, none⟩)), (3, .pointer (some ⟨b2, 0, none⟩)), (5, .pointer (some ⟨Nb, 0, none⟩)), (6, .pointer (some ⟨al, 0, none⟩))] ∧ AW K.w0.heap.size 142 64 (LP 64 (cI .i64)) F1 a7 aa aa bb aw ∧ K.w0.heap.size ≤ al) FU (m0 kr ⟨l, (Af.length : Int) - 2, ia, ik, ij, AN.refl _, rfl, z4, ib, ef⟩) ?_
  rintro dy e1 gk _ ⟨bb, h, aw, al, cc, aq, rfl, eg, cd, il⟩
  refine Az _ eg ?_
  replace a6 := a6.mono (Ak (Ae _)) aq
  replace ab := ab.mono (Ak (Ae _)) aq
  replace aj := aj.mono (Bg (n := 64) (sz := 1) BU) aq
  replace ak := ak.mono aq
  replace ao := aq _ _ ao
  rcases dy with _ | dy
  ·rw [EE] at cc; cases cc
  rw [EE] at cc
  refine At (AI ?_)
  refine uv (Ao isAgg3 rfl (Has.own 0 rfl) rfl) (uv (Hy rfl rfl) (Aa ?_))
  refine cQ (fun eh => ?_) fun eh => ?_
  ·have im := AQ cc eh
   refine Aq ?_
   obtain ⟨bo, iq, gl⟩ := AB im
   refine AK (fun e1 F1 L1 => ∃ (bc : LH), AN gk F1 ∧ L1 = ((al, ce #[.int .i64 h] 3) :: ((Nb, ce #[.slice a7 aa aa] 155) :: ((b2, ce #[.func (.func KT) KW KI] 132) :: (bc ++ [])))) ∧ e1.sub [(0, .pointer (some ⟨Hx, 0, none⟩)), (3, .pointer (some ⟨b2, 0, none⟩)), (5, .pointer (some ⟨Nb, 0, none⟩)), (6, .pointer (some ⟨al, 0, none⟩))] ∧ AW K.w0.heap.size 142 64 (LP 64 (cI .i64)) F1 a7 aa aa bo bc) ?_ ?_
   ·clear gl
    refine Ap ?_
    refine AI (um ?_)
    obtain ⟨n, ir, iu⟩ := AB iq
    refine cV call69 (BY ao a6 ab ir) ?_
    refine um (Aa ?_)
    refine Ap ?_
    obtain ⟨iv, iw⟩ := AX iu
    refine A2 (fun dz e1 F1 L1 => ∃ (k : Int), CZ 0 n k dz ∧ ∃ (bp : List (List Int)) (ax : LH), EB Ab Af rows ok h dz k bp = some bo ∧ AN gk F1 ∧ L1 = ((al, ce #[.int .i64 h] 3) :: ((Nb, ce #[.slice a7 aa aa] 155) :: ((b2, ce #[.func (.func KT) KW KI] 132) :: (ax ++ [])))) ∧ e1.sub [(0, .pointer (some ⟨Hx, 0, none⟩)), (3, .pointer (some ⟨b2, 0, none⟩)), (5, .pointer (some ⟨Nb, 0, none⟩)), (6, .pointer (some ⟨al, 0, none⟩)), (28, .int .i64 n), (29, .int .i64 k)] ∧ AW K.w0.heap.size 142 64 (LP 64 (cI .i64)) F1 a7 aa aa bp ax) _ (m0 kr ⟨_, CZ.start _ _, bb, aw, iw, AN.refl _, rfl, z6, cd⟩) ?_
    rintro dz e1 iy _ ⟨k, bq, bp, ax, eb, ar, rfl, ei, bd⟩
    refine Az _ ei ?_
    replace a6 := a6.mono (Ak (Ae _)) ar
    replace ab := ab.mono (Ak (Ae _)) ar
    replace aj := aj.mono (Bg (n := 64) (sz := 1) BU) ar
    replace ak := ak.mono ar
    replace ao := ar _ _ ao
    refine AI (uv (AV rfl rfl) ?_)
    refine Aa (At ?_)
    refine cQ (fun ec => ?_) fun ec => ?_
    ·obtain ⟨dz, rfl, ej⟩ := CZ.succ bq ec
     rw [EB] at eb
     refine Aq ?_
     obtain ⟨br, iz, gm⟩ := AB eb
     refine AK (fun e1 F1 L1 => ∃ (bg : LH), AN iy F1 ∧ L1 = ((al, ce #[.int .i64 h] 3) :: ((Nb, ce #[.slice a7 aa aa] 155) :: ((b2, ce #[.func (.func KT) KW KI] 132) :: (bg ++ [])))) ∧ e1.sub [(0, .pointer (some ⟨Hx, 0, none⟩)), (3, .pointer (some ⟨b2, 0, none⟩)), (5, .pointer (some ⟨Nb, 0, none⟩)), (6, .pointer (some ⟨al, 0, none⟩)), (28, .int .i64 n), (29, .int .i64 k)] ∧ AW K.w0.heap.size 142 64 (LP 64 (cI .i64)) F1 a7 aa aa br bg) ?_ ?_
     ·clear gm
      refine Ap ?_
      refine AI (um ?_)
      refine A1 rfl zeroValue3 ?_; intro bj j0
      refine A0 (i := 0) sizeOf3 rfl rfl rfl rfl (A5 rfl) (AD rfl ?_)
      refine Aa (At ?_)
      refine Bd [(.still, 0), (.still, 1), (.still, 2), (.still, 3), (.still, 4), (.seq, 5)] (by kernel_rfl) (by kernel_rfl) (trivial) (by rfl) (by kernel_rfl) (mL [5] ([(Nb, ce #[.slice a7 aa aa] 155)]) rfl (s0 (s1 (s1 (s2 (s1 (s3 sr)))))) (fun H F' L' ah ai => Ao isAgg155 rfl ((Has.own 0 rfl).ext ah ai) rfl) (mL [6] ([(al, ce #[.int .i64 h] 3)]) rfl (s0 (s1 (s2 (s1 (s1 (s3 sr)))))) (fun H F' L' ah ai => Ao isAgg3 rfl ((Has.own 0 rfl).ext ah ai) rfl) (mL [7] ([(bj, ce #[.int .i64 k] 3)]) rfl (s0 (s2 (s1 (s1 (s1 (s3 sr)))))) (fun H F' L' ah ai => Ao isAgg3 rfl ((Has.own 0 rfl).ext ah ai) rfl) ?_)))
      obtain ⟨x, en, cf, j1⟩ := A7 iz
      obtain ⟨j2, j3, kh, j4, cg, j5, gn, ⟨rfl, eo⟩, j6, j7⟩ := AW.at (Bg (n := 64) (sz := 1) (Cq .i64)) bd (L := ax ++ []) fP en.1 cf
      refine mS [32, 33] rfl (AF underlying155 sizeOf142 rfl cg rfl (AW.idx bd en)) ?_
      obtain ⟨x2, ep, j8, j9⟩ := A7 j1
      refine mS [34, 35] rfl (B6 underlying142 sizeOf3 rfl rfl (Ci eo ep)) ?_
      refine ⟨_, [(36, .pointer (some ⟨j2, j3 + (h : Int).toNat * 64 + (k : Int).toNat * 1, none⟩))], rfl, rfl, z1, by kernel_rfl, ?_⟩; intro H
      obtain ⟨l2, ja, jb⟩ := BS j9
      refine NZ (zs := l2) (off := (k : Int).toNat * 1) (x0 := x) (u := x.set (k : Int).toNat 100) sizeOf3 (Bg (n := 64) (sz := 1) (Cq .i64)) rfl cg rfl rfl (Pp (Ci eo ep)) cf (fun vs h => Oe (Cq .i64) h (Pr (Ci eo ep)) rfl) (fun _ => .c (.c (.c (.c .h)))) bd ja en ?_; intro er bu
      refine Aa ⟨undef, rfl, AN.refl _, [], by kernel_rfl, .inl (.inl rfl), nm, ?_⟩
      refine BC ?_
      refine AI (um ?_)
      refine uv (Ao isAgg3 rfl (Has.own 1 rfl) rfl) ?_
      obtain ⟨jc, jd⟩ := AX jb
      refine uv (AY rfl rfl jc) ?_
      obtain ⟨y, je, jf⟩ := AB jd
      refine c0 call70 (Bt ao a6 ab aj je) ?_; rintro _ kj _ bw jg ⟨et, rfl, rfl, cj⟩
      replace ak := ak.mono bw
      replace bu := bu.mono (Bg (n := 64) (sz := 1) (Cq .i64)) bw
      refine AD (ln rfl) (Aa (Ap ?_))
      refine Cu (encs := (fun x : Int => #[.int .i64 x])) (xs := y) rfl call115 rfl (fun _ => rfl) cj (fun pre F1 L1 => ∃ (tl : List Int) (au : List (List Int)) (ad : LH), y = pre ++ tl ∧ DH ok h k tl au = some br ∧ L1 = ((bj, ce #[.int .i64 k] 3) :: ((al, ce #[.int .i64 h] 3) :: ((Nb, ce #[.slice a7 aa aa] 155) :: ((b2, ce #[.func (.func KT) KW KI] 132) :: (ad ++ []))))) ∧ AW K.w0.heap.size 142 64 (LP 64 (cI .i64)) F1 a7 aa aa au ad) (fun _ _ _ => False) ?_ ?_ ?_ ?_ ?_ ?_
      ·rintro pre F1 F2 L1 ⟨tl, au, ad, ay, jh, rfl, ae⟩ hx; exact ⟨tl, au, ad, ay, jh, rfl, ae.mono (Bg (n := 64) (sz := 1) (Cq .i64)) hx⟩
      ·intro c F1 F2 L1 h hx; exact h
      ·exact ⟨_, l2, er, rfl, jf, rfl, bu⟩
      ·rintro kl ji jj jk jl jm gp gq pre x3 km av ko _ eu ⟨tl, au, ad, ay, ck, rfl, ae⟩
       obtain rfl := Dr ay av
       rw [DH] at ck
       replace ak := ak.mono eu
       refine Az [(0, .pointer (some ⟨Hx, 0, none⟩)), (3, .pointer (some ⟨b2, 0, none⟩)), (5, .pointer (some ⟨Nb, 0, none⟩)), (6, .pointer (some ⟨al, 0, none⟩)), (7, .pointer (some ⟨bj, 0, none⟩)), (28, .int .i64 n), (29, .int .i64 k), (40, .func (.func 115) #[] et), (41, .int .i64 x3)] (by exact (sc rfl z8)) ?_
       refine An (ua (Aa ?_))
       refine ⟨rfl, ?_⟩
       refine Ap (AI (uv (Av OV rfl) (uv (Ao isAgg130 rfl (Has.own 3 rfl) rfl) (um ?_))))
       obtain ⟨kt, ew, cn⟩ := AB ck
       refine Hn rfl ak.1 rfl rfl rfl (ak.2 _ (AN.refl _) _ _ _ rfl ew) (Aa ?_)
       refine AT rfl (fun bx => ?_) (fun bx => ?_)
       ·have ey := bt cn bx
        refine Bd [(.still, 0), (.still, 1), (.still, 2), (.still, 3), (.still, 4), (.still, 5), (.still, 6), (.still, 7), (.still, 8), (.still, 9), (.still, 10), (.still, 11), (.still, 12), (.still, 13), (.still, 14), (.still, 15), (.still, 16), (.still, 17), (.still, 22), (.seq, 18), (.still, 19), (.seq, 20), (.seq, 21), (.still, 23), (.seq, 24)] (by kernel_rfl) (by kernel_rfl) (trivial) (by rfl) (by kernel_rfl) (mL [5] ([(Nb, ce #[.slice a7 aa aa] 155)]) rfl (s0 (s1 (s1 (s2 (s1 (s3 sr)))))) (fun H F' L' ah ai => Ao isAgg155 rfl ((Has.own 0 rfl).ext ah ai) rfl) (mL [6] ([(al, ce #[.int .i64 h] 3)]) rfl (s0 (s1 (s2 (s1 (s1 (s3 sr)))))) (fun H F' L' ah ai => Ao isAgg3 rfl ((Has.own 0 rfl).ext ah ai) rfl) (mL [7] ([(bj, ce #[.int .i64 k] 3)]) rfl (s0 (s2 (s1 (s1 (s1 (s3 sr)))))) (fun H F' L' ah ai => Ao isAgg3 rfl ((Has.own 0 rfl).ext ah ai) rfl) (mL [5] ([(Nb, ce #[.slice a7 aa aa] 155)]) rfl (s0 (s1 (s1 (s2 (s1 (s3 sr)))))) (fun H F' L' ah ai => Ao isAgg155 rfl ((Has.own 0 rfl).ext ah ai) rfl) (mL [6] ([(al, ce #[.int .i64 h] 3)]) rfl (s0 (s1 (s2 (s1 (s1 (s3 sr)))))) (fun H F' L' ah ai => Ao isAgg3 rfl ((Has.own 0 rfl).ext ah ai) rfl) (mL [7] ([(bj, ce #[.int .i64 k] 3)]) rfl (s0 (s2 (s1 (s1 (s1 (s3 sr)))))) (fun H F' L' ah ai => Ao isAgg3 rfl ((Has.own 0 rfl).ext ah ai) rfl) ?_))))))
        obtain ⟨x4, az, ba, ez⟩ := A7 ey
        obtain ⟨jn, jo, jq, gr, cp, cq, bz, ⟨rfl, cr⟩, ct, cu⟩ := AW.at (Bg (n := 64) (sz := 1) (Cq .i64)) ae (L := ad ++ []) fP az.1 ba
        refine mS [49, 50] rfl (AF underlying155 sizeOf142 rfl cp rfl (AW.idx ae az)) ?_
        obtain ⟨x5, bh, cv, fa⟩ := A7 ez
        have cw := OX (Cq .i64) cr cv cu bz ct
        refine mS [51, 52] rfl (B6 underlying142 sizeOf3 rfl rfl (Ci cr bh)) (mL [53] (ad ++ []) rfl (s0 (s1 (s1 (s1 (s1 (s4 sr)))))) (fun H F' L' ah ai => Ao isAgg3 rfl (cq.ext ah ai) ((cw).2.2 0 (by decide))) (mL [5] ([(Nb, ce #[.slice a7 aa aa] 155)]) rfl (s0 (s1 (s1 (s2 (s1 (s3 sr)))))) (fun H F' L' ah ai => Ao isAgg155 rfl ((Has.own 0 rfl).ext ah ai) rfl) (mL [6] ([(al, ce #[.int .i64 h] 3)]) rfl (s0 (s1 (s2 (s1 (s1 (s3 sr)))))) (fun H F' L' ah ai => Ao isAgg3 rfl ((Has.own 0 rfl).ext ah ai) rfl) ?_)))
        obtain ⟨fb, fe⟩ := AX fa
        refine mS (v := .int .i64 (h + 1)) [56] rfl (AY rfl rfl fb) (mS [8] rfl (Bj rfl) ?_)
        obtain ⟨x6, cx, cy, ff⟩ := A7 fe
        obtain ⟨jr, js, jt, gu, cz, da, ca, ⟨rfl, db⟩, dd, de⟩ := AW.at (Bg (n := 64) (sz := 1) (Cq .i64)) ae (L := ad ++ []) fP cx.1 cy
        refine mS [55, 57] rfl (AF underlying155 sizeOf142 rfl cz rfl (AW.idx ae cx)) ?_
        obtain ⟨x7, fg, df, fh⟩ := A7 ff
        have dg := OX (Cq .i64) db df de ca dd
        refine mS [58, 59] rfl (B6 underlying142 sizeOf3 rfl rfl (Ci db fg)) (mL [60] (ad ++ []) rfl (s0 (s1 (s1 (s1 (s1 (s4 sr)))))) (fun H F' L' ah ai => Ao isAgg3 rfl (da.ext ah ai) ((dg).2.2 0 (by decide))) (mL [7] ([(bj, ce #[.int .i64 k] 3)]) rfl (s0 (s2 (s1 (s1 (s1 (s3 sr)))))) (fun H F' L' ah ai => Ao isAgg3 rfl ((Has.own 0 rfl).ext ah ai) rfl) (mS [8] rfl (Bj rfl) ?_)))
        obtain ⟨fi, fj, ju, gv, bk, gw, fk, ⟨rfl, cb⟩, gx, gy⟩ := AW.at (Bg (n := 64) (sz := 1) (Cq .i64)) ae (L := ad ++ []) fP az.1 ba
        refine mS [46, 47] rfl (AF underlying155 sizeOf142 rfl bk rfl (AW.idx ae az)) ?_
        refine ⟨_, [(62, .int .i64 k), (63, .int .i64 x3)], rfl, rfl, z2, by kernel_rfl, ?_⟩; intro H
        obtain ⟨n2, fl, fm⟩ := AB fh
        refine cV call73 (DU fl) ?_
        refine Aa ⟨_, rfl, AN.refl _, [22, 15, 14, 13, 12, 11, 10, 9, 8, 7, 6, 5, 4, 3, 2, 1, 0], by kernel_rfl, .inl (.inr (fun d h => by cases h; rfl)), (fc sm (fc (s0 (s1 (s1 (s1 (s1 (s4 sr)))))) (fc sm (fc sm (fc sm (fc sm (fc (s0 (s1 (s2 (s1 (s1 (s3 sr)))))) (fc (s0 (s1 (s1 (s2 (s1 (s3 sr)))))) (fc (s0 (s1 (s1 (s1 (s1 (s4 sr)))))) (fc sm (fc sm (fc (s0 (s2 (s1 (s1 (s1 (s3 sr)))))) (fc (s0 (s1 (s2 (s1 (s1 (s3 sr)))))) (fc (s0 (s1 (s1 (s2 (s1 (s3 sr)))))) (fc (s0 (s2 (s1 (s1 (s1 (s3 sr)))))) (fc (s0 (s1 (s2 (s1 (s1 (s3 sr)))))) (fc (s0 (s1 (s1 (s2 (s1 (s3 sr)))))) nm))))))))))))))))), ?_⟩
        obtain ⟨fo, fp⟩ := AX fm
        refine mS (v := .int .i64 (x7 + n2)) [61, 64] rfl (AY rfl rfl fo) ?_
        refine ⟨_, [(65, .int .i64 (x7 + n2))], rfl, rfl, z1, by kernel_rfl, ?_⟩; intro H
        refine bA (cs := #[.int .i64 (x7 + n2)]) BN [.int .i64 (x7 + n2)] ?_; intro dh di
        refine Aa ⟨_, rfl, AN.refl _, [22, 10, 8, 7, 6, 5, 4, 3, 2, 1, 0], by kernel_rfl, .inl (.inr (fun d h => by cases h; rfl)), (fc sm (fc (s0 (s1 (s1 (s2 (s1 (s1 (s3 sr))))))) (fc (s0 (s1 (s1 (s1 (s1 (s1 (s4 sr))))))) (fc sm (fc sm (fc (s0 (s1 (s2 (s1 (s1 (s1 (s3 sr))))))) (fc (s0 (s1 (s1 (s2 (s1 (s1 (s3 sr))))))) (fc (s0 (s1 (s1 (s1 (s2 (s1 (s3 sr))))))) (fc (s0 (s1 (s2 (s1 (s1 (s1 (s3 sr))))))) (fc (s0 (s1 (s1 (s2 (s1 (s1 (s3 sr))))))) (fc (s0 (s1 (s1 (s1 (s2 (s1 (s3 sr))))))) nm))))))))))), ?_⟩
        refine ⟨_, [(54, .int .i64 x5), (66, .slice (some ⟨dh, 0, none⟩) 1 1)], rfl, rfl, z2, by kernel_rfl, ?_⟩; intro H
        refine AO 0 rfl di ?_; intro fq bl dk
        refine AD rfl ?_
        replace ae := ae.mono (Bg (n := 64) (sz := 1) (Cq .i64)) bl
        have fs : Au 1 (iE .i64) fq (some ⟨dh, 0, none⟩) 1 [x7 + n2] := Au.AG (Ae _) (vss := [[.int .i64 (x7 + n2)]]) (xs := [x7 + n2]) dk (.cons rfl .nil) rfl (by simp [maxLen])
        obtain ⟨n3, ft, fv⟩ := AB fp
        refine cV call72 (GD fs ft) ?_
        refine Aa ⟨_, rfl, bl, [22, 10, 2, 1, 0], by kernel_rfl, .inl (.inr (fun d h => by cases h; rfl)), (fc sm (fc (s0 (s1 (s2 (s1 (s1 (s3 sr)))))) (fc (s0 (s2 (s1 (s1 (s1 (s3 sr)))))) (fc (s0 (s1 (s2 (s1 (s1 (s3 sr)))))) (fc (s0 (s1 (s1 (s2 (s1 (s3 sr)))))) nm))))), ?_⟩
        refine mS [48, 68] rfl (B6 underlying142 sizeOf3 rfl rfl (Ci cb bh)) ?_
        refine ⟨_, [(67, .int .i64 n3), (69, .pointer (some ⟨fi, fj + (h : Int).toNat * 64 + (k : Int).toNat * 1, none⟩))], rfl, rfl, z2, by kernel_rfl, ?_⟩; intro H
        obtain ⟨l3, fw, fx⟩ := BS fv
        refine NZ (zs := l3) (off := (k : Int).toNat * 1) (x0 := x4) (u := x4.set (k : Int).toNat n3) sizeOf3 (Bg (n := 64) (sz := 1) (Cq .i64)) rfl bk rfl rfl (Pp (Ci cb bh)) ba (fun vs h => Oe (Cq .i64) h (Pr (Ci cb bh)) rfl) (fun _ => .c (.c (.c (.c .h)))) ae fw az ?_; intro bm dm
        refine Aa ⟨undef, rfl, AN.refl _, [], by kernel_rfl, .inl (.inl rfl), nm, ?_⟩
        refine BC (Ax (id := 5) ?_)
        refine ⟨(bj, ce #[.int .i64 k] 3) :: ((al, ce #[.int .i64 h] 3) :: ((Nb, ce #[.slice a7 aa aa] 155) :: ((b2, ce #[.func (.func KT) KW KI] 132) :: (bm ++ [])))), ⟨_, .refl _, sr⟩, ?_⟩; exact ⟨_, l3, bm, (by rw [av]; simp), fx, rfl, dm⟩
       have fy := bf cn bx
       refine Aq (Ax (id := 5) ?_)
       refine ⟨(bj, ce #[.int .i64 k] 3) :: ((al, ce #[.int .i64 h] 3) :: ((Nb, ce #[.slice a7 aa aa] 155) :: ((b2, ce #[.func (.func KT) KW KI] 132) :: (ad ++ [])))), ⟨_, .refl _, sr⟩, ?_⟩; exact ⟨_, au, ad, (by rw [av]; simp), fy, rfl, ae⟩
      ·rintro jv _ dp ⟨tl, au, ad, ay, dq, rfl, ae⟩
       obtain rfl := D8 ay; rw [DH] at dq
       refine Ax (id := 4) (Ax (id := 3) ?_)
       obtain rfl := AH dq
       exact mi (kd kr) ⟨ad, (bw.trans dp), rfl, z6, ae⟩
      intro c F1 L1 hx h; exact h.elim
     rintro e1 jw _ ⟨bg, dr, rfl, dt, g0⟩
     refine Az _ dt (An (uv (AY rfl rfl (CZ.CC bq ec iv)) ?_))
     refine um (Aa ?_)
     exact le kr ⟨_, ej, br, bg, gm, (ar.trans dr), rfl, z6, g0⟩
    obtain rfl := CZ.zero bq ec
    rw [EB] at eb
    refine AL (Am (Am ?_))
    refine AA (Ax (id := 1) ?_)
    obtain rfl := AH eb
    exact mi kr ⟨ax, ar, rfl, z4, bd⟩
   rintro e1 jx _ ⟨bc, du, rfl, dv, g8⟩
   refine Az _ dv ?_
   refine At (AI ?_)
   refine uv (Ao isAgg3 rfl (Has.own 0 rfl) rfl) ?_
   refine Aa (An ?_)
   refine A1 rfl zeroValue3 ?_; intro ga dw
   refine A0 (i := 0) sizeOf3 rfl rfl rfl rfl (A5 rfl) (AD rfl ?_)
   refine Aa (An ?_)
   refine uv (Ao isAgg3 rfl (Has.own 0 rfl) rfl) ?_
   obtain ⟨gb, gg⟩ := AX gl
   refine uv (C7 rfl rfl gb) (A0 (i := 0) sizeOf3 rfl rfl rfl rfl (A5 rfl) (AD rfl (Aa ?_)))
   exact le (kc (kd kr)) ⟨bo, h - 1, bc, ga, gg, (aq.trans du), rfl, z4, g8, dw⟩
  have gh := AR cc eh
  refine AL (Am (Am ?_))
  refine AA ?_
  obtain rfl := AH gh
  exact mi (kd (kc (kd kr))) ⟨aw, aq, rfl, z1, cd⟩
 rintro e1 jz _ ⟨bn, gz, rfl, dx, gi⟩
 refine Az _ dx (AI (uv (Ao isAgg155 rfl (Has.own 0 rfl) rfl) ?_))
 refine ua (Aa ?_)
 refine kW (kd kr) (As (BD results121 ?_))
 obtain rfl := AH gj
 exact ⟨_, _, _, _, rfl, rfl, gi.any⟩
set_option maxHeartbeats 1000000 in
theorem Gs (ar : F Hx = some (.cells #[.slice Ac Ab.length Ad, .slice Aj Af.length Ai, v1, .slice Dc rows.length Dd] 113 KD)) (aa : Au 1 (Bm 1 (iE .i64)) F Ac Ad Ab) (a6 : Au 1 (Bm 1 (iE .i64)) F Aj Ai Af) (ad : Au 64 (LP 64 cB) F Dc Dd rows) (ai : KE Tryz.prog F KT KW KI (iE .i64) Value.bool ok) {r : List Int} {r2 : Int} (hr : Ex Ab Af rows ok = some (r, r2)) :
    SH.Spec Tryz.prog 85 #[.pointer (some ⟨Hx, 0, none⟩), .agg #[.func (.func KT) KW KI]] F [] fun F' L' v => ∃ (ra : Option Addr) (rn : Nat) (rc : Nat) (rL : LH), v = .tuple #[.slice ra rn rc, .int .i64 r2] ∧ L' = rL ++ [] ∧ AW 0 3 1 (iE .i64) F' ra rn rc r rL ∧ (ra = none ↔ r = []) := by
 refine sp func85 ntmps85 fun K _ _ => ?_
 rw [Ex] at hr
 refine AI ?_
 refine By rfl rfl ?_; intro b2 ig
 refine ua (ua (BI (um ?_)))
 refine uv (AE isAgg132 sizeOf132 rfl (Has.own 0 rfl) (A5 rfl) rfl) ?_
 obtain ⟨l, h3, r4⟩ := AB hr
 refine c0 call121 (Mi ar aa a6 ad ai h3) ?_; rintro _ F5 _ cb fk ⟨a9, bj, bk, al, rfl, rfl, aj⟩
 replace aa := aa.mono (Ak (Ae _)) cb
 replace a6 := a6.mono (Ak (Ae _)) cb
 replace ad := ad.mono (Bg (n := 64) (sz := 1) BU) cb
 replace ai := ai.mono cb
 replace ar := cb _ _ ar
 replace aj := aj.new fun p hp => fk p (by simp [hp])
 refine AD (lp (ln rfl)) (kO (kf (fS fO) kr) ?_)
 refine A1 rfl zeroValue155 ?_; intro av fl
 refine A0 (i := 0) sizeOf155 rfl rfl rfl rfl (A5 rfl) (AD rfl ?_)
 refine BI (ua (BI ?_))
 refine A1 rfl zeroValue3 ?_; intro au fm
 refine ua (A0 (i := 0) sizeOf3 rfl rfl rfl rfl (A5 rfl) (AD rfl (Aa ?_)))
 refine AK (fun e1 F1 L1 => ∃ (out : List Int) (sum : Int) (de : Option Addr) (df : Nat) (dg : Nat) (bq : LH), HB out sum = some (r, r2) ∧ AN F5 F1 ∧ L1 = (bq ++ []) ∧ e1.sub [(7, .slice de df dg), (8, .int .i64 sum)] ∧ AW K.w0.heap.size 3 1 (iE .i64) F1 de df dg out bq) ?_ ?_
 ·refine AI (um ?_)
  refine uv (Bo rfl) (uv (Av HP rfl) (uv (Av Bz rfl) (uv (Ao isAgg24 rfl (Has.frozen ar) rfl) (uv (AJ underlying24 rfl) ?_))))
  refine um (Aa ?_)
  refine Ap ?_
  refine A2 (fun fa e1 F1 L1 => LA Af fa fun tl k => ∃ (aw : List Int) (ao : Int) (before : Int) (bl : Option Addr) (bm : Nat) (bn : Nat) (ak : LH), Dq Ab Af rows ok l tl k aw ao before = some (r, r2) ∧ AN F5 F1 ∧ L1 = ((au, ce #[.int .i64 before] 3) :: ((av, ce #[.slice a9 bj bk] 155) :: ((b2, ce #[.func (.func KT) KW KI] 132) :: (al ++ (ak ++ []))))) ∧ e1.sub [(0, .pointer (some ⟨Hx, 0, none⟩)), (3, .pointer (some ⟨b2, 0, none⟩)), (6, .pointer (some ⟨av, 0, none⟩)), (7, .slice bl bm bn), (8, .int .i64 ao), (9, .pointer (some ⟨au, 0, none⟩)), (23, .int .i64 (Af.length : Int)), (24, .int .i64 k)] ∧ AW K.w0.heap.size 3 1 (iE .i64) F1 bl bm bn aw ak) _ (m0 (kc (kc (kc (ka (ke kr))))) ⟨_, _, rfl, A8.start _, [], 0, 0, none, 0, 0, [], r4, AN.refl _, rfl, z8, AW.nil _ _ _ _ _⟩) ?_
  rintro fa e1 fo _ ⟨tl, k, dh, br, aw, ao, before, bl, bm, bn, ak, cy, aq, rfl, di, bb⟩
  refine Az _ di ?_
  replace aa := aa.mono (Ak (Ae _)) aq
  replace a6 := a6.mono (Ak (Ae _)) aq
  replace ad := ad.mono (Bg (n := 64) (sz := 1) BU) aq
  replace ai := ai.mono aq
  replace aj := aj.mono (Bg (n := 64) (sz := 1) (Cq .i64)) aq
  replace ar := aq _ _ ar
  refine AI (uv (AV rfl rfl) ?_)
  refine Aa (At ?_)
  refine cQ (fun cz => ?_) fun cz => ?_
  ·obtain ⟨x, fp, rfl, fq, ij, dk⟩ := A8.succ br cz
   rw [Dq] at cy
   refine Aq ?_
   refine AK (fun e1 F1 L1 => ∃ (bc : List Int) (bd : Int) (ah : Int) (da : Option Addr) (db : Nat) (dd : Nat) (bg : LH), Hz k (Dq Ab Af rows ok l fp) bc bd ah = some (r, r2) ∧ AN fo F1 ∧ L1 = ((au, ce #[.int .i64 ah] 3) :: ((av, ce #[.slice a9 bj bk] 155) :: ((b2, ce #[.func (.func KT) KW KI] 132) :: (al ++ (bg ++ []))))) ∧ e1.sub [(0, .pointer (some ⟨Hx, 0, none⟩)), (3, .pointer (some ⟨b2, 0, none⟩)), (6, .pointer (some ⟨av, 0, none⟩)), (7, .slice da db dd), (8, .int .i64 bd), (9, .pointer (some ⟨au, 0, none⟩)), (23, .int .i64 (Af.length : Int)), (24, .int .i64 k)] ∧ AW K.w0.heap.size 3 1 (iE .i64) F1 da db dd bc bg) ?_ ?_
   ·refine Ap ?_
    refine AI (um ?_)
    refine A1 rfl zeroValue3 ?_; intro bu fs
    refine A0 (i := 0) sizeOf3 rfl rfl rfl rfl (A5 rfl) (AD rfl (BI ?_))
    refine A1 rfl zeroValue3 ?_; intro ax ft
    refine A1 rfl zeroValue3 ?_; intro bh fv
    refine A0 (i := 1) sizeOf3 rfl rfl rfl rfl (A5 rfl) (AD rfl (A0 (i := 0) sizeOf3 rfl rfl rfl rfl (A5 rfl) (AD rfl (Aa ?_))))
    obtain ⟨ae, n, fw, dm⟩ := A9 cy
    refine jF (((bh, ce #[.int .i64 n] 3) :: ((ax, ce #[.int .i64 ae] 3) :: ((au, ce #[.int .i64 before] 3) :: ((av, ce #[.slice a9 bj bk] 155) :: ((b2, ce #[.func (.func KT) KW KI] 132) :: (al ++ (ak ++ [])))))))) [(0, .pointer (some ⟨Hx, 0, none⟩)), (3, .pointer (some ⟨b2, 0, none⟩)), (6, .pointer (some ⟨av, 0, none⟩)), (7, .slice bl bm bn), (8, .int .i64 ao), (9, .pointer (some ⟨au, 0, none⟩)), (11, .pointer (some ⟨ax, 0, none⟩)), (12, .pointer (some ⟨bh, 0, none⟩)), (23, .int .i64 (Af.length : Int)), (24, .int .i64 k)] ?_ fun fx bo => ?_
    ·clear dm
     refine AI (um ?_)
     refine uv (Ao isAgg3 rfl (Has.own 2 rfl) rfl) ?_
     obtain ⟨y, fy, g0⟩ := AB fw
     refine c0 call70 (Bt ar aa a6 ad fy) ?_; rintro _ ik _ bw g8 ⟨ga, rfl, rfl, cc⟩
     replace ai := ai.mono bw
     replace aj := aj.mono (Bg (n := 64) (sz := 1) (Cq .i64)) bw
     refine AD (ln rfl) (Aa (Ap ?_))
     refine Cu (encs := (fun x : Int => #[.int .i64 x])) (xs := y) rfl call115 rfl (fun _ => rfl) cc (fun pre F1 L1 => ∃ (ca : List Int) (ab : Int) (n2 : Int), y = pre ++ ca ∧ Dp ok l before k ca ab n2 = some (ae, n) ∧ L1 = ((bh, ce #[.int .i64 n2] 3) :: ((ax, ce #[.int .i64 ab] 3) :: ((bu, ce #[.int .i64 k] 3) :: ((au, ce #[.int .i64 before] 3) :: ((av, ce #[.slice a9 bj bk] 155) :: ((b2, ce #[.func (.func KT) KW KI] 132) :: (al ++ (ak ++ []))))))))) (fun _ _ _ => False) ?_ ?_ ?_ ?_ ?_ ?_
     ·rintro pre F1 F2 L1 ⟨ca, ab, n2, ay, gb, rfl⟩ hx; exact ⟨ca, ab, n2, ay, gb, rfl⟩
     ·intro c F1 F2 L1 h hx; exact h
     ·exact ⟨_, 0, 100, rfl, g0, rfl⟩
     ·rintro il gg gh gi gj gk fb gl pre x2 im az iq _ cd ⟨ca, ab, n2, ay, fe, rfl⟩
      obtain rfl := Dr ay az
      rw [Dp] at fe
      replace ai := ai.mono cd
      replace aj := aj.mono (Bg (n := 64) (sz := 1) (Cq .i64)) cd
      refine Az [(0, .pointer (some ⟨Hx, 0, none⟩)), (3, .pointer (some ⟨b2, 0, none⟩)), (6, .pointer (some ⟨av, 0, none⟩)), (7, .slice bl bm bn), (8, .int .i64 ao), (9, .pointer (some ⟨au, 0, none⟩)), (10, .pointer (some ⟨bu, 0, none⟩)), (11, .pointer (some ⟨ax, 0, none⟩)), (12, .pointer (some ⟨bh, 0, none⟩)), (23, .int .i64 (Af.length : Int)), (24, .int .i64 k), (30, .int .i64 x2)] (by exact (sc rfl (sc rfl (sc rfl (sc rfl z8))))) ?_
      refine An (ua (Aa ?_))
      refine ⟨rfl, ?_⟩
      refine Ap (dW (wv (Ao isAgg3 rfl (Has.own 3 rfl) rfl) (wm ?_)))
      obtain ⟨n3, gm, gn⟩ := AB fe
      refine DL rfl call73 rfl rfl rfl (DU gm) (wv (Ao isAgg155 rfl (Has.own 4 rfl) rfl) (wv (Ao isAgg3 rfl (Has.own 2 rfl) rfl) (wm ?_)))
      obtain ⟨x3, ff, dp, gp⟩ := A7 gn
      obtain ⟨ir, iu, iv, gq, dq, dr, cf, ⟨rfl, fg⟩, dt, du⟩ := AW.at (Bg (n := 64) (sz := 1) (Cq .i64)) aj (L := (bh, ce #[.int .i64 n2] 3) :: ((ax, ce #[.int .i64 ab] 3) :: ((bu, ce #[.int .i64 k] 3) :: ((au, ce #[.int .i64 before] 3) :: ((av, ce #[.slice a9 bj bk] 155) :: ((b2, ce #[.func (.func KT) KW KI] 132) :: (al ++ (ak ++ [])))))))) (fC (fC (fC (fC (fC (fC fP)))))) ff.1 dp
      refine wv (AF underlying155 sizeOf142 rfl dq rfl (AW.idx aj ff)) ?_
      obtain ⟨x4, gr, dv, gu⟩ := A7 gp
      have dw := OX (Cq .i64) fg dv du cf dt
      refine wv (B6 underlying142 sizeOf3 rfl rfl (Ci fg gr)) (wv (Ao isAgg3 rfl dr ((dw).2.2 0 (by decide))) ?_)
      obtain ⟨gv, gw⟩ := AX gu
      refine wv (AY rfl rfl gv) ?_
      refine wa (BV ?_)
      obtain ⟨k2, gx, dx⟩ := AB gw
      refine jE (((bh, ce #[.int .i64 n2] 3) :: ((ax, ce #[.int .i64 ab] 3) :: ((bu, ce #[.int .i64 k] 3) :: ((au, ce #[.int .i64 before] 3) :: ((av, ce #[.slice a9 bj bk] 155) :: ((b2, ce #[.func (.func KT) KW KI] 132) :: (al ++ (ak ++ []))))))))) [(0, .pointer (some ⟨Hx, 0, none⟩)), (3, .pointer (some ⟨b2, 0, none⟩)), (6, .pointer (some ⟨av, 0, none⟩)), (7, .slice bl bm bn), (8, .int .i64 ao), (9, .pointer (some ⟨au, 0, none⟩)), (10, .pointer (some ⟨bu, 0, none⟩)), (11, .pointer (some ⟨ax, 0, none⟩)), (12, .pointer (some ⟨bh, 0, none⟩)), (13, .int .i64 x2), (14, .int .i64 (n3 + x4)), (23, .int .i64 (Af.length : Int)), (24, .int .i64 k), (30, .int .i64 x2), (49, .bool k2)] ?_ ?_
      ·clear dx
       refine An (uv (Av OV rfl) (uv (Ao isAgg130 rfl (Has.own 5 rfl) rfl) (um ?_)))
       obtain ⟨gy, gz, fh⟩ := AB gx
       refine Hn rfl ai.1 rfl rfl rfl (ai.2 _ (AN.refl _) _ _ _ rfl gz) (um ?_)
       rcases Bf gy with ba | ba
       ·have ia := bt fh ba
        refine nB ba (um (nB ba ?_))
        refine uv (Ao isAgg3 rfl (Has.own 0 rfl) rfl) (nB ba (uv (AV rfl rfl) (uv (Aw (En rfl ba) rfl) (Aa ?_))))
        obtain rfl := AH ia
        exact mi kr ⟨rfl, rfl, (sc rfl (sc rfl (sc rfl (sc rfl (sc rfl (sc rfl (sc rfl z8)))))))⟩
       have dy := bf fh ba
       refine fB ba (fB ba (fB ba ?_))
       refine uv (Ar (En rfl ba) rfl) (Aa ?_)
       obtain rfl := AH dy
       exact mi kr ⟨rfl, rfl, (sc rfl (sc rfl (sc rfl (sc rfl (sc rfl (sc rfl (sc rfl z8)))))))⟩
      refine AT rfl (fun bx => ?_) (fun bx => ?_)
      ·have dz := bt dx bx
       refine An (um (um ?_))
       refine A0 (i := 1) sizeOf3 rfl rfl rfl rfl (A5 rfl) (AD rfl (A0 (i := 0) sizeOf3 rfl rfl rfl rfl (A5 rfl) (AD rfl ?_)))
       refine Aa (Ax (id := 3) ?_)
       refine ⟨(bh, ce #[.int .i64 (n3 + x4)] 3) :: ((ax, ce #[.int .i64 x2] 3) :: ((bu, ce #[.int .i64 k] 3) :: ((au, ce #[.int .i64 before] 3) :: ((av, ce #[.slice a9 bj bk] 155) :: ((b2, ce #[.func (.func KT) KW KI] 132) :: (al ++ (ak ++ []))))))), ⟨_, .refl _, sr⟩, ?_⟩; exact ⟨_, x2, n3 + x4, (by rw [az]; simp), dz, rfl⟩
      have eb := bf dx bx
      refine Aq (Ax (id := 3) ?_)
      refine ⟨(bh, ce #[.int .i64 n2] 3) :: ((ax, ce #[.int .i64 ab] 3) :: ((bu, ce #[.int .i64 k] 3) :: ((au, ce #[.int .i64 before] 3) :: ((av, ce #[.slice a9 bj bk] 155) :: ((b2, ce #[.func (.func KT) KW KI] 132) :: (al ++ (ak ++ []))))))), ⟨_, .refl _, sr⟩, ?_⟩; exact ⟨_, ab, n2, (by rw [az]; simp), eb, rfl⟩
     ·rintro ib _ cg ⟨ca, ab, n2, ay, cj, rfl⟩
      obtain rfl := D8 ay; rw [Dp] at cj
      refine Ax (id := 2) ?_
      obtain ⟨rfl, rfl⟩ := BT cj
      exact mi (kc (kc (kd kr))) ⟨(bw.trans cg), rfl, (sc rfl (sc rfl z8))⟩
     intro c F1 L1 hx h; exact h.elim
    replace bb := bb.mono (Ae _) bo
    refine At (AI ?_)
    refine uv (Ao isAgg3 rfl (Has.own 0 rfl) rfl) (uv (Bb rfl rfl) (Aa ?_))
    refine cQ (fun bz => ?_) fun bz => ?_
    ·have ec := AQ dm bz
     refine AI (ua (ua (Aa ?_)))
     refine kW kn ?_
     refine As (Al (Ay (Al (Al (Ay (Al ?_))))))
     refine Bu results85 (AP rfl) (AP rfl) (sr) ?_
     obtain ⟨rfl, rfl⟩ := BT ec
     exact ⟨_, _, _, [], rfl, rfl, AW.nil _ _ _ _ _, P3⟩
    have ef := AR dm bz
    refine Aq (AI (um ?_))
    refine uv (Ao isAgg3 rfl (Has.own 2 rfl) rfl) (uv (Ao isAgg3 rfl (Has.own 1 rfl) rfl) ?_)
    obtain ⟨n4, eg, eh⟩ := AB ef
    refine cV call73 (DU eg) ?_
    obtain ⟨ei, ej⟩ := AX eh
    refine uv (AY rfl rfl ei) ?_
    refine ua (Aa ?_)
    refine Bd [(.still, 0), (.still, 1), (.still, 4), (.seq, 2), (.seq, 3), (.seq, 5), (.seq, 6)] (by kernel_rfl) (by kernel_rfl) (trivial) (by rfl) (by kernel_rfl) (mS [7] rfl (Bj rfl) (mL [11] ([(ax, ce #[.int .i64 ae] 3)]) rfl (s0 (s1 (s2 (s1 (s1 (s1 (s3 (s3 sr)))))))) (fun H F' L' en eo => Ao isAgg3 rfl ((Has.own 0 rfl).ext en eo) rfl) (mL [11] ([(ax, ce #[.int .i64 ae] 3)]) rfl (s0 (s1 (s2 (s1 (s1 (s1 (s3 (s3 sr)))))))) (fun H F' L' en eo => Ao isAgg3 rfl ((Has.own 0 rfl).ext en eo) rfl) ?_)))
    refine ⟨_, [(60, .int .i64 ae)], rfl, rfl, z1, by kernel_rfl, ?_⟩; intro H
    refine bA (cs := #[.int .i64 ae]) BN [.int .i64 ae] ?_; intro ep fi
    refine Aa ⟨_, rfl, AN.refl _, [4, 0], by kernel_rfl, .inl (.inr (fun d h => by cases h; rfl)), (fc (s0 (s1 (s1 (s2 (s1 (s1 (s1 (s3 (s3 sr))))))))) (fc sm nm)), ?_⟩
    refine ⟨_, [(59, .slice bl bm bn), (61, .slice (some ⟨ep, 0, none⟩) 1 1)], rfl, rfl, z2, by kernel_rfl, ?_⟩; intro H
    obtain ⟨l2, er, et, eu⟩ := E0 ej
    refine Dm (xs := aw) (ys := [ae]) (zs := l2) rfl BN rfl rfl (Nat.le_refl _) (fun _ => .c (.c (.c (.c (.c (.c (.s .h))))))) bb (GO.box (vss := [[.int .i64 ae]]) (ys := [ae]) 0 rfl (Ae _) (.cons rfl .nil) rfl rfl) er et (by decide) ?_; intro ck cn cp cq cr
    refine kO (kd kr) ?_
    refine Aa ⟨_, rfl, AN.refl _, [4], by kernel_rfl, .inl (.inr (fun d h => by cases h; rfl)), (fc (s0 (s1 (s2 (s1 (s1 (s1 (s3 (s3 sr)))))))) nm), ?_⟩
    refine ⟨_, [(62, .slice ck cn cp)], rfl, rfl, z1, by kernel_rfl, ?_⟩; intro H
    refine ua ?_
    refine Aa ⟨_, rfl, AN.refl _, [4], by kernel_rfl, .inr (by kernel_rfl), (fc (s0 (s1 (s2 (s1 (s1 (s1 (s3 (s3 sr)))))))) nm), ?_⟩
    refine ⟨_, [(9, .pointer (some ⟨au, 0, none⟩)), (63, .int .i64 ae)], rfl, rfl, z2, by kernel_rfl, ?_⟩; intro H
    refine A0 (i := 2) sizeOf3 rfl rfl rfl rfl (A5 rfl) (AD rfl ?_)
    refine Aa ⟨undef, rfl, AN.refl _, [], by kernel_rfl, .inl (.inl rfl), nm, ?_⟩
    refine BC (Ax (id := 1) ?_)
    exact mi (kd (kd kr)) ⟨l2, ao + n4, ae, ck, cn, cp, cq, eu, bo, rfl, z8, cr⟩
   rintro e1 ic _ ⟨bc, bd, ah, da, db, dd, bg, ct, bp, rfl, cu, ew⟩
   refine Az _ cu ?_
   replace a6 := a6.mono (Ak (Ae _)) bp
   rw [Hz] at ct
   refine An (uv (AY rfl rfl (A8.CC br cz (Au.lt a6))) ?_)
   refine um (Aa ?_)
   subst dh; exact le kr ⟨_, _, rfl, dk, bc, bd, ah, da, db, dd, bg, ct, (aq.trans bp), rfl, z8, ew⟩
  obtain rfl := A8.zero br cz
  rw [Dq] at cy
  refine AL (Am (Am ?_))
  refine AA ?_
  exact mi (kd (kd (kd (kx kr)))) ⟨aw, ao, bl, bm, bn, ak, cy, aq, rfl, z2, bb⟩
 rintro e1 ie _ ⟨out, sum, de, df, dg, bq, cv, fj, rfl, cw, cx⟩
 refine Az _ cw ?_
 rw [HB] at cv
 refine AI (um (um (ua (ua (Aa ?_)))))
 obtain ⟨ey, ez⟩ := AX cv
 refine As (Bu results85 (AP rfl) (AP rfl) (sr) ?_)
 obtain ⟨rfl, rfl⟩ := BT ez
 exact ⟨_, _, _, _, rfl, rfl, cx.any, AW.nn cx ey⟩
theorem LN {x : Int} {r : Bool} (hr : Iq x = some r) :
    Ba Tryz.prog 122 #[.int .i64 x] F (.bool r) := by
 refine sp func122 ntmps122 fun K _ _ => ?_
 rw [Iq] at hr
 refine AI (ua (BI (ua (Aa (As ?_)))))
 refine BD results122 ?_
 obtain rfl := AH hr
 exact rfl
theorem MP {r : Bool} (hr : LB = some r) :
    SH.Spec Tryz.prog 86 #[] F [] fun _ L' v => ∃ (rv : Value), v = .agg #[rv] ∧ L' = [] ∧ PM rv r 122 := by
 refine sp func86 ntmps86 fun K _ _ => ?_
 rw [LB] at hr
 refine AI ?_
 refine A1 rfl zeroValue132 ?_; intro b1 a6
 refine BI ?_
 refine uv (BL (v := .agg (#[.func (.func 122) #[] #[]])) rfl (by intro w; kernel_rfl)) ?_
 refine A6 (i := 0) sizeOf132 rfl rfl rfl (by simp [Value.oneCell']) rfl (A5 rfl) (AD rfl ?_)
 refine Aa (As ?_)
 refine Lm results86 (CK (cs := #[.func (.func 122) #[] #[]]) isAgg132 sizeOf132 rfl (Has.own 0 rfl) (A5 rfl) rfl) (s1 sr) ?_
 obtain rfl := AH hr
 exact ⟨_, rfl, rfl, PM.fn _⟩
set_option maxHeartbeats 1000000 in
theorem JK (a6 : Au 1 (Bm 1 (iE .i64)) F Ac Ad Ab) (aa : Au 1 (Bm 1 (iE .i64)) F Aj Ai Af) {r : List Int} {r2 : Int} (hr : IJ Ab Af = some (r, r2, r3)) :
    SH.Spec Tryz.prog 35 #[.agg #[.slice Ac Ab.length Ad, .slice Aj Af.length Ai]] F [] fun F' L' v => ∃ (ra : Option Addr) (rn : Nat) (rc : Nat) (rL : LH), v = .tuple #[.slice ra rn rc, .int .i64 r2, .int .i64 r3] ∧ L' = rL ++ [] ∧ AW 0 3 1 (iE .i64) F' ra rn rc r rL := by
 refine sp func35 ntmps35 fun K _ _ => ?_
 rw [IJ] at hr
 refine AI ?_
 refine By rfl rfl ?_; intro b1 cb
 refine ua (ua (ua (BI ?_)))
 refine uv (AE isAgg26 sizeOf26 rfl (Has.own 0 rfl) (A5 rfl) rfl) ?_
 obtain ⟨d, n, h2, r4⟩ := A9 hr
 refine c0 call15 (Gb a6 aa h2) ?_; rintro _ F5 _ cc cd ⟨v9, bc, rfl, rfl, ai⟩
 refine AD (lp (ln rfl)) (kO (kf (fS fO) kr) ?_)
 refine um (ox rfl rfl rfl (ox rfl rfl rfl (ua (ua (Aa (At (AI (um ?_))))))))
 refine uv (BH rfl rfl) (Aa ?_)
 refine cQ (fun aj => ?_) fun aj => ?_
 ·have bd := AQ r4 aj
  refine AI (um (ua (ua (ua (Aa ?_)))))
  refine kW kn ?_
  refine As (Al ?_)
  refine Kk results35 (AP rfl) (AP rfl) (AP rfl) (sr) ?_
  obtain ⟨rfl, rfl, rfl⟩ := IK bd
  exact ⟨_, _, _, [], rfl, rfl, AW.nil _ _ _ _ _⟩
 have bg := AR r4 aj
 refine Aq (At ?_)
 obtain ⟨ah, ak, BW, rows, bh, bj⟩ := GV bg
 have ba := ai; rw [bh] at ba; obtain ⟨cf, cg, cj, ck, cn, cp, bk, al, ao, cq, cr, aq, ad, ar, au, bl, av, aw⟩ := CM ba; subst aq; subst aw
 refine Fu (L' := [(b1, ce #[.slice Ac Ab.length Ad, .slice Aj Af.length Ai] 26), (bk, .map al ao)]) rfl ?_
 refine An (um ?_)
 obtain ⟨y, bm, bn⟩ := AB bj
 refine c0 call86 (MP bm) ?_; rintro _ bo _ ab bp ⟨ct, rfl, rfl, ax⟩
 replace ar := ar.mono (Ak (Ae _)) ab
 replace au := au.mono (Ak (Ae _)) ab
 replace av := av.mono (Bg (n := 64) (sz := 1) BU) ab
 replace ad := ab _ _ ad
 refine AD (ln rfl) ?_
 obtain ⟨bq, br⟩ := AX bn
 obtain rfl := ax.2 bq
 have ay : KE Tryz.prog bo 122 #[] #[] (iE .i64) Value.bool (fun bb : Int => Iq bb) := ⟨call122, fun F2 h2 vs bb r ha hr => by obtain rfl := ha; exact LN hr⟩
 obtain ⟨l, n2, bu, bw⟩ := A9 br
 refine c0 call85 (Gs ad ar au av ay bu) ?_; rintro _ cu _ bx az ⟨cv, cw, cx, bz, rfl, rfl, ae, ca⟩
 replace ae := ae.new fun p hp => az p (by simp [hp])
 refine AD (lp (ln rfl)) (kO (kf (fS fO) (kf (fS fO) kr)) ?_)
 refine um (ox rfl rfl rfl (ox rfl rfl rfl (ua (ua (BI (um (um (ua (ua ?_)))))))))
 refine ua (Aa ?_)
 refine kW (kd (kd kr)) (As (Kk results35 (AP rfl) (AP rfl) (AP rfl) (sr) ?_))
 obtain ⟨rfl, rfl, rfl⟩ := IK bw
 exact ⟨_, _, _, _, rfl, rfl, ae.any⟩
set_option maxHeartbeats 1000000 in
theorem IF {Jk : Option Addr} {Jj : Nat} {s1 : List Int} {Jq : Option Addr} {Js : Nat} {s2 : List Int} (a6 : Au 1 (iE .i64) F Jk Jj s1) (aa : Au 1 (iE .i64) F Jq Js s2) {r : Bool} (hr : DY s1 s2 = some r) :
    Ba Tryz.prog 92 #[.slice Jk s1.length Jj, .slice Jq s2.length Js] F (.bool r) := by
 refine sp func92 ntmps92 fun K _ _ => ?_
 rw [DY] at hr
 refine AI (ua (Aa (At (AI (um ?_)))))
 refine uv (AJ underlying22 rfl) (um (uv (AJ underlying22 rfl) (uv (BH rfl rfl) (Aa ?_))))
 refine cQ (fun c1 => ?_) fun c1 => ?_
 ·have r2 := AQ hr c1
  refine AI (ua (Aa (As (Al ?_))))
  refine BD results92 ?_
  obtain rfl := AH r2
  exact rfl
 have r3 := AR hr c1
 refine Aq ?_
 refine AK (fun e1 F1 L1 => FN = some r ∧ F = F1 ∧ L1 = [] ∧ e1.sub []) ?_ ?_
 ·refine AI (um ?_)
  refine uv (AJ underlying22 rfl) ?_
  refine um (Aa ?_)
  refine Ap ?_
  refine A2 (fun av e1 F1 L1 => LA s1 av fun tl k => C4 s2 tl k = some r ∧ F = F1 ∧ L1 = [] ∧ e1.sub [(0, .slice Jk s1.length Jj), (1, .slice Jq s2.length Js), (12, .int .i64 (s1.length : Int)), (13, .int .i64 k)]) _ (m0 kr ⟨_, _, rfl, A8.start _, r3, rfl, rfl, z4⟩) ?_
  rintro av e1 _ _ ⟨tl, k, bc, ab, r6, rfl, rfl, bd⟩
  refine Az _ bd (AI (uv (AV rfl rfl) ?_))
  refine Aa (At ?_)
  refine cQ (fun c9 => ?_) fun c9 => ?_
  ·obtain ⟨x, bn, rfl, ad, aw, ae⟩ := A8.succ ab c9
   rw [C4] at r6
   refine Aq (At ?_)
   refine Ap ?_
   refine AI (um (ua ?_))
   refine dN ?_
   refine wm (wm ?_)
   obtain ⟨bo, bp, bq, bg, ah, ai, ax, rfl, bh, aj⟩ := Au.at (Ae _) a6 ([]) aw.1 ad
   refine wv (AF underlying22 sizeOf3 rfl ah rfl aw) (wv (Ao isAgg3 rfl ai (aj 0 (by decide))) ?_)
   refine wm (wm ?_)
   obtain ⟨x2, ay, ak, az⟩ := A7 r6
   obtain ⟨br, bu, bw, bj, al, ao, ba, rfl, bk, aq⟩ := Au.at (Ae _) aa ([]) ay.1 ak
   refine wv (AF underlying22 sizeOf3 rfl al rfl ay) (wv (Ao isAgg3 rfl ao (aq 0 (by decide))) (wv (BH rfl rfl) (BV ?_)))
   refine cQ (fun ar => ?_) fun ar => ?_
   ·have bl := AQ az ar
    refine AI (ua (Aa (As (Ay (Al (Al (Ay (Al ?_))))))))
    refine BD results92 ?_
    obtain rfl := AH bl
    exact rfl
   have bm := AR az ar
   refine Aq (Ax (id := 1) (An ?_))
   refine uv (AY rfl rfl (A8.CC ab c9 (Au.lt a6))) ?_
   refine um (Aa ?_)
   subst bc; exact le kr ⟨_, _, rfl, ae, bm, rfl, rfl, z4⟩
  obtain rfl := A8.zero ab c9
  rw [C4] at r6
  refine AL (Am (Am ?_))
  refine AA ?_
  exact mi kr ⟨r6, rfl, rfl, (sn _)⟩
 rintro e1 _ _ ⟨bb, rfl, rfl, au⟩
 refine Az _ au ?_
 rw [FN] at bb
 refine AI (ua (Aa (As ?_)))
 refine BD results92 ?_
 obtain rfl := AH bb
 exact rfl
theorem DI {Pb : Option Addr} {O8 : Nat} {a : List Int} {O5 : Option Addr} {Pa : Nat} {b : List Int} (a6 : Au 1 (iE .i64) F Pb O8 a) (aa : Au 1 (iE .i64) F O5 Pa b) {r : Bool} (hr : C2 a b = some r) :
    Ba Tryz.prog 37 #[.slice Pb a.length O8, .slice O5 b.length Pa] F (.bool r) := by
 refine sp func37 ntmps37 fun K _ _ => ?_
 rw [C2] at hr
 refine AI (ua (BI (um (um ?_))))
 obtain ⟨ok, h1, r2⟩ := AB hr
 refine cV call92 (IF a6 aa h1) ?_
 refine ua (Aa (As ?_))
 refine BD results37 ?_
 obtain rfl := AH r2
 exact rfl
theorem IC {s_ : List Int} (a6 : Au 1 (iE .i64) F GX GY s_) {r : List Int} (hr : Fh s_ = some r) :
    SH.Spec Tryz.prog 100 #[.slice GX s_.length GY] F [] fun F' L' v => ∃ (ra : Option Addr) (rn : Nat) (rc : Nat) (rL : LH), v = .slice ra rn rc ∧ L' = rL ++ [] ∧ AW 0 3 1 (iE .i64) F' ra rn rc r rL := by
 refine sp func100 ntmps100 fun K _ _ => ?_
 rw [Fh] at hr
 refine AI (ua (Aa (At (AI (um ?_)))))
 refine uv (Mh underlying22 rfl) (Aa ?_)
 refine AT rfl (fun c1 => ?_) (fun c1 => ?_)
 ·have r2 := Py hr (Au.isNone a6 c1)
  refine AI (ua (Aa (As (Al ?_))))
  refine BD results100 ?_
  obtain rfl := AH r2
  exact ⟨_, _, _, [], rfl, rfl, AW.nil _ _ _ _ _⟩
 have r3 := Pu hr
 refine Aq (AI ?_)
 refine Gn (cs := #[]) rfl rfl (HX BN) ?_; intro b4 ae
 refine um ?_
 have ad : AW K.w0.heap.size 3 1 (iE .i64) F (some ⟨b4, 0, none⟩) 0 0 ([] : List Int) [(b4, ce #[] 3)] := AW.AG (vss := []) (Ae _) ae .nil rfl rfl (by simp [maxLen])
 generalize aa : ([(b4, ce #[] 3)] : LH) = Lb5 at ad
 refine BK (L' := Lb5 ++ []) (by rw [← aa]; exact fO) ?_
 obtain ⟨l, h8, g9, ah⟩ := E0 r3
 refine Dm (xs := ([] : List Int)) (ys := s_) (zs := l) rfl BN rfl rfl (Nat.le_refl _) (fun _ => .h) ad (Au.src a6) h8 g9 (by decide) ?_; intro aj ak al ai ab
 refine ua (Aa (As ?_))
 refine BD results100 ?_
 obtain rfl := AH ah
 exact ⟨_, _, _, _, rfl, rfl, ab.any⟩
theorem MX {s_ : Int} {a6 : Nat} {aa : Nat × Nat} (ab : F a6 = some (.cells #[.int .i64 BO] 3 aa)) {r : Bool} (hr : I2 s_ BO = some r) :
    Ba Tryz.prog 99 #[.int .i64 s_, .pointer (some ⟨a6, 0, none⟩)] F (.bool r) := by
 refine sp func99 ntmps99 fun K _ _ => ?_
 rw [I2] at hr
 refine AI (ua (BI (um ?_)))
 refine uv (Ao isAgg3 rfl (Has.frozen ab) rfl) (uv (Nu rfl rfl) (uv (Bb rfl rfl) ?_))
 refine ua (Aa (As ?_))
 refine BD results99 ?_
 obtain rfl := AH hr
 exact rfl
set_option maxHeartbeats 1000000 in
theorem Nv {bm : (List Int) → Int → Int → Int → (List (List Int)) → (List (List Int)) → (List (List Bool)) → (List Int) → (List (List Int)) → (List (List Int)) → Option (Bool × (List Int))} (cg : ∀ {JA : Option Addr} {Jy : Nat} {l : List Int} {BO from_ many : Int} {Hx MM : Nat} {Ac : Option Addr} {Ad : Nat} {Ab : List (List Int)} {Aj : Option Addr} {Ai : Nat} {Af : List (List Int)} {v1 : Value} {Dc : Option Addr} {Dd : Nat} {rows : List (List Bool)} {MV KD : Nat × Nat} {HL : Nat} {ay : Option Addr} {az : Nat} {out : List Int} {bh : Nat} {ae : Option Addr} {ah : Nat} {ab : List (List Int)} {ao : Option Addr} {aq : Nat} {ar : List (List Int)} {bn : Nat × Nat} {al : Nat} {bb : Nat × Nat} {F : FS} (_ : Au 1 (iE .i64) F JA Jy l) (_ : F Hx = some (.cells #[.pointer (some ⟨MM, 0, none⟩)] 45 KD)) (_ : F MM = some (.cells #[.slice Ac Ab.length Ad, .slice Aj Af.length Ai, v1, .slice Dc rows.length Dd] 113 MV)) (_ : Au 1 (Bm 1 (iE .i64)) F Ac Ad Ab) (_ : Au 1 (Bm 1 (iE .i64)) F Aj Ai Af) (_ : Au 64 (LP 64 cB) F Dc Dd rows) (_ : Au 1 (iE .i64) F ay az out) (_ : F bh = some (.cells #[.slice ae ab.length ah, .slice ao ar.length aq] 26 bn)) (_ : Au 1 (Bm 1 (iE .i64)) F ae ah ab) (_ : Au 1 (Bm 1 (iE .i64)) F ao aq ar) (_ : F al = some (.cells (#[.func (.func 98) #[] #[.pointer (some ⟨Hx, 0, none⟩), .pointer (some ⟨HL, 0, none⟩), .pointer (some ⟨bh, 0, none⟩), .pointer (some ⟨al, 0, none⟩)]]) 140 bb)) {r : Bool} {r2 : List Int} , bm l BO from_ many Ab Af rows out ab ar = some (r, r2) → SH.Spec Tryz.prog 98 #[.slice JA l.length Jy, .int .i64 BO, .int .i64 from_, .int .i64 many, .pointer (some ⟨Hx, 0, none⟩), .pointer (some ⟨HL, 0, none⟩), .pointer (some ⟨bh, 0, none⟩), .pointer (some ⟨al, 0, none⟩)] F [(HL, ce #[.slice ay out.length az] 22)] fun F' L' v => ∃ (bw : Option Addr) (bx : Nat), v = .bool r ∧ L' = [(HL, ce #[.slice bw r2.length bx] 22)] ∧ Au 1 (iE .i64) F' bw bx r2) {l : List Int} {from_ many : Int} {ay : Option Addr} {az : Nat} {out : List Int} {bh : Nat} {ae : Option Addr} {ah : Nat} {ab : List (List Int)} {ao : Option Addr} {aq : Nat} {ar : List (List Int)} {bn : Nat × Nat} {al : Nat} {bb : Nat × Nat} (bl : Au 1 (iE .i64) F JA Jy l) (bc : F Hx = some (.cells #[.pointer (some ⟨MM, 0, none⟩)] 45 KD)) (au : F MM = some (.cells #[.slice Ac Ab.length Ad, .slice Aj Af.length Ai, v1, .slice Dc rows.length Dd] 113 MV)) (a6 : Au 1 (Bm 1 (iE .i64)) F Ac Ad Ab) (ad : Au 1 (Bm 1 (iE .i64)) F Aj Ai Af) (ak : Au 64 (LP 64 cB) F Dc Dd rows) (ba : Au 1 (iE .i64) F ay az out) (bd : F bh = some (.cells #[.slice ae ab.length ah, .slice ao ar.length aq] 26 bn)) (aa : Au 1 (Bm 1 (iE .i64)) F ae ah ab) (ai : Au 1 (Bm 1 (iE .i64)) F ao aq ar) (aj : F al = some (.cells (#[.func (.func 98) #[] #[.pointer (some ⟨Hx, 0, none⟩), .pointer (some ⟨HL, 0, none⟩), .pointer (some ⟨bh, 0, none⟩), .pointer (some ⟨al, 0, none⟩)]]) 140 bb)) {r : Bool} {r2 : List Int} (hr : KF bm l BO from_ many Ab Af rows out ab ar = some (r, r2)) :
    SH.Spec Tryz.prog 98 #[.slice JA l.length Jy, .int .i64 BO, .int .i64 from_, .int .i64 many, .pointer (some ⟨Hx, 0, none⟩), .pointer (some ⟨HL, 0, none⟩), .pointer (some ⟨bh, 0, none⟩), .pointer (some ⟨al, 0, none⟩)] F [(HL, ce #[.slice ay out.length az] 22)] fun F' L' v => ∃ (bw : Option Addr) (bx : Nat), v = .bool r ∧ L' = [(HL, ce #[.slice bw r2.length bx] 22)] ∧ Au 1 (iE .i64) F' bw bx r2 := by
 refine sp func98 ntmps98 fun K _ _ => ?_
 rw [KF] at hr
 refine AI ?_
 refine By rfl rfl ?_; intro b2 di
 refine ua (Aa (At (AI (um ?_))))
 refine uv (Bb rfl rfl) (Aa ?_)
 refine cQ (fun c3 => ?_) fun c3 => ?_
 ·have r4 := AQ hr c3
  refine At (AI ?_)
  refine uv (Ao isAgg45 rfl (Has.frozen bc) rfl) (uv (D5 rfl rfl) ?_)
  refine uv (BL (v := .agg (#[.func (.func 99) #[] #[.pointer (some ⟨b2, 0, none⟩)]])) rfl (by intro w; kernel_rfl)) ?_
  refine AO 0 rfl di ?_; intro F5 bp dk
  refine AD rfl ?_
  replace bl := bl.mono (Ae _) bp
  replace a6 := a6.mono (Ak (Ae _)) bp
  replace ad := ad.mono (Ak (Ae _)) bp
  replace ak := ak.mono (Bg (n := 64) (sz := 1) BU) bp
  replace ba := ba.mono (Ae _) bp
  replace au := bp _ _ au
  have dm : KE Tryz.prog F5 99 #[] #[.pointer (some ⟨b2, 0, none⟩)] (iE .i64) Value.bool (fun da : Int => I2 da BO) := ⟨call99, fun F2 h2 vs da r ha hr => by obtain rfl := ha; exact MX (h2 _ _ dk) hr⟩
  obtain ⟨l2, n, h9, db⟩ := A9 r4
  refine c0 call85 (Gs au a6 ad ak dm h9) ?_; rintro _ fk _ bz dp ⟨fl, fm, fo, dq, rfl, rfl, dr, cj⟩
  replace bl := bl.mono (Ae _) bz
  replace ba := ba.mono (Ae _) bz
  refine AD (lp (ln rfl)) (kO (kf (fS fO) kr) ?_)
  refine um (ox rfl rfl rfl (ox rfl rfl rfl (ua (ua (BI (um ?_))))))
  refine uv ((Mh underlying22 rfl).b (OE cj)) (Aa ?_)
  refine cQ (fun ck => ?_) fun ck => ?_
  ·have dt := AQ db ck
   refine AI (ua (Aa ?_))
   refine kW (kc kn) ?_
   refine As (Al (Al ?_))
   refine BD results98 ?_
   obtain ⟨rfl, rfl⟩ := BT dt
   exact ⟨_, _, rfl, rfl, ba⟩
  have du := AR db ck
  refine Aq (AI (um ?_))
  refine A0 (i := 0) sizeOf22 rfl rfl rfl rfl (A5 rfl) (AD rfl ?_)
  refine BI (ua (Aa ?_))
  refine kW (kc kn) ?_
  refine As (Al ?_)
  refine BD results98 ?_
  obtain ⟨rfl, rfl⟩ := BT du
  exact ⟨_, _, rfl, rfl, bl⟩
 have dv := AR hr c3
 refine Aq ?_
 refine AK (fun e1 F1 L1 => ∃ (bj : List Int) (cn : Option Addr) (cp : Nat), Jm bj = some (r, r2) ∧ AN F F1 ∧ L1 = [(HL, ce #[.slice cn bj.length cp] 22)] ∧ e1.sub [] ∧ Au 1 (iE .i64) F1 cn cp bj) ?_ ?_
 ·refine AI (um (ua (Aa ?_)))
  refine Ap ?_
  obtain ⟨dd, dw⟩ := AX dv
  refine A2 (fun cd e1 F1 L1 => ∃ (i : Int), CZ from_ (ab.length : Int) i cd ∧ ∃ (bg : List Int) (bq : Option Addr) (br : Nat), Gu l BO many Ab Af rows ab ar bm cd i bg = some (r, r2) ∧ AN F F1 ∧ L1 = [(b2, ce #[.int .i64 BO] 3), (HL, ce #[.slice bq bg.length br] 22)] ∧ e1.sub [(0, .slice JA l.length Jy), (3, .int .i64 many), (6, .pointer (some ⟨bh, 0, none⟩)), (7, .pointer (some ⟨al, 0, none⟩)), (9, .pointer (some ⟨b2, 0, none⟩)), (15, .int .i64 i)] ∧ Au 1 (iE .i64) F1 bq br bg) _ (m0 kr ⟨_, CZ.start _ _, out, ay, az, dw, AN.refl _, rfl, z6, ba⟩) ?_
  rintro cd e1 fp _ ⟨i, bk, bg, bq, br, cf, av, rfl, cq, bu⟩
  refine Az _ cq ?_
  replace bl := bl.mono (Ae _) av
  replace a6 := a6.mono (Ak (Ae _)) av
  replace ad := ad.mono (Ak (Ae _)) av
  replace ak := ak.mono (Bg (n := 64) (sz := 1) BU) av
  replace aa := aa.mono (Ak (Ae _)) av
  replace ai := ai.mono (Ak (Ae _)) av
  replace au := av _ _ au
  replace bc := av _ _ bc
  replace bd := av _ _ bd
  replace aj := av _ _ aj
  refine At (AI (um ?_))
  refine uv (Av Cy rfl) (uv (Ao isAgg23 rfl (Has.frozen bd) rfl) (uv (AJ underlying23 rfl) (uv (AV rfl rfl) (Aa ?_))))
  refine cQ (fun ca => ?_) fun ca => ?_
  ·obtain ⟨cd, rfl, cr⟩ := CZ.succ bk ca
   rw [Gu] at cf
   refine Aq (At ?_)
   refine Ap (At (Bd [(.still, 0), (.still, 1), (.still, 3), (.pre, 4), (.still, 6), (.still, 7), (.still, 8), (.still, 9), (.still, 10), (.still, 11), (.still, 12), (.still, 13), (.seq, 2), (.alloc (ce #[.int .i64 i] 3) (fun b => .slice (some ⟨b, 0, none⟩) 1 1) [(39, .int .i64 i)], 4), (.seq, 5), (.seq, 14)] (by kernel_rfl) (by kernel_rfl) (⟨⟨_, _, rfl, rfl, rfl, rfl, rfl, Qg rfl (IE BN [.int .i64 i] rfl (by decide) (by simp [Value.cells]) (by decide))⟩, trivial⟩) (by rfl) (by kernel_rfl) (mL [7] ([]) rfl sm (fun H F' L' ct cu => Ao isAgg140 rfl ((Has.frozen aj).ext ct cu) rfl) (mS [0] rfl (Bj rfl) (mS [15] rfl (Bj rfl) ?_)))))
   refine ⟨⟨_, rfl, z1, by kernel_rfl⟩, ?_⟩
   refine mL [9] ([(b2, ce #[.int .i64 BO] 3)]) rfl (s0 (s2 (s1 sr))) (fun H F' L' ct cu => Ao isAgg3 rfl ((Has.own 0 rfl).ext ct cu) rfl) (mS [15] rfl (Bj rfl) ?_)
   obtain ⟨dx, dy⟩ := AX cf
   refine mS (v := .int .i64 (shl 1 i)) [43] rfl (OM rfl rfl dx) (mS (v := .int .i64 (O4 BO (shl 1 i))) [42, 44] rfl (QC rfl rfl) (mS [15] rfl (Bj rfl) (mS (v := .int .i64 (i + 1)) [46] rfl (AY rfl rfl (CZ.CC bk ca dd)) (mS [3] rfl (Bj rfl) ?_))))
   obtain ⟨dz, eb⟩ := AX dy
   refine mS (v := .int .i64 (many - 1)) [48] rfl (C7 rfl rfl dz) ?_
   refine ⟨_, [(37, .slice JA l.length Jy)], rfl, rfl, z1, by kernel_rfl, ?_⟩; intro H
   obtain ⟨l3, ec, ef⟩ := AB eb
   refine c0 call100 (IC bl ec) ?_; rintro _ fq _ aw cv ⟨eg, eh, ei, cw, rfl, rfl, bo⟩
   replace a6 := a6.mono (Ak (Ae _)) aw
   replace ad := ad.mono (Ak (Ae _)) aw
   replace ak := ak.mono (Bg (n := 64) (sz := 1) BU) aw
   replace aa := aa.mono (Ak (Ae _)) aw
   replace ai := ai.mono (Ak (Ae _)) aw
   replace bu := bu.mono (Ae _) aw
   replace au := aw _ _ au
   replace bc := aw _ _ bc
   replace bd := aw _ _ bd
   replace aj := aw _ _ aj
   replace bo := bo.new fun p hp => cv p (by simp [hp])
   refine AD (lp (ln rfl)) (kO (kf (fS fO) (kf (fS fO) kr)) ?_)
   refine Aa ⟨_, rfl, aw, [13, 12, 11, 10, 9, 8, 7, 6, 3, 0], by kernel_rfl, .inl (.inr (fun d h => by cases h; rfl)), (fc sm (fc sm (fc sm (fc sm (fc sm (fc sm (fc sm (fc (s0 (s2 (s1 (s3 sr)))) (fc sm (fc sm nm)))))))))), ?_⟩
   refine Qb rfl ?_; intro de ej
   refine Jp (L' := (de, ce #[.int .i64 i] 3) :: ((b2, ce #[.int .i64 BO] 3) :: ((HL, ce #[.slice bq bg.length br] 22) :: (cw ++ [])))) rfl ?_
   refine ⟨_, [(38, .slice eg eh ei), (40, .slice (some ⟨de, 0, none⟩) 1 1)], rfl, rfl, z2, by kernel_rfl, ?_⟩; intro H
   obtain ⟨l4, en, eo, ep⟩ := E0 ef
   refine Dm (xs := l3) (ys := [i]) (zs := l4) rfl BN rfl rfl (Nat.le_refl _) (fun _ => .c (.c (.c .h))) bo (GO.box (vss := [[.int .i64 i]]) (ys := [i]) 0 rfl (Ae _) (.cons rfl .nil) rfl rfl) en eo (by decide) ?_; intro er et eu ew cb
   refine kO (kd kr) ?_
   refine Aa ⟨_, rfl, AN.refl _, [13, 12, 11, 10, 9, 8, 7, 6, 0], by kernel_rfl, .inl (.inr (fun d h => by cases h; rfl)), (fc sm (fc sm (fc sm (fc sm (fc sm (fc sm (fc sm (fc (s0 (s2 (s1 (s3 sr)))) (fc sm nm))))))))), ?_⟩
   refine ⟨_, [(36, .func (.func 98) #[] #[.pointer (some ⟨Hx, 0, none⟩), .pointer (some ⟨HL, 0, none⟩), .pointer (some ⟨bh, 0, none⟩), .pointer (some ⟨al, 0, none⟩)]), (41, .slice er et eu), (45, .int .i64 (O4 BO (shl 1 i))), (47, .int .i64 (i + 1)), (49, .int .i64 (many - 1))], rfl, rfl, z5, by kernel_rfl, ?_⟩; intro H
   obtain rfl := (AW.Be cb).1
   refine Fa (Nat.le_refl _) (Ae _) (fC (fC fP)) cb ?_; intro fs ax ey
   replace a6 := a6.mono (Ak (Ae _)) ax
   replace ad := ad.mono (Ak (Ae _)) ax
   replace ak := ak.mono (Bg (n := 64) (sz := 1) BU) ax
   replace aa := aa.mono (Ak (Ae _)) ax
   replace ai := ai.mono (Ak (Ae _)) ax
   replace bu := bu.mono (Ae _) ax
   replace au := ax _ _ au
   replace bc := ax _ _ bc
   replace bd := ax _ _ bd
   replace aj := ax _ _ aj
   obtain ⟨ok, cx, ez, df⟩ := A9 ep
   refine Oi (Lb := [(HL, ce #[.slice bq bg.length br] 22)]) (Lr := [(b2, ce #[.int .i64 BO] 3)]) rfl call98 rfl rfl rfl (((fC fO).trans (pC pR))) (cg ey bc au a6 ad ak bu bd aa ai aj ez) ?_; rintro _ ft _ cc fa fb ⟨fe, ff, rfl, rfl, dg⟩
   refine AD (lb (ln rfl)) ?_
   refine Aa ⟨_, rfl, (ax.trans cc), [], by kernel_rfl, .inl (.inl rfl), nm, ?_⟩
   refine BC ?_
   refine AT rfl (fun cy => ?_) (fun cy => ?_)
   ·have fg := bt df cy
    refine AI (ua (Aa ?_))
    refine kW (kc kn) ?_
    refine As (Ay (Al (Al (Ay (Al ?_)))))
    refine BD results98 ?_
    obtain ⟨rfl, rfl⟩ := BT fg
    exact ⟨_, _, rfl, rfl, dg⟩
   have fh := bf df cy
   refine Aq (Ax (id := 1) (An (um ?_)))
   refine uv (AY rfl rfl (CZ.CC bk ca dd)) ?_
   refine ua (Aa ?_)
   exact le (kf (fC fO) kr) ⟨_, cr, cx, fe, ff, fh, (((av.trans aw).trans ax).trans cc), rfl, z6, dg⟩
  obtain rfl := CZ.zero bk ca
  rw [Gu] at cf
  refine AL (Am (Am ?_))
  refine AA ?_
  exact mi (kd kr) ⟨bg, bq, br, cf, av, rfl, (sn _), bu⟩
 rintro e1 fv _ ⟨bj, cn, cp, dh, fi, rfl, cz, fj⟩
 refine Az _ cz ?_
 rw [Jm] at dh
 refine AI (ua (Aa (As ?_)))
 refine BD results98 ?_
 obtain ⟨rfl, rfl⟩ := BT dh
 exact ⟨_, _, rfl, rfl, fj⟩
set_option maxHeartbeats 1000000 in
theorem NN : ∀ (fu : Nat) {JA : Option Addr} {Jy : Nat} {l : List Int} {BO from_ many : Int} {Hx MM : Nat} {Ac : Option Addr} {Ad : Nat} {Ab : List (List Int)} {Aj : Option Addr} {Ai : Nat} {Af : List (List Int)} {v1 : Value} {Dc : Option Addr} {Dd : Nat} {rows : List (List Bool)} {MV KD : Nat × Nat} {HL : Nat} {ak : Option Addr} {al : Nat} {out : List Int} {ao : Nat} {a6 : Option Addr} {aa : Nat} {ab : List (List Int)} {ad : Option Addr} {ae : Nat} {ah : List (List Int)} {aq : Nat × Nat} {ai : Nat} {aj : Nat × Nat} {F : FS} (_ : Au 1 (iE .i64) F JA Jy l) (_ : F Hx = some (.cells #[.pointer (some ⟨MM, 0, none⟩)] 45 KD)) (_ : F MM = some (.cells #[.slice Ac Ab.length Ad, .slice Aj Af.length Ai, v1, .slice Dc rows.length Dd] 113 MV)) (_ : Au 1 (Bm 1 (iE .i64)) F Ac Ad Ab) (_ : Au 1 (Bm 1 (iE .i64)) F Aj Ai Af) (_ : Au 64 (LP 64 cB) F Dc Dd rows) (_ : Au 1 (iE .i64) F ak al out) (_ : F ao = some (.cells #[.slice a6 ab.length aa, .slice ad ah.length ae] 26 aq)) (_ : Au 1 (Bm 1 (iE .i64)) F a6 aa ab) (_ : Au 1 (Bm 1 (iE .i64)) F ad ae ah) (_ : F ai = some (.cells (#[.func (.func 98) #[] #[.pointer (some ⟨Hx, 0, none⟩), .pointer (some ⟨HL, 0, none⟩), .pointer (some ⟨ao, 0, none⟩), .pointer (some ⟨ai, 0, none⟩)]]) 140 aj)) {r : Bool} {r2 : List Int} , I8 fu l BO from_ many Ab Af rows out ab ah = some (r, r2) → SH.Spec Tryz.prog 98 #[.slice JA l.length Jy, .int .i64 BO, .int .i64 from_, .int .i64 many, .pointer (some ⟨Hx, 0, none⟩), .pointer (some ⟨HL, 0, none⟩), .pointer (some ⟨ao, 0, none⟩), .pointer (some ⟨ai, 0, none⟩)] F [(HL, ce #[.slice ak out.length al] 22)] fun F' L' v => ∃ (ar : Option Addr) (au : Nat), v = .bool r ∧ L' = [(HL, ce #[.slice ar r2.length au] 22)] ∧ Au 1 (iE .i64) F' ar au r2 := by
  intro fu
  induction fu with
  | zero => intros; rename_i hr; rw [I8] at hr; cases hr
  | succ fu ih => intros; rename_i hr; rw [I8] at hr; exact Nv ih (by assumption) (by assumption) (by assumption) (by assumption) (by assumption) (by assumption) (by assumption) (by assumption) (by assumption) (by assumption) (by assumption) hr
set_option maxHeartbeats 1000000 in
theorem MQ (a6 : Au 1 (Bm 1 (iE .i64)) F Ac Ad Ab) (aa : Au 1 (Bm 1 (iE .i64)) F Aj Ai Af) {r : List Int} {r2 : Int} (hr : Ly Ab Af = some (r, r2)) :
    SH.Spec Tryz.prog 46 #[.agg #[.slice Ac Ab.length Ad, .slice Aj Af.length Ai]] F [] fun F' L' v => ∃ (ra : Option Addr) (rc : Nat), v = .tuple #[.slice ra r.length rc, .int .i64 r2] ∧ L' = [] ∧ Au 1 (iE .i64) F' ra rc r := by
 refine sp func46 ntmps46 fun K _ _ => ?_
 rw [Ly] at hr
 refine AI ?_
 refine By rfl rfl ?_; intro b1 cr
 refine ua (ua (Aa ?_))
 refine PT (AI (uv (AE isAgg26 sizeOf26 rfl (Has.own 0 rfl) (A5 rfl) rfl) ?_))
 obtain ⟨d, n, h2, r3⟩ := A9 hr
 refine c0 call15 (Gb a6 aa h2) ?_; rintro _ F4 _ cc dt ⟨v8, ct, rfl, rfl, cd⟩
 replace a6 := a6.mono (Ak (Ae _)) cc
 replace aa := aa.mono (Ak (Ae _)) cc
 refine AD (lp (ln rfl)) (kO (kf (fS fO) kr) ?_)
 refine um (ox rfl rfl rfl (ox rfl rfl rfl ?_))
 refine A1 rfl zeroValue45 ?_; intro KZ bl
 refine A0 (i := 0) sizeOf45 rfl rfl cd.one rfl (A5 rfl) (AD rfl ?_)
 refine ua (Aa (At (AI (um ?_))))
 refine uv (BH rfl rfl) (Aa ?_)
 refine cQ (fun bm => ?_) fun bm => ?_
 ·have cu := AQ r3 bm
  refine AI (um (ua (ua (Aa ?_))))
  refine kW kn ?_
  refine As (Al (noGoto_ret ?_))
  refine Bu results46 (AP rfl) (AP rfl) (sr) ?_
  obtain ⟨rfl, rfl⟩ := BT cu
  exact ⟨_, _, rfl, rfl, Au.nil _ _ _⟩
 have cv := AR r3 bm
 refine Aq (AI ?_)
 refine A1 rfl zeroValue22 ?_; intro ax cw
 refine Aa (At ?_)
 refine PV ?_
 obtain ⟨out, cx, cf⟩ := AB cv
 refine AK (fun e1 F1 L1 => ∃ (bn : Option Addr) (bo : Nat), AN F4 F1 ∧ L1 = [(ax, ce #[.slice bn out.length bo] 22)] ∧ e1.sub [(6, .pointer (some ⟨ax, 0, none⟩))] ∧ Au 1 (iE .i64) F1 bn bo out) ?_ ?_
 ·clear cf
  refine AI (uv (Av Cy rfl) (uv (Ao isAgg23 rfl (Has.own 2 rfl) rfl) (uv (AJ underlying23 rfl) ?_)))
  obtain ⟨cy, cz⟩ := AX cx
  refine uv (AY rfl rfl cy) ?_
  refine um (Aa ?_)
  refine Ap ?_
  obtain ⟨ak, ay, BW, rows, da, db⟩ := GV cz
  have cg := cd; rw [da] at cg; obtain ⟨cj, du, dv, dw, dx, dy, bb, ao, aq, dz, eb, bp, ae, ar, au, dd, av, bq⟩ := CM cg; subst bp; subst bq
  refine Fu (L' := [(ax, ce #[.slice none 0 0] 22), (KZ, ce #[.pointer (some ⟨cj, 0, none⟩)] 45), (b1, ce #[.slice Ac Ab.length Ad, .slice Aj Af.length Ai] 26), (bb, .map ao aq)]) rfl ?_
  refine Ge 2 rfl cr ?_; intro ec ai aj
  refine Fu (L' := [(ax, ce #[.slice none 0 0] 22), (KZ, ce #[.pointer (some ⟨cj, 0, none⟩)] 45), (bb, .map ao aq)]) rfl ?_
  replace a6 := a6.mono (Ak (Ae _)) ai
  replace aa := aa.mono (Ak (Ae _)) ai
  replace ar := ar.mono (Ak (Ae _)) ai
  replace au := au.mono (Ak (Ae _)) ai
  replace av := av.mono (Bg (n := 64) (sz := 1) BU) ai
  replace ae := ai _ _ ae
  refine Ge 1 rfl bl ?_; intro de ah al
  refine Fu (L' := [(ax, ce #[.slice none 0 0] 22), (bb, .map ao aq)]) rfl ?_
  replace a6 := a6.mono (Ak (Ae _)) ah
  replace aa := aa.mono (Ak (Ae _)) ah
  replace ar := ar.mono (Ak (Ae _)) ah
  replace au := au.mono (Ak (Ae _)) ah
  replace av := av.mono (Bg (n := 64) (sz := 1) BU) ah
  replace ae := ah _ _ ae
  replace aj := ah _ _ aj
  obtain ⟨df, dg⟩ := AX db
  refine Nf (fun bc e1 F1 L1 => ∃ (k : Int), CZ 0 ((Ab.length : Int) + 1) k bc ∧ ∃ (aw : List Int) (bd : Option Addr) (bg : Nat), IG Ab Af ak ay rows bc k aw = some out ∧ AN de F1 ∧ L1 = [(ax, ce #[.slice bd aw.length bg] 22), (bb, .map ao aq)] ∧ e1.sub [(1, .pointer (some ⟨b1, 0, none⟩)), (4, .pointer (some ⟨KZ, 0, none⟩)), (6, .pointer (some ⟨ax, 0, none⟩)), (20, .int .i64 ((Ab.length : Int) + 1)), (21, .int .i64 k)] ∧ Au 1 (iE .i64) F1 bd bg aw) _ (m0 kr ⟨_, CZ.start _ _, [], none, 0, dg, AN.refl _, rfl, z5, Au.nil _ _ _⟩) ?_
  rintro bc e1 ef _ ⟨k, az, aw, bd, bg, bh, ab, rfl, br, bj⟩
  refine Az _ br ?_
  replace a6 := a6.mono (Ak (Ae _)) ab
  replace aa := aa.mono (Ak (Ae _)) ab
  replace ar := ar.mono (Ak (Ae _)) ab
  replace au := au.mono (Ak (Ae _)) ab
  replace av := av.mono (Bg (n := 64) (sz := 1) BU) ab
  replace ae := ab _ _ ae
  replace aj := ab _ _ aj
  replace al := ab _ _ al
  refine AI (uv (AV rfl rfl) ?_)
  refine Aa (At ?_)
  refine cQ (fun bk => ?_) fun bk => ?_
  ·obtain ⟨bc, rfl, bu⟩ := CZ.succ az bk
   rw [IG] at bh
   refine Aq (At ?_)
   refine Ap ?_
   refine AI (um (ua (BI ?_)))
   refine A1 rfl zeroValue140 ?_; intro eg bw
   refine BI (uv (D5 rfl rfl) (A0 (i := 0) sizeOf140 rfl rfl rfl rfl (A5 rfl) (AD rfl (BI (uv (Ao isAgg140 rfl (Has.own 0 rfl) rfl) (um ?_))))))
   refine AO 0 rfl bw ?_; intro eh ad bx
   refine AD rfl ?_
   replace a6 := a6.mono (Ak (Ae _)) ad
   replace aa := aa.mono (Ak (Ae _)) ad
   replace ar := ar.mono (Ak (Ae _)) ad
   replace au := au.mono (Ak (Ae _)) ad
   replace av := av.mono (Bg (n := 64) (sz := 1) BU) ad
   replace bj := bj.mono (Ae _) ad
   replace ae := ad _ _ ae
   replace aj := ad _ _ aj
   replace al := ad _ _ al
   obtain ⟨ok, bz, dh, ck⟩ := A9 bh
   refine cG call98 ((NN FU) (Au.nil _ _ _) al ae ar au av bj aj a6 aa bx dh) ?_; rintro _ ei _ ba di dk ⟨cn, cp, rfl, rfl, cq⟩
   refine AD (lb (ln rfl)) (Aa ?_)
   refine AT rfl (fun ca => ?_) (fun ca => ?_)
   ·have dm := bt ck ca
    refine AL (NG rfl ?_)
    refine Am (Am ?_)
    refine AA ?_
    obtain rfl := AH dm
    exact mi (kc kn) ⟨cn, cp, ((((ai.trans ah).trans ab).trans ad).trans ba), rfl, z1, cq⟩
   have dp := bf ck ca
   refine Aq (Ax (id := 1) (An ?_))
   refine uv (AY rfl rfl (CZ.CC az bk df)) ?_
   refine um (Aa ?_)
   refine lf ?_
   exact mf kr ⟨_, bu, bz, cn, cp, dp, ((ab.trans ad).trans ba), rfl, z5, cq⟩
  obtain rfl := CZ.zero az bk
  rw [IG] at bh
  refine AL (Am (Am ?_))
  refine AA ?_
  obtain rfl := AH bh
  exact mi (kc kn) ⟨bd, bg, ((ai.trans ah).trans ab), rfl, z1, bj⟩
 rintro e1 ej _ ⟨bn, bo, dq, rfl, cb, dr⟩
 refine Az _ cb (AI (uv (Ao isAgg22 rfl (Has.own 0 rfl) rfl) ?_))
 refine ua (ua (Aa ?_))
 refine kW kn ?_
 refine As (noGoto_ret ?_)
 refine Bu results46 (AP rfl) (AP rfl) (sr) ?_
 obtain ⟨rfl, rfl⟩ := BT cf
 exact ⟨_, _, rfl, rfl, dr⟩
set_option maxHeartbeats 1000000 in
theorem Mn (ct : Au 1 (Bm 1 (iE .i64)) F Ac Ad Ab) (cw : Au 1 (Bm 1 (iE .i64)) F Aj Ai Af) {r r2 : Int} (hr : KO Ab Af Bx = some (r, r2, r3)) :
    Ba Tryz.prog 47 #[.agg #[.slice Ac Ab.length Ad, .slice Aj Af.length Ai], .int .i64 Bx] F (.tuple #[.agg #[.int .i64 r, .int .i64 r2], .int .i64 r3]) := by
 refine sp func47 ntmps47 fun K _ _ => ?_
 rw [KO] at hr
 refine AI ?_
 refine By rfl rfl ?_; intro b1 vf
 refine By rfl rfl ?_; intro b2 vg
 refine A1 rfl zeroValue78 ?_; intro b3 vh
 refine ua (BI ?_)
 refine uv (AE isAgg26 sizeOf26 rfl (Has.own 2 rfl) (A5 rfl) rfl) ?_
 obtain ⟨d, n, h4, r5⟩ := A9 hr
 refine c0 call67 (Ct ct cw h4) ?_; rintro _ F6 _ vi vj ⟨v10, ru, rfl, rfl, dx⟩
 refine AD (lp (ln rfl)) (kO (kf (fS fO) (kf (fS fO) (kf (fS fO) kr))) ?_)
 refine um (ox rfl rfl rfl (ox rfl rfl rfl ?_))
 refine A1 rfl zeroValue45 ?_; intro av ry
 refine A0 (i := 0) sizeOf45 rfl rfl dx.one rfl (A5 rfl) (AD rfl ?_)
 refine ua (Aa (At ?_))
 refine Ap ?_
 refine AI (um ?_)
 refine uv (BH rfl rfl) ?_
 refine ua (Aa ?_)
 refine cQ (fun jg => ?_) fun jg => ?_
 ·have rz := AQ r5 jg
  refine AI ?_
  refine uv (BL (v := .agg #[.int .i64 0, .int .i64 0]) rfl (by intro w; kernel_rfl)) ?_
  refine um (A6 (i := 1) sizeOf78 rfl rfl rfl (by simp [Value.oneCell']) rfl (A5 rfl) (AD rfl ?_))
  refine ua (Aa ?_)
  refine kW (kd (kc kn)) ?_
  refine As (Ay (Al ?_))
  refine Bu results47 (CK (cs := #[.int .i64 0, .int .i64 0]) isAgg78 sizeOf78 rfl (Has.own 0 rfl) (A5 rfl) rfl) (AP rfl) (s1 sr) ?_
  obtain ⟨rfl, rfl, rfl⟩ := IK rz
  exact rfl
 have s5 := AR r5 jg
 refine AI (uv (Ao isAgg3 rfl (Has.own 2 rfl) rfl) (uv (Av Cy rfl) (uv (Ao isAgg23 rfl (Has.own 3 rfl) rfl) (uv (AJ underlying23 rfl) ?_))))
 obtain ⟨s6, s7⟩ := AX s5
 refine uv (C7 rfl rfl s6) ?_
 obtain ⟨ok, s8, p8⟩ := AB s7
 refine cV call55 (D3 s8) (uv (BM rfl) ?_)
 refine ua (Aa ?_)
 refine AT rfl (fun jh => ?_) (fun jh => ?_)
 ·have s9 := bt p8 jh
  refine AI ?_
  refine uv (BL (v := .agg #[.int .i64 0, .int .i64 0]) rfl (by intro w; kernel_rfl)) ?_
  refine A6 (i := 1) sizeOf78 rfl rfl rfl (by simp [Value.oneCell']) rfl (A5 rfl) (AD rfl ?_)
  refine ua (Aa ?_)
  refine kW (kd (kc kn)) ?_
  refine As (Ay (Al ?_))
  refine Bu results47 (CK (cs := #[.int .i64 0, .int .i64 0]) isAgg78 sizeOf78 rfl (Has.own 0 rfl) (A5 rfl) rfl) (AP rfl) (s1 sr) ?_
  obtain ⟨rfl, rfl, rfl⟩ := IK s9
  exact rfl
 have sa := bf p8 jh
 refine At ?_
 obtain ⟨bc, cf, BW, rows, sb, sd⟩ := GV sa
 have p9 := dx; rw [sb] at p9; obtain ⟨bd, vk, vl, vm, vn, vo, bp, ae, ah, vp, vq, ji, ad, bm, bn, se, bo, jj⟩ := CM p9; subst ji; subst jj
 refine Fu (L' := [(av, ce #[.pointer (some ⟨bd, 0, none⟩)] 45), (b3, ce #[.int .i64 0, .int .i64 0] 78), (b2, ce #[.int .i64 Bx] 3), (b1, ce #[.slice Ac Ab.length Ad, .slice Aj Af.length Ai] 26), (bp, .map ae ah)]) rfl (An (uv (Ao isAgg45 rfl (Has.own 0 rfl) rfl) ?_))
 obtain ⟨vr, sf, pa⟩ := AB sd
 refine cV call68 (H2 ad bm bn bo sf) ?_
 refine ua (Aa ?_)
 refine AT rfl (fun jk => ?_) (fun jk => ?_)
 ·have sg := bt pa jk
  refine AI ?_
  refine uv (BL (v := .agg #[.int .i64 0, .int .i64 0]) rfl (by intro w; kernel_rfl)) ?_
  refine A6 (i := 1) sizeOf78 rfl rfl rfl (by simp [Value.oneCell']) rfl (A5 rfl) (AD rfl ?_)
  refine ua (Aa ?_)
  refine kW (kd (kc kn)) ?_
  refine As (Ay (Al ?_))
  refine Bu results47 (CK (cs := #[.int .i64 0, .int .i64 0]) isAgg78 sizeOf78 rfl (Has.own 0 rfl) (A5 rfl) rfl) (AP rfl) (s1 sr) ?_
  obtain ⟨rfl, rfl, rfl⟩ := IK sg
  exact rfl
 have sh := bf pa jk
 refine Aq (Ax (id := 0) (AI ?_))
 refine uv (Ao isAgg45 rfl (Has.own 0 rfl) rfl) ?_
 obtain ⟨l, si, sj⟩ := AB sh
 refine c0 call16 (H7 ad bm bn bo si) ?_; rintro _ vt _ cx jl ⟨aw, vu, ax, sk, rfl, rfl, cy⟩
 replace bm := bm.mono (Ak (Ae _)) cx
 replace bn := bn.mono (Ak (Ae _)) cx
 replace bo := bo.mono (Bg (n := 64) (sz := 1) BU) cx
 replace ad := cx _ _ ad
 replace cy := cy.new fun p hp => jl p (by simp [hp])
 refine AD (lp (ln rfl)) (kO (kf (fS fO) (kf (fS fO) (kf (fS fO) (kf (fS fO) (kf (fS fO) kr))))) ?_)
 obtain rfl := (BG.Be cy).1
 refine Ew (Nat.le_refl _) (Ae _) (fC (fC (fC (fC (fC fP))))) cy ?_; intro pb cz bg
 replace bm := bm.mono (Ak (Ae _)) cz
 replace bn := bn.mono (Ak (Ae _)) cz
 replace bo := bo.mono (Bg (n := 64) (sz := 1) BU) cz
 replace ad := cz _ _ ad
 refine A1 rfl zeroValue23 ?_; intro ar sq
 refine A0 (i := 0) sizeOf23 rfl rfl rfl rfl (A5 rfl) (AD rfl (BI ?_))
 refine A1 rfl zeroValue142 ?_; intro al ss
 refine AD rfl ?_
 refine A1 rfl zeroValue142 ?_; intro ao su
 refine AD rfl (Aa ?_)
 obtain ⟨lo, hi, sv, pd⟩ := A9 sj
 refine AK (fun e1 F1 L1 => AN pb F1 ∧ L1 = [(ao, ce (arr (cI .i64) hi) 142), (al, ce (arr (cI .i64) lo) 142), (ar, ce #[.slice aw l.length ax] 23), (av, ce #[.pointer (some ⟨bd, 0, none⟩)] 45), (b3, ce #[.int .i64 0, .int .i64 0] 78), (bp, .map ae ah)] ∧ e1.sub [(4, .pointer (some ⟨b3, 0, none⟩)), (6, .pointer (some ⟨av, 0, none⟩)), (8, .pointer (some ⟨ar, 0, none⟩)), (9, .pointer (some ⟨al, 0, none⟩)), (10, .pointer (some ⟨ao, 0, none⟩))] ∧ lo.length = 64 ∧ hi.length = 64) ?_ ?_
 ·clear pd
  refine AI (uv (Av Bz rfl) (uv (Ao isAgg24 rfl (Has.own 6 rfl) rfl) (uv (AJ underlying24 rfl) ?_)))
  refine um (Aa ?_)
  refine Ap (kW (kc (kc (kc (kc (kc (kc (kd kr))))))) ?_)
  obtain ⟨sw, sx⟩ := AX sv
  refine A2 (fun ja e1 F1 L1 => ∃ (k : Int), CZ 0 (Af.length : Int) k ja ∧ ∃ (az : List Int) (ba : List Int), HR Bx bc cf rows l ja k az ba = some (lo, hi) ∧ AN pb F1 ∧ L1 = [(ao, ce (arr (cI .i64) ba) 142), (al, ce (arr (cI .i64) az) 142), (ar, ce #[.slice aw l.length ax] 23), (av, ce #[.pointer (some ⟨bd, 0, none⟩)] 45), (b3, ce #[.int .i64 0, .int .i64 0] 78), (b2, ce #[.int .i64 Bx] 3), (bp, .map ae ah)] ∧ e1.sub [(3, .pointer (some ⟨b2, 0, none⟩)), (4, .pointer (some ⟨b3, 0, none⟩)), (6, .pointer (some ⟨av, 0, none⟩)), (8, .pointer (some ⟨ar, 0, none⟩)), (9, .pointer (some ⟨al, 0, none⟩)), (10, .pointer (some ⟨ao, 0, none⟩)), (48, .int .i64 (Af.length : Int)), (49, .int .i64 k)] ∧ az.length = 64 ∧ ba.length = 64) _ (m0 kr ⟨_, CZ.start _ _, List.replicate 64 0, List.replicate 64 0, sx, AN.refl _, rfl, z8, List.length_replicate, List.length_replicate⟩) ?_
  rintro ja e1 pe _ ⟨k, db, az, ba, jb, cg, rfl, jm, jc, jd⟩
  refine Az _ jm ?_
  replace bm := bm.mono (Ak (Ae _)) cg
  replace bn := bn.mono (Ak (Ae _)) cg
  replace bo := bo.mono (Bg (n := 64) (sz := 1) BU) cg
  replace bg := bg.mono (Ak (Ae _)) cg
  replace ad := cg _ _ ad
  refine AI (uv (AV rfl rfl) ?_)
  refine Aa (At ?_)
  refine cQ (fun je => ?_) fun je => ?_
  ·obtain ⟨ja, rfl, jn⟩ := CZ.succ db je
   rw [HR] at jb
   refine Aq ?_
   obtain ⟨jo, jq, sy, pf⟩ := A9 jb
   refine AK (fun e1 F1 L1 => AN pe F1 ∧ L1 = [(ao, ce (arr (cI .i64) jq) 142), (al, ce (arr (cI .i64) jo) 142), (ar, ce #[.slice aw l.length ax] 23), (av, ce #[.pointer (some ⟨bd, 0, none⟩)] 45), (b3, ce #[.int .i64 0, .int .i64 0] 78), (b2, ce #[.int .i64 Bx] 3), (bp, .map ae ah)] ∧ e1.sub [(3, .pointer (some ⟨b2, 0, none⟩)), (4, .pointer (some ⟨b3, 0, none⟩)), (6, .pointer (some ⟨av, 0, none⟩)), (8, .pointer (some ⟨ar, 0, none⟩)), (9, .pointer (some ⟨al, 0, none⟩)), (10, .pointer (some ⟨ao, 0, none⟩)), (48, .int .i64 (Af.length : Int)), (49, .int .i64 k)] ∧ jo.length = 64 ∧ jq.length = 64) ?_ ?_
   ·clear pf
    refine Ap ?_
    refine AI (um ?_)
    refine A1 rfl zeroValue3 ?_; intro bw ta
    refine A0 (i := 0) sizeOf3 rfl rfl rfl rfl (A5 rfl) (AD rfl (BI ?_))
    refine A1 rfl zeroValue142 ?_; intro bb tc
    refine AD rfl ?_
    refine A1 rfl zeroValue142 ?_; intro bh td
    refine AD rfl (Aa ?_)
    obtain ⟨low, high, te, pg⟩ := A9 sy
    refine AK (fun e1 F1 L1 => AN pe F1 ∧ L1 = [(bh, ce (arr (cI .i64) high) 142), (bb, ce (arr (cI .i64) low) 142), (ao, ce (arr (cI .i64) ba) 142), (al, ce (arr (cI .i64) az) 142), (ar, ce #[.slice aw l.length ax] 23), (av, ce #[.pointer (some ⟨bd, 0, none⟩)] 45), (b3, ce #[.int .i64 0, .int .i64 0] 78), (b2, ce #[.int .i64 Bx] 3), (bp, .map ae ah)] ∧ e1.sub [(3, .pointer (some ⟨b2, 0, none⟩)), (4, .pointer (some ⟨b3, 0, none⟩)), (6, .pointer (some ⟨av, 0, none⟩)), (8, .pointer (some ⟨ar, 0, none⟩)), (9, .pointer (some ⟨al, 0, none⟩)), (10, .pointer (some ⟨ao, 0, none⟩)), (12, .pointer (some ⟨bb, 0, none⟩)), (13, .pointer (some ⟨bh, 0, none⟩)), (48, .int .i64 (Af.length : Int)), (49, .int .i64 k)] ∧ low.length = 64 ∧ high.length = 64) ?_ ?_
    ·clear pg
     refine AI (uv (Ao isAgg45 rfl (Has.own 6 rfl) rfl) (uv (Ao isAgg3 rfl (Has.own 2 rfl) rfl) ?_))
     obtain ⟨y, tf, tg⟩ := AB te
     refine c0 call70 (Bt ad bm bn bo tf) ?_; rintro _ F98 _ cu ph ⟨pj, rfl, rfl, dd⟩
     replace bm := bm.mono (Ak (Ae _)) cu
     replace bn := bn.mono (Ak (Ae _)) cu
     replace bo := bo.mono (Bg (n := 64) (sz := 1) BU) cu
     replace bg := bg.mono (Ak (Ae _)) cu
     replace ad := cu _ _ ad
     refine AD (ln rfl) (Aa (Ap ?_))
     refine Cu (encs := (fun x : Int => #[.int .i64 x])) (xs := y) rfl call115 rfl (fun _ => rfl) dd (fun pre F1 L1 => ∃ (tl : List Int) (cj : List Int) (au : List Int), y = pre ++ tl ∧ Fq Bx bc cf rows l az ba k tl cj au = some (low, high) ∧ L1 = [(bh, ce (arr (cI .i64) au) 142), (bb, ce (arr (cI .i64) cj) 142), (bw, ce #[.int .i64 k] 3), (ao, ce (arr (cI .i64) ba) 142), (al, ce (arr (cI .i64) az) 142), (ar, ce #[.slice aw l.length ax] 23), (av, ce #[.pointer (some ⟨bd, 0, none⟩)] 45), (b3, ce #[.int .i64 0, .int .i64 0] 78), (b2, ce #[.int .i64 Bx] 3), (bp, .map ae ah)] ∧ cj.length = 64 ∧ au.length = 64) (fun _ _ _ => False) ?_ ?_ ?_ ?_ ?_ ?_
     ·rintro pre F1 F2 L1 ⟨tl, cj, au, bx, jr, rfl, ay, bu⟩ hx; exact ⟨tl, cj, au, bx, jr, rfl, ay, bu⟩
     ·intro c F1 F2 L1 h hx; exact h
     ·exact ⟨_, List.replicate 64 0, List.replicate 64 0, rfl, tg, rfl, List.length_replicate, List.length_replicate⟩
     ·rintro th pk pn po pq pr js dy pre x ti ck tj _ bz ⟨tl, cj, au, bx, de, rfl, ay, bu⟩
      obtain rfl := Dr bx ck
      rw [Fq] at de
      replace bm := bm.mono (Ak (Ae _)) bz
      replace bn := bn.mono (Ak (Ae _)) bz
      replace bo := bo.mono (Bg (n := 64) (sz := 1) BU) bz
      replace bg := bg.mono (Ak (Ae _)) bz
      replace ad := bz _ _ ad
      refine Az [(3, .pointer (some ⟨b2, 0, none⟩)), (4, .pointer (some ⟨b3, 0, none⟩)), (6, .pointer (some ⟨av, 0, none⟩)), (8, .pointer (some ⟨ar, 0, none⟩)), (9, .pointer (some ⟨al, 0, none⟩)), (10, .pointer (some ⟨ao, 0, none⟩)), (11, .pointer (some ⟨bw, 0, none⟩)), (12, .pointer (some ⟨bb, 0, none⟩)), (13, .pointer (some ⟨bh, 0, none⟩)), (48, .int .i64 (Af.length : Int)), (49, .int .i64 k), (55, .int .i64 x)] (by exact (sc rfl (sc rfl (sc rfl (sc rfl z8))))) (An ?_)
      refine A1 rfl zeroValue3 ?_; intro ai pt
      refine A0 (i := 0) sizeOf3 rfl rfl rfl rfl (A5 rfl) (AD rfl (Aa ?_))
      refine ⟨rfl, ?_⟩
      refine Ap ?_
      refine At (AI ?_)
      refine uv (Ao isAgg3 rfl (Has.own 3 rfl) rfl) (uv (Bb rfl rfl) (Aa ?_))
      refine cQ (fun df => ?_) fun df => ?_
      ·have jt := AQ de df
       refine At (Bd [(.still, 0), (.still, 1), (.still, 2), (.still, 3), (.still, 4), (.still, 5), (.seq, 6)] (by kernel_rfl) (by kernel_rfl) (trivial) (by rfl) (by kernel_rfl) (mL [14] ([(ai, ce #[.int .i64 x] 3)]) rfl (s0 (s2 (s1 (s1 (s1 (s1 (s1 (s1 (s1 (s1 (s1 (s1 sr)))))))))))) (fun H F' L' aj ak => Ao isAgg3 rfl ((Has.own 0 rfl).ext aj ak) rfl) (mL [14] ([(ai, ce #[.int .i64 x] 3)]) rfl (s0 (s2 (s1 (s1 (s1 (s1 (s1 (s1 (s1 (s1 (s1 (s1 sr)))))))))))) (fun H F' L' aj ak => Ao isAgg3 rfl ((Has.own 0 rfl).ext aj ak) rfl) (mL [3] ([(b2, ce #[.int .i64 Bx] 3)]) rfl (s0 (s1 (s1 (s1 (s1 (s1 (s1 (s1 (s1 (s1 (s2 (s1 sr)))))))))))) (fun H F' L' aj ak => Ao isAgg3 rfl ((Has.own 0 rfl).ext aj ak) rfl) ?_))))
       obtain ⟨ju, jv⟩ := AX jt
       refine mS (v := .int .i64 (shr x Bx)) [59, 60] rfl (K0 rfl rfl ju) (mS (v := .int .i64 (Ji (shr x Bx) 1)) [61] rfl (KA rfl rfl) ?_)
       obtain ⟨x2, dz, pv, jw⟩ := A7 jv
       refine mS [12, 58] rfl (B6 underlying142 sizeOf3 rfl rfl (Ci ay dz)) ?_
       refine ⟨_, [(62, .int .i64 (Ji (shr x Bx) 1)), (63, .pointer (some ⟨bb, 0 + (x : Int).toNat * 1, none⟩))], rfl, rfl, z2, by kernel_rfl, ?_⟩; intro H
       obtain ⟨l2, eb, jx⟩ := BS jw
       have dg : l2.length = 64 := by rw [eb, List.length_set]; exact ay
       refine He (i := 2) sizeOf3 (Cq .i64) rfl rfl rfl rfl (Ci ay dz) ay ?_
       refine AD (L' := [(ai, ce #[.int .i64 x] 3), (bh, ce (arr (cI .i64) au) 142), (bb, ce (arr (cI .i64) l2) 142), (bw, ce #[.int .i64 k] 3), (ao, ce (arr (cI .i64) ba) 142), (al, ce (arr (cI .i64) az) 142), (ar, ce #[.slice aw l.length ax] 23), (av, ce #[.pointer (some ⟨bd, 0, none⟩)] 45), (b3, ce #[.int .i64 0, .int .i64 0] 78), (b2, ce #[.int .i64 Bx] 3), (bp, .map ae ah)]) (by rw [eb]; rfl) ?_
       refine Aa ⟨undef, rfl, AN.refl _, [], by kernel_rfl, .inl (.inl rfl), nm, ?_⟩
       refine BC (At (Bd [(.still, 0), (.still, 1), (.still, 2), (.still, 3), (.still, 4), (.seq, 5)] (by kernel_rfl) (by kernel_rfl) (trivial) (by rfl) (by kernel_rfl) (mL [14] ([(ai, ce #[.int .i64 x] 3)]) rfl (s0 (s2 (s1 (s1 (s1 (s1 (s1 (s1 (s1 (s1 (s1 (s1 sr)))))))))))) (fun H F' L' aj ak => Ao isAgg3 rfl ((Has.own 0 rfl).ext aj ak) rfl) (mL [14] ([(ai, ce #[.int .i64 x] 3)]) rfl (s0 (s2 (s1 (s1 (s1 (s1 (s1 (s1 (s1 (s1 (s1 (s1 sr)))))))))))) (fun H F' L' aj ak => Ao isAgg3 rfl ((Has.own 0 rfl).ext aj ak) rfl) ?_))))
       obtain ⟨x3, jz, ec, kb⟩ := A7 jx
       have ef := Kl (Cq .i64) dg ec
       refine mS [12, 65] rfl (B6 underlying142 sizeOf3 rfl rfl (Ci dg jz)) (mL [66] ([(bb, ce (arr (cI .i64) l2) 142)]) rfl (s0 (s1 (s1 (s2 (s1 (s1 (s1 (s1 (s1 (s1 (s1 (s1 sr)))))))))))) (fun H F' L' aj ak => Ao isAgg3 rfl ((Has.own 0 rfl).ext aj ak) ((ef).2.2 0 (by decide))) ?_)
       obtain ⟨x4, eg, pw, kh⟩ := A7 kb
       refine mS [13, 64] rfl (B6 underlying142 sizeOf3 rfl rfl (Ci bu eg)) ?_
       refine ⟨_, [(67, .int .i64 x3), (68, .pointer (some ⟨bh, 0 + (x : Int).toNat * 1, none⟩))], rfl, rfl, z2, by kernel_rfl, ?_⟩; intro H
       obtain ⟨l3, eh, kj⟩ := BS kh
       have kl : l3.length = 64 := by rw [eh, List.length_set]; exact bu
       refine He (i := 1) sizeOf3 (Cq .i64) rfl rfl rfl rfl (Ci bu eg) bu ?_
       refine AD (L' := [(ai, ce #[.int .i64 x] 3), (bh, ce (arr (cI .i64) l3) 142), (bb, ce (arr (cI .i64) l2) 142), (bw, ce #[.int .i64 k] 3), (ao, ce (arr (cI .i64) ba) 142), (al, ce (arr (cI .i64) az) 142), (ar, ce #[.slice aw l.length ax] 23), (av, ce #[.pointer (some ⟨bd, 0, none⟩)] 45), (b3, ce #[.int .i64 0, .int .i64 0] 78), (b2, ce #[.int .i64 Bx] 3), (bp, .map ae ah)]) (by rw [eh]; rfl) ?_
       refine Aa ⟨undef, rfl, AN.refl _, [], by kernel_rfl, .inl (.inl rfl), nm, ?_⟩
       refine BC ?_
       refine AL (Am ?_)
       refine AA ?_
       refine ⟨[(bh, ce (arr (cI .i64) l3) 142), (bb, ce (arr (cI .i64) l2) 142), (bw, ce #[.int .i64 k] 3), (ao, ce (arr (cI .i64) ba) 142), (al, ce (arr (cI .i64) az) 142), (ar, ce #[.slice aw l.length ax] 23), (av, ce #[.pointer (some ⟨bd, 0, none⟩)] 45), (b3, ce #[.int .i64 0, .int .i64 0] 78), (b2, ce #[.int .i64 Bx] 3), (bp, .map ae ah)], ⟨_, .refl _, s1 (s2 (s2 (s2 (s2 (s2 (s2 (s2 (s2 (s2 (s2 sr))))))))))⟩, ?_⟩; exact ⟨_, l2, l3, (by rw [ck]; simp), kj, rfl, dg, kl⟩
      have km := AR de df
      refine Aq (AI ?_)
      refine uv (Ao isAgg3 rfl (Has.own 0 rfl) rfl) ?_
      obtain ⟨x5, ei, px, ko⟩ := A7 km
      refine uv (B6 underlying142 sizeOf3 rfl rfl (Ci ay ei)) ?_
      obtain ⟨dh, ej, kt⟩ := BS ko
      have ku : dh.length = 64 := by rw [ej, List.length_set]; exact ay
      refine He (i := 2) sizeOf3 (Cq .i64) rfl rfl rfl rfl (Ci ay ei) ay ?_
      refine AD (L' := [(ai, ce #[.int .i64 x] 3), (bh, ce (arr (cI .i64) au) 142), (bb, ce (arr (cI .i64) dh) 142), (bw, ce #[.int .i64 k] 3), (ao, ce (arr (cI .i64) ba) 142), (al, ce (arr (cI .i64) az) 142), (ar, ce #[.slice aw l.length ax] 23), (av, ce #[.pointer (some ⟨bd, 0, none⟩)] 45), (b3, ce #[.int .i64 0, .int .i64 0] 78), (b2, ce #[.int .i64 Bx] 3), (bp, .map ae ah)]) (by rw [ej]; rfl) ?_
      refine BI (uv (Ao isAgg45 rfl (Has.own 7 rfl) rfl) (uv (Ao isAgg3 rfl (Has.own 3 rfl) rfl) ?_))
      obtain ⟨kv, kz⟩ := AX kt
      refine uv (C7 rfl rfl kv) ?_
      obtain ⟨y2, la, ld⟩ := AB kz
      refine c0 call70 (Bt ad bm bn bo la) ?_; rintro _ tk _ en py ⟨eo, rfl, rfl, di⟩
      replace bg := bg.mono (Ak (Ae _)) en
      refine AD (ln rfl) (Aa (Ap ?_))
      refine HV dy (encs := (fun x : Int => #[.int .i64 x])) (xs := y2) rfl call115 rfl (fun _ => rfl) di (fun pre F1 L1 => ∃ (du : List Int) (aq : List Int) (ab : List Int), y2 = pre ++ du ∧ Gy Bx l az ba k x (Fq Bx bc cf rows l az ba k ti) du aq ab = some (low, high) ∧ L1 = [(ai, ce #[.int .i64 x] 3), (bh, ce (arr (cI .i64) ab) 142), (bb, ce (arr (cI .i64) aq) 142), (bw, ce #[.int .i64 k] 3), (ao, ce (arr (cI .i64) ba) 142), (al, ce (arr (cI .i64) az) 142), (ar, ce #[.slice aw l.length ax] 23), (av, ce #[.pointer (some ⟨bd, 0, none⟩)] 45), (b3, ce #[.int .i64 0, .int .i64 0] 78), (b2, ce #[.int .i64 Bx] 3), (bp, .map ae ah)] ∧ aq.length = 64 ∧ ab.length = 64) (fun _ _ _ => False) ?_ ?_ ?_ ?_ ?_ ?_
      ·rintro pre F1 F2 L1 ⟨du, aq, ab, ca, lg, rfl, bj, bk⟩ hx; exact ⟨du, aq, ab, ca, lg, rfl, bj, bk⟩
      ·intro c F1 F2 L1 h hx; exact h
      ·exact ⟨_, dh, au, rfl, ld, rfl, ku, bu⟩
      ·rintro tm pz q0 qb qc qd lh qe pre x6 tl4 cn tn _ ep ⟨du, aq, ab, ca, er, rfl, bj, bk⟩
       obtain rfl := Dr ca cn
       rw [Gy] at er
       replace bg := bg.mono (Ak (Ae _)) ep
       refine Az [(3, .pointer (some ⟨b2, 0, none⟩)), (4, .pointer (some ⟨b3, 0, none⟩)), (6, .pointer (some ⟨av, 0, none⟩)), (8, .pointer (some ⟨ar, 0, none⟩)), (9, .pointer (some ⟨al, 0, none⟩)), (10, .pointer (some ⟨ao, 0, none⟩)), (11, .pointer (some ⟨bw, 0, none⟩)), (12, .pointer (some ⟨bb, 0, none⟩)), (13, .pointer (some ⟨bh, 0, none⟩)), (14, .pointer (some ⟨ai, 0, none⟩)), (48, .int .i64 (Af.length : Int)), (49, .int .i64 k), (55, .int .i64 x), (74, .func (.func 115) #[] eo), (75, .int .i64 x6)] (by exact (sc rfl (sc rfl (sc rfl (sc rfl (sc rfl (sc rfl (sc rfl z8)))))))) ?_
       refine An (ua (Aa ?_))
       refine ⟨rfl, ?_⟩
       refine Ap (dW (wv (Ao isAgg23 rfl (Has.own 6 rfl) rfl) (wv (Ao isAgg3 rfl (Has.own 3 rfl) rfl) ?_)))
       obtain ⟨lj, lk⟩ := AX er
       refine wv (C7 rfl rfl lj) ?_
       obtain ⟨x7, et, eu, ll⟩ := A7 lk
       obtain ⟨tp, tq, tr, qf, ew, ey, lq, ⟨tt, tu, rfl, lr⟩, qg, ez⟩ := Au.at (Ak (Ae _)) bg ([(ai, ce #[.int .i64 x] 3), (bh, ce (arr (cI .i64) ab) 142), (bb, ce (arr (cI .i64) aq) 142), (bw, ce #[.int .i64 k] 3), (ao, ce (arr (cI .i64) ba) 142), (al, ce (arr (cI .i64) az) 142), (ar, ce #[.slice aw l.length ax] 23), (av, ce #[.pointer (some ⟨bd, 0, none⟩)] 45), (b3, ce #[.int .i64 0, .int .i64 0] 78), (b2, ce #[.int .i64 Bx] 3), (bp, .map ae ah)]) et.1 eu
       refine wv (AF underlying23 sizeOf22 rfl ew rfl et) (wv (Ao isAgg22 rfl ey (ez 0 (by decide))) (wm ?_))
       obtain ⟨x8, fa, fb, lu⟩ := A7 ll
       obtain ⟨tv, tw, tx, qh, fe, ff, lv, rfl, qi, fg⟩ := Au.at (Ae _) lr ([(ai, ce #[.int .i64 x] 3), (bh, ce (arr (cI .i64) ab) 142), (bb, ce (arr (cI .i64) aq) 142), (bw, ce #[.int .i64 k] 3), (ao, ce (arr (cI .i64) ba) 142), (al, ce (arr (cI .i64) az) 142), (ar, ce #[.slice aw l.length ax] 23), (av, ce #[.pointer (some ⟨bd, 0, none⟩)] 45), (b3, ce #[.int .i64 0, .int .i64 0] 78), (b2, ce #[.int .i64 Bx] 3), (bp, .map ae ah)]) fa.1 fb
       refine wv (AF underlying22 sizeOf3 rfl fe rfl fa) (wv (Ao isAgg3 rfl ff (fg 0 (by decide))) (wm (wv (Ao isAgg3 rfl (Has.own 0 rfl) rfl) ?_)))
       obtain ⟨n2, lx, ly⟩ := AB lu
       refine DL rfl call73 rfl rfl rfl (DU lx) ?_
       obtain ⟨lz, ma⟩ := AX ly
       refine wv (AY rfl rfl lz) (wv (Ao isAgg23 rfl (Has.own 6 rfl) rfl) (wv (Ao isAgg3 rfl (Has.own 3 rfl) rfl) ?_))
       obtain ⟨x9, fh, fi, mb⟩ := A7 ma
       obtain ⟨tz, u0, u1, qj, fj, fk, mc, ⟨u4, u5, rfl, me⟩, qk, fl⟩ := Au.at (Ak (Ae _)) bg ([(ai, ce #[.int .i64 x] 3), (bh, ce (arr (cI .i64) ab) 142), (bb, ce (arr (cI .i64) aq) 142), (bw, ce #[.int .i64 k] 3), (ao, ce (arr (cI .i64) ba) 142), (al, ce (arr (cI .i64) az) 142), (ar, ce #[.slice aw l.length ax] 23), (av, ce #[.pointer (some ⟨bd, 0, none⟩)] 45), (b3, ce #[.int .i64 0, .int .i64 0] 78), (b2, ce #[.int .i64 Bx] 3), (bp, .map ae ah)]) fh.1 fi
       refine wv (AF underlying23 sizeOf22 rfl fj rfl fh) (wv (Ao isAgg22 rfl fk (fl 0 (by decide))) (wv (Ao isAgg3 rfl (Has.own 0 rfl) rfl) ?_))
       obtain ⟨x10, fm, fo, fp⟩ := A7 mb
       obtain ⟨u6, u7, u9, ql, fq, fs, mg, rfl, qn, ft⟩ := Au.at (Ae _) me ([(ai, ce #[.int .i64 x] 3), (bh, ce (arr (cI .i64) ab) 142), (bb, ce (arr (cI .i64) aq) 142), (bw, ce #[.int .i64 k] 3), (ao, ce (arr (cI .i64) ba) 142), (al, ce (arr (cI .i64) az) 142), (ar, ce #[.slice aw l.length ax] 23), (av, ce #[.pointer (some ⟨bd, 0, none⟩)] 45), (b3, ce #[.int .i64 0, .int .i64 0] 78), (b2, ce #[.int .i64 Bx] 3), (bp, .map ae ah)]) fm.1 fo
       refine wv (AF underlying22 sizeOf3 rfl fq rfl fm) (wv (Ao isAgg3 rfl fs (ft 0 (by decide))) (wv (Bb rfl rfl) (BV ?_)))
       refine cQ (fun dk => ?_) fun dk => ?_
       ·have mh := AQ fp dk
        refine AI (uv (Ao isAgg3 rfl (Has.own 0 rfl) rfl) (um (uv (Nu rfl rfl) (uv (Ao isAgg3 rfl (Has.own 9 rfl) rfl) ?_))))
        obtain ⟨mj, ml⟩ := AX mh
        refine uv (K0 rfl rfl mj) (uv (KA rfl rfl) ?_)
        obtain ⟨n3, mn, mo⟩ := BS ml
        refine uv ((EF rfl).i mn) (Aa (Bd [(.still, 0), (.still, 1), (.still, 2), (.still, 3), (.still, 4), (.still, 5), (.still, 6), (.still, 7), (.still, 8), (.still, 9), (.still, 12), (.still, 13), (.still, 14), (.still, 15), (.still, 16), (.still, 17), (.still, 18), (.still, 19), (.still, 20), (.seq, 10), (.seq, 11), (.still, 21), (.seq, 22), (.still, 23), (.seq, 24)] (by kernel_rfl) (by kernel_rfl) (trivial) (by rfl) (by kernel_rfl) (mL [14] ([(ai, ce #[.int .i64 x] 3)]) rfl (s0 (s2 (s1 (s1 (s1 (s1 (s1 (s1 (s1 (s1 (s1 (s1 sr)))))))))))) (fun H F' L' aj ak => Ao isAgg3 rfl ((Has.own 0 rfl).ext aj ak) rfl) (mL [14] ([(ai, ce #[.int .i64 x] 3)]) rfl (s0 (s2 (s1 (s1 (s1 (s1 (s1 (s1 (s1 (s1 (s1 (s1 sr)))))))))))) (fun H F' L' aj ak => Ao isAgg3 rfl ((Has.own 0 rfl).ext aj ak) rfl) (mL [14] ([(ai, ce #[.int .i64 x] 3)]) rfl (s0 (s2 (s1 (s1 (s1 (s1 (s1 (s1 (s1 (s1 (s1 (s1 sr)))))))))))) (fun H F' L' aj ak => Ao isAgg3 rfl ((Has.own 0 rfl).ext aj ak) rfl) ?_)))))
        obtain ⟨ub, dm, fv, mq⟩ := A7 mo
        have fw := Kl (Cq .i64) bj fv
        refine mS [12, 104] rfl (B6 underlying142 sizeOf3 rfl rfl (Ci bj dm)) (mL [105] ([(bb, ce (arr (cI .i64) aq) 142)]) rfl (s0 (s1 (s1 (s2 (s1 (s1 (s1 (s1 (s1 (s1 (s1 (s1 sr)))))))))))) (fun H F' L' aj ak => Ao isAgg3 rfl ((Has.own 0 rfl).ext aj ak) ((fw).2.2 0 (by decide))) (mS [15] rfl (Bj rfl) ?_))
        obtain ⟨dp, mr, fx, mu⟩ := A7 mq
        have fy := Kl (Cq .i64) jc fx
        refine mS [9, 107] rfl (B6 underlying142 sizeOf3 rfl rfl (Ci jc mr)) (mL [108] ([(al, ce (arr (cI .i64) az) 142)]) rfl (s0 (s1 (s1 (s1 (s1 (s1 (s2 (s1 (s1 (s1 (s1 (s1 sr)))))))))))) (fun H F' L' aj ak => Ao isAgg3 rfl ((Has.own 0 rfl).ext aj ak) ((fy).2.2 0 (by decide))) (mS [16] rfl (Bj rfl) ?_))
        obtain ⟨mv, mw⟩ := AX mu
        refine mS (v := .int .i64 (dp + n3)) [109, 110] rfl (AY rfl rfl mv) (mL [14] ([(ai, ce #[.int .i64 x] 3)]) rfl (s0 (s2 (s1 (s1 (s1 (s1 (s1 (s1 (s1 (s1 (s1 (s1 sr)))))))))))) (fun H F' L' aj ak => Ao isAgg3 rfl ((Has.own 0 rfl).ext aj ak) rfl) ?_)
        obtain ⟨jf, dq, g0, mx⟩ := A7 mw
        have g8 := Kl (Cq .i64) bk g0
        refine mS [13, 114] rfl (B6 underlying142 sizeOf3 rfl rfl (Ci bk dq)) (mL [115] ([(bh, ce (arr (cI .i64) ab) 142)]) rfl (s0 (s1 (s2 (s1 (s1 (s1 (s1 (s1 (s1 (s1 (s1 (s1 sr)))))))))))) (fun H F' L' aj ak => Ao isAgg3 rfl ((Has.own 0 rfl).ext aj ak) ((g8).2.2 0 (by decide))) (mS [15] rfl (Bj rfl) ?_))
        obtain ⟨ga, my, gb, mz⟩ := A7 mx
        have gg := Kl (Cq .i64) jd gb
        refine mS [10, 117] rfl (B6 underlying142 sizeOf3 rfl rfl (Ci jd my)) (mL [118] ([(ao, ce (arr (cI .i64) ba) 142)]) rfl (s0 (s1 (s1 (s1 (s1 (s2 (s1 (s1 (s1 (s1 (s1 (s1 sr)))))))))))) (fun H F' L' aj ak => Ao isAgg3 rfl ((Has.own 0 rfl).ext aj ak) ((gg).2.2 0 (by decide))) (mS [16] rfl (Bj rfl) ?_))
        obtain ⟨na, nc⟩ := AX mz
        refine mS (v := .int .i64 (ga + n3)) [119, 120] rfl (AY rfl rfl na) (mS (v := .int .i64 (if ga + n3 > jf then ga + n3 else jf)) [116, 121] rfl (Nk rfl rfl) ?_)
        refine ⟨_, [(111, .int .i64 (dp + n3))], rfl, rfl, z1, by kernel_rfl, ?_⟩; intro H
        refine bA (cs := #[.int .i64 (dp + n3)]) BN [.int .i64 (dp + n3)] ?_; intro gh gi
        refine Aa ⟨_, rfl, AN.refl _, [20, 19, 18, 17, 16, 15, 14, 13, 12, 4, 3, 2, 1, 0], by kernel_rfl, .inl (.inr (fun d h => by cases h; rfl)), (fc sm (fc sm (fc sm (fc (s0 (s1 (s1 (s1 (s1 (s1 (s2 (s1 (s1 (s1 (s1 (s1 (s1 sr))))))))))))) (fc sm (fc sm (fc (s0 (s1 (s1 (s2 (s1 (s1 (s1 (s1 (s1 (s1 (s1 (s1 (s1 sr))))))))))))) (fc sm (fc (s0 (s1 (s2 (s1 (s1 (s1 (s1 (s1 (s1 (s1 (s1 (s1 (s1 sr))))))))))))) (fc (s0 (s1 (s1 (s1 (s2 (s1 (s1 (s1 (s1 (s1 (s1 (s1 (s1 sr))))))))))))) (fc sm (fc (s0 (s1 (s2 (s1 (s1 (s1 (s1 (s1 (s1 (s1 (s1 (s1 (s1 sr))))))))))))) (fc (s0 (s1 (s2 (s1 (s1 (s1 (s1 (s1 (s1 (s1 (s1 (s1 (s1 sr))))))))))))) (fc (s0 (s1 (s2 (s1 (s1 (s1 (s1 (s1 (s1 (s1 (s1 (s1 (s1 sr))))))))))))) nm)))))))))))))), ?_⟩
        refine ⟨_, [(106, .int .i64 ub), (112, .slice (some ⟨gh, 0, none⟩) 1 1)], rfl, rfl, z2, by kernel_rfl, ?_⟩; intro H
        refine AO 0 rfl gi ?_; intro nf gj gk
        refine AD rfl ?_
        have ng : Au 1 (iE .i64) nf (some ⟨gh, 0, none⟩) 1 [dp + n3] := Au.AG (Ae _) (vss := [[.int .i64 (dp + n3)]]) (xs := [dp + n3]) gk (.cons rfl .nil) rfl (by simp [maxLen])
        obtain ⟨n4, nh, ni⟩ := AB nc
        refine cV call72 (GD ng nh) ?_
        refine Aa ⟨_, rfl, gj, [20, 19, 18, 17, 16, 15, 14, 13, 12, 1, 0], by kernel_rfl, .inl (.inr (fun d h => by cases h; rfl)), (fc sm (fc sm (fc sm (fc (s0 (s1 (s1 (s1 (s1 (s2 (s1 (s1 (s1 (s1 (s1 (s1 sr)))))))))))) (fc sm (fc sm (fc (s0 (s1 (s2 (s1 (s1 (s1 (s1 (s1 (s1 (s1 (s1 (s1 sr)))))))))))) (fc sm (fc (s0 (s2 (s1 (s1 (s1 (s1 (s1 (s1 (s1 (s1 (s1 (s1 sr)))))))))))) (fc (s0 (s2 (s1 (s1 (s1 (s1 (s1 (s1 (s1 (s1 (s1 (s1 sr)))))))))))) (fc (s0 (s2 (s1 (s1 (s1 (s1 (s1 (s1 (s1 (s1 (s1 (s1 sr)))))))))))) nm))))))))))), ?_⟩
        refine mS [12, 102] rfl (B6 underlying142 sizeOf3 rfl rfl (Ci bj dm)) ?_
        refine ⟨_, [(113, .int .i64 n4), (123, .pointer (some ⟨bb, 0 + (x : Int).toNat * 1, none⟩))], rfl, rfl, z2, by kernel_rfl, ?_⟩; intro H
        obtain ⟨l4, gl, nj⟩ := BS ni
        have nk : l4.length = 64 := by rw [gl, List.length_set]; exact bj
        refine He (i := 2) sizeOf3 (Cq .i64) rfl rfl rfl rfl (Ci bj dm) bj ?_
        refine AD (L' := [(ai, ce #[.int .i64 x] 3), (bh, ce (arr (cI .i64) ab) 142), (bb, ce (arr (cI .i64) l4) 142), (bw, ce #[.int .i64 k] 3), (ao, ce (arr (cI .i64) ba) 142), (al, ce (arr (cI .i64) az) 142), (ar, ce #[.slice aw l.length ax] 23), (av, ce #[.pointer (some ⟨bd, 0, none⟩)] 45), (b3, ce #[.int .i64 0, .int .i64 0] 78), (b2, ce #[.int .i64 Bx] 3), (bp, .map ae ah)]) (by rw [gl]; rfl) ?_
        refine Aa ⟨undef, rfl, AN.refl _, [20, 19, 18, 17, 16, 15, 14, 13, 12, 1], by kernel_rfl, .inl (.inr (fun d h => by cases h)), (fc sm (fc sm (fc sm (fc (s0 (s1 (s1 (s1 (s1 (s2 (s1 (s1 (s1 (s1 (s1 (s1 sr)))))))))))) (fc sm (fc sm (fc (s0 (s1 (s2 (s1 (s1 (s1 (s1 (s1 (s1 (s1 (s1 (s1 sr)))))))))))) (fc sm (fc (s0 (s2 (s1 (s1 (s1 (s1 (s1 (s1 (s1 (s1 (s1 (s1 sr)))))))))))) (fc (s0 (s2 (s1 (s1 (s1 (s1 (s1 (s1 (s1 (s1 (s1 (s1 sr)))))))))))) nm)))))))))), ?_⟩
        refine mS [13, 103] rfl (B6 underlying142 sizeOf3 rfl rfl (Ci bk dq)) ?_
        refine ⟨_, [(122, .int .i64 (if ga + n3 > jf then ga + n3 else jf)), (124, .pointer (some ⟨bh, 0 + (x : Int).toNat * 1, none⟩))], rfl, rfl, z2, by kernel_rfl, ?_⟩; intro H
        obtain ⟨l5, gm, np⟩ := BS nj
        have nq : l5.length = 64 := by rw [gm, List.length_set]; exact bk
        refine He (i := 1) sizeOf3 (Cq .i64) rfl rfl rfl rfl (Ci bk dq) bk ?_
        refine AD (L' := [(ai, ce #[.int .i64 x] 3), (bh, ce (arr (cI .i64) l5) 142), (bb, ce (arr (cI .i64) l4) 142), (bw, ce #[.int .i64 k] 3), (ao, ce (arr (cI .i64) ba) 142), (al, ce (arr (cI .i64) az) 142), (ar, ce #[.slice aw l.length ax] 23), (av, ce #[.pointer (some ⟨bd, 0, none⟩)] 45), (b3, ce #[.int .i64 0, .int .i64 0] 78), (b2, ce #[.int .i64 Bx] 3), (bp, .map ae ah)]) (by rw [gm]; rfl) ?_
        refine Aa ⟨undef, rfl, AN.refl _, [], by kernel_rfl, .inl (.inl rfl), nm, ?_⟩
        refine BC (Ax (id := 6) ?_)
        refine ⟨[(ai, ce #[.int .i64 x] 3), (bh, ce (arr (cI .i64) l5) 142), (bb, ce (arr (cI .i64) l4) 142), (bw, ce #[.int .i64 k] 3), (ao, ce (arr (cI .i64) ba) 142), (al, ce (arr (cI .i64) az) 142), (ar, ce #[.slice aw l.length ax] 23), (av, ce #[.pointer (some ⟨bd, 0, none⟩)] 45), (b3, ce #[.int .i64 0, .int .i64 0] 78), (b2, ce #[.int .i64 Bx] 3), (bp, .map ae ah)], ⟨_, .refl _, sr⟩, ?_⟩; exact ⟨_, l4, l5, (by rw [cn]; simp), np, rfl, nk, nq⟩
       have nr := AR fp dk
       refine Aq (Ax (id := 6) ?_)
       refine ⟨[(ai, ce #[.int .i64 x] 3), (bh, ce (arr (cI .i64) ab) 142), (bb, ce (arr (cI .i64) aq) 142), (bw, ce #[.int .i64 k] 3), (ao, ce (arr (cI .i64) ba) 142), (al, ce (arr (cI .i64) az) 142), (ar, ce #[.slice aw l.length ax] 23), (av, ce #[.pointer (some ⟨bd, 0, none⟩)] 45), (b3, ce #[.int .i64 0, .int .i64 0] 78), (b2, ce #[.int .i64 Bx] 3), (bp, .map ae ah)], ⟨_, .refl _, sr⟩, ?_⟩; exact ⟨_, aq, ab, (by rw [cn]; simp), nr, rfl, bj, bk⟩
      ·rintro uc _ qo ⟨du, aq, ab, ca, gn, rfl, bj, bk⟩
       obtain rfl := D8 ca; rw [Gy] at gn
       refine Ax (id := 5) (Ax (id := 4) ?_)
       refine ⟨[(bh, ce (arr (cI .i64) ab) 142), (bb, ce (arr (cI .i64) aq) 142), (bw, ce #[.int .i64 k] 3), (ao, ce (arr (cI .i64) ba) 142), (al, ce (arr (cI .i64) az) 142), (ar, ce #[.slice aw l.length ax] 23), (av, ce #[.pointer (some ⟨bd, 0, none⟩)] 45), (b3, ce #[.int .i64 0, .int .i64 0] 78), (b2, ce #[.int .i64 Bx] 3), (bp, .map ae ah)], ⟨_, .refl _, s1 (s2 (s2 (s2 (s2 (s2 (s2 (s2 (s2 (s2 (s2 sr))))))))))⟩, ?_⟩; exact ⟨_, aq, ab, (by rw [ck]; simp), gn, rfl, bj, bk⟩
      intro c F1 L1 hx h; exact h.elim
     ·rintro ud _ gp ⟨tl, cj, au, bx, gq, rfl, ay, bu⟩
      obtain rfl := D8 bx; rw [Fq] at gq
      refine Ax (id := 3) ?_
      obtain ⟨rfl, rfl⟩ := BT gq
      exact mi (kc (kc (kd kr))) ⟨(cu.trans gp), rfl, (sc rfl (sc rfl z8)), ay, bu⟩
     intro c F1 L1 hx h; exact h.elim
    rintro e1 ue _ ⟨gr, rfl, gu, ns, nt⟩
    refine Az _ gu (Bd [(.still, 0), (.still, 1), (.seq, 2), (.seq, 3)] (by kernel_rfl) (by kernel_rfl) (trivial) (by rfl) (by kernel_rfl) (mL [12] ([(bb, ce (arr (cI .i64) low) 142)]) rfl (s0 (s1 (s2 (s1 (s1 (s1 (s1 (s1 (s1 (s1 sr)))))))))) (fun H F' L' aj ak => Lz isAgg142 sizeOf142 rfl ((Has.own 0 rfl).ext aj ak) (H8 (Cq .i64) ns)) (mL [13] ([(bh, ce (arr (cI .i64) high) 142)]) rfl (s0 (s2 (s1 (s1 (s1 (s1 (s1 (s1 (s1 (s1 sr)))))))))) (fun H F' L' aj ak => Lz isAgg142 sizeOf142 rfl ((Has.own 0 rfl).ext aj ak) (H8 (Cq .i64) nt)) ?_)))
    refine ⟨_, [(9, .pointer (some ⟨al, 0, none⟩)), (125, .agg (arr (cI .i64) low))], rfl, rfl, z2, by kernel_rfl, ?_⟩; intro H
    refine Nr (i := 3) sizeOf142 rfl rfl rfl (H8 (Cq .i64) jc) (H8 (Cq .i64) ns) (Ob (Cq .i64)) (AD rfl ?_)
    refine Aa ⟨undef, rfl, AN.refl _, [1], by kernel_rfl, .inl (.inr (fun d h => by cases h)), (fc (s0 (s2 (s1 (s1 (s1 (s1 (s1 (s1 (s1 (s1 sr)))))))))) nm), ?_⟩
    refine ⟨_, [(10, .pointer (some ⟨ao, 0, none⟩)), (126, .agg (arr (cI .i64) high))], rfl, rfl, z2, by kernel_rfl, ?_⟩; intro H
    refine Nr (i := 2) sizeOf142 rfl rfl rfl (H8 (Cq .i64) jd) (H8 (Cq .i64) nt) (Ob (Cq .i64)) (AD rfl ?_)
    refine Aa ⟨undef, rfl, AN.refl _, [], by kernel_rfl, .inl (.inl rfl), nm, ?_⟩
    refine BC (Ax (id := 2) ?_)
    obtain ⟨rfl, rfl⟩ := BT pg
    exact mi (kd (kd kr)) ⟨gr, rfl, z8, ns, nt⟩
   rintro e1 uf _ ⟨gv, rfl, gw, ug, uh⟩
   refine Az _ gw (An (uv (AY rfl rfl (CZ.CC db je sw)) ?_))
   refine um (Aa ?_)
   exact le kr ⟨_, jn, jo, jq, pf, (cg.trans gv), rfl, z8, ug, uh⟩
  obtain rfl := CZ.zero db je
  rw [HR] at jb
  refine AL (Am (Am ?_))
  refine AA ?_
  obtain ⟨rfl, rfl⟩ := BT jb
  exact mi (kc (kc (kc (kc (kc (kd kr)))))) ⟨cg, rfl, z5, jc, jd⟩
 rintro e1 ui _ ⟨cb, rfl, gx, qp, qq⟩
 refine Az _ gx ?_
 replace bm := bm.mono (Ak (Ae _)) cb
 replace bn := bn.mono (Ak (Ae _)) cb
 replace bo := bo.mono (Bg (n := 64) (sz := 1) BU) cb
 replace bg := bg.mono (Ak (Ae _)) cb
 replace ad := cb _ _ ad
 refine At (Bd [(.pre, 6), (.still, 0), (.seq, 1), (.seq, 2), (.still, 3), (.still, 4), (.still, 5), (.alloc (.cells (.int .i64 0 : Value).cells 3 (0, 0)) (fun b => .pointer (some ⟨b, 0, none⟩)) [], 6), (.still, 7), (.seq, 8)] (by kernel_rfl) (by kernel_rfl) (⟨⟨_, _, rfl, rfl, rfl, rfl, rfl, EU zeroValue3⟩, trivial⟩) (by rfl) (by kernel_rfl) ?_)
 refine ⟨⟨[], rfl, sn _, by kernel_rfl⟩, ?_⟩
 refine mL [6] ([(av, ce #[.pointer (some ⟨bd, 0, none⟩)] 45)]) rfl (s0 (s1 (s1 (s1 (s2 (s1 (s1 sr))))))) (fun H F' L' aj ak => Ao isAgg45 rfl ((Has.own 0 rfl).ext aj ak) rfl) ?_
 refine ⟨_, [], rfl, rfl, (sn _), by kernel_rfl, ?_⟩; intro H
 obtain ⟨y3, nu, nv⟩ := AB pd
 refine c0 call86 (MP nu) ?_; rintro _ nw _ bq qs ⟨ny, rfl, rfl, gy⟩
 replace bm := bm.mono (Ak (Ae _)) bq
 replace bn := bn.mono (Ak (Ae _)) bq
 replace bo := bo.mono (Bg (n := 64) (sz := 1) BU) bq
 replace bg := bg.mono (Ak (Ae _)) bq
 replace ad := bq _ _ ad
 refine AD (ln rfl) ?_
 refine Aa ⟨_, rfl, bq, [0], by kernel_rfl, .inl (.inr (fun d h => by cases h; rfl)), (fc (s0 (s1 (s1 (s1 (s2 (s1 (s1 sr))))))) nm), ?_⟩
 refine ⟨_, [(129, .pointer (some ⟨bd, 0, none⟩)), (130, .agg #[ny])], rfl, rfl, z2, by kernel_rfl, ?_⟩; intro H
 obtain ⟨nz, o0⟩ := AX nv
 obtain rfl := gy.2 nz
 have gz : KE Tryz.prog nw 122 #[] #[] (iE .i64) Value.bool (fun qt : Int => Iq qt) := ⟨call122, fun F2 h2 vs qt r ha hr => by obtain rfl := ha; exact LN hr⟩
 obtain ⟨l6, n5, o1, o2⟩ := A9 o0
 refine c0 call85 (Gs ad bm bn bo gz o1) ?_; rintro _ uj _ br qu ⟨o3, o4, o5, ia, rfl, rfl, qw, qx⟩
 replace bm := bm.mono (Ak (Ae _)) br
 replace bn := bn.mono (Ak (Ae _)) br
 replace bo := bo.mono (Bg (n := 64) (sz := 1) BU) br
 replace bg := bg.mono (Ak (Ae _)) br
 replace ad := br _ _ ad
 refine AD (lp (ln rfl)) (kO (kf (fS fO) (kf (fS fO) (kf (fS fO) (kf (fS fO) (kf (fS fO) (kf (fS fO) kr)))))) ?_)
 refine Aa ⟨_, rfl, br, [], by kernel_rfl, .inl (.inl rfl), nm, ?_⟩
 refine mS [131] rfl (Bj rfl) (mS (v := .slice o3 o4 o5) [128] rfl (IN rfl rfl) (mS (v := .int .i64 n5) [128] rfl (IN rfl rfl) ?_))
 refine GW rfl ?_; intro cc qy
 refine Jp (L' := (cc, ce #[.int .i64 0] 3) :: ((ao, ce (arr (cI .i64) hi) 142) :: ((al, ce (arr (cI .i64) lo) 142) :: ((ar, ce #[.slice aw l.length ax] 23) :: ((av, ce #[.pointer (some ⟨bd, 0, none⟩)] 45) :: ((b3, ce #[.int .i64 0, .int .i64 0] 78) :: ((bp, .map ae ah) :: (ia ++ [])))))))) rfl (mS [132] rfl (EF rfl) ?_)
 refine ⟨_, [(18, .pointer (some ⟨cc, 0, none⟩)), (133, .int .i64 n5)], rfl, rfl, z2, by kernel_rfl, ?_⟩; intro H
 refine A0 (i := 0) sizeOf3 rfl rfl rfl rfl (A5 rfl) (AD rfl ?_)
 refine Aa ⟨undef, rfl, AN.refl _, [], by kernel_rfl, .inl (.inl rfl), nm, ?_⟩
 refine BC (AI ?_)
 refine uv (BL (v := .agg #[.int .i64 100, .int .i64 0]) rfl (by intro w; kernel_rfl)) ?_
 refine A1 rfl zeroValue78 ?_; intro bl qz
 refine A6 (i := 0) sizeOf78 rfl rfl rfl (by simp [Value.oneCell']) rfl (A5 rfl) (AD rfl (Aa ?_))
 obtain ⟨cp, cq, o7, ib⟩ := A9 o2
 refine jF ([(bl, ce #[.int .i64 cp, .int .i64 cq] 78), (b3, ce #[.int .i64 0, .int .i64 0] 78)]) [(4, .pointer (some ⟨b3, 0, none⟩)), (19, .pointer (some ⟨bl, 0, none⟩))] ?_ fun uk rb => ?_
 ·clear ib
  refine AI (uv (Ao isAgg45 rfl (Has.own 5 rfl) rfl) (uv (Ao isAgg23 rfl (Has.own 4 rfl) rfl) (uv (AJ underlying23 rfl) ?_)))
  obtain ⟨o8, o9⟩ := AX o7
  refine uv (C7 rfl rfl o8) ?_
  obtain ⟨y4, oc, od⟩ := AB o9
  refine c0 call70 (Bt ad bm bn bo oc) ?_; rintro _ uo _ da re ⟨ic, rfl, rfl, dr⟩
  replace bg := bg.mono (Ak (Ae _)) da
  refine AD (ln rfl) (Aa (Ap (kW (kc (kc (kc (kc (kc (kd (kc kn))))))) ?_)))
  refine Cu (encs := (fun x : Int => #[.int .i64 x])) (xs := y4) rfl call115 rfl (fun _ => rfl) dr (fun pre F1 L1 => ∃ (dv : List Int) (aa : Int) (a6 : Int), y4 = pre ++ dv ∧ GF l lo hi n5 dv aa a6 = some (cp, cq) ∧ L1 = [(bl, ce #[.int .i64 aa, .int .i64 a6] 78), (cc, ce #[.int .i64 n5] 3), (ao, ce (arr (cI .i64) hi) 142), (al, ce (arr (cI .i64) lo) 142), (ar, ce #[.slice aw l.length ax] 23), (b3, ce #[.int .i64 0, .int .i64 0] 78)]) (fun _ _ _ => False) ?_ ?_ ?_ ?_ ?_ ?_
  ·rintro pre F1 F2 L1 ⟨dv, aa, a6, cd, oe, rfl⟩ hx; exact ⟨dv, aa, a6, cd, oe, rfl⟩
  ·intro c F1 F2 L1 h hx; exact h
  ·exact ⟨_, 100, 0, rfl, od, rfl⟩
  ·rintro uq rf rh ri rj rk og rl pre ur tl6 cr uu _ ie ⟨dv, aa, a6, cd, ig, rfl⟩
   obtain rfl := Dr cd cr
   rw [GF] at ig
   replace bg := bg.mono (Ak (Ae _)) ie
   refine Az [(4, .pointer (some ⟨b3, 0, none⟩)), (8, .pointer (some ⟨ar, 0, none⟩)), (9, .pointer (some ⟨al, 0, none⟩)), (10, .pointer (some ⟨ao, 0, none⟩)), (18, .pointer (some ⟨cc, 0, none⟩)), (19, .pointer (some ⟨bl, 0, none⟩)), (139, .func (.func 115) #[] ic), (140, .int .i64 ur)] (by exact z8) ?_
   refine An (ua (Aa ?_))
   refine ⟨rfl, ?_⟩
   refine Ap (dW (wv (Ao isAgg23 rfl (Has.own 4 rfl) rfl) (wv (Ao isAgg23 rfl (Has.own 4 rfl) rfl) (wv (AJ underlying23 rfl) ?_))))
   obtain ⟨oh, oi⟩ := AX ig
   refine wv (C7 rfl rfl oh) ?_
   obtain ⟨x16, ij, ik, oj⟩ := A7 oi
   obtain ⟨uw, ux, uy, rm, il, im, oo, ⟨uz, va, rfl, oq⟩, rp, iq⟩ := Au.at (Ak (Ae _)) bg ([(bl, ce #[.int .i64 aa, .int .i64 a6] 78), (cc, ce #[.int .i64 n5] 3), (ao, ce (arr (cI .i64) hi) 142), (al, ce (arr (cI .i64) lo) 142), (ar, ce #[.slice aw l.length ax] 23), (b3, ce #[.int .i64 0, .int .i64 0] 78)]) ij.1 ik
   refine wv (AF underlying23 sizeOf22 rfl il rfl ij) (wv (Ao isAgg22 rfl im (iq 0 (by decide))) (wm ?_))
   obtain ⟨x17, ir, iu, iv⟩ := A7 oj
   obtain ⟨vb, vc, vd, rq, iw, iy, ot, rfl, rr, iz⟩ := Au.at (Ae _) oq ([(bl, ce #[.int .i64 aa, .int .i64 a6] 78), (cc, ce #[.int .i64 n5] 3), (ao, ce (arr (cI .i64) hi) 142), (al, ce (arr (cI .i64) lo) 142), (ar, ce #[.slice aw l.length ax] 23), (b3, ce #[.int .i64 0, .int .i64 0] 78)]) ir.1 iu
   refine wv (AF underlying22 sizeOf3 rfl iw rfl ir) (wv (Ao isAgg3 rfl iy (iz 0 (by decide))) (wv (Ao isAgg3 rfl (Has.own 1 rfl) rfl) (wv (Bb rfl rfl) (BV ?_))))
   refine cQ (fun dt => ?_) fun dt => ?_
   ·have ou := AQ iv dt
    refine Bd [(.still, 0), (.still, 1), (.still, 2), (.still, 3), (.still, 4), (.still, 7), (.still, 8), (.still, 9), (.still, 10), (.still, 11), (.still, 12), (.seq, 5), (.seq, 6), (.still, 13), (.seq, 14)] (by kernel_rfl) (by kernel_rfl) (trivial) (by rfl) (by kernel_rfl) (mS [19] rfl (Av Ox rfl) (mL [152] ([(bl, ce #[.int .i64 aa, .int .i64 a6] 78)]) rfl (s0 (s2 (s1 (s1 (s1 (s1 (s1 sr))))))) (fun H F' L' aj ak => Ao isAgg3 rfl ((Has.own 0 rfl).ext aj ak) rfl) (mS [20] rfl (Bj rfl) ?_)))
    obtain ⟨dw, ow, j0, oy⟩ := A7 ou
    have j1 := Kl (Cq .i64) qp j0
    refine mS [9, 154] rfl (B6 underlying142 sizeOf3 rfl rfl (Ci qp ow)) (mL [155] ([(al, ce (arr (cI .i64) lo) 142)]) rfl (s0 (s1 (s1 (s1 (s2 (s1 (s1 sr))))))) (fun H F' L' aj ak => Ao isAgg3 rfl ((Has.own 0 rfl).ext aj ak) ((j1).2.2 0 (by decide))) (mS [19] rfl (Av OA rfl) (mL [159] ([(bl, ce #[.int .i64 aa, .int .i64 a6] 78)]) rfl (s0 (s2 (s1 (s1 (s1 (s1 (s1 sr))))))) (fun H F' L' aj ak => Ao isAgg3 rfl ((Has.own 0 rfl).ext aj ak) rfl) (mS [20] rfl (Bj rfl) ?_))))
    obtain ⟨cv, oz, j2, p0⟩ := A7 oy
    have j3 := Kl (Cq .i64) qq j2
    refine mS [10, 161] rfl (B6 underlying142 sizeOf3 rfl rfl (Ci qq oz)) (mL [162] ([(ao, ce (arr (cI .i64) hi) 142)]) rfl (s0 (s1 (s1 (s2 (s1 (s1 (s1 sr))))))) (fun H F' L' aj ak => Ao isAgg3 rfl ((Has.own 0 rfl).ext aj ak) ((j3).2.2 0 (by decide))) (mS (v := .int .i64 (if cv > a6 then cv else a6)) [160, 163] rfl (Nk rfl rfl) ?_))
    refine ⟨_, [(156, .int .i64 dw)], rfl, rfl, z1, by kernel_rfl, ?_⟩; intro H
    refine bA (cs := #[.int .i64 dw]) BN [.int .i64 dw] ?_; intro j4 j5
    refine Aa ⟨_, rfl, AN.refl _, [12, 11, 10, 9, 8, 7, 1, 0], by kernel_rfl, .inl (.inr (fun d h => by cases h; rfl)), (fc sm (fc (s0 (s1 (s1 (s1 (s2 (s1 (s1 (s1 sr)))))))) (fc sm (fc sm (fc (s0 (s1 (s2 (s1 (s1 (s1 (s1 (s1 sr)))))))) (fc sm (fc (s0 (s1 (s2 (s1 (s1 (s1 (s1 (s1 sr)))))))) (fc sm nm)))))))), ?_⟩
    refine ⟨_, [(153, .int .i64 aa), (157, .slice (some ⟨j4, 0, none⟩) 1 1)], rfl, rfl, z2, by kernel_rfl, ?_⟩; intro H
    refine AO 0 rfl j5 ?_; intro p3 j6 j7
    refine AD rfl ?_
    have p4 : Au 1 (iE .i64) p3 (some ⟨j4, 0, none⟩) 1 [dw] := Au.AG (Ae _) (vss := [[.int .i64 dw]]) (xs := [dw]) j7 (.cons rfl .nil) rfl (by simp [maxLen])
    obtain ⟨n6, p5, p6⟩ := AB p0
    refine cV call72 (GD p4 p5) ?_
    refine Aa ⟨_, rfl, j6, [12, 11, 10, 9, 8, 7], by kernel_rfl, .inl (.inr (fun d h => by cases h; rfl)), (fc sm (fc (s0 (s1 (s1 (s2 (s1 (s1 (s1 sr))))))) (fc sm (fc sm (fc (s0 (s2 (s1 (s1 (s1 (s1 (s1 sr))))))) (fc sm nm)))))), ?_⟩
    refine mS (v := .agg #[.int .i64 n6, .int .i64 (if cv > a6 then cv else a6)]) [158, 164] rfl (BL (v := .agg #[.int .i64 n6, .int .i64 (if cv > a6 then cv else a6)]) rfl (by intro w; kernel_rfl)) ?_
    refine ⟨_, [(19, .pointer (some ⟨bl, 0, none⟩)), (165, .agg #[.int .i64 n6, .int .i64 (if cv > a6 then cv else a6)])], rfl, rfl, z2, by kernel_rfl, ?_⟩; intro H
    refine A6 (i := 0) sizeOf78 rfl rfl rfl (by simp [Value.oneCell']) rfl (A5 rfl) (AD rfl ?_)
    refine Aa ⟨undef, rfl, AN.refl _, [], by kernel_rfl, .inl (.inl rfl), nm, ?_⟩
    refine BC (Ax (id := 8) ?_)
    refine ⟨[(bl, ce #[.int .i64 n6, .int .i64 (if cv > a6 then cv else a6)] 78), (cc, ce #[.int .i64 n5] 3), (ao, ce (arr (cI .i64) hi) 142), (al, ce (arr (cI .i64) lo) 142), (ar, ce #[.slice aw l.length ax] 23), (b3, ce #[.int .i64 0, .int .i64 0] 78)], ⟨_, .refl _, sr⟩, ?_⟩; exact ⟨_, n6, if cv > a6 then cv else a6, (by rw [cr]; simp), p6, rfl⟩
   have p7 := AR iv dt
   refine Aq (Ax (id := 8) ?_)
   refine ⟨[(bl, ce #[.int .i64 aa, .int .i64 a6] 78), (cc, ce #[.int .i64 n5] 3), (ao, ce (arr (cI .i64) hi) 142), (al, ce (arr (cI .i64) lo) 142), (ar, ce #[.slice aw l.length ax] 23), (b3, ce #[.int .i64 0, .int .i64 0] 78)], ⟨_, .refl _, sr⟩, ?_⟩; exact ⟨_, aa, a6, (by rw [cr]; simp), p7, rfl⟩
  ·rintro ve _ j8 ⟨dv, aa, a6, cd, j9, rfl⟩
   obtain rfl := D8 cd; rw [GF] at j9
   refine Ax (id := 7) ?_
   obtain ⟨rfl, rfl⟩ := BT j9
   exact mi (kc (kd (kd (kd (kd kr))))) ⟨(da.trans j8), rfl, z2⟩
  intro c F1 L1 hx h; exact h.elim
 refine AI (uv (AE isAgg78 sizeOf78 rfl (Has.own 0 rfl) (A5 rfl) rfl) (A6 (i := 1) sizeOf78 rfl rfl rfl (by simp [Value.oneCell']) rfl (A5 rfl) (AD rfl ?_)))
 refine ua (Aa ?_)
 refine kW (kd kr) (As (Bu results47 (CK (cs := #[.int .i64 cp, .int .i64 cq]) isAgg78 sizeOf78 rfl (Has.own 0 rfl) (A5 rfl) rfl) (AP rfl) (s1 sr) ?_))
 obtain ⟨rfl, rfl, rfl⟩ := IK ib
 exact rfl
theorem Jo (_h_listens : Au 1 (Bm 1 (iE .i64)) F Ac Ad Ab) (_h_hours : Au 1 (Bm 1 (iE .i64)) F Aj Ai Af) {r : Bool} (hr : GS Ab Af hour Bx = some r) :
    Ba Tryz.prog 77 #[.agg #[.slice Ac Ab.length Ad, .slice Aj Af.length Ai], .agg #[.int .i64 hour, .int .i64 Bx]] F (.bool r) := by
 refine sp func77 ntmps77 fun K _ _ => ?_
 rw [GS] at hr
 refine AI ?_
 refine By rfl rfl ?_; intro b1 ae
 refine By rfl rfl ?_; intro b2 ah
 refine ua (BI ?_)
 refine uv (Av GU rfl) (uv (Ao isAgg3 rfl (Has.own 0 rfl) rfl) (uv (Av Bz rfl) (uv (Ao isAgg24 rfl (Has.own 1 rfl) rfl) (uv (AJ underlying24 rfl) ?_))))
 obtain ⟨g3, r4⟩ := AX hr
 refine uv (C7 rfl rfl g3) ?_
 obtain ⟨ok, h5, r6⟩ := AB r4
 refine cV call55 (D3 h5) (um ?_)
 rcases Bf ok with c7 | c7
 ·have r8 := bt r6 c7
  refine nB c7 (uv (Av Hm rfl) (nB c7 (uv (Ao isAgg3 rfl (Has.own 0 rfl) rfl) (nB c7 (uv (Av Cy rfl) (nB c7 (uv (Ao isAgg23 rfl (Has.own 1 rfl) rfl) ?_)))))))
  refine nB c7 (uv (AJ underlying23 rfl) (nB c7 ?_))
  obtain ⟨g9, a6⟩ := AX r8
  refine uv (C7 rfl rfl g9) (nB c7 ?_)
  obtain ⟨ai, aa, ab⟩ := AB a6
  refine cV call55 (D3 aa) (uv (Aw (En rfl c7) rfl) ?_)
  refine ua (Aa ?_)
  refine kW kn (As (BD results77 ?_))
  obtain rfl := AH ab
  exact rfl
 have ad := bf r6 c7
 refine fB c7 (fB c7 (fB c7 (fB c7 (fB c7 (fB c7 (fB c7 ?_))))))
 refine uv (Ar (En rfl c7) rfl) ?_
 refine ua (Aa ?_)
 refine kW kn (As (BD results77 ?_))
 obtain rfl := AH ad
 exact rfl
set_option maxHeartbeats 1000000 in
theorem Il (a6 : Au 1 (Bm 1 (iE .i64)) F Ac Ad Ab) (ah : Au 1 (Bm 1 (iE .i64)) F Aj Ai Af) {r r2 : List (List Int)} (hr : Fx Ab Af hour Bx m = some (r, r2)) :
    SH.Spec Tryz.prog 78 #[.agg #[.slice Ac Ab.length Ad, .slice Aj Af.length Ai], .agg #[.int .i64 hour, .int .i64 Bx], .int .i64 m] F [] fun F' L' v => ∃ (ra : Option Addr) (rn : Nat) (rc : Nat) (rL : LH) (j0 : Option Addr) (j1 : Nat) (j2 : Nat) (j3 : LH), v = .agg #[.slice ra rn rc, .slice j0 j1 j2] ∧ L' = rL ++ (j3 ++ []) ∧ BG 0 22 3 1 (iE .i64) F' ra rn rc r rL ∧ BG 0 36 35 1 (iE .i64) F' j0 j1 j2 r2 j3 := by
 refine sp func78 ntmps78 fun K _ _ => ?_
 rw [Fx] at hr
 refine AI ?_
 refine By rfl rfl ?_; intro b1 nq
 refine By rfl rfl ?_; intro b2 nr
 refine A1 rfl zeroValue26 ?_; intro b3 ns
 refine Aa (At ?_)
 obtain ⟨g4, r5⟩ := AX hr
 refine Bd [(.pre, 9), (.still, 0), (.still, 1), (.still, 2), (.pre, 3), (.still, 4), (.still, 5), (.still, 6), (.seq, 7), (.alloc (ce (madeCells (.slice none 0 0 : Value).cells (Int.toNat (Ab.length : Int) * 1)) 22) (fun b => .slice (some ⟨b, 0, none⟩) (Int.toNat (Ab.length : Int)) (Int.toNat (Ab.length : Int))) [(14, .int .i64 (Ab.length : Int))], 3), (.still, 8), (.alloc (.cells (.agg #[.slice none 0 0, .slice none 0 0] : Value).cells 26 (0, 0)) (fun b => .pointer (some ⟨b, 0, none⟩)) [], 9), (.seq, 10)] (by kernel_rfl) (by kernel_rfl) (⟨⟨_, _, rfl, rfl, rfl, rfl, rfl, Ou FP (by decide) rfl g4⟩, ⟨⟨_, _, rfl, rfl, rfl, rfl, rfl, EU zeroValue26⟩, trivial⟩⟩) (by rfl) (by kernel_rfl) ?_
 refine ⟨⟨[], rfl, sn _, by kernel_rfl⟩, ?_⟩
 refine mS [3] rfl (Av Cy rfl) (mL [12] ([(b1, ce #[.slice Ac Ab.length Ad, .slice Aj Af.length Ai] 26)]) rfl (s0 (s1 (s1 (s2 sr)))) (fun H F' L' ar au => Ao isAgg23 rfl ((Has.own 0 rfl).ext ar au) rfl) (mS [13] rfl (AJ underlying23 rfl) ?_))
 refine ⟨⟨_, rfl, z1, by kernel_rfl⟩, ?_⟩
 refine mS [3] rfl (Av Bz rfl) (mL [16] ([(b1, ce #[.slice Ac Ab.length Ad, .slice Aj Af.length Ai] 26)]) rfl (s0 (s1 (s1 (s2 sr)))) (fun H F' L' ar au => Ao isAgg24 rfl ((Has.own 0 rfl).ext ar au) rfl) (mS [17] rfl (AJ underlying24 rfl) ?_))
 refine ⟨_, [(18, .int .i64 (Af.length : Int))], rfl, rfl, z1, by kernel_rfl, ?_⟩; intro H
 obtain ⟨g6, r7⟩ := AX r5
 obtain ⟨l, h8, r9⟩ := BS r7
 refine Jr (R := MY) (z0 := (none, 0, 0)) (zs := List.replicate ((Af.length : Int) : Int).toNat (none, 0, 0)) rfl KX (by decide) Cm (fun _ => rfl) rfl g6 rfl (fun _ => .c (.c (.c .n))) ?_; intro aj aa al ff
 have bw : BG K.w0.heap.size 36 35 1 (iE .i64) F aj aa aa l al := BG.made ff h8
 refine Aa ⟨_, rfl, AN.refl _, [2, 1, 0], by kernel_rfl, .inl (.inr (fun d h => by cases h; rfl)), (fc sm (fc (s0 (s1 (s1 (s2 (s3 sr))))) (fc sm nm))), ?_⟩
 refine Qb rfl ?_; intro ai fg
 refine Jp (L' := (ai, ce (madeCells (.slice none 0 0 : Value).cells ((Int.toNat (Ab.length : Int)) * 1)) 22) :: ((b3, ce #[.slice none 0 0, .slice none 0 0] 26) :: ((b2, ce #[.int .i64 hour, .int .i64 Bx] 29) :: ((b1, ce #[.slice Ac Ab.length Ad, .slice Aj Af.length Ai] 26) :: (al ++ []))))) rfl ?_
 refine mS (v := .agg #[.slice (some ⟨ai, 0, none⟩) (Int.toNat (Ab.length : Int)) (Int.toNat (Ab.length : Int)), .slice aj aa aa]) [15, 19] rfl (BL (v := .agg #[.slice (some ⟨ai, 0, none⟩) (Int.toNat (Ab.length : Int)) (Int.toNat (Ab.length : Int)), .slice aj aa aa]) rfl (by intro w; kernel_rfl)) ?_
 refine GW rfl ?_; intro ao kl
 refine Jp (L' := (ao, ce #[.slice none 0 0, .slice none 0 0] 26) :: ((ai, ce (madeCells (.slice none 0 0 : Value).cells ((Int.toNat (Ab.length : Int)) * 1)) 22) :: ((b3, ce #[.slice none 0 0, .slice none 0 0] 26) :: ((b2, ce #[.int .i64 hour, .int .i64 Bx] 29) :: ((b1, ce #[.slice Ac Ab.length Ad, .slice Aj Af.length Ai] 26) :: (al ++ [])))))) rfl ?_
 refine ⟨_, [(7, .pointer (some ⟨ao, 0, none⟩)), (20, .agg #[.slice (some ⟨ai, 0, none⟩) (Int.toNat (Ab.length : Int)) (Int.toNat (Ab.length : Int)), .slice aj aa aa])], rfl, rfl, z2, by kernel_rfl, ?_⟩; intro H
 obtain ⟨l2, km, ko⟩ := BS r9
 have fh := AW.made (nb := K.w0.heap.size) (E := 22) (n := (Int.toNat (Ab.length : Int))) (F := F) (z := ((none, 0, 0) : Hd)) Cm (by decide) (fun _ => rfl) fg (Pl g4)
 have cp : BG K.w0.heap.size 22 3 1 (iE .i64) F (some ⟨ai, 0, none⟩) (Int.toNat (Ab.length : Int)) (Int.toNat (Ab.length : Int)) l2 [(ai, ce (madeCells (.slice none 0 0 : Value).cells ((Int.toNat (Ab.length : Int)) * 1)) 22)] := BG.made fh km
 generalize bx : ([(ai, ce (madeCells (.slice none 0 0 : Value).cells ((Int.toNat (Ab.length : Int)) * 1)) 22)] : LH) = bz at cp
 refine BK (L' := bz ++ ((ao, ce #[.slice none 0 0, .slice none 0 0] 26) :: ((b3, ce #[.slice none 0 0, .slice none 0 0] 26) :: ((b2, ce #[.int .i64 hour, .int .i64 Bx] 29) :: ((b1, ce #[.slice Ac Ab.length Ad, .slice Aj Af.length Ai] 26) :: (al ++ [])))))) (by rw [← bx]; exact (fC fO)) ?_
 refine BK (L' := (ao, ce #[.slice none 0 0, .slice none 0 0] 26) :: ((b3, ce #[.slice none 0 0, .slice none 0 0] 26) :: ((b2, ce #[.int .i64 hour, .int .i64 Bx] 29) :: ((b1, ce #[.slice Ac Ab.length Ad, .slice Aj Af.length Ai] 26) :: (bz ++ (al ++ [])))))) (List.Perm.symm (fC (fC (fC (fC fP))))) (A6 (i := 0) sizeOf26 rfl rfl rfl (by simp [Value.oneCell']) rfl (A5 rfl) (AD rfl ?_))
 refine Aa ⟨undef, rfl, AN.refl _, [], by kernel_rfl, .inl (.inl rfl), nm, ?_⟩
 refine BC ?_
 obtain ⟨ae, kt, j4⟩ := AB ko
 refine AK (fun e1 F1 L1 => ∃ (av : LH), AN F F1 ∧ L1 = ((ao, ce #[.slice (some ⟨ai, 0, none⟩) (Int.toNat (Ab.length : Int)) (Int.toNat (Ab.length : Int)), .slice aj aa aa] 26) :: ((b3, ce #[.slice none 0 0, .slice none 0 0] 26) :: ((b2, ce #[.int .i64 hour, .int .i64 Bx] 29) :: ((b1, ce #[.slice Ac Ab.length Ad, .slice Aj Af.length Ai] 26) :: (av ++ (al ++ [])))))) ∧ e1.sub [(2, .int .i64 m), (3, .pointer (some ⟨b1, 0, none⟩)), (4, .pointer (some ⟨b2, 0, none⟩)), (6, .pointer (some ⟨b3, 0, none⟩)), (7, .pointer (some ⟨ao, 0, none⟩))] ∧ BG K.w0.heap.size 22 3 1 (iE .i64) F1 (some ⟨ai, 0, none⟩) (Int.toNat (Ab.length : Int)) (Int.toNat (Ab.length : Int)) ae av) ?_ ?_
 ·clear j4
  refine AI (uv (Av Cy rfl) (uv (Ao isAgg23 rfl (Has.own 3 rfl) rfl) (uv (AJ underlying23 rfl) ?_)))
  refine um (Aa ?_)
  refine Ap ?_
  refine A2 (fun j5 e1 F1 L1 => LA Ab j5 fun tl k => ∃ (ab : List (List Int)) (ax : LH), Ed tl k ab = some ae ∧ AN F F1 ∧ L1 = ((ao, ce #[.slice (some ⟨ai, 0, none⟩) (Int.toNat (Ab.length : Int)) (Int.toNat (Ab.length : Int)), .slice aj aa aa] 26) :: ((b3, ce #[.slice none 0 0, .slice none 0 0] 26) :: ((b2, ce #[.int .i64 hour, .int .i64 Bx] 29) :: ((b1, ce #[.slice Ac Ab.length Ad, .slice Aj Af.length Ai] 26) :: (ax ++ (al ++ [])))))) ∧ e1.sub [(2, .int .i64 m), (3, .pointer (some ⟨b1, 0, none⟩)), (4, .pointer (some ⟨b2, 0, none⟩)), (6, .pointer (some ⟨b3, 0, none⟩)), (7, .pointer (some ⟨ao, 0, none⟩)), (22, .slice Ac Ab.length Ad), (23, .int .i64 (Ab.length : Int)), (24, .int .i64 k)] ∧ BG K.w0.heap.size 22 3 1 (iE .i64) F1 (some ⟨ai, 0, none⟩) (Int.toNat (Ab.length : Int)) (Int.toNat (Ab.length : Int)) ab ax) _ (m0 kr ⟨_, _, rfl, A8.start _, l2, bz, kt, AN.refl _, rfl, z8, cp⟩) ?_
  rintro j5 e1 nt _ ⟨tl, k, fi, ca, ab, ax, fb, cb, rfl, fj, cc⟩
  refine Az _ fj ?_
  replace a6 := a6.mono (Ak (Ae _)) cb
  refine AI (uv (AV rfl rfl) ?_)
  refine Aa (At ?_)
  refine cQ (fun fe => ?_) fun fe => ?_
  ·obtain ⟨x, nu, rfl, fk, j6, fl⟩ := A8.succ ca fe
   rw [Ed] at fb
   refine Aq (At ?_)
   refine Ap ?_
   refine AI (um ?_)
   obtain ⟨nv, nw, ny, ku, fm, fo, j7, ⟨kv, kz, rfl, la⟩, ld, fp⟩ := Au.at (Ak (Ae _)) a6 ((ao, ce #[.slice (some ⟨ai, 0, none⟩) (Int.toNat (Ab.length : Int)) (Int.toNat (Ab.length : Int)), .slice aj aa aa] 26) :: ((b3, ce #[.slice none 0 0, .slice none 0 0] 26) :: ((b2, ce #[.int .i64 hour, .int .i64 Bx] 29) :: ((b1, ce #[.slice Ac Ab.length Ad, .slice Aj Af.length Ai] 26) :: (ax ++ (al ++ [])))))) j6.1 fk
   refine uv (AF underlying23 sizeOf22 rfl fm rfl j6) (uv (Ao isAgg22 rfl fo (fp 0 (by decide))) ?_)
   refine ua (ua (Aa ?_))
   obtain ⟨x2, fq, fs, lg⟩ := A7 fb
   have cq := (BG.Be cc).1
   refine Kw (fC (fC (fC (fC fP)))) cc fs ?_; intro ft fv lh nz o0 o1 lj fw ay lk cd
   refine kW (kf (fS (fS (fS fO))) (kf (fS (fS (fS fO))) (kf (fS (fS (fS fO))) (kf (fS (fS (fS fO))) kr)))) (Bd [(.still, 0), (.still, 1), (.still, 2), (.still, 3), (.seq, 4), (.still, 5), (.seq, 6)] (by kernel_rfl) (by kernel_rfl) (trivial) (by rfl) (by kernel_rfl) (mS [7] rfl (Av Cy rfl) (mL [29] ([(ao, ce #[.slice (some ⟨ai, 0, none⟩) (Int.toNat (Ab.length : Int)) (Int.toNat (Ab.length : Int)), .slice aj aa aa] 26)]) rfl (s0 (s2 (s1 (s1 (s1 (s3 (s3 (s3 (s3 sr))))))))) (fun H F' L' ar au => Ao isAgg23 rfl ((Has.own 0 rfl).ext ar au) rfl) (mS [8] rfl (Bj rfl) (mS [9] rfl (Bj rfl) ?_)))))
   refine ⟨_, [(32, .slice kv x.length kz)], rfl, rfl, z1, by kernel_rfl, ?_⟩; intro H
   obtain ⟨l3, ll, lq⟩ := AB lg
   refine c0 call100 (IC la ll) ?_; rintro _ lr _ az fx ⟨fy, g0, g8, lu, rfl, rfl, cf⟩
   replace a6 := a6.mono (Ak (Ae _)) az
   replace ay := ay.mono Cm az
   replace cd := cd.mono (Ae _) az
   replace cf := cf.new fun p hp => fx p (by simp [hp])
   refine AD (lp (ln rfl)) (kO (kf (fS fO) (kf (fS fO) (kf (fS fO) (kf (fS fO) kr)))) ?_)
   refine Aa ⟨_, rfl, az, [2, 1, 0], by kernel_rfl, .inl (.inr (fun d h => by cases h; rfl)), (fc sm (fc (s0 (s2 (s1 (s1 (s1 (s3 (s3 (s3 (s3 (s3 sr)))))))))) (fc sm nm))), ?_⟩
   obtain ⟨lv, lx, o2, ly, cr, lz, j8, rfl, ma, mb⟩ := AW.at Cm ay (L := fv ++ []) fP fq.1 fw
   refine mS [30, 31] rfl (AF underlying23 sizeOf22 rfl cr rfl (K2 cq fq)) ?_
   refine ⟨_, [(33, .slice fy g0 g8), (34, .pointer (some ⟨lv, lx + (k : Int).toNat * 1, none⟩))], rfl, rfl, z2, by kernel_rfl, ?_⟩; intro H
   refine CQ (zs := ft.set (k : Int).toNat (fy, g0, g8)) (u := (fy, g0, g8)) sizeOf22 Cm rfl cr rfl rfl (fun _ => .c (.c (.c (.c (.s .h))))) ay rfl (Qf cq ay fq) ?_; intro mc ga
   refine kO (kc (kc (kc (kc (ka (ka (kx kr))))))) ?_
   obtain ⟨l4, me, mg⟩ := BS lq
   refine Bp (p := fun X => BG K.w0.heap.size 22 3 1 (iE .i64) lr (some ⟨ai, 0, none⟩) (Int.toNat (Ab.length : Int)) (Int.toNat (Ab.length : Int)) l4 X) (K5.back cd ga cf me) (pT ((fC (fC (fC (fC (fS fP))))).trans (pA ((fC (fC (fC (fC fP)))).trans (pA ((fC (fC (fC (fC fP)))).trans (pA pR)))))) (lp (lp (lp (ln rfl))))) ?_; intro gb gg
   refine kO (kf (fS fO) (kf (fS fO) (kf (fS fO) (kf (fS fO) kr)))) ?_
   refine Aa ⟨undef, rfl, AN.refl _, [], by kernel_rfl, .inl (.inl rfl), nm, ?_⟩
   refine BC ?_
   refine Ax (id := 1) (An ?_)
   refine uv (AY rfl rfl (A8.CC ca fe (Au.lt a6))) ?_
   refine um (Aa ?_)
   subst fi; exact le kr ⟨_, _, rfl, fl, l4, gb, mg, (cb.trans az), rfl, z8, gg⟩
  obtain rfl := A8.zero ca fe
  rw [Ed] at fb
  refine AL (Am (Am ?_))
  refine AA ?_
  obtain rfl := AH fb
  exact mi kr ⟨ax, cb, rfl, z5, cc⟩
 rintro e1 ct _ ⟨av, cu, rfl, gh, gi⟩
 refine Az _ gh ?_
 replace ah := ah.mono (Ak (Ae _)) cu
 replace bw := bw.mono (Ae _) cu
 obtain ⟨ak, gj, cv⟩ := AB j4
 refine AK (fun e1 F1 L1 => ∃ (cg : LH), ct = F1 ∧ L1 = ((ao, ce #[.slice (some ⟨ai, 0, none⟩) (Int.toNat (Ab.length : Int)) (Int.toNat (Ab.length : Int)), .slice aj aa aa] 26) :: ((b3, ce #[.slice none 0 0, .slice none 0 0] 26) :: ((b2, ce #[.int .i64 hour, .int .i64 Bx] 29) :: (av ++ (cg ++ []))))) ∧ e1.sub [(2, .int .i64 m), (4, .pointer (some ⟨b2, 0, none⟩)), (6, .pointer (some ⟨b3, 0, none⟩)), (7, .pointer (some ⟨ao, 0, none⟩))] ∧ BG K.w0.heap.size 36 35 1 (iE .i64) F1 aj aa aa ak cg) ?_ ?_
 ·clear cv
  refine AI (uv (Av Bz rfl) (uv (Ao isAgg24 rfl (Has.own 3 rfl) rfl) (uv (AJ underlying24 rfl) ?_)))
  refine um (Aa ?_)
  refine Ap (kW (kc (kc (kc (kd kr)))) ?_)
  refine A2 (fun j9 e1 F1 L1 => LA Af j9 fun ja k2 => ∃ (ad : List (List Int)) (aq : LH), Ek ja k2 ad = some ak ∧ ct = F1 ∧ L1 = ((ao, ce #[.slice (some ⟨ai, 0, none⟩) (Int.toNat (Ab.length : Int)) (Int.toNat (Ab.length : Int)), .slice aj aa aa] 26) :: ((b3, ce #[.slice none 0 0, .slice none 0 0] 26) :: ((b2, ce #[.int .i64 hour, .int .i64 Bx] 29) :: (av ++ (aq ++ []))))) ∧ e1.sub [(2, .int .i64 m), (4, .pointer (some ⟨b2, 0, none⟩)), (6, .pointer (some ⟨b3, 0, none⟩)), (7, .pointer (some ⟨ao, 0, none⟩)), (37, .slice Aj Af.length Ai), (38, .int .i64 (Af.length : Int)), (39, .int .i64 k2)] ∧ BG K.w0.heap.size 36 35 1 (iE .i64) F1 aj aa aa ad aq) _ (m0 kr ⟨_, _, rfl, A8.start _, l, al, gj, rfl, rfl, z7, bw⟩) ?_
  rintro j9 e1 _ _ ⟨ja, k2, cw, ba, ad, aq, bg, rfl, rfl, cx, bb⟩
  refine Az _ cx (AI (uv (AV rfl rfl) ?_))
  refine Aa (At ?_)
  refine cQ (fun bh => ?_) fun bh => ?_
  ·obtain ⟨x3, o3, rfl, cy, cz, da⟩ := A8.succ ba bh
   rw [Ek] at bg
   refine Aq (At ?_)
   refine Ap ?_
   refine AI (um ?_)
   obtain ⟨mh, mj, ml, jb, db, dd, gk, ⟨mn, mo, rfl, gl⟩, jc, de⟩ := Au.at (Ak (Ae _)) ah ((ao, ce #[.slice (some ⟨ai, 0, none⟩) (Int.toNat (Ab.length : Int)) (Int.toNat (Ab.length : Int)), .slice aj aa aa] 26) :: ((b3, ce #[.slice none 0 0, .slice none 0 0] 26) :: ((b2, ce #[.int .i64 hour, .int .i64 Bx] 29) :: (av ++ (aq ++ []))))) cz.1 cy
   refine uv (AF underlying24 sizeOf36 rfl db rfl cz) (uv (Ao isAgg36 rfl dd (de 0 (by decide))) ?_)
   refine ua (ua (Aa (At ?_)))
   obtain ⟨x4, cj, df, gm⟩ := A7 bg
   have bj := (BG.Be bb).1
   refine Kw (fC (fC (fC (fS fP)))) bb df ?_; intro dg dh jd mq mr mu je di bc jf dk
   refine kW (kf (fS (fS (fS fO))) (kf (fS (fS (fS fO))) (kf (fS (fS (fS fO))) kr))) (Bd [(.still, 0), (.still, 1), (.still, 2), (.still, 3), (.still, 4), (.seq, 5), (.still, 6), (.seq, 7)] (by kernel_rfl) (by kernel_rfl) (trivial) (by rfl) (by kernel_rfl) (mS [7] rfl (Av Bz rfl) (mL [44] ([(ao, ce #[.slice (some ⟨ai, 0, none⟩) (Int.toNat (Ab.length : Int)) (Int.toNat (Ab.length : Int)), .slice aj aa aa] 26)]) rfl (s0 (s2 (s1 (s1 (s3 (s3 (s3 (s3 sr)))))))) (fun H F' L' ar au => Ao isAgg24 rfl ((Has.own 0 rfl).ext ar au) rfl) (mS [10] rfl (Bj rfl) (mS [11] rfl (Bj rfl) (mS [47] rfl (AJ underlying36 rfl) ?_))))))
   refine ⟨_, [(48, .int .i64 (x3.length : Int))], rfl, rfl, z1, by kernel_rfl, ?_⟩; intro H
   obtain ⟨gn, gp⟩ := AX gm
   obtain ⟨l5, gq, gr⟩ := BS gp
   refine Jr (R := (iE .i64)) (z0 := 0) (zs := l5) rfl Kp (by decide) (Ae _) (fun _ => rfl) rfl gn gq (fun _ => .c (.c (.c .n))) ?_; intro ck aw jg dm
   refine Aa ⟨_, rfl, AN.refl _, [2, 1, 0], by kernel_rfl, .inl (.inr (fun d h => by cases h; rfl)), (fc sm (fc (s0 (s2 (s1 (s1 (s3 (s3 (s3 (s3 (s3 sr))))))))) (fc sm nm))), ?_⟩
   obtain ⟨gu, gv, mv, jh, bk, ji, gw, rfl, jj, jk⟩ := AW.at Cm bc (L := dh ++ []) fP cj.1 di
   refine mS [45, 46] rfl (AF underlying24 sizeOf36 rfl bk rfl (K2 bj cj)) ?_
   refine ⟨_, [(49, .slice ck aw aw), (50, .pointer (some ⟨gu, gv + (k2 : Int).toNat * 1, none⟩))], rfl, rfl, z2, by kernel_rfl, ?_⟩; intro H
   refine CQ (zs := dg.set (k2 : Int).toNat (ck, aw, aw)) (u := (ck, aw, aw)) sizeOf36 Cm rfl bk rfl rfl (fun _ => .c (.c (.c (.s .h)))) bc rfl (Qf bj bc cj) ?_; intro jl dp
   refine kO (kc (kc (kc (ka (ka (kx kr)))))) ?_
   obtain ⟨l6, gx, gy⟩ := BS gr
   refine Bp (p := fun X => BG K.w0.heap.size 36 35 1 (iE .i64) ct aj aa aa l6 X) (K5.back dk dp dm gx) (pT ((fC (fC (fC (fS fP)))).trans (pA ((fC (fC (fC fP))).trans (pA ((fC (fC (fC fP))).trans (pA pR)))))) (lp (lp (lp (ln rfl))))) ?_; intro jm bl
   refine kO (kf (fS fO) (kf (fS fO) (kf (fS fO) kr))) ?_
   refine Aa ⟨undef, rfl, AN.refl _, [], by kernel_rfl, .inl (.inl rfl), nm, ?_⟩
   refine BC (An (uv (Av Bz rfl) (uv (Ao isAgg24 rfl (Has.own 0 rfl) rfl) (um ?_))))
   obtain ⟨x5, dq, dr, gz⟩ := A7 gy
   have dt := (BG.Be bl).1
   refine Iu (fC (fC (fC fP))) bl dr ?_; intro jn du dv mw mx my dw bm bn dx dy
   refine kO (kf (fS (fS (fS fO))) (kf (fS (fS (fS fO))) (kf (fS (fS (fS fO))) kr))) ?_
   obtain ⟨mz, na, nc, jo, dz, eb, ia, rfl, jq, ec⟩ := AW.at Cm bn (L := (ao, ce #[.slice (some ⟨ai, 0, none⟩) (Int.toNat (Ab.length : Int)) (Int.toNat (Ab.length : Int)), .slice aj aa aa] 26) :: ((b3, ce #[.slice none 0 0, .slice none 0 0] 26) :: ((b2, ce #[.int .i64 hour, .int .i64 Bx] 29) :: (du ++ (dw ++ (dv ++ (av ++ []))))))) (fC (fC (fC fP))) dq.1 bm
   refine uv (AF underlying24 sizeOf36 rfl dz rfl (K2 dt dq)) (uv (Ao isAgg36 rfl eb (ec 0 (by decide))) (um ?_))
   obtain ⟨l7, ib, ic⟩ := BS gz
   refine N7 (ys := x3) (zs := l7) rfl Kp (Ae _) rfl rfl (fun _ => .c (.c (.c (.s .h)))) dx (Au.src gl) ib ?_; intro jr ef
   obtain ⟨out, ie, ig⟩ := BS ic
   refine Bp (p := fun X => BG K.w0.heap.size 36 35 1 (iE .i64) ct aj aa aa out X) (K5.Lv dy bn bm ef ie) (pT ((fC (fC (fC fP))).trans (pA ((fC (fC (fC fP))).trans (pA ((fC (fC (fC fP))).trans (pA pR)))))) (lp (lp (lp (ln rfl))))) ?_; intro eg eh
   refine kO (kf (fS fO) (kf (fS fO) (kf (fS fO) kr))) ?_
   refine Aa (Ax (id := 3) (An ?_))
   refine uv (AY rfl rfl (A8.CC ba bh (Au.lt ah))) ?_
   refine um (Aa ?_)
   subst cw; exact le (kc (kc (kc (kg (fS fP) kr)))) ⟨_, _, rfl, da, out, eg, ig, rfl, rfl, z7, eh⟩
  obtain rfl := A8.zero ba bh
  rw [Ek] at bg
  refine AL (Am (Am ?_))
  refine AA ?_
  obtain rfl := AH bg
  exact mi kr ⟨aq, rfl, rfl, z4, bb⟩
 rintro e1 _ _ ⟨cg, rfl, rfl, ei, bo⟩
 refine Az _ ei (At ?_)
 obtain ⟨x6, ej, en, ij⟩ := A7 cv
 have eo := (BG.Be bo).1
 refine Kw (fC (fC (fC (fS fP)))) bo en ?_; intro js bp jt nf ng nh ep bq br bd er
 refine kW (kf (fS (fS (fS fO))) (kf (fS (fS (fS fO))) (kf (fS (fS (fS fO))) kr))) (Bd [(.still, 0), (.still, 1), (.still, 2), (.still, 3), (.still, 4), (.still, 5), (.still, 6), (.still, 7), (.still, 8), (.still, 9), (.seq, 10)] (by kernel_rfl) (by kernel_rfl) (trivial) (by rfl) (by kernel_rfl) (mS [7] rfl (Av Bz rfl) (mL [59] ([(ao, ce #[.slice (some ⟨ai, 0, none⟩) (Int.toNat (Ab.length : Int)) (Int.toNat (Ab.length : Int)), .slice aj aa aa] 26)]) rfl (s0 (s2 (s1 (s1 (s3 (s3 (s3 (s3 sr)))))))) (fun H F' L' ar au => Ao isAgg24 rfl ((Has.own 0 rfl).ext ar au) rfl) (mS [4] rfl (Av GU rfl) (mL [61] ([(b2, ce #[.int .i64 hour, .int .i64 Bx] 29)]) rfl (s0 (s1 (s1 (s2 (s3 (s3 (s3 (s3 sr)))))))) (fun H F' L' ar au => Ao isAgg3 rfl ((Has.own 0 rfl).ext ar au) rfl) ?_)))))
 obtain ⟨ni, nj, nk, ju, et, eu, ik, rfl, jv, ew⟩ := AW.at Cm br (L := bp ++ []) fP ej.1 bq
 refine mS [60, 62] rfl (AF underlying24 sizeOf36 rfl et rfl (K2 eo ej)) (mL [63] (bp ++ []) rfl (s0 (s1 (s1 (s1 (s4 (s3 (s3 (s3 sr)))))))) (fun H F' L' ar au => Ao isAgg36 rfl (eu.ext ar au) (ew 0 (by decide))) (mS [4] rfl (Av Hm rfl) (mL [65] ([(b2, ce #[.int .i64 hour, .int .i64 Bx] 29)]) rfl (s0 (s1 (s1 (s2 (s3 (s3 (s3 (s3 sr)))))))) (fun H F' L' ar au => Ao isAgg3 rfl ((Has.own 0 rfl).ext ar au) rfl) (mS [2] rfl (Bj rfl) ?_))))
 obtain ⟨x7, cn, ey, il⟩ := A7 ij
 obtain ⟨im, iq, np, jw, bu, jx, ir, rfl, jz, kb⟩ := AW.at (Ae _) bd (L := ep ++ []) fP cn.1 ey
 refine mS [64, 66] rfl (AF underlying36 sizeOf35 rfl bu rfl (AW.idx bd cn)) ?_
 refine ⟨_, [(67, .int .i64 m), (68, .pointer (some ⟨im, iq + (Bx : Int).toNat * 1, none⟩))], rfl, rfl, z2, by kernel_rfl, ?_⟩; intro H
 obtain ⟨l8, iu, iv⟩ := BS il
 refine CQ (u := m) sizeOf35 (Ae _) rfl bu rfl rfl (fun _ => .c (.c (.c (.s .h)))) bd iu cn ?_; intro kh ez
 refine Aa ⟨undef, rfl, AN.refl _, [], by kernel_rfl, .inl (.inl rfl), nm, ?_⟩
 refine BC (AI (uv (AE isAgg26 sizeOf26 rfl (Has.own 0 rfl) (A5 rfl) rfl) (A6 (i := 1) sizeOf26 rfl rfl rfl (by simp [Value.oneCell']) rfl (A5 rfl) (AD rfl ?_))))
 obtain ⟨iw, iy, iz⟩ := BS iv
 refine Bp (p := fun X => BG K.w0.heap.size 36 35 1 (iE .i64) ct aj aa aa iw X) (K5.Lv er br bq ez iy) (pT ((fC (fC (fC fP))).trans (pA ((fC (fC (fC fP))).trans (pA ((fC (fC (fC fP))).trans (pA pR)))))) (lp (lp (lp (ln rfl))))) ?_; intro kj fa
 refine kO (kf (fS fO) (kf (fS fO) (kf (fS fO) kr))) (Aa (kW (kd (kc (kd (kg (fS fP) kr)))) (As (Lm results78 (CK (cs := #[.slice (some ⟨ai, 0, none⟩) (Int.toNat (Ab.length : Int)) (Int.toNat (Ab.length : Int)), .slice aj aa aa]) isAgg26 sizeOf26 rfl (Has.own 0 rfl) (A5 rfl) rfl) (s1 (s4 (s4 sr))) ?_))))
 obtain ⟨rfl, rfl⟩ := BT iz
 exact ⟨_, _, _, _, _, _, _, _, rfl, rfl, gi.any, fa.any⟩
set_option maxHeartbeats 1000000 in
theorem Ik (ae : F Hx = some (.cells #[.slice Ac Ab.length Ad, .slice Aj Af.length Ai, v1, .slice Dc rows.length Dd] 113 KD)) (aa : Au 1 (Bm 1 (iE .i64)) F Ac Ad Ab) (a6 : Au 1 (Bm 1 (iE .i64)) F Aj Ai Af) (ab : Au 64 (LP 64 cB) F Dc Dd rows) {r : Int} (hr : FA Ab Af rows = some r) :
    Ba Tryz.prog 111 #[.pointer (some ⟨Hx, 0, none⟩)] F (.int .i64 r) := by
 refine sp func111 ntmps111 fun K _ _ => ?_
 rw [FA] at hr
 refine AI (ua (BI (ua (Aa ?_))))
 obtain ⟨n, h2, r3⟩ := AB hr
 refine jF ([]) [(3, .int .i64 n)] ?_ fun cn bh => ?_
 ·clear r3
  refine AI (um ?_)
  refine uv (Bo rfl) (uv (Av HP rfl) (uv (Av Bz rfl) (uv (Ao isAgg24 rfl (Has.frozen ae) rfl) (uv (AJ underlying24 rfl) ?_))))
  refine um (Aa ?_)
  refine Ap ?_
  refine A2 (fun az e1 F1 L1 => LA Af az fun tl k => ∃ (n2 : Int), Ee Ab Af rows tl k n2 = some n ∧ AN F F1 ∧ L1 = [] ∧ e1.sub [(0, .pointer (some ⟨Hx, 0, none⟩)), (3, .int .i64 n2), (11, .int .i64 (Af.length : Int)), (12, .int .i64 k)]) _ (m0 kr ⟨_, _, rfl, A8.start _, 1, h2, AN.refl _, rfl, z4⟩) ?_
  rintro az e1 F8 _ ⟨tl, k, bj, ar, n2, r6, ai, rfl, bk⟩
  refine Az _ bk ?_
  replace aa := aa.mono (Ak (Ae _)) ai
  replace a6 := a6.mono (Ak (Ae _)) ai
  replace ab := ab.mono (Bg (n := 64) (sz := 1) BU) ai
  replace ae := ai _ _ ae
  refine AI (uv (AV rfl rfl) ?_)
  refine Aa (At ?_)
  refine cQ (fun aq => ?_) fun aq => ?_
  ·obtain ⟨x, cp, rfl, bl, cq, au⟩ := A8.succ ar aq
   rw [Ee] at r6
   refine Aq ?_
   obtain ⟨n3, bm, ba⟩ := AB r6
   refine jF ([]) [(0, .pointer (some ⟨Hx, 0, none⟩)), (3, .int .i64 n3), (11, .int .i64 (Af.length : Int)), (12, .int .i64 k)] ?_ fun cr ak => ?_
   ·clear ba
    refine Ap ?_
    refine AI (um (ua (BI ?_)))
    refine A1 rfl zeroValue3 ?_; intro al bn
    refine A0 (i := 0) sizeOf3 rfl rfl rfl rfl (A5 rfl) (AD rfl (Aa ?_))
    obtain ⟨k2, bo, bb⟩ := AB bm
    refine jF ([(al, ce #[.int .i64 k2] 3)]) [(0, .pointer (some ⟨Hx, 0, none⟩)), (3, .int .i64 n2), (5, .pointer (some ⟨al, 0, none⟩)), (11, .int .i64 (Af.length : Int)), (12, .int .i64 k)] ?_ fun ct av => ?_
    ·clear bb
     refine AI (um (um ?_))
     obtain ⟨y, bp, bq⟩ := AB bo
     refine c0 call70 (Bt ae aa a6 ab bp) ?_; rintro _ cu _ aw br ⟨ax, rfl, rfl, ao⟩
     refine AD (ln rfl) (Aa (Ap ?_))
     refine Cu (encs := (fun x : Int => #[.int .i64 x])) (xs := y) rfl call115 rfl (fun _ => rfl) ao (fun pre F1 L1 => ∃ (aj : List Int) (k3 : Int), y = pre ++ aj ∧ Eh aj k3 = some k2 ∧ L1 = [(al, ce #[.int .i64 k3] 3)]) (fun _ _ _ => False) ?_ ?_ ?_ ?_ ?_ ?_
     ·rintro pre F1 F2 L1 ⟨aj, k3, ad, bu, rfl⟩ hx; exact ⟨aj, k3, ad, bu, rfl⟩
     ·intro c F1 F2 L1 h hx; exact h
     ·exact ⟨_, 0, rfl, bq, rfl⟩
     ·rintro cv bw bx bz ca cb bc cc pre x2 cw ah cx _ cd ⟨aj, k3, ad, bd, rfl⟩
      obtain rfl := Dr ad ah
      rw [Eh] at bd
      refine Az [(0, .pointer (some ⟨Hx, 0, none⟩)), (3, .int .i64 n2), (5, .pointer (some ⟨al, 0, none⟩)), (11, .int .i64 (Af.length : Int)), (12, .int .i64 k), (17, .func (.func 115) #[] ax), (18, .int .i64 x2)] (by exact z7) (Aq ?_)
      refine ⟨rfl, ?_⟩
      refine Ap (An (uv (Ao isAgg3 rfl (Has.own 0 rfl) rfl) ?_))
      obtain ⟨cf, cg⟩ := AX bd
      refine uv (AY rfl rfl cf) (A0 (i := 0) sizeOf3 rfl rfl rfl rfl (A5 rfl) (AD rfl ?_))
      refine Aa (Ax (id := 3) ?_)
      refine ⟨[(al, ce #[.int .i64 (k3 + 1)] 3)], ⟨_, .refl _, sr⟩, ?_⟩; exact ⟨_, k3 + 1, (by rw [ah]; simp), cg, rfl⟩
     ·rintro cy _ ay ⟨aj, k3, ad, bg, rfl⟩
      obtain rfl := D8 ad; rw [Eh] at bg
      refine Ax (id := 2) ?_
      obtain rfl := AH bg
      exact mi kr ⟨(aw.trans ay), rfl, z5⟩
     intro c F1 L1 hx h; exact h.elim
    refine An (um ?_)
    refine uv (Ao isAgg3 rfl (Has.own 0 rfl) rfl) ?_
    obtain ⟨cj, ck⟩ := AX bb
    refine uv (NU rfl rfl cj) ?_
    refine ua (Aa (Ax (id := 1) ?_))
    obtain rfl := AH ck
    exact mi kn ⟨av, rfl, z4⟩
   replace a6 := a6.mono (Ak (Ae _)) ak
   refine An (uv (AY rfl rfl (A8.CC ar aq (Au.lt a6))) ?_)
   refine um (Aa ?_)
   subst bj; exact le kr ⟨_, _, rfl, au, n3, ba, (ai.trans ak), rfl, z4⟩
  obtain rfl := A8.zero ar aq
  rw [Ee] at r6
  refine AL (Am (Am ?_))
  refine AA ?_
  obtain rfl := AH r6
  exact mi kr ⟨ai, rfl, z1⟩
 refine AI (um (ua (Aa (As ?_))))
 refine BD results111 ?_
 obtain rfl := AH r3
 exact rfl
end Go.Proofs.YtepdgjpkhkijcaaGreat
