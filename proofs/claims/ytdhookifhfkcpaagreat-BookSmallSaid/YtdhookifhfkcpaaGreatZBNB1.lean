/- The walks that this claim needs, printed by a program of mine; part 1. -/
import Derived.Test.YtdhookifhfkcpaaGreatZBShX
import Derived.Test.YtdhookifhfkcpaaGreatZBYG
import Derived.Test.YtdhookifhfkcpaaGreatZBYE
import Derived.Test.YtdhookifhfkcpaaGreatZBYD
import Derived.Test.YtdhookifhfkcpaaGreatZBTf
import Derived.Test.YtdhookifhfkcpaaGreatZBTd
namespace Go.Proofs.YtdhookifhfkcpaaGreat
open Go.SH Go.PL
open Tryz 
variable {L8 LZ NI NH : Array Value} {heard : Bool} {F : FS} {L4 NM : FuncId} {h hour CY Af n AP Ac Nt v FH x2 : Int} {AN : List (Int × Int × Bool)} {Ak r5 : List (Int × Int × Int)} {Ah : List (List (List Int))} {g Pe : List Bool} {AW r4 Ab : List Int} {P9 P6 Of QD PR Q7 By Bk An Al CX Ad IF I0 E3 Qh : Nat} {Qd Q4 Pq R0 : Nat × Nat} {P3 PT Bw Bl Ao Am CV Ae IH IU E4 Qu : Option Addr}
set_option maxHeartbeats 1000000 in
theorem D7 {r r2 : Int} {r3 : List (List (List Int))} (hr : C1 = some (r, r2, r3, r4, r5)) :
    SH.Spec Tryz.prog 4 #[] F [] fun F' L' v => ∃ (aa : Nat) (ab : Nat) (ad : Nat) (ae : Nat) (ah : Nat) (ai : Nat) (aj : Nat) (ak : Nat), v = .agg #[vI r, vI r2, sL (aD aa) 1 1, sL (aD aj) 3 3, sL (aD ak) 2 2] ∧ L' = [(aa, ce #[sL (aD ab) 8 8] 34), (ab, ce #[sL (aD ad) 1 1, sL (aD ae) 2 2, sL (aD ah) 1 1, sL (aD ai) 1 1, sL none 0 0, sL none 0 0, sL none 0 0, sL none 0 0] 22), (ad, ce #[vI 0] 3), (ae, ce #[vI 0, vI 1] 3), (ah, ce #[vI 1] 3), (ai, ce #[vI 1] 3), (aj, ce #[vI 1, vI (-1), vI 4] 3), (ak, ce #[vI 0, vI 0, vI 0, vI 2, vI 0, vI 0] 32)] ∧ F = F' := by
 refine sp func4 ntmps4 fun K _ _ => ?_
 rw [C1] at hr
 refine AG ?_
 refine Bu rfl zeroValue26 ?_; intro b1 al
 refine BR ?_
 refine bA (cs := #[vI 0]) Bm [vI 0] ?_; intro b2 ao
 refine bA (cs := #[vI 0, vI 1]) Bm [vI 0, vI 1] ?_; intro b3 aq
 refine bA (cs := #[vI 1]) Bm [vI 1] ?_; intro b4 ar
 refine bA (cs := #[vI 1]) Bm [vI 1] ?_; intro b5 au
 refine bA (cs := #[sL (aD b2) 1 1, sL (aD b3) 2 2, sL (aD b4) 1 1, sL (aD b5) 1 1, sL none 0 0, sL none 0 0, sL none 0 0, sL none 0 0]) FI [sL (aD b2) 1 1, sL (aD b3) 2 2, sL (aD b4) 1 1, sL (aD b5) 1 1, sL none 0 0, sL none 0 0, sL none 0 0, sL none 0 0] ?_; intro b6 av
 refine bA (cs := #[sL (aD b6) 8 8]) LI [sL (aD b6) 8 8] ?_; intro b7 aw
 refine bA (cs := #[vI 1, vI (-1), vI 4]) Bm [vI 1, vI (-1), vI 4] ?_; intro b8 ax
 refine uv (BX (v := .agg #[vI 0, vI 0, vI 0]) rfl (by intro w; kernel_rfl)) ?_
 refine uv (BX (v := .agg #[vI 2, vI 0, vI 0]) rfl (by intro w; kernel_rfl)) ?_
 refine bA (cs := #[vI 0, vI 0, vI 0, vI 2, vI 0, vI 0]) H7 [.agg #[vI 0, vI 0, vI 0], .agg #[vI 2, vI 0, vI 0]] ?_; intro b9 ay
 refine uv (BX (v := .agg #[vI 2, vI 1, sL (aD b7) 1 1, sL (aD b8) 3 3, sL (aD b9) 2 2]) rfl (by intro w; kernel_rfl)) ?_
 refine BD (i := 8) sizeOf26 rfl rfl rfl (by simp [Value.oneCell']) rfl (DD rfl) (AB rfl (Aa (kW (kf (fC (fC (fC (fC (fC (fC (fC (fC fO)))))))) (kf (fC (fC fO)) (kf (fC (fC fO)) (kf (fC (fC (fC (fC (fC fO))))) (kf (fC (fC (fC (fC fO)))) (kf (fC (fC (fC fO))) (kf (fC (fC fO)) (kf (fC fO) kr)))))))) (Aw (Mr results4 (GJ (cs := #[vI 2, vI 1, sL (aD b7) 1 1, sL (aD b8) 3 3, sL (aD b9) 2 2]) isAgg26 sizeOf26 rfl (Has.own 0 rfl) (DD rfl) rfl) (s1 (s2 (s2 (s2 (s2 (s2 (s2 (s2 (s2 sr))))))))) ?_)))))
 obtain ⟨rfl, rfl, rfl, rfl, rfl⟩ := Ru hr
 exact ⟨_, _, _, _, _, _, _, _, rfl, rfl, rfl⟩
set_option maxHeartbeats 1000000 in
theorem C6 {r r2 : Int} {r3 : List (List (List Int))} (hr : CT = some (r, r2, r3, r4, r5)) :
    SH.Spec Tryz.prog 4 #[] F [] fun F' L' v => ∃ (bg : Option Addr) (bh : Nat) (bj : Nat) (bk : LH) (bl : Option Addr) (bm : Nat) (bn : Nat) (bo : LH) (bp : Option Addr) (bq : Nat) (br : Nat) (bu : LH), v = .agg #[vI r, vI r2, sL bg bh bj, sL bl bm bn, sL bp bq br] ∧ L' = bk ++ (bo ++ (bu ++ [])) ∧ AI 0 34 1 (CM 1 eJ) F' bg bh bj r3 bk ∧ AI 0 3 1 eI F' bl bm bn r4 bo ∧ AI 0 32 3 (Br eI eP) F' bp bq br r5 bu := by
 refine sp func4 ntmps4 fun K _ _ => ?_
 rw [CT] at hr
 refine AG ?_
 refine Bu rfl zeroValue26 ?_; intro b1 cu
 refine BR ?_
 refine bA (cs := #[vI 0]) Bm [vI 0] ?_; intro b2 bw
 refine bA (cs := #[vI 0, vI 1]) Bm [vI 0, vI 1] ?_; intro b3 bx
 refine bA (cs := #[vI 1]) Bm [vI 1] ?_; intro b4 bz
 refine bA (cs := #[vI 1]) Bm [vI 1] ?_; intro b5 cb
 refine bA (cs := #[sL (aD b2) 1 1, sL (aD b3) 2 2, sL (aD b4) 1 1, sL (aD b5) 1 1, sL none 0 0, sL none 0 0, sL none 0 0, sL none 0 0]) FI [sL (aD b2) 1 1, sL (aD b3) 2 2, sL (aD b4) 1 1, sL (aD b5) 1 1, sL none 0 0, sL none 0 0, sL none 0 0, sL none 0 0] ?_; intro b6 cc
 refine bA (cs := #[sL (aD b6) 8 8]) LI [sL (aD b6) 8 8] ?_; intro b7 cf
 refine bA (cs := #[vI 1, vI (-1), vI 4]) Bm [vI 1, vI (-1), vI 4] ?_; intro b8 cg
 refine uv (BX (v := .agg #[vI 0, vI 0, vI 0]) rfl (by intro w; kernel_rfl)) ?_
 refine uv (BX (v := .agg #[vI 2, vI 0, vI 0]) rfl (by intro w; kernel_rfl)) ?_
 refine bA (cs := #[vI 0, vI 0, vI 0, vI 2, vI 0, vI 0]) H7 [.agg #[vI 0, vI 0, vI 0], .agg #[vI 2, vI 0, vI 0]] ?_; intro b9 cj
 refine uv (BX (v := .agg #[vI 2, vI 1, sL (aD b7) 1 1, sL (aD b8) 3 3, sL (aD b9) 2 2]) rfl (by intro w; kernel_rfl)) ?_
 refine Bj 7 rfl bw ?_; intro ck cn ax
 refine AB rfl ?_
 have aa : At 1 eI ck (aD b2) 1 [0] := At.oI ax
 refine Bj 6 rfl bx ?_; intro cp ay az
 refine AB rfl ?_
 replace aa := aa.m1 ay
 have ae : At 1 eI cp (aD b3) 2 [0, 1] := At.oI az
 refine Bj 5 rfl bz ?_; intro cq al ba
 refine AB rfl ?_
 replace aa := aa.m1 al
 replace ae := ae.m1 al
 have ao : At 1 eI cq (aD b4) 1 [1] := At.oI ba
 refine Bj 4 rfl cb ?_; intro cr ah bb
 refine AB rfl ?_
 replace aa := aa.m1 ah
 replace ae := ae.m1 ah
 replace ao := ao.m1 ah
 have bc : At 1 eI cr (aD b5) 1 [1] := At.oI bb
 refine Bj 3 rfl cc ?_; intro aw ab bd
 refine AB rfl ?_
 replace aa := aa.m1 ab
 replace ae := ae.m1 ab
 replace ao := ao.m1 ab
 replace bc := bc.m1 ab
 have ct : At 1 eJ aw (aD b6) 8 [[0], [0, 1], [1], [1], [], [], [], []] := At.Bd kJ (vss := [[sL (aD b2) [0].length 1], [sL (aD b3) [0, 1].length 2], [sL (aD b4) [1].length 1], [sL (aD b5) [1].length 1], [sL none 0 0], [sL none 0 0], [sL none 0 0], [sL none 0 0]]) (xs := [[0], [0, 1], [1], [1], [], [], [], []]) bd (.cons ⟨_, _, rfl, aa⟩ (.cons ⟨_, _, rfl, ae⟩ (.cons ⟨_, _, rfl, ao⟩ (.cons ⟨_, _, rfl, bc⟩ (.cons ⟨_, _, rfl, At.nil _ _ _⟩ (.cons ⟨_, _, rfl, At.nil _ _ _⟩ (.cons ⟨_, _, rfl, At.nil _ _ _⟩ (.cons ⟨_, _, rfl, At.nil _ _ _⟩ .nil)))))))) rfl (by simp [maxLen])
 have aq : AI K.w0.heap.size 34 1 (CM 1 eJ) aw (aD b7) 1 1 [[[0], [0, 1], [1], [1], [], [], [], []]] [(b7, ce (#[sL (aD b6) [[0], [0, 1], [1], [1], [], [], [], []].length 8]) 34)] := AI.Bd (vss := [[sL (aD b6) [[0], [0, 1], [1], [1], [], [], [], []].length 8]]) (Ay kJ) cf (.cons ⟨_, _, rfl, ct⟩ .nil) rfl rfl (by simp [maxLen])
 generalize ai : ([(b7, ce (#[sL (aD b6) [[0], [0, 1], [1], [1], [], [], [], []].length 8]) 34)] : LH) = Lb30 at aq
 refine Bc (L' := Lb30 ++ [(b9, ce #[vI 0, vI 0, vI 0, vI 2, vI 0, vI 0] 32), (b8, ce #[vI 1, vI (-1), vI 4] 3), (b1, ce #[vI 0, vI 0, sL none 0 0, sL none 0 0, sL none 0 0] 26)]) (by rw [← ai]; exact (fC (fC fO))) ?_
 refine Bc (L' := (b9, ce #[vI 0, vI 0, vI 0, vI 2, vI 0, vI 0] 32) :: ((b8, ce #[vI 1, vI (-1), vI 4] 3) :: ((b1, ce #[vI 0, vI 0, sL none 0 0, sL none 0 0, sL none 0 0] 26) :: (Lb30 ++ [])))) (List.Perm.symm (fC (fC (fC fP)))) ?_
 have ar : AI K.w0.heap.size 3 1 eI aw (aD b8) 3 3 [1, -1, 4] [(b8, ce #[vI 1, vI (-1), vI 4] 3)] := AI.Bd (vss := [[vI 1], [vI (-1)], [vI 4]]) kI cg (.cons rfl (.cons rfl (.cons rfl .nil))) rfl rfl (by simp [maxLen])
 generalize aj : ([(b8, ce #[vI 1, vI (-1), vI 4] 3)] : LH) = ad at ar
 refine Bc (L' := ad ++ ((b9, ce #[vI 0, vI 0, vI 0, vI 2, vI 0, vI 0] 32) :: ((b1, ce #[vI 0, vI 0, sL none 0 0, sL none 0 0, sL none 0 0] 26) :: (Lb30 ++ [])))) (by rw [← aj]; exact (fC fO)) ?_
 refine Bc (L' := (b9, ce #[vI 0, vI 0, vI 0, vI 2, vI 0, vI 0] 32) :: ((b1, ce #[vI 0, vI 0, sL none 0 0, sL none 0 0, sL none 0 0] 26) :: (ad ++ (Lb30 ++ [])))) (List.Perm.symm (fC (fC fP))) ?_
 have au : AI K.w0.heap.size 32 3 (Br eI eP) aw (aD b9) 2 2 [(0, 0, 0), (2, 0, 0)] [(b9, ce #[vI 0, vI 0, vI 0, vI 2, vI 0, vI 0] 32)] := AI.Bd (vss := [[vI 0, vI 0, vI 0], [vI 2, vI 0, vI 0]]) (Ai kI kP) cj (.cons ⟨_, _, rfl, rfl, ⟨_, _, rfl, rfl, rfl⟩⟩ (.cons ⟨_, _, rfl, rfl, ⟨_, _, rfl, rfl, rfl⟩⟩ .nil)) rfl rfl (by simp [maxLen])
 generalize ak : ([(b9, ce #[vI 0, vI 0, vI 0, vI 2, vI 0, vI 0] 32)] : LH) = av at au
 refine Bc (L' := av ++ ((b1, ce #[vI 0, vI 0, sL none 0 0, sL none 0 0, sL none 0 0] 26) :: (ad ++ (Lb30 ++ [])))) (by rw [← ak]; exact fO) ?_
 refine Bc (L' := (b1, ce #[vI 0, vI 0, sL none 0 0, sL none 0 0, sL none 0 0] 26) :: (av ++ (ad ++ (Lb30 ++ [])))) (List.Perm.symm (fC fP)) (BD (i := 0) sizeOf26 rfl rfl rfl (by simp [Value.oneCell']) rfl (DD rfl) (AB rfl (Aa (kW (kc (kg (fS (fS fP)) (kg (fS fP) kr))) (Aw (Mr results4 (GJ (cs := #[vI 2, vI 1, sL (aD b7) 1 1, sL (aD b8) 3 3, sL (aD b9) 2 2]) isAgg26 sizeOf26 rfl (Has.own 0 rfl) (DD rfl) rfl) (s1 (s4 (s4 (s4 sr)))) ?_))))))
 obtain ⟨rfl, rfl, rfl, rfl, rfl⟩ := Ru hr
 exact ⟨_, _, _, _, _, _, _, _, _, _, _, _, rfl, rfl, aq.any, ar.any, au.any⟩
set_option maxHeartbeats 1000000 in
theorem GM {lo hi : Int} {r : Bool} (hr : HT n lo hi = some r) :
    Bp Tryz.prog 63 #[vI n, vI lo, vI hi] F (.bool r) := by
 refine sp func63 ntmps63 fun K _ _ => ?_
 rw [HT] at hr
 refine AG (ua (BR (um (um ?_))))
 refine uv (Hu rfl rfl) (um ?_)
 by_cases c1 : lo ≤ n
 ·have r2 := A2 hr c1
  refine nT c1 (um (nT c1 (um (nT c1 ?_))))
  refine uv (Pc rfl rfl) (uv (AK (Ba rfl c1) rfl) ?_)
  refine ua (Aa (Aw ?_))
  refine B7 results63 ?_
  obtain rfl := AL r2
  exact rfl
 have r3 := A3 hr c1
 refine fF c1 (fF c1 (fF c1 ?_))
 refine uv (AE (AR rfl c1) rfl) ?_
 refine ua (Aa (Aw ?_))
 refine B7 results63 ?_
 obtain rfl := AL r3
 exact rfl
set_option maxHeartbeats 1000000 in
theorem JD {s_ : List (List (List Int))} {f : (List (List Int)) → Option Bool} (aa : At 1 (CM 1 eJ) F E4 E3 s_) (ak : J2 Tryz.prog F L4 L8 LZ (CM 1 eJ) Value.bool f) {r : Int} (hr : FJ s_ f = some r) :
    Bp Tryz.prog 141 #[sL E4 s_.length E3, .func (.func L4) L8 LZ] F (vI r) := by
 refine sp func141 ntmps141 fun K _ _ => ?_
 rw [FJ] at hr
 refine AG (ua (Aa ?_))
 refine AO (fun e1 F1 L1 => Ew = some r ∧ F = F1 ∧ L1 = [] ∧ e1.sub []) ?_ ?_
 ·refine AG (um ?_)
  refine uv (AJ underlying23 rfl) ?_
  refine um (Aa ?_)
  refine As ?_
  refine A6 (fun al e1 F1 L1 => LA s_ al fun tl k => Cz f tl k = some r ∧ F = F1 ∧ L1 = [] ∧ e1.sub [(0, sL E4 s_.length E3), (1, .func (.func L4) L8 LZ), (7, vI (s_.length : Int)), (8, vI k)]) _ (m0 kr ⟨_, _, rfl, Bq.start _, hr, rfl, rfl, z4⟩) ?_
  rintro al e1 _ _ ⟨tl, k, au, ab, r3, rfl, rfl, av⟩
  refine AA _ av (AG (uv (AY rfl rfl) ?_))
  refine Aa (Au ?_)
  refine cQ (fun c6 => ?_) fun c6 => ?_
  ·obtain ⟨x, bg, rfl, aw, g9, ax⟩ := Bq.succ ab c6
   rw [Cz] at r3
   refine Ar (Au ?_)
   refine As ?_
   refine AG (um (ua (BR (um (um (um ?_))))))
   obtain ⟨N4, bh, bj, ay, ad, ae, ao, ⟨bk, bl, rfl, az⟩, ba, ah⟩ := At.ta (Ay kJ) aa g9.1 aw
   refine uv (C0 underlying23 sizeOf34 ad g9) (uv (AS isAgg34 rfl (ae _) (ah 0 (by decide))) ?_)
   obtain ⟨ok, bb, aq⟩ := Az r3
   refine Gx rfl ak.1 rfl rfl rfl (ak.2 _ (AQ.refl _) _ _ _ ⟨_, _, rfl, az⟩ bb) (Aa ?_)
   refine AV rfl (fun ai => ?_) (fun ai => ?_)
   ·have bc := bt aq ai
    refine AG (um (ua (Aa (Aw (AH (Av (Av (AH (Av ?_)))))))))
    refine B7 results141 ?_
    obtain rfl := AL bc
    exact rfl
   have bd := bf aq ai
   refine Ar (AD (id := 1) (Aq ?_))
   refine uv (A4 rfl rfl (Bq.CE ab c6 (At.lt aa))) ?_
   refine um (Aa ?_)
   subst au; exact le kr ⟨_, _, rfl, ax, bd, rfl, rfl, z4⟩
  obtain rfl := Bq.zero ab c6
  rw [Cz] at r3
  refine AM (Aj (Aj ?_))
  refine Ax ?_
  exact mi kr ⟨r3, rfl, rfl, (sn _)⟩
 rintro e1 _ _ ⟨ar, rfl, rfl, aj⟩
 refine AA _ aj ?_
 rw [Ew] at ar
 refine AG (ua (Aa (Aw ?_)))
 refine B7 results141 ?_
 obtain rfl := AL ar
 exact rfl
set_option maxHeartbeats 1000000 in
theorem Jf {s_ : List (List (List Int))} {f : (List (List Int)) → Option Bool} (aa : At 1 (CM 1 eJ) F E4 E3 s_) (ab : J2 Tryz.prog F L4 L8 LZ (CM 1 eJ) Value.bool f) {r : Bool} (hr : Ex s_ f = some r) :
    Bp Tryz.prog 133 #[sL E4 s_.length E3, .func (.func L4) L8 LZ] F (.bool r) := by
 refine sp func133 ntmps133 fun K _ _ => ?_
 rw [Ex] at hr
 refine AG (ua (BR (um (um ?_))))
 obtain ⟨n, h1, r2⟩ := Az hr
 refine cV call141 (JD aa ab h1) (uv (Hu rfl rfl) ?_)
 refine ua (Aa (Aw ?_))
 refine B7 results133 ?_
 obtain rfl := AL r2
 exact rfl
set_option maxHeartbeats 1000000 in
theorem Mm {x : List (List Int)} {so : (List (List Int)) → Option Bool} (ad : At 1 eJ F Qu Qh x) (aa : F QD = some (.cells #[.func (.func NM) NI NH] 160 Q4)) (ab : J2 Tryz.prog F NM NI NH (CM 1 eJ) Value.bool so) {r : Bool} (hr : Hi x so = some r) :
    Bp Tryz.prog 134 #[sL Qu x.length Qh, pO QD] F (.bool r) := by
 refine sp func134 ntmps134 fun K _ _ => ?_
 rw [Hi] at hr
 refine AG (ua (BR ?_))
 refine uv (AS isAgg160 rfl (Has.frozen aa) rfl) (um ?_)
 obtain ⟨ok, h1, r2⟩ := Az hr
 refine Gx rfl ab.1 rfl rfl rfl (ab.2 _ (AQ.refl _) _ _ _ ⟨_, _, rfl, ad⟩ h1) (uv (Bo rfl) ?_)
 refine ua (Aa (Aw ?_))
 refine B7 results134 ?_
 obtain rfl := AL r2
 exact rfl
set_option maxHeartbeats 1000000 in
theorem Nf {l : List (List (List Int))} {so : (List (List Int)) → Option Bool} (ab : At 1 (CM 1 eJ) F CV CX l) (aa : J2 Tryz.prog F NM NI NH (CM 1 eJ) Value.bool so) {r : Bool} (hr : JT l so = some r) :
    Bp Tryz.prog 109 #[sL CV l.length CX, .func (.func NM) NI NH] F (.bool r) := by
 refine sp func109 ntmps109 fun K _ _ => ?_
 rw [JT] at hr
 refine AG ?_
 refine BB rfl rfl ?_; intro b1 ah
 refine ua (BR (um ?_))
 refine uv (CP rfl rfl) ?_
 refine Bj 0 rfl ah ?_; intro F2 ad ai
 refine AB rfl ?_
 replace ab := ab.mono (Ay kJ) ad
 replace aa := aa.mono ad
 have aj : J2 Tryz.prog F2 134 #[] #[pO b1] (CM 1 eJ) Value.bool (fun ae : (List (List Int)) => Hi ae so) := ⟨call134, fun F2 h2 vs ae r ha hr => by obtain ⟨a5, c6, rfl, h7⟩ := ha; exact Mm h7 (h2 _ _ ai) (aa.mono h2) hr⟩
 obtain ⟨ok, h9, ak⟩ := Az hr
 refine cV call133 (Jf ab aj h9) (uv (Bo rfl) ?_)
 refine ua (Aa (Aw ?_))
 refine B7 results109 ?_
 obtain rfl := AL ak
 exact rfl
set_option maxHeartbeats 1000000 in
theorem Lj {l : List (List Int)} (_h_l : At 1 eJ F CV CX l) {r : Bool} (hr : FQ l = some r) :
    Bp Tryz.prog 110 #[sL CV l.length CX] F (.bool r) := by
 refine sp func110 ntmps110 fun K _ _ => ?_
 rw [FQ] at hr
 refine AG (ua (BR (um ?_)))
 refine uv (AJ underlying34 rfl) (uv (Bx rfl rfl) ?_)
 refine ua (Aa (Aw ?_))
 refine B7 results110 ?_
 obtain rfl := AL hr
 exact rfl
set_option maxHeartbeats 1000000 in
theorem LS (ab : At 1 (CM 1 eJ) F Am Al Ah) (_h_readings : At 1 eI F Ae Ad Ab) (_h_cries : At 3 (Br eI eP) F Ao An Ak) {r : Bool} (hr : Ii Af Ac Ah Ab Ak = some r) :
    Bp Tryz.prog 56 #[.agg #[vI Af, vI Ac, sL Am Ah.length Al, sL Ae Ab.length Ad, sL Ao Ak.length An]] F (.bool r) := by
 refine sp func56 ntmps56 fun K _ _ => ?_
 rw [Ii] at hr
 refine AG ?_
 refine BB rfl rfl ?_; intro b1 bc
 refine ua (BR ?_)
 refine uv (Ap Js rfl) (uv (Co isAgg3 0) ?_)
 obtain ⟨ok, h2, r3⟩ := Az hr
 refine cV call63 (GM h2) (um ?_)
 rcases DX ok with c4 | c4
 ·have r5 := bt r3 c4
  refine nB c4 (uv (Ap Iy rfl) (nB c4 (uv (Co isAgg3 0) (nB c4 ?_))))
  obtain ⟨ak, h6, r7⟩ := Az r5
  refine cV call63 (GM h6) (uv (AK (FK rfl c4) rfl) (um ?_))
  rcases DX ak with c8 | c8
  ·have r9 := bt r7 c8
   refine nB c8 (uv (Ap CC rfl) (nB c8 (uv (Co isAgg23 0) (nB c8 (uv (AJ underlying23 rfl) (nB c8 ?_))))))
   obtain ⟨bd, al, ao⟩ := Az r9
   refine cV call63 (GM al) (uv (AK (FK rfl c8) rfl) (um ?_))
   obtain ⟨ad, aq⟩ := AF ao
   refine nB ad (uv (Ap CB rfl) (nB ad (uv (Co isAgg22 0) (nB ad (uv (AJ underlying22 rfl) (nB ad ?_))))))
   obtain ⟨bg, ar, au⟩ := Az aq
   refine cV call63 (GM ar) (uv (AK (FK rfl ad) rfl) (um ?_))
   obtain ⟨ae, ai⟩ := AF au
   refine nB ae (uv (Ap Dv rfl) (nB ae (uv (Co isAgg24 0) (nB ae (uv (AJ underlying24 rfl) (nB ae (uv (Pc rfl rfl) ?_)))))))
   refine uv (AK (FK rfl ae) rfl) (um ?_)
   by_cases aa : (Ak.length : Int) ≤ 12
   ·have av := A2 ai aa
    refine nT aa (uv (Ap CC rfl) (nT aa (uv (Co isAgg23 0) (nT aa ?_))))
    have ah : J2 Tryz.prog F 110 #[] #[] (CM 1 eJ) Value.bool (fun aj : (List (List Int)) => FQ aj) := ⟨call110, fun F2 h2 vs aj r ha hr => by obtain ⟨bh, bj, rfl, aw⟩ := ha; exact Lj aw hr⟩
    obtain ⟨bk, ax, ay⟩ := Az av
    refine cV call109 (Nf ab ah ax) (uv (AK (Ba rfl aa) rfl) ?_)
    refine ua (Aa ?_)
    refine kW kn (Aw (B7 results56 ?_))
    obtain rfl := AL ay
    exact rfl
   have az := A3 ai aa
   refine fF aa (fF aa (fF aa ?_))
   refine uv (AE (AR rfl aa) rfl) ?_
   refine ua (Aa ?_)
   refine kW kn (Aw (B7 results56 ?_))
   obtain rfl := AL az
   exact rfl
  have ba := bf r7 c8
  refine fB c8 (fB c8 (fB c8 (fB c8 ?_)))
  refine uv (AE (FK rfl c8) rfl) ?_
  refine um (AZ (b' := false) 17 rfl rfl rfl rfl (AZ (b' := false) 17 rfl rfl rfl rfl (AZ (b' := false) 17 rfl rfl rfl rfl (AZ (b' := false) 17 rfl rfl rfl rfl ?_))))
  refine uv (AE rfl rfl) ?_
  refine um (AZ (b' := false) 23 rfl rfl rfl rfl (AZ (b' := false) 23 rfl rfl rfl rfl (AZ (b' := false) 23 rfl rfl rfl rfl (AZ (b' := false) 23 rfl rfl rfl rfl ?_))))
  refine uv (AE rfl rfl) ?_
  refine um (AZ (b' := false) 29 rfl rfl rfl rfl (AZ (b' := false) 29 rfl rfl rfl rfl (AZ (b' := false) 29 rfl rfl rfl rfl ?_)))
  refine uv (AE rfl rfl) ?_
  refine ua (Aa ?_)
  refine kW kn (Aw (B7 results56 ?_))
  obtain rfl := AL ba
  exact rfl
 have bb := bf r3 c4
 refine fB c4 (fB c4 (fB c4 ?_))
 refine uv (AE (FK rfl c4) rfl) ?_
 refine um (AZ (b' := false) 11 rfl rfl rfl rfl (AZ (b' := false) 11 rfl rfl rfl rfl (AZ (b' := false) 11 rfl rfl rfl rfl (AZ (b' := false) 11 rfl rfl rfl rfl ?_))))
 refine uv (AE rfl rfl) ?_
 refine um (AZ (b' := false) 17 rfl rfl rfl rfl (AZ (b' := false) 17 rfl rfl rfl rfl (AZ (b' := false) 17 rfl rfl rfl rfl (AZ (b' := false) 17 rfl rfl rfl rfl ?_))))
 refine uv (AE rfl rfl) ?_
 refine um (AZ (b' := false) 23 rfl rfl rfl rfl (AZ (b' := false) 23 rfl rfl rfl rfl (AZ (b' := false) 23 rfl rfl rfl rfl (AZ (b' := false) 23 rfl rfl rfl rfl ?_))))
 refine uv (AE rfl rfl) ?_
 refine um (AZ (b' := false) 29 rfl rfl rfl rfl (AZ (b' := false) 29 rfl rfl rfl rfl (AZ (b' := false) 29 rfl rfl rfl rfl ?_)))
 refine uv (AE rfl rfl) ?_
 refine ua (Aa ?_)
 refine kW kn (Aw (B7 results56 ?_))
 obtain rfl := AL bb
 exact rfl
set_option maxHeartbeats 1000000 in
theorem Kf (_h_hears : At 1 (CM 1 eJ) F Am Al Ah) (_h_readings : At 1 eI F Ae Ad Ab) (_h_cries : At 3 (Br eI eP) F Ao An Ak) {r : Bool} (hr : HN Af Ac Ah Ab Ak h = some r) :
    Bp Tryz.prog 111 #[.agg #[vI Af, vI Ac, sL Am Ah.length Al, sL Ae Ab.length Ad, sL Ao Ak.length An], vI h] F (.bool r) := by
 refine sp func111 ntmps111 fun K _ _ => ?_
 rw [HN] at hr
 refine AG ?_
 refine BB rfl rfl ?_; intro b1 aa
 refine ua (BR (um ?_))
 refine uv (Ap Js rfl) (uv (Co isAgg3 0) ?_)
 obtain ⟨g2, r3⟩ := AF hr
 refine uv (EU rfl rfl g2) ?_
 obtain ⟨ok, h4, r5⟩ := Az r3
 refine cV call63 (GM h4) ?_
 refine ua (Aa ?_)
 refine kW kn (Aw (B7 results111 ?_))
 obtain rfl := AL r5
 exact rfl
set_option maxHeartbeats 1000000 in
theorem KT {s_ : List Int} (aa : At 1 eI F E4 E3 s_) {r : Int} (hr : G8 s_ v = some r) :
    Bp Tryz.prog 135 #[sL E4 s_.length E3, vI v] F (vI r) := by
 refine sp func135 ntmps135 fun K _ _ => ?_
 rw [G8] at hr
 refine AG (ua (Aa ?_))
 refine AO (fun e1 F1 L1 => Gd = some r ∧ F = F1 ∧ L1 = [] ∧ e1.sub []) ?_ ?_
 ·refine AG (um ?_)
  refine uv (AJ underlying22 rfl) ?_
  refine um (Aa ?_)
  refine As ?_
  refine A6 (fun ak e1 F1 L1 => LA s_ ak fun tl k => Df v tl k = some r ∧ F = F1 ∧ L1 = [] ∧ e1.sub [(0, sL E4 s_.length E3), (1, vI v), (7, vI (s_.length : Int)), (8, vI k)]) _ (m0 kr ⟨_, _, rfl, Bq.start _, hr, rfl, rfl, z4⟩) ?_
  rintro ak e1 _ _ ⟨tl, k, aq, ab, r3, rfl, rfl, ar⟩
  refine AA _ ar (AG (uv (AY rfl rfl) ?_))
  refine Aa (Au ?_)
  refine cQ (fun c6 => ?_) fun c6 => ?_
  ·obtain ⟨x, ba, rfl, au, g9, av⟩ := Bq.succ ab c6
   rw [Df] at r3
   refine Ar (Au ?_)
   refine As ?_
   refine AG (um (ua (BR (um (um (um ?_))))))
   obtain ⟨N4, bb, bc, aw, ad, ae, al, rfl, ax, ah⟩ := At.ta kI aa g9.1 au
   refine uv (C0 underlying22 sizeOf3 ad g9) (uv (AS isAgg3 rfl (ae _) (ah 0 (by decide))) (uv (Bx rfl rfl) (Aa ?_)))
   refine cQ (fun ai => ?_) fun ai => ?_
   ·have ay := A2 r3 ai
    refine AG (um (ua (Aa (Aw (AH (Av (Av (AH (Av ?_)))))))))
    refine B7 results135 ?_
    obtain rfl := AL ay
    exact rfl
   have az := A3 r3 ai
   refine Ar (AD (id := 1) (Aq ?_))
   refine uv (A4 rfl rfl (Bq.CE ab c6 (At.lt aa))) ?_
   refine um (Aa ?_)
   subst aq; exact le kr ⟨_, _, rfl, av, az, rfl, rfl, z4⟩
  obtain rfl := Bq.zero ab c6
  rw [Df] at r3
  refine AM (Aj (Aj ?_))
  refine Ax ?_
  exact mi kr ⟨r3, rfl, rfl, (sn _)⟩
 rintro e1 _ _ ⟨ao, rfl, rfl, aj⟩
 refine AA _ aj ?_
 rw [Gd] at ao
 refine AG (ua (Aa (Aw ?_)))
 refine B7 results135 ?_
 obtain rfl := AL ao
 exact rfl
set_option maxHeartbeats 1000000 in
theorem J3 {s_ : List Int} (aa : At 1 eI F E4 E3 s_) {r : Bool} (hr : Gl s_ v = some r) :
    Bp Tryz.prog 112 #[sL E4 s_.length E3, vI v] F (.bool r) := by
 refine sp func112 ntmps112 fun K _ _ => ?_
 rw [Gl] at hr
 refine AG (ua (BR (um (um ?_))))
 obtain ⟨n, h1, r2⟩ := Az hr
 refine cV call135 (KT aa h1) (uv (Hu rfl rfl) ?_)
 refine ua (Aa (Aw ?_))
 refine B7 results112 ?_
 obtain rfl := AL r2
 exact rfl
set_option maxHeartbeats 1000000 in
theorem JS {l : List Int} (ab : At 1 (CM 1 eJ) F Am Al Ah) (aa : At 1 eI F Ae Ad Ab) (ad : At 3 (Br eI eP) F Ao An Ak) (ah : At 1 eI F CV CX l) {r : Int} (hr : Hk Af Ac Ah Ab Ak l = some r) :
    Bp Tryz.prog 57 #[.agg #[vI Af, vI Ac, sL Am Ah.length Al, sL Ae Ab.length Ad, sL Ao Ak.length An], sL CV l.length CX] F (vI r) := by
 refine sp func57 ntmps57 fun K _ _ => ?_
 rw [Hk] at hr
 refine AG ?_
 refine BB rfl rfl ?_; intro b1 bx
 refine ua (Aa ?_)
 refine AO (fun e1 F1 L1 => Hy = some r ∧ F = F1 ∧ L1 = [] ∧ e1.sub []) ?_ ?_
 ·refine AG (um ?_)
  refine uv (AJ underlying22 rfl) ?_
  refine um (Aa ?_)
  refine As ?_
  refine A6 (fun au e1 F1 L1 => LA l au fun tl k => En Af Ac Ah Ab Ak l tl k = some r ∧ F = F1 ∧ L1 = [(b1, ce #[vI Af, vI Ac, sL Am Ah.length Al, sL Ae Ab.length Ad, sL Ao Ak.length An] 26)] ∧ e1.sub [(1, sL CV l.length CX), (2, pO b1), (7, sL CV l.length CX), (8, vI (l.length : Int)), (9, vI k)]) _ (m0 kr ⟨_, _, rfl, Bq.start _, hr, rfl, rfl, z5⟩) ?_
  rintro au e1 _ _ ⟨tl, k, ba, ai, r4, rfl, rfl, bb⟩
  refine AA _ bb (AG (uv (AY rfl rfl) ?_))
  refine Aa (Au ?_)
  refine cQ (fun c7 => ?_) fun c7 => ?_
  ·obtain ⟨x, bz, rfl, bc, av, bd⟩ := Bq.succ ai c7
   rw [En] at r4
   refine Ar (Au ?_)
   refine As ?_
   refine AG (um ?_)
   obtain ⟨RS, cb, cc, bg, aj, ak, aw, rfl, bh, al⟩ := At.ta kI ah av.1 bc
   refine uv (C0 underlying22 sizeOf3 aj av) (uv (AS isAgg3 rfl (ak _) (al 0 (by decide))) ?_)
   refine ua (ua (Aa (Au (AG ?_))))
   refine uv (Cv isAgg26 sizeOf26 0) (um ?_)
   obtain ⟨ok, bj, ax⟩ := Az r4
   refine cV call111 (Kf ab aa ad bj) (uv (Bo rfl) (Aa ?_))
   refine AV rfl (fun ao => ?_) (fun ao => ?_)
   ·have bk := bt ax ao
    refine AG (ua (Aa ?_))
    refine kW kn ?_
    refine Aw (Av (AH (Av (Av (AH (Av ?_))))))
    refine B7 results57 ?_
    obtain rfl := AL bk
    exact rfl
   have bl := bf ax ao
   refine Ar (AG (um (um ?_)))
   obtain ⟨bm, bn⟩ := AF bl
   obtain ⟨l2, bo, bp⟩ := BI bn
   obtain ⟨cf, cg, bq, ae⟩ := At.slice kI ah bm bo
   refine uv ((I3 (l := 0) (h := k) underlying22 sizeOf3 rfl (.inl ⟨rfl, rfl⟩) (.inr ⟨_, rfl, rfl⟩) ae.1).eq ae.2) (um ?_)
   obtain ⟨cj, br, ay⟩ := Az bp
   refine cV call112 (J3 bq br) (Aa ?_)
   refine AV rfl (fun aq => ?_) (fun aq => ?_)
   ·have bu := bt ay aq
    refine AG (ua (Aa ?_))
    refine kW kn ?_
    refine Aw (AH (Av (Av (AH (Av ?_)))))
    refine B7 results57 ?_
    obtain rfl := AL bu
    exact rfl
   have bw := bf ay aq
   refine Ar (AD (id := 1) (Aq ?_))
   refine uv (A4 rfl rfl (Bq.CE ai c7 (At.lt ah))) ?_
   refine um (Aa ?_)
   subst ba; exact le kr ⟨_, _, rfl, bd, bw, rfl, rfl, z5⟩
  obtain rfl := Bq.zero ai c7
  rw [En] at r4
  refine AM (Aj (Aj ?_))
  refine Ax ?_
  exact mi kn ⟨r4, rfl, rfl, (sn _)⟩
 rintro e1 _ _ ⟨az, rfl, rfl, ar⟩
 refine AA _ ar ?_
 rw [Hy] at az
 refine AG (ua (Aa (Aw ?_)))
 refine B7 results57 ?_
 obtain rfl := AL az
 exact rfl
set_option maxHeartbeats 1000000 in
theorem Ju {s_ : List Int} {f : Int → Option Bool} (aa : At 1 eI F E4 E3 s_) (ak : J2 Tryz.prog F L4 L8 LZ eI Value.bool f) {r : Int} (hr : E6 s_ f = some r) :
    Bp Tryz.prog 136 #[sL E4 s_.length E3, .func (.func L4) L8 LZ] F (vI r) := by
 refine sp func136 ntmps136 fun K _ _ => ?_
 rw [E6] at hr
 refine AG (ua (Aa ?_))
 refine AO (fun e1 F1 L1 => Eh = some r ∧ F = F1 ∧ L1 = [] ∧ e1.sub []) ?_ ?_
 ·refine AG (um ?_)
  refine uv (AJ underlying22 rfl) ?_
  refine um (Aa ?_)
  refine As ?_
  refine A6 (fun al e1 F1 L1 => LA s_ al fun tl k => Cq f tl k = some r ∧ F = F1 ∧ L1 = [] ∧ e1.sub [(0, sL E4 s_.length E3), (1, .func (.func L4) L8 LZ), (7, vI (s_.length : Int)), (8, vI k)]) _ (m0 kr ⟨_, _, rfl, Bq.start _, hr, rfl, rfl, z4⟩) ?_
  rintro al e1 _ _ ⟨tl, k, au, ab, r3, rfl, rfl, av⟩
  refine AA _ av (AG (uv (AY rfl rfl) ?_))
  refine Aa (Au ?_)
  refine cQ (fun c6 => ?_) fun c6 => ?_
  ·obtain ⟨x, bd, rfl, aw, g9, ax⟩ := Bq.succ ab c6
   rw [Cq] at r3
   refine Ar (Au ?_)
   refine As ?_
   refine AG (um (ua (BR (um (um (um ?_))))))
   obtain ⟨N4, bg, bh, ay, ad, ae, ao, rfl, az, ah⟩ := At.ta kI aa g9.1 aw
   refine uv (C0 underlying22 sizeOf3 ad g9) (uv (AS isAgg3 rfl (ae _) (ah 0 (by decide))) ?_)
   obtain ⟨ok, ba, aq⟩ := Az r3
   refine Gx rfl ak.1 rfl rfl rfl (ak.2 _ (AQ.refl _) _ _ _ rfl ba) (Aa ?_)
   refine AV rfl (fun ai => ?_) (fun ai => ?_)
   ·have bb := bt aq ai
    refine AG (um (ua (Aa (Aw (AH (Av (Av (AH (Av ?_)))))))))
    refine B7 results136 ?_
    obtain rfl := AL bb
    exact rfl
   have bc := bf aq ai
   refine Ar (AD (id := 1) (Aq ?_))
   refine uv (A4 rfl rfl (Bq.CE ab c6 (At.lt aa))) ?_
   refine um (Aa ?_)
   subst au; exact le kr ⟨_, _, rfl, ax, bc, rfl, rfl, z4⟩
  obtain rfl := Bq.zero ab c6
  rw [Cq] at r3
  refine AM (Aj (Aj ?_))
  refine Ax ?_
  exact mi kr ⟨r3, rfl, rfl, (sn _)⟩
 rintro e1 _ _ ⟨ar, rfl, rfl, aj⟩
 refine AA _ aj ?_
 rw [Eh] at ar
 refine AG (ua (Aa (Aw ?_)))
 refine B7 results136 ?_
 obtain rfl := AL ar
 exact rfl
set_option maxHeartbeats 1000000 in
theorem IQ {s_ : List Int} {f : Int → Option Bool} (aa : At 1 eI F E4 E3 s_) (ab : J2 Tryz.prog F L4 L8 LZ eI Value.bool f) {r : Bool} (hr : Ef s_ f = some r) :
    Bp Tryz.prog 113 #[sL E4 s_.length E3, .func (.func L4) L8 LZ] F (.bool r) := by
 refine sp func113 ntmps113 fun K _ _ => ?_
 rw [Ef] at hr
 refine AG (ua (BR (um (um ?_))))
 obtain ⟨n, h1, r2⟩ := Az hr
 refine cV call136 (Ju aa ab h1) (uv (Hu rfl rfl) ?_)
 refine ua (Aa (Aw ?_))
 refine B7 results113 ?_
 obtain rfl := AL r2
 exact rfl
set_option maxHeartbeats 1000000 in
theorem LP {x : Int} {so : Int → Option Bool} (aa : F QD = some (.cells #[.func (.func NM) NI NH] 101 Q4)) (ab : J2 Tryz.prog F NM NI NH eI Value.bool so) {r : Bool} (hr : G2 x so = some r) :
    Bp Tryz.prog 114 #[vI x, pO QD] F (.bool r) := by
 refine sp func114 ntmps114 fun K _ _ => ?_
 rw [G2] at hr
 refine AG (ua (BR ?_))
 refine uv (AS isAgg101 rfl (Has.frozen aa) rfl) (um ?_)
 obtain ⟨ok, h1, r2⟩ := Az hr
 refine Gx rfl ab.1 rfl rfl rfl (ab.2 _ (AQ.refl _) _ _ _ rfl h1) (uv (Bo rfl) ?_)
 refine ua (Aa (Aw ?_))
 refine B7 results114 ?_
 obtain rfl := AL r2
 exact rfl
set_option maxHeartbeats 1000000 in
theorem GX {l : List Int} {so : Int → Option Bool} (ab : At 1 eI F CV CX l) (aa : J2 Tryz.prog F NM NI NH eI Value.bool so) {r : Bool} (hr : Ff l so = some r) :
    Bp Tryz.prog 58 #[sL CV l.length CX, .func (.func NM) NI NH] F (.bool r) := by
 refine sp func58 ntmps58 fun K _ _ => ?_
 rw [Ff] at hr
 refine AG ?_
 refine BB rfl rfl ?_; intro b1 ah
 refine ua (BR (um ?_))
 refine uv (CP rfl rfl) ?_
 refine Bj 0 rfl ah ?_; intro F2 ad ai
 refine AB rfl ?_
 replace ab := ab.m1 ad
 replace aa := aa.mono ad
 have aj : J2 Tryz.prog F2 114 #[] #[pO b1] eI Value.bool (fun ae : Int => G2 ae so) := ⟨call114, fun F2 h2 vs ae r ha hr => by obtain rfl := ha; exact LP (h2 _ _ ai) (aa.mono h2) hr⟩
 obtain ⟨ok, h6, r7⟩ := Az hr
 refine cV call113 (IQ ab aj h6) (uv (Bo rfl) ?_)
 refine ua (Aa (Aw ?_))
 refine B7 results58 ?_
 obtain rfl := AL r7
 exact rfl
set_option maxHeartbeats 1000000 in
theorem NA {r : Bool} (hr : KI n = some r) :
    Bp Tryz.prog 59 #[vI n] F (.bool r) := by
 refine sp func59 ntmps59 fun K _ _ => ?_
 rw [KI] at hr
 refine AG (ua (BR (um ?_)))
 refine uv (Bx rfl rfl) (um ?_)
 by_cases c1 : n = (-1)
 ·have r2 := A2 hr c1
  refine fT c1 (fT c1 ?_)
  refine uv (AK (Ba rfl c1) rfl) ?_
  refine ua (Aa (Aw ?_))
  refine B7 results59 ?_
  obtain rfl := AL r2
  exact rfl
 have r3 := A3 hr c1
 refine nF c1 (um (nF c1 ?_))
 obtain ⟨ok, h4, r5⟩ := Az r3
 refine cV call63 (GM h4) (uv (AE (AR rfl c1) rfl) ?_)
 refine ua (Aa (Aw ?_))
 refine B7 results59 ?_
 obtain rfl := AL r5
 exact rfl
set_option maxHeartbeats 1000000 in
theorem Hs {s_ : List (Int × Int × Int)} {f : (Int × Int × Int) → Option Bool} (ab : At 3 (Br eI eP) F E4 E3 s_) (ao : J2 Tryz.prog F L4 L8 LZ (PO (Br eI eP)) Value.bool f) {r : Int} (hr : C3 s_ f = some r) :
    Bp Tryz.prog 137 #[sL E4 s_.length E3, .func (.func L4) L8 LZ] F (vI r) := by
 refine sp func137 ntmps137 fun K _ _ => ?_
 rw [C3] at hr
 refine AG (ua (Aa ?_))
 refine AO (fun e1 F1 L1 => CF = some r ∧ F = F1 ∧ L1 = [] ∧ e1.sub []) ?_ ?_
 ·refine AG (um ?_)
  refine uv (AJ underlying24 rfl) ?_
  refine um (Aa ?_)
  refine As ?_
  refine A6 (fun aq e1 F1 L1 => LA s_ aq fun tl k => BS f tl k = some r ∧ F = F1 ∧ L1 = [] ∧ e1.sub [(0, sL E4 s_.length E3), (1, .func (.func L4) L8 LZ), (7, vI (s_.length : Int)), (8, vI k)]) _ (m0 kr ⟨_, _, rfl, Bq.start _, hr, rfl, rfl, z4⟩) ?_
  rintro aq e1 _ _ ⟨tl, k, av, ad, r3, rfl, rfl, aw⟩
  refine AA _ aw (AG (uv (AY rfl rfl) ?_))
  refine Aa (Au ?_)
  refine cQ (fun c6 => ?_) fun c6 => ?_
  ·obtain ⟨x, bd, rfl, ax, g9, ay⟩ := Bq.succ ad c6
   rw [BS] at r3
   refine Ar (Au ?_)
   refine As ?_
   refine AG (um (ua (BR (um (um (um ?_))))))
   obtain ⟨N4, bg, bh, az, ae, ah, aa, ⟨_, _, rfl, rfl, ⟨_, _, rfl, rfl, rfl⟩⟩, ai, aj⟩ := At.ta (Ai kI kP) ab g9.1 ax
   refine uv (C0 underlying24 sizeOf32 ae g9) (uv (Bn isAgg32 sizeOf32 rfl (ah _) aa (Bi aa ai aj)) ?_)
   obtain ⟨ok, ba, ar⟩ := Az r3
   refine Gx rfl ao.1 rfl rfl rfl (ao.2 _ (AQ.refl _) _ _ _ ⟨_, rfl, ⟨_, _, rfl, rfl, ⟨_, _, rfl, rfl, rfl⟩⟩⟩ ba) (Aa ?_)
   refine AV rfl (fun ak => ?_) (fun ak => ?_)
   ·have bb := bt ar ak
    refine AG (um (ua (Aa (Aw (AH (Av (Av (AH (Av ?_)))))))))
    refine B7 results137 ?_
    obtain rfl := AL bb
    exact rfl
   have bc := bf ar ak
   refine Ar (AD (id := 1) (Aq ?_))
   refine uv (A4 rfl rfl (Bq.CE ad c6 (At.lt ab))) ?_
   refine um (Aa ?_)
   subst av; exact le kr ⟨_, _, rfl, ay, bc, rfl, rfl, z4⟩
  obtain rfl := Bq.zero ad c6
  rw [BS] at r3
  refine AM (Aj (Aj ?_))
  refine Ax ?_
  exact mi kr ⟨r3, rfl, rfl, (sn _)⟩
 rintro e1 _ _ ⟨au, rfl, rfl, al⟩
 refine AA _ al ?_
 rw [CF] at au
 refine AG (ua (Aa (Aw ?_)))
 refine B7 results137 ?_
 obtain rfl := AL au
 exact rfl
set_option maxHeartbeats 1000000 in
theorem G6 {s_ : List (Int × Int × Int)} {f : (Int × Int × Int) → Option Bool} (aa : At 3 (Br eI eP) F E4 E3 s_) (ab : J2 Tryz.prog F L4 L8 LZ (PO (Br eI eP)) Value.bool f) {r : Bool} (hr : CI s_ f = some r) :
    Bp Tryz.prog 115 #[sL E4 s_.length E3, .func (.func L4) L8 LZ] F (.bool r) := by
 refine sp func115 ntmps115 fun K _ _ => ?_
 rw [CI] at hr
 refine AG (ua (BR (um (um ?_))))
 obtain ⟨n, h1, r2⟩ := Az hr
 refine cV call137 (Hs aa ab h1) (uv (Hu rfl rfl) ?_)
 refine ua (Aa (Aw ?_))
 refine B7 results115 ?_
 obtain rfl := AL r2
 exact rfl
set_option maxHeartbeats 1000000 in
theorem Mx {so : (Int × Int × Int) → Option Bool} (aa : F QD = some (.cells #[.func (.func NM) NI NH] 104 Q4)) (ab : J2 Tryz.prog F NM NI NH (PO (Br eI eP)) Value.bool so) {r : Bool} (hr : Hp hour Nt AP so = some r) :
    Bp Tryz.prog 116 #[.agg #[vI hour, vI Nt, vI AP], pO QD] F (.bool r) := by
 refine sp func116 ntmps116 fun K _ _ => ?_
 rw [Hp] at hr
 refine AG ?_
 refine BB rfl rfl ?_; intro b1 ad
 refine ua (BR ?_)
 refine uv (AS isAgg104 rfl (Has.frozen aa) rfl) (uv (Cv isAgg32 sizeOf32 0) ?_)
 obtain ⟨ok, h2, r3⟩ := Az hr
 refine Gx rfl ab.1 rfl rfl rfl (ab.2 _ (AQ.refl _) _ _ _ ⟨_, rfl, ⟨_, _, rfl, rfl, ⟨_, _, rfl, rfl, rfl⟩⟩⟩ h2) (uv (Bo rfl) ?_)
 refine ua (Aa ?_)
 refine kW kn (Aw (B7 results116 ?_))
 obtain rfl := AL r3
 exact rfl
set_option maxHeartbeats 1000000 in
theorem Nr {l : List (Int × Int × Int)} {so : (Int × Int × Int) → Option Bool} (ad : At 3 (Br eI eP) F CV CX l) (aa : J2 Tryz.prog F NM NI NH (PO (Br eI eP)) Value.bool so) {r : Bool} (hr : JJ l so = some r) :
    Bp Tryz.prog 60 #[sL CV l.length CX, .func (.func NM) NI NH] F (.bool r) := by
 refine sp func60 ntmps60 fun K _ _ => ?_
 rw [JJ] at hr
 refine AG ?_
 refine BB rfl rfl ?_; intro b1 ah
 refine ua (BR (um ?_))
 refine uv (CP rfl rfl) ?_
 refine Bj 0 rfl ah ?_; intro F2 ae ai
 refine AB rfl ?_
 replace ad := ad.mono (Ai kI kP) ae
 replace aa := aa.mono ae
 have aj : J2 Tryz.prog F2 116 #[] #[pO b1] (PO (Br eI eP)) Value.bool (fun ab : (Int × Int × Int) => Hp ab.1 ab.2.1 ab.2.2 so) := ⟨call116, fun F2 h2 vs ab r ha hr => by obtain ⟨_, rfl, ⟨_, _, rfl, rfl, ⟨_, _, rfl, rfl, rfl⟩⟩⟩ := ha; exact Mx (h2 _ _ ai) (aa.mono h2) hr⟩
 obtain ⟨ok, h6, r7⟩ := Az hr
 refine cV call115 (G6 ad aj h6) (uv (Bo rfl) ?_)
 refine ua (Aa (Aw ?_))
 refine B7 results60 ?_
 obtain rfl := AL r7
 exact rfl
set_option maxHeartbeats 1000000 in
theorem Hj (_h_hears : At 1 (CM 1 eJ) F Am Al Ah) (_h_readings : At 1 eI F Ae Ad Ab) (_h_cries : At 3 (Br eI eP) F Ao An Ak) {r : Bool} (hr : FY Af Ac Ah Ab Ak h = some r) :
    Bp Tryz.prog 62 #[.agg #[vI Af, vI Ac, sL Am Ah.length Al, sL Ae Ab.length Ad, sL Ao Ak.length An], vI h] F (.bool r) := by
 refine sp func62 ntmps62 fun K _ _ => ?_
 rw [FY] at hr
 refine AG ?_
 refine BB rfl rfl ?_; intro b1 aa
 refine ua (BR (um ?_))
 refine uv (Ap CB rfl) (uv (Co isAgg22 0) (uv (AJ underlying22 rfl) ?_))
 obtain ⟨g2, r3⟩ := AF hr
 refine uv (EU rfl rfl g2) ?_
 obtain ⟨ok, h4, r5⟩ := Az r3
 refine cV call63 (GM h4) ?_
 refine ua (Aa ?_)
 refine kW kn (Aw (B7 results62 ?_))
 obtain rfl := AL r5
 exact rfl
set_option maxHeartbeats 1000000 in
theorem H6 (_h_hears : At 1 (CM 1 eJ) F Am Al Ah) (_h_readings : At 1 eI F Ae Ad Ab) (_h_cries : At 3 (Br eI eP) F Ao An Ak) {r : Bool} (hr : FX Af Ac Ah Ab Ak n = some r) :
    Bp Tryz.prog 64 #[.agg #[vI Af, vI Ac, sL Am Ah.length Al, sL Ae Ab.length Ad, sL Ao Ak.length An], vI n] F (.bool r) := by
 refine sp func64 ntmps64 fun K _ _ => ?_
 rw [FX] at hr
 refine AG ?_
 refine BB rfl rfl ?_; intro b1 aa
 refine ua (BR (um ?_))
 refine uv (Ap Iy rfl) (uv (Co isAgg3 0) ?_)
 obtain ⟨g2, r3⟩ := AF hr
 refine uv (EU rfl rfl g2) ?_
 obtain ⟨ok, h4, r5⟩ := Az r3
 refine cV call63 (GM h4) ?_
 refine ua (Aa ?_)
 refine kW kn (Aw (B7 results64 ?_))
 obtain rfl := AL r5
 exact rfl
set_option maxHeartbeats 1000000 in
theorem NV {aj : Nat} {ai : Nat × Nat} (ah : F aj = some (.cells #[vI Af, vI Ac, sL Am Ah.length Al, sL Ae Ab.length Ad, sL Ao Ak.length An] 26 ai)) (ab : At 1 (CM 1 eJ) F Am Al Ah) (aa : At 1 eI F Ae Ad Ab) (ad : At 3 (Br eI eP) F Ao An Ak) {r : Bool} (hr : Jt hour Nt AP Af Ac Ah Ab Ak = some r) :
    Bp Tryz.prog 61 #[.agg #[vI hour, vI Nt, vI AP], pO aj] F (.bool r) := by
 refine sp func61 ntmps61 fun K _ _ => ?_
 rw [Jt] at hr
 refine AG ?_
 refine BB rfl rfl ?_; intro b1 av
 refine ua (BR ?_)
 refine uv (Bn isAgg26 sizeOf26 rfl (Has.frozen ah) (DD rfl) rfl) (uv (Ap O6 rfl) (uv (Co isAgg3 0) ?_))
 obtain ⟨ok, h2, r3⟩ := Az hr
 refine cV call62 (Hj ab aa ad h2) (um ?_)
 rcases DX ok with c4 | c4
 ·have r5 := bt r3 c4
  refine nB c4 (uv (Ap OH rfl) (nB c4 (uv (Co isAgg3 0) (nB c4 (uv (Ap CC rfl) (nB c4 (uv (AS isAgg23 rfl (Has.frozen ah) rfl) ?_)))))))
  refine nB c4 (uv (AJ underlying23 rfl) (nB c4 ?_))
  obtain ⟨g6, r7⟩ := AF r5
  refine uv (EU rfl rfl g6) (nB c4 ?_)
  obtain ⟨ak, h8, r9⟩ := Az r7
  refine cV call63 (GM h8) (uv (AK (FK rfl c4) rfl) (um ?_))
  rcases DX ak with ae | ae
  ·have al := bt r9 ae
   refine nB ae (uv (Bn isAgg26 sizeOf26 rfl (Has.frozen ah) (DD rfl) rfl) (nB ae (uv (Ap OI rfl) (nB ae (uv (Co isAgg3 0) (nB ae ?_))))))
   obtain ⟨aw, ao, aq⟩ := Az al
   refine cV call64 (H6 ab aa ad ao) (uv (AK (FK rfl ae) rfl) ?_)
   refine ua (Aa ?_)
   refine kW kn (Aw (B7 results61 ?_))
   obtain rfl := AL aq
   exact rfl
  have ar := bf r9 ae
  refine fB ae (fB ae (fB ae (fB ae ?_)))
  refine uv (AE (FK rfl ae) rfl) ?_
  refine ua (Aa ?_)
  refine kW kn (Aw (B7 results61 ?_))
  obtain rfl := AL ar
  exact rfl
 have au := bf r3 c4
 refine fB c4 (fB c4 (fB c4 (fB c4 (fB c4 (fB c4 (fB c4 ?_))))))
 refine uv (AE (FK rfl c4) rfl) ?_
 refine um (AZ (b' := false) 17 rfl rfl rfl rfl (AZ (b' := false) 17 rfl rfl rfl rfl (AZ (b' := false) 17 rfl rfl rfl rfl (AZ (b' := false) 17 rfl rfl rfl rfl ?_))))
 refine uv (AE rfl rfl) ?_
 refine ua (Aa ?_)
 refine kW kn (Aw (B7 results61 ?_))
 obtain rfl := AL au
 exact rfl
set_option maxHeartbeats 1000000 in
theorem DU (ab : At 1 (CM 1 eJ) F Am Al Ah) (aa : At 1 eI F Ae Ad Ab) (ad : At 3 (Br eI eP) F Ao An Ak) {r : Int} (hr : Ek Af Ac Ah Ab Ak = some r) :
    Bp Tryz.prog 12 #[.agg #[vI Af, vI Ac, sL Am Ah.length Al, sL Ae Ab.length Ad, sL Ao Ak.length An]] F (vI r) := by
 refine sp func12 ntmps12 fun K _ _ => ?_
 rw [Ek] at hr
 refine AG ?_
 refine BB rfl rfl ?_; intro b1 cq
 refine ua (Aa (Au (AG ?_)))
 refine uv (Cv isAgg26 sizeOf26 0) ?_
 obtain ⟨ok, h2, r3⟩ := Az hr
 refine cV call56 (LS ab aa ad h2) (uv (Bo rfl) (Aa ?_))
 refine AV rfl (fun c4 => ?_) (fun c4 => ?_)
 ·have r5 := bt r3 c4
  refine AG (ua (Aa ?_))
  refine kW kn ?_
  refine Aw (Av ?_)
  refine B7 results12 ?_
  obtain rfl := AL r5
  exact rfl
 have r6 := bf r3 c4
 refine Ar ?_
 refine AO (fun e1 F1 L1 => Ko Af Ac Ah Ab Ak = some r ∧ F = F1 ∧ L1 = [(b1, ce #[vI Af, vI Ac, sL Am Ah.length Al, sL Ae Ab.length Ad, sL Ao Ak.length An] 26)] ∧ e1.sub [(1, pO b1)]) ?_ ?_
 ·refine AG (uv (Ap CC rfl) (uv (Co isAgg23 0) (uv (AJ underlying23 rfl) ?_)))
  refine um (Aa ?_)
  refine As ?_
  refine A6 (fun bq e1 F1 L1 => LA Ah bq fun tl k => FC Af Ac Ah Ab Ak tl = some r ∧ F = F1 ∧ L1 = [(b1, ce #[vI Af, vI Ac, sL Am Ah.length Al, sL Ae Ab.length Ad, sL Ao Ak.length An] 26)] ∧ e1.sub [(1, pO b1), (12, sL Am Ah.length Al), (13, vI (Ah.length : Int)), (14, vI k)]) _ (m0 kr ⟨_, _, rfl, Bq.start _, r6, rfl, rfl, z4⟩) ?_
  rintro bq e1 _ _ ⟨tl, k, cr, ao, r9, rfl, rfl, aq⟩
  refine AA _ aq (AG (uv (AY rfl rfl) ?_))
  refine Aa (Au ?_)
  refine cQ (fun aj => ?_) fun aj => ?_
  ·obtain ⟨x, br, rfl, ar, bu, au⟩ := Bq.succ ao aj
   rw [FC] at r9
   refine Ar ?_
   refine AO (fun e1 F1 L1 => Kp (FC Af Ac Ah Ab Ak br) = some r ∧ F = F1 ∧ L1 = [(b1, ce #[vI Af, vI Ac, sL Am Ah.length Al, sL Ae Ab.length Ad, sL Ao Ak.length An] 26)] ∧ e1.sub [(1, pO b1), (12, sL Am Ah.length Al), (13, vI (Ah.length : Int)), (14, vI k)]) ?_ ?_
   ·refine As (AG ?_)
    obtain ⟨dp, dq, dr, ct, av, aw, bw, ⟨cu, cv, rfl, bx⟩, cw, ax⟩ := At.ta (Ay kJ) ab bu.1 ar
    refine uv (C0 underlying23 sizeOf34 av bu) (uv (AS isAgg34 rfl (aw _) (ax 0 (by decide))) ?_)
    refine ua (BR (um ?_))
    refine uv (AJ underlying34 rfl) ?_
    refine um (Aa ?_)
    refine As ?_
    refine A6 (fun bz e1 F1 L1 => LA x bz fun cb k2 => HG Af Ac Ah Ab Ak (FC Af Ac Ah Ab Ak br) cb = some r ∧ F = F1 ∧ L1 = [(b1, ce #[vI Af, vI Ac, sL Am Ah.length Al, sL Ae Ab.length Ad, sL Ao Ak.length An] 26)] ∧ e1.sub [(1, pO b1), (12, sL Am Ah.length Al), (13, vI (Ah.length : Int)), (14, vI k), (18, sL cu x.length cv), (19, vI (x.length : Int)), (20, vI k2)]) _ (m0 kr ⟨_, _, rfl, Bq.start _, r9, rfl, rfl, z7⟩) ?_
    rintro bz e1 _ _ ⟨cb, k2, ay, ae, ak, rfl, rfl, az⟩
    refine AA _ az (AG (uv (AY rfl rfl) ?_))
    refine Aa (Au ?_)
    refine cQ (fun al => ?_) fun al => ?_
    ·obtain ⟨x2, dt, rfl, ba, cc, bb⟩ := Bq.succ ae al
     rw [HG] at ak
     refine Ar (Au ?_)
     refine As (AG ?_)
     obtain ⟨du, dv, dw, cx, bc, bd, cf, ⟨dx, dy, rfl, cy⟩, cz, bg⟩ := At.ta kJ bx cc.1 ba
     refine uv (C0 underlying34 sizeOf22 bc cc) (uv (AS isAgg22 rfl (bd _) (bg 0 (by decide))) ?_)
     refine ua (BR ?_)
     refine uv (Cv isAgg26 sizeOf26 0) (um ?_)
     obtain ⟨n, da, cg⟩ := Az ak
     refine cV call57 (JS ab aa ad cy da) ?_
     refine ua (BR (um ?_))
     refine uv (BU rfl rfl) (Aa ?_)
     refine cQ (fun bh => ?_) fun bh => ?_
     ·have db := A2 cg bh
      refine AG (um (ua (Aa ?_)))
      refine kW kn ?_
      refine Aw (AH (Av (Av (AH (AH (Av (Av (AH (Av ?_)))))))))
      refine B7 results12 ?_
      obtain rfl := AL db
      exact rfl
     have dd := A3 cg bh
     refine Ar (AD (id := 3) (Aq ?_))
     refine uv (A4 rfl rfl (Bq.CE ae al (At.lt bx))) ?_
     refine um (Aa ?_)
     subst ay; exact le kr ⟨_, _, rfl, bb, dd, rfl, rfl, z7⟩
    obtain rfl := Bq.zero ae al
    rw [HG] at ak
    refine AM (Aj (Aj ?_))
    refine Ax (AD (id := 1) ?_)
    exact mi kr ⟨ak, rfl, rfl, z4⟩
   rintro e1 _ _ ⟨cj, rfl, rfl, bj⟩
   refine AA _ bj ?_
   rw [Kp] at cj
   refine Aq (uv (A4 rfl rfl (Bq.CE ao aj (At.lt ab))) ?_)
   refine um (Aa ?_)
   subst cr; exact le kr ⟨_, _, rfl, au, cj, rfl, rfl, z4⟩
  obtain rfl := Bq.zero ao aj
  rw [FC] at r9
  refine AM (Aj (Aj ?_))
  refine Ax ?_
  exact mi kr ⟨r9, rfl, rfl, z1⟩
 rintro e1 _ _ ⟨ck, rfl, rfl, bk⟩
 refine AA _ bk ?_
 rw [Ko] at ck
 refine Au (As (AG (uv (Ap CB rfl) (uv (Co isAgg22 0) ?_))))
 have bl : J2 Tryz.prog F 59 #[] #[] eI Value.bool (fun ah : Int => KI ah) := ⟨call59, fun F2 h2 vs ah r ha hr => by obtain rfl := ha; exact NA hr⟩
 obtain ⟨dz, de, cn⟩ := Az ck
 refine cV call58 (GX aa bl de) (uv (Bo rfl) ?_)
 refine ua (Aa ?_)
 refine AV rfl (fun bm => ?_) (fun bm => ?_)
 ·have df := bt cn bm
  refine AG (ua (Aa ?_))
  refine kW kn ?_
  refine Aw (AH (Av ?_))
  refine B7 results12 ?_
  obtain rfl := AL df
  exact rfl
 have dg := bf cn bm
 refine AG (uv (Ap Dv rfl) (uv (Co isAgg24 0) (uv (CP rfl rfl) ?_)))
 refine Bj 0 rfl cq ?_; intro dh ai bn
 refine AB rfl ?_
 replace ab := ab.mono (Ay kJ) ai
 replace aa := aa.m1 ai
 replace ad := ad.mono (Ai kI kP) ai
 have bo : J2 Tryz.prog dh 61 #[] #[pO b1] (PO (Br eI eP)) Value.bool (fun ah : (Int × Int × Int) => Jt ah.1 ah.2.1 ah.2.2 Af Ac Ah Ab Ak) := ⟨call61, fun F2 h2 vs ah r ha hr => by obtain ⟨_, rfl, ⟨_, _, rfl, rfl, ⟨_, _, rfl, rfl, rfl⟩⟩⟩ := ha; exact NV (h2 _ _ bn) (ab.mono (Ay kJ) h2) (aa.mono kI h2) (ad.mono (Ai kI kP) h2) hr⟩
 obtain ⟨eb, di, cp⟩ := Az dg
 refine cV call60 (Nr ad bo di) (uv (Bo rfl) ?_)
 refine ua (Aa ?_)
 refine AV rfl (fun bp => ?_) (fun bp => ?_)
 ·have dk := bt cp bp
  refine AG (ua (Aa (Aw (AH (Av ?_)))))
  refine B7 results12 ?_
  obtain rfl := AL dk
  exact rfl
 have dm := bf cp bp
 refine Ar (AD (id := 4) (AG (ua (Aa (Aw ?_)))))
 refine B7 results12 ?_
 obtain rfl := AL dm
 exact rfl
set_option maxHeartbeats 1000000 in
theorem It {s1 s2 : List Int} (aa : At 1 eI F IH IF s1) (ad : At 1 eI F IU I0 s2) {r : Bool} (hr : D8 s1 s2 = some r) :
    Bp Tryz.prog 80 #[sL IH s1.length IF, sL IU s2.length I0] F (.bool r) := by
 refine sp func80 ntmps80 fun K _ _ => ?_
 rw [D8] at hr
 refine AG (ua (Aa (Au (AG (um ?_)))))
 refine uv (AJ underlying22 rfl) (um (uv (AJ underlying22 rfl) (uv (BU rfl rfl) (Aa ?_))))
 obtain ⟨g2, r3⟩ := AF hr
 refine B9 rfl (fun c4 => absurd c4 g2) (fun c4 => ?_)
 refine Ar ?_
 obtain ⟨h5, r6⟩ := IK r3
 refine jE ([]) [] ?_ ?_
 ·clear r6
  refine AG (um ?_)
  refine uv (AJ underlying22 rfl) ?_
  refine um (Aa ?_)
  refine As ?_
  refine A6 (fun aw e1 F1 L1 => LA s1 aw fun tl k => C9 s2 tl k = some () ∧ F = F1 ∧ L1 = [] ∧ e1.sub [(0, sL IH s1.length IF), (1, sL IU s2.length I0), (12, vI (s1.length : Int)), (13, vI k)]) _ (m0 kr ⟨_, _, rfl, Bq.start _, h5, rfl, rfl, z4⟩) ?_
  rintro aw e1 _ _ ⟨tl, k, bc, ae, r9, rfl, rfl, ah⟩
  refine AA _ ah (AG (uv (AY rfl rfl) ?_))
  refine Aa (Au ?_)
  refine cQ (fun ab => ?_) fun ab => ?_
  ·obtain ⟨x, bn, rfl, ai, ax, aj⟩ := Bq.succ ae ab
   rw [C9] at r9
   refine Ar (Au ?_)
   refine As ?_
   refine AG (um (ua ?_))
   refine dN ?_
   refine wm (wm ?_)
   obtain ⟨bo, bp, bq, bd, ak, al, ay, rfl, bg, ao⟩ := At.ta kI aa ax.1 ai
   refine wv (C0 underlying22 sizeOf3 ak ax) (wv (AS isAgg3 rfl (al _) (ao 0 (by decide))) ?_)
   refine wm (wm ?_)
   obtain ⟨x2, az, aq, bh⟩ := BG r9
   obtain ⟨br, bu, bw, bj, ar, au, ba, rfl, bk, av⟩ := At.ta kI ad az.1 aq
   refine wv (C0 underlying22 sizeOf3 ar az) (wv (AS isAgg3 rfl (au _) (av 0 (by decide))) (wv (BU rfl rfl) (B6 ?_)))
   obtain ⟨bl, bm⟩ := AF bh
   refine B9 rfl (fun bb => absurd bb bl) (fun bb => ?_)
   refine Ar (AD (id := 1) (Aq ?_))
   refine uv (A4 rfl rfl (Bq.CE ae ab (At.lt aa))) ?_
   refine um (Aa ?_)
   subst bc; exact le kr ⟨_, _, rfl, aj, bm, rfl, rfl, z4⟩
  obtain rfl := Bq.zero ae ab
  rw [C9] at r9
  refine AM (Aj (Aj ?_))
  refine Ax ?_
  clear r9
  exact mi kr ⟨rfl, rfl, (sn _)⟩
 refine AG (ua (Aa (Aw ?_)))
 refine B7 results80 ?_
 obtain rfl := AL r6
 exact rfl
set_option maxHeartbeats 1000000 in
theorem Bv {a b : List Int} (aa : At 1 eI F P3 P9 a) (ab : At 1 eI F PT P6 b) {r : Bool} (hr : Bz a b = some r) :
    Bp Tryz.prog 25 #[sL P3 a.length P9, sL PT b.length P6] F (.bool r) := by
 refine sp func25 ntmps25 fun K _ _ => ?_
 rw [Bz] at hr
 refine AG (ua (BR (um (um ?_))))
 obtain ⟨ok, h1, r2⟩ := Az hr
 refine cV call80 (It aa ab h1) ?_
 refine ua (Aa (Aw ?_))
 refine B7 results25 ?_
 obtain rfl := AL r2
 exact rfl
set_option maxHeartbeats 1000000 in
theorem HF (ab : At 1 (CM 1 eJ) F Am Al Ah) (aa : At 1 eI F Ae Ad Ab) (ad : At 3 (Br eI eP) F Ao An Ak) {r : Option (Int × Int × (List (List (List Int))) × (List Int) × (List (Int × Int × Int)))} {r2 : Int} (hr : G9 Af Ac Ah Ab Ak = some (r, r2)) :
    SH.Spec Tryz.prog 81 #[.agg #[vI Af, vI Ac, sL Am Ah.length Al, sL Ae Ab.length Ad, sL Ao Ak.length An]] F [] fun F' L' v => ∃ (rv : Value), v = .tuple #[rv, vI r2] ∧ L' = [] ∧ Om 119 (Br eI (Br eI (Br (CM 1 (CM 1 eJ)) (Br eJ (CM 3 (Br eI eP)))))) F' rv r := by
 refine sp func81 ntmps81 fun K _ _ => ?_
 rw [G9] at hr
 refine AG ?_
 refine BB rfl rfl ?_; intro b1 aj
 refine ua (ua (Aa (Au (AG ?_))))
 refine uv (Cv isAgg26 sizeOf26 0) ?_
 obtain ⟨n, h2, r3⟩ := Az hr
 refine cV call12 (DU ab aa ad h2) ?_
 refine ua (BR (um ?_))
 refine uv (BU rfl rfl) (Aa ?_)
 refine cQ (fun c4 => ?_) fun c4 => ?_
 ·have r5 := A2 r3 c4
  refine AG (um (ua (ua (Aa ?_))))
  refine kW kn ?_
  refine Aw (Av ?_)
  refine BM results81 (AT rfl) (AT rfl) (sr) ?_
  obtain ⟨rfl, rfl⟩ := Cd r5
  exact ⟨_, rfl, rfl, rfl⟩
 have r6 := A3 r3 c4
 refine Ar (AG ?_)
 refine uv (Cv isAgg26 sizeOf26 0) ?_
 refine uv (BX (v := .agg #[vI Af, vI Ac, sL Am Ah.length Al, sL Ae Ab.length Ad, sL Ao Ak.length An]) rfl (by intro w; kernel_rfl)) ?_
 refine BB rfl rfl ?_; intro b7 ai
 refine ua (ua (Aa ?_))
 refine BN 0 rfl ai ?_; intro F8 ae ah
 refine E5 rfl ?_
 replace ab := ab.mono (Ay kJ) ae
 replace aa := aa.m1 ae
 replace ad := ad.mono (Ai kI kP) ae
 refine kW kn (Aw (BM results81 (AT rfl) (AT rfl) (sr) ?_))
 obtain ⟨rfl, rfl⟩ := Cd r6
 exact ⟨_, rfl, rfl, ⟨_, _, _, rfl, ah, ⟨_, _, rfl, rfl, ⟨_, _, rfl, rfl, ⟨_, _, rfl, ⟨_, _, rfl, ab⟩, ⟨_, _, rfl, ⟨_, _, rfl, aa⟩, ⟨_, _, rfl, ad⟩⟩⟩⟩⟩⟩⟩
set_option maxHeartbeats 1000000 in
theorem CG {s_ : List Int} (aa : At 1 eI F E4 E3 s_) {r : List Int} (hr : Cm s_ = some r) :
    SH.Spec Tryz.prog 72 #[sL E4 s_.length E3] F [] fun F' L' v => ∃ (ra : Option Addr) (rn : Nat) (rc : Nat) (rL : LH), v = sL ra rn rc ∧ L' = rL ++ [] ∧ AI 0 3 1 eI F' ra rn rc r rL := by
 refine sp func72 ntmps72 fun K _ _ => ?_
 rw [Cm] at hr
 refine AG (ua (Aa (Au (AG (um ?_)))))
 refine uv (Ly underlying22 rfl) (Aa ?_)
 refine AV rfl (fun c1 => ?_) (fun c1 => ?_)
 ·have r2 := Qf hr (At.isNone aa c1)
  refine AG (ua (Aa (Aw (Av ?_))))
  refine B7 results72 ?_
  obtain rfl := AL r2
  exact ⟨_, _, _, [], rfl, rfl, AI.nil _ _ _ _ _⟩
 have r3 := Qm hr
 refine Ar (AG ?_)
 refine Gy (cs := #[]) rfl rfl (HR Bm) ?_; intro b4 ah
 refine um ?_
 have ae : AI K.w0.heap.size 3 1 eI F (aD b4) 0 0 ([] : List Int) [(b4, ce #[] 3)] := AI.Bd (vss := []) kI ah .nil rfl rfl (by simp [maxLen])
 generalize ab : ([(b4, ce #[] 3)] : LH) = Lb5 at ae
 refine Bc (L' := Lb5 ++ []) (by rw [← ab]; exact fO) ?_
 obtain ⟨l, h8, g9, ai⟩ := Ea r3
 refine CJ (xs := ([] : List Int)) (ys := s_) (zs := l) rfl Bm rfl rfl (Nat.le_refl _) (fun _ => .h) ae (At.src aa) h8 g9 (by decide) ?_; intro ak al ao aj ad
 refine ua (Aa (Aw ?_))
 refine B7 results72 ?_
 obtain rfl := AL ai
 exact ⟨_, _, _, _, rfl, rfl, ad.any⟩
set_option maxHeartbeats 1000000 in
theorem O7 {aa : Option Addr} {ab : Nat} {more : List Int} (ad : At 1 eI F aa ab more) {r : Int} (hr : Mt n more = some r) :
    Bp Tryz.prog 122 #[vI n, sL aa more.length ab] F (vI r) := by
 refine sp func122 ntmps122 fun K _ _ => ?_
 rw [Mt] at hr
 refine AG (ua (Aa ?_))
 obtain ⟨n2, h1, r2⟩ := Az hr
 refine jE ([]) [(0, vI n2)] ?_ ?_
 ·clear r2
  refine AG (um ?_)
  refine uv (AJ underlying22 rfl) ?_
  refine um (Aa ?_)
  refine As ?_
  refine A6 (fun al e1 F1 L1 => LA more al fun tl k => ∃ (n3 : Int), HL tl n3 = some n2 ∧ F = F1 ∧ L1 = [] ∧ e1.sub [(0, vI n3), (7, sL aa more.length ab), (8, vI (more.length : Int)), (9, vI k)]) _ (m0 kr ⟨_, _, rfl, Bq.start _, n, h1, rfl, rfl, z4⟩) ?_
  rintro al e1 _ _ ⟨tl, k, ar, ae, n3, r5, rfl, rfl, au⟩
  refine AA _ au (AG (uv (AY rfl rfl) ?_))
  refine Aa (Au ?_)
  refine cQ (fun c8 => ?_) fun c8 => ?_
  ·obtain ⟨x, ay, rfl, ah, ao, av⟩ := Bq.succ ae c8
   rw [HL] at r5
   refine Ar (Au ?_)
   refine As (AG ?_)
   obtain ⟨S7, az, ba, aw, ai, aj, aq, rfl, ax, ak⟩ := At.ta kI ad ao.1 ah
   refine uv (C0 underlying22 sizeOf3 ai ao) (uv (AS isAgg3 rfl (aj _) (ak 0 (by decide))) ?_)
   refine ua (Aa (Aq (um (um ?_))))
   refine uv (Sn rfl rfl) ?_
   refine ua (Aa (AD (id := 1) (Aq ?_)))
   refine uv (A4 rfl rfl (Bq.CE ae c8 (At.lt ad))) ?_
   refine um (Aa ?_)
   subst ar; exact le kr ⟨_, _, rfl, av, if x < n3 then x else n3, r5, rfl, rfl, z4⟩
  obtain rfl := Bq.zero ae c8
  rw [HL] at r5
  refine AM (Aj (Aj ?_))
  refine Ax ?_
  obtain rfl := AL r5
  exact mi kr ⟨rfl, rfl, z1⟩
 refine AG (um (ua (Aa (Aw ?_))))
 refine B7 results122 ?_
 obtain rfl := AL r2
 exact rfl
set_option maxHeartbeats 1000000 in
theorem J6 {a b : Int} {r : Bool} (hr : JA a b = some r) :
    Bp Tryz.prog 78 #[vI a, vI b] F (.bool r) := by
 refine sp func78 ntmps78 fun K _ _ => ?_
 rw [JA] at hr
 refine AG (ua (BR (um (um ?_))))
 obtain ⟨g1, r2⟩ := AF hr
 refine uv (EU rfl rfl g1) ?_
 obtain ⟨g3, r4⟩ := AF r2
 refine uv (A4 rfl rfl g3) (uv (Dh rfl rfl (by decide)) ?_)
 refine ua (BR (um (um ?_)))
 obtain ⟨g5, r6⟩ := AF r4
 refine uv (EU rfl rfl g5) ?_
 refine bA (cs := #[vI (8 - (Int.tmod ((a - b) + 8) 8))]) Bm [vI (8 - (Int.tmod ((a - b) + 8) 8))] ?_; intro b7 ab
 refine Bj 0 rfl ab ?_; intro F8 ai aa
 refine AB rfl ?_
 have ad : At 1 eI F8 (aD b7) 1 [8 - (Int.tmod ((a - b) + 8) 8)] := At.oI aa
 obtain ⟨n, ae, ah⟩ := Az r6
 refine cV call122 (O7 ad ae) (uv (Pc rfl rfl) ?_)
 refine ua (Aa (Aw ?_))
 refine B7 results78 ?_
 obtain rfl := AL ah
 exact rfl
set_option maxHeartbeats 1000000 in
theorem HU (_h_hears : At 1 (CM 1 eJ) F Am Al Ah) (aa : At 1 eI F Ae Ad Ab) (_h_cries : At 3 (Br eI eP) F Ao An Ak) {r : Bool} (hr : EC Af Ac Ah Ab Ak hour FH = some r) :
    Bp Tryz.prog 77 #[.agg #[vI Af, vI Ac, sL Am Ah.length Al, sL Ae Ab.length Ad, sL Ao Ak.length An], vI hour, vI FH] F (.bool r) := by
 refine sp func77 ntmps77 fun K _ _ => ?_
 rw [EC] at hr
 refine AG ?_
 refine BB rfl rfl ?_; intro b1 ba
 refine ua (BR ?_)
 refine uv (Ap CB rfl) (uv (Co isAgg22 0) (um ?_))
 obtain ⟨x, g2, ak, r4⟩ := BG hr
 obtain ⟨b5, o6, c7, bb, aq, ad, al, rfl, ar, ae⟩ := At.ta kI aa g2.1 ak
 refine uv (C0 underlying22 sizeOf3 aq g2) (uv (AS isAgg3 rfl (ad _) (ae 0 (by decide))) (uv (Bx rfl rfl) (um ?_)))
 by_cases ab : x = (-1)
 ·have au := A2 r4 ab
  refine fT ab (fT ab (fT ab (fT ab (fT ab (fT ab (fT ab ?_))))))
  refine uv (AK (Ba rfl ab) rfl) ?_
  refine ua (Aa ?_)
  refine kW kn (Aw (B7 results77 ?_))
  obtain rfl := AL au
  exact rfl
 have av := A3 r4 ab
 refine nF ab (um (nF ab ?_))
 refine uv (Ap CB rfl) (nF ab (uv (Co isAgg22 0) ?_))
 refine nF ab (um (nF ab ?_))
 obtain ⟨bc, bd, bg, aw, ah, ai, ao, rfl, ax, aj⟩ := At.ta kI aa g2.1 ak
 refine uv (C0 underlying22 sizeOf3 ah g2) (nF ab (uv (AS isAgg3 rfl (ai _) (aj 0 (by decide))) (nF ab ?_)))
 obtain ⟨ok, ay, az⟩ := Az av
 refine cV call78 (J6 ay) (uv (AE (AR rfl ab) rfl) ?_)
 refine ua (Aa ?_)
 refine kW kn (Aw (B7 results77 ?_))
 obtain rfl := AL az
 exact rfl
set_option maxHeartbeats 1000000 in
theorem NK {ab : Nat} {ai : Nat × Nat} (aa : F ab = some (.cells #[vI FH] 3 ai)) {xs : List Int} (hr : Kq FH = some xs) :
    Mh Tryz.prog 139 #[] #[pO ab] F (fun x : Int => #[vI x]) xs := by
 intro G0 bp yv J Jx cc bq hy Fc L0 hG br
 replace aa := (bp.trans hG) _ _ aa
 have al : xs = [] ++ xs := rfl
 show SH.Spec Tryz.prog 139 #[yv, pO ab] Fc L0 _
 refine sp func139 ntmps139 fun K _ _ => ?_
 rw [Kq] at hr; refine E5 (L' := L0 ++ []) (by simp) ?_
 refine AG (um (Aa ?_))
 refine As ?_
 obtain ⟨g6, r7⟩ := AF hr
 refine A6 (fun ba e1 F1 L1 => ∃ (k : Int), B0 0 8 k ba ∧ ∃ (ae : List Int) (aj : List Int) (ar : LH), EH FH ba k = some aj ∧ AQ Fc F1 ∧ L1 = (ar ++ []) ∧ e1.sub [(0, yv), (1, pO ab), (4, vI k)] ∧ xs = ae ++ aj ∧ J ae F1 ar ∧ AQ G0 F1) _ (m0 kr ⟨_, B0.start _ _, [], xs, L0, r7, AQ.refl _, rfl, z3, al, br, hG⟩) ?_
 rintro ba e1 cf _ ⟨k, bb, ae, aj, ar, bc, ao, rfl, bd, ad, bg, hG⟩
 refine AA _ bd ?_
 replace aa := ao _ _ aa
 refine AG (uv (AY rfl rfl) ?_)
 refine Aa (Au ?_)
 refine cQ (fun au => ?_) fun au => ?_
 ·obtain ⟨ba, rfl, av⟩ := B0.succ bb au
  rw [EH] at bc
  refine Ar (Au ?_)
  refine As ?_
  refine AG (um (ua (BR (um ?_))))
  refine uv (AS isAgg3 rfl (Has.frozen aa) rfl) ?_
  obtain ⟨ok, bu, bn⟩ := Az bc
  refine cV call78 (J6 bu) (um ?_)
  rcases DX ok with ah | ah
  ·have bw := bt bn ah
   refine nB ah (um (nB ah (um (nB ah ?_))))
   obtain ⟨aq, bx, aw⟩ := SP bw
   refine Rz (Lb := ar) (Lr := []) (vs := [vI k]) rfl rfl rfl fP (hy ae k aq (by rw [ad, aw]) _ _ hG bg) ?_
   rintro cg cj bh ax bj; obtain ⟨bz, rfl, ay, az⟩ := P0 bj
   replace hG := hG.trans ax
   refine nB ah (uv (Bo rfl) (uv (AK (FK rfl ah) rfl) (Aa ?_)))
   refine AV rfl (fun bk => ?_) (fun bk => ?_)
   ·have bl := az (by simpa using bk)
    refine Aw (AH (Av (Av (AH ?_))))
    refine NQ (.inl rfl) results139 (sr) ?_
    exact .inr (by rw [List.append_nil]; exact bl)
   have bm := ay (by simpa using bk)
   have ak : xs = (ae ++ [k]) ++ aq := by rw [ad, aw]; simp
   refine Ar (AD (id := 1) (Aq ?_))
   refine uv (A4 rfl rfl (B0.CE bb au g6)) ?_
   refine um (Aa ?_)
   exact le kr ⟨_, av, ae ++ [k], aq, bh, bx, (ao.trans ax), rfl, z3, ak, bm, hG⟩
  have cb := bf bn ah
  refine fB ah (fB ah (fB ah (fB ah ?_)))
  refine uv (AE (FK rfl ah) rfl) (Aa ?_)
  refine AV rfl (fun bo => nomatch bo) (fun bo => ?_)
  refine Ar (AD (id := 1) (Aq ?_))
  refine uv (A4 rfl rfl (B0.CE bb au g6)) ?_
  refine um (Aa ?_)
  exact le kr ⟨_, av, ae, aj, ar, cb, ao, rfl, z3, ad, bg, hG⟩
 obtain rfl := B0.zero bb au
 rw [EH] at bc
 refine AM (Aj (Aj ?_))
 refine Ax (NQ (.inr rfl) results139 (sr) ?_)
 obtain rfl := AL bc
 exact .inl (by have e1 := ad; rw [List.append_nil] at e1; rw [List.append_nil, e1]; exact bg)
set_option maxHeartbeats 1000000 in
theorem Me {r : List Int} (hr : J8 FH = some r) :
    SH.Spec Tryz.prog 130 #[vI FH] F [] fun F' L' v => ∃ (ab : Array Value), v = .func (.func 139) #[] ab ∧ L' = [] ∧ Mh Tryz.prog 139 #[] ab F' (fun x : Int => #[vI x]) r := by
 refine sp func130 ntmps130 fun K _ _ => ?_
 rw [J8] at hr
 refine AG ?_
 refine BB rfl rfl ?_; intro b1 ad
 refine ua (BR ?_)
 refine uv (CP rfl rfl) ?_
 refine ua (Aa ?_)
 refine BN 0 rfl ad ?_; intro F2 ah ae
 refine E5 rfl ?_
 obtain ⟨l, h5, r7⟩ := Az hr
 have aa : Mh Tryz.prog 139 #[] #[pO b1] F2 (fun x : Int => #[vI x]) l := NK ae h5
 refine Aw (B7 results130 ?_)
 obtain rfl := AL r7
 exact ⟨_, rfl, rfl, aa⟩
set_option maxHeartbeats 1000000 in
theorem KF (ak : F Of = some (.cells #[vI Af, vI Ac, sL Am Ah.length Al, sL Ae Ab.length Ad, sL Ao Ak.length An] 119 Qd)) (ab : At 1 (CM 1 eJ) F Am Al Ah) (aa : At 1 eI F Ae Ad Ab) (ad : At 3 (Br eI eP) F Ao An Ak) {r : List (List Int)} (hr : Ik Af Ac Ah Ab Ak = some r) :
    SH.Spec Tryz.prog 123 #[pO Of] F [] fun F' L' v => ∃ (ra : Option Addr) (rn : Nat) (rc : Nat) (rL : LH), v = sL ra rn rc ∧ L' = rL ++ [] ∧ AI 0 121 8 (J4 8 (cI .i64)) F' ra rn rc r rL := by
 refine sp func123 ntmps123 fun K _ _ => ?_
 rw [Ik] at hr
 refine AG (ua (BR (um ?_)))
 refine uv (BQ rfl) (uv (Ap GA rfl) (uv (Ap CB rfl) (uv (AS isAgg22 rfl (Has.frozen ak) rfl) (uv (AJ underlying22 rfl) ?_))))
 obtain ⟨g1, r2⟩ := AF hr
 obtain ⟨l, h3, r4⟩ := BI r2
 refine Ft (R := (J4 8 (cI .i64))) (z0 := List.replicate 8 0) (zs := l) rfl Rv (by decide) (BF (n := 8) (sz := 1) (DI .i64)) (fun _ => ⟨rfl, rfl⟩) rfl g1 h3 (fun _ => .n) ?_; intro a5 n8 gn fm
 refine Bu rfl zeroValue123 ?_; intro N4 gp
 refine BL (i := 0) sizeOf123 rfl rfl rfl rfl (DD rfl) (AB rfl (Aa ?_))
 obtain ⟨out, gq, fo⟩ := Az r4
 refine AO (fun e1 F1 L1 => ∃ (bh : LH), AQ F F1 ∧ L1 = ((N4, ce #[sL a5 n8 n8] 123) :: (bh ++ [])) ∧ e1.sub [(3, pO N4)] ∧ AI K.w0.heap.size 121 8 (J4 8 (cI .i64)) F1 a5 n8 n8 out bh) ?_ ?_
 ·clear fo
  refine AG (uv (Co isAgg123 0) (uv ((AJ underlying123 rfl).i (AI.FE fm)) ?_))
  refine um (Aa ?_)
  refine As ?_
  obtain ⟨gr, gu⟩ := AF gq
  refine A6 (fun dk e1 F1 L1 => ∃ (k : Int), B0 0 (l.length : Int) k dk ∧ ∃ (ay : List (List Int)) (ar : LH), Fm Af Ac Ah Ab Ak dk k ay = some out ∧ AQ F F1 ∧ L1 = ((N4, ce #[sL a5 n8 n8] 123) :: (ar ++ [])) ∧ e1.sub [(0, pO Of), (3, pO N4), (15, vI (l.length : Int)), (16, vI k)] ∧ AI K.w0.heap.size 121 8 (J4 8 (cI .i64)) F1 a5 n8 n8 ay ar) _ (m0 kr ⟨_, B0.start _ _, l, gn, gu, AQ.refl _, rfl, z4, fm⟩) ?_
  rintro dk e1 fp _ ⟨k, bj, ay, ar, dm, al, rfl, du, br⟩
  refine AA _ du ?_
  replace ab := ab.mono (Ay kJ) al
  replace aa := aa.m1 al
  replace ad := ad.mono (Ai kI kP) al
  replace ak := al _ _ ak
  refine AG (uv (AY rfl rfl) ?_)
  refine Aa (Au ?_)
  refine cQ (fun dp => ?_) fun dp => ?_
  ·obtain ⟨dk, rfl, dv⟩ := B0.succ bj dp
   rw [Fm] at dm
   refine Ar ?_
   obtain ⟨bk, gv, fq⟩ := Az dm
   refine AO (fun e1 F1 L1 => ∃ (az : LH), AQ fp F1 ∧ L1 = ((N4, ce #[sL a5 n8 n8] 123) :: (az ++ [])) ∧ e1.sub [(0, pO Of), (3, pO N4), (15, vI (l.length : Int)), (16, vI k)] ∧ AI K.w0.heap.size 121 8 (J4 8 (cI .i64)) F1 a5 n8 n8 bk az) ?_ ?_
   ·clear fq
    refine As ?_
    refine AG (um ?_)
    refine Bu rfl zeroValue3 ?_; intro bl gw
    refine BL (i := 0) sizeOf3 rfl rfl rfl rfl (DD rfl) (AB rfl ?_)
    refine BR (um (Aa ?_))
    refine As ?_
    obtain ⟨gz, ia⟩ := AF gv
    refine A6 (fun dq e1 F1 L1 => ∃ (k2 : Int), B0 0 8 k2 dq ∧ ∃ (ba : List (List Int)) (aj : LH), Fi Af Ac Ah Ab Ak k dq k2 ba = some bk ∧ AQ fp F1 ∧ L1 = ((bl, ce #[vI k] 3) :: ((N4, ce #[sL a5 n8 n8] 123) :: (aj ++ []))) ∧ e1.sub [(0, pO Of), (3, pO N4), (4, pO bl), (15, vI (l.length : Int)), (16, vI k), (19, vI k2)] ∧ AI K.w0.heap.size 121 8 (J4 8 (cI .i64)) F1 a5 n8 n8 ba aj) _ (m0 kr ⟨_, B0.start _ _, ay, ar, ia, AQ.refl _, rfl, z6, br⟩) ?_
    rintro dq e1 ib _ ⟨k2, bm, ba, aj, dr, ao, rfl, dw, ai⟩
    refine AA _ dw ?_
    replace ab := ab.mono (Ay kJ) ao
    replace aa := aa.m1 ao
    replace ad := ad.mono (Ai kI kP) ao
    replace ak := ao _ _ ak
    refine AG (uv (AY rfl rfl) ?_)
    refine Aa (Au ?_)
    refine cQ (fun dt => ?_) fun dt => ?_
    ·obtain ⟨dq, rfl, dx⟩ := B0.succ bm dt
     rw [Fi] at dr
     refine Ar ?_
     obtain ⟨bn, ic, ft⟩ := Az dr
     refine AO (fun e1 F1 L1 => ∃ (bb : LH), AQ ib F1 ∧ L1 = ((bl, ce #[vI k] 3) :: ((N4, ce #[sL a5 n8 n8] 123) :: (bb ++ []))) ∧ e1.sub [(0, pO Of), (3, pO N4), (4, pO bl), (15, vI (l.length : Int)), (16, vI k), (19, vI k2)] ∧ AI K.w0.heap.size 121 8 (J4 8 (cI .i64)) F1 a5 n8 n8 bn bb) ?_ ?_
     ·clear ft
      refine As ?_
      refine AG (um ?_)
      refine Bu rfl zeroValue3 ?_; intro dy ie
      refine BL (i := 0) sizeOf3 rfl rfl rfl rfl (DD rfl) (AB rfl (Aa (As (dW (wm (wv (BQ rfl) (wv (Ap GA rfl) ?_)))))))
      refine wv (Bn isAgg26 sizeOf26 rfl (Has.frozen ak) (DD rfl) rfl) (wv (Co isAgg3 1) (wv (Co isAgg3 0) ?_))
      obtain ⟨ok, ig, fv⟩ := Az ic
      refine Dy rfl call77 rfl rfl rfl (HU ab aa ad ig) (wv (Bo rfl) ?_)
      refine wa (B6 ?_)
      refine AV rfl (fun dz => ?_) (fun dz => ?_)
      ·have ij := bt fv dz
       refine Ar (AD (id := 4) (AD (id := 3) ?_))
       obtain rfl := AL ij
       exact mi (kd kr) ⟨aj, AQ.refl _, rfl, z6, ai⟩
      have fw := bf fv dz
      refine AG (uv (Co isAgg3 1) (uv (Bx rfl rfl) ?_))
      refine ua (Aa ?_)
      refine cQ (fun eb => ?_) fun eb => ?_
      ·have ik := A2 fw eb
       refine BK [(.still, 0), (.still, 1), (.still, 2), (.still, 3), (.still, 4), (.seq, 5)] (by kernel_rfl) (by kernel_rfl) (trivial) (by rfl) (by kernel_rfl) (mK [3] isAgg123 2 rfl rfl rfl rfl (mK [4] isAgg3 1 rfl rfl rfl rfl (mK [5] isAgg3 0 rfl rfl rfl rfl ?_)))
       obtain ⟨x, ec, bu, il⟩ := BG ik
       obtain ⟨im, iq, jn, ir, bw, iu, fx, ⟨rfl, ef⟩, iv, iw⟩ := AI.at (BF (n := 8) (sz := 1) (DI .i64)) ai (L := aj ++ []) fP ec.1 bu
       refine mS [53, 54] rfl (BZ underlying123 sizeOf121 rfl bw rfl (AI.idx ai ec)) ?_
       obtain ⟨x2, eg, iy, iz⟩ := BG il
       refine mS [55, 56] rfl (D1 underlying121 sizeOf3 rfl rfl (IT ef eg)) ?_
       refine ⟨_, [(57, .pointer (some ⟨im, iq + (k : Int).toNat * 8 + (k2 : Int).toNat * 1, none⟩))], rfl, rfl, z1, by kernel_rfl, ?_⟩; intro H
       obtain ⟨l2, j0, j1⟩ := BI iz
       refine JC (zs := l2) (off := (k2 : Int).toNat * 1) (x0 := x) (u := x.set (k2 : Int).toNat 1) sizeOf3 (BF (n := 8) (sz := 1) (DI .i64)) rfl bw rfl rfl (Pa (IT ef eg)) bu (fun vs h => NS (DI .i64) h (O1 (IT ef eg)) rfl) (fun _ => .c (.c (.c .h))) ai j0 ec ?_; intro eh ei
       refine Aa ⟨undef, rfl, AQ.refl _, [], by kernel_rfl, .inl (.inl rfl), nm, ?_⟩
       refine Ce ?_
       refine AD (id := 4) (AD (id := 3) ?_)
       obtain rfl := AL j1
       exact mi (kd kr) ⟨eh, AQ.refl _, rfl, z6, ei⟩
      have j2 := A3 fw eb
      refine AG (uv (Co isAgg3 0) ?_)
      obtain ⟨y, j3, j4⟩ := Az j2
      refine c0 call130 (Me j3) ?_; rintro _ jo _ bx j5 ⟨ej, rfl, rfl, bz⟩
      replace ai := ai.mono (BF (n := 8) (sz := 1) (DI .i64)) bx
      refine AB (ln rfl) (Aa (As ?_))
      refine LX (encs := (fun x : Int => #[vI x])) (xs := y) rfl call139 rfl (fun _ => rfl) bz (fun pre F1 L1 => ∃ (tl : List Int) (aq : List (List Int)) (ae : LH), y = pre ++ tl ∧ Fo k k2 tl aq = some bn ∧ L1 = ((dy, ce #[vI k2] 3) :: ((bl, ce #[vI k] 3) :: ((N4, ce #[sL a5 n8 n8] 123) :: (ae ++ [])))) ∧ AI K.w0.heap.size 121 8 (J4 8 (cI .i64)) F1 a5 n8 n8 aq ae) (fun _ _ _ => False) ?_ ?_ ?_ ?_ ?_ ?_
      ·rintro pre F1 F2 L1 ⟨tl, aq, ae, au, j6, rfl, ah⟩ hx; exact ⟨tl, aq, ae, au, j6, rfl, ah.mono (BF (n := 8) (sz := 1) (DI .i64)) hx⟩
      ·intro c F1 F2 L1 h hx; exact h
      ·exact ⟨_, ba, aj, rfl, j4, rfl, ai⟩
      ·rintro jq j7 j8 j9 ja jb fy ga pre x3 jr av js _ gb ⟨tl, aq, ae, au, cb, rfl, ah⟩
       obtain rfl := OD au av
       rw [Fo] at cb
       refine AA [(0, pO Of), (3, pO N4), (4, pO bl), (5, pO dy), (15, vI (l.length : Int)), (16, vI k), (19, vI k2), (23, .func (.func 139) #[] ej), (24, vI x3)] (by exact (sc rfl z8)) ?_
       refine Aq (ua (Aa ?_))
       refine ⟨rfl, ?_⟩
       refine As (BK [(.still, 0), (.still, 1), (.still, 2), (.still, 3), (.still, 4), (.still, 5), (.still, 6), (.still, 7), (.still, 8), (.still, 9), (.still, 10), (.still, 11), (.still, 12), (.still, 13), (.still, 14), (.still, 15), (.seq, 16)] (by kernel_rfl) (by kernel_rfl) (trivial) (by rfl) (by kernel_rfl) (mK [3] isAgg123 2 rfl rfl rfl rfl (mK [4] isAgg3 1 rfl rfl rfl rfl (mK [5] isAgg3 0 rfl rfl rfl rfl ?_))))
       obtain ⟨x4, aw, ax, en⟩ := BG cb
       obtain ⟨jc, jd, je, gg, cc, cf, bo, ⟨rfl, cg⟩, cj, ck⟩ := AI.at (BF (n := 8) (sz := 1) (DI .i64)) ah (L := ae ++ []) fP aw.1 ax
       refine mS [25, 26] rfl (BZ underlying123 sizeOf121 rfl cc rfl (AI.idx ah aw)) ?_
       obtain ⟨x5, bc, cn, eo⟩ := BG en
       have cp := Qr (DI .i64) cg cn ck bo cj
       refine mS [27, 28] rfl (D1 underlying121 sizeOf3 rfl rfl (IT cg bc)) (mL [29] (ae ++ []) rfl (s0 (s1 (s1 (s1 (s4 sr))))) (fun H F' L' ep er => AS isAgg3 rfl (cf.ext ep er) ((cp).2.2 0 (by decide))) (mK [3] isAgg123 2 rfl rfl rfl rfl (mK [4] isAgg3 1 rfl rfl rfl rfl ?_)))
       obtain ⟨et, eu⟩ := AF eo
       refine mS (v := vI (k - 1)) [32] rfl (EU rfl rfl et) (mS [6] rfl (A9 rfl) ?_)
       obtain ⟨x6, cq, cr, ew⟩ := BG eu
       obtain ⟨jf, jg, jh, gh, ct, cu, bp, ⟨rfl, cv⟩, cw, cx⟩ := AI.at (BF (n := 8) (sz := 1) (DI .i64)) ah (L := ae ++ []) fP cq.1 cr
       refine mS [31, 33] rfl (BZ underlying123 sizeOf121 rfl ct rfl (AI.idx ah cq)) ?_
       obtain ⟨x7, ey, cy, ez⟩ := BG ew
       have cz := Qr (DI .i64) cv cy cx bp cw
       refine mS [34, 35] rfl (D1 underlying121 sizeOf3 rfl rfl (IT cv ey)) (mL [36] (ae ++ []) rfl (s0 (s1 (s1 (s1 (s4 sr))))) (fun H F' L' ep er => AS isAgg3 rfl (cu.ext ep er) ((cz).2.2 0 (by decide))) ?_)
       obtain ⟨fa, fb⟩ := AF ez
       refine mS (v := vI (x5 + x7)) [30, 37] rfl (A4 rfl rfl fa) ?_
       obtain ⟨fe, ff, ji, gi, bd, gj, fg, ⟨rfl, bq⟩, gk, gl⟩ := AI.at (BF (n := 8) (sz := 1) (DI .i64)) ah (L := ae ++ []) fP aw.1 ax
       refine mS [25, 26] rfl (BZ underlying123 sizeOf121 rfl bd rfl (AI.idx ah aw)) (mS [27, 39] rfl (D1 underlying121 sizeOf3 rfl rfl (IT bq bc)) ?_)
       refine ⟨_, [(38, vI (x5 + x7)), (40, .pointer (some ⟨fe, ff + (k : Int).toNat * 8 + (k2 : Int).toNat * 1, none⟩))], rfl, rfl, z2, by kernel_rfl, ?_⟩; intro H
       obtain ⟨l3, fh, fi⟩ := BI fb
       refine JC (zs := l3) (off := (k2 : Int).toNat * 1) (x0 := x4) (u := x4.set (k2 : Int).toNat (x5 + x7)) sizeOf3 (BF (n := 8) (sz := 1) (DI .i64)) rfl bd rfl rfl (Pa (IT bq bc)) ax (fun vs h => NS (DI .i64) h (O1 (IT bq bc)) rfl) (fun _ => .c (.c (.c .h))) ah fh aw ?_; intro bg da
       refine Aa ⟨undef, rfl, AQ.refl _, [], by kernel_rfl, .inl (.inl rfl), nm, ?_⟩
       refine Ce (AD (id := 6) ?_)
       refine ⟨(dy, ce #[vI k2] 3) :: ((bl, ce #[vI k] 3) :: ((N4, ce #[sL a5 n8 n8] 123) :: (bg ++ []))), ⟨_, .refl _, sr⟩, ?_⟩; exact ⟨_, l3, bg, (by rw [av]; simp), fi, rfl, da⟩
      ·rintro jj _ db ⟨tl, aq, ae, au, dd, rfl, ah⟩
       obtain rfl := PH au; rw [Fo] at dd
       refine AD (id := 5) (AD (id := 4) (AD (id := 3) ?_))
       obtain rfl := AL dd
       exact mi (kd kr) ⟨ae, (bx.trans db), rfl, z6, ah⟩
      intro c F1 L1 hx h; exact h.elim
     rintro e1 jk _ ⟨bb, de, rfl, df, fj⟩
     refine AA _ df (Aq (uv (A4 rfl rfl (B0.CE bm dt gz)) ?_))
     refine um (Aa ?_)
     exact le kr ⟨_, dx, bn, bb, ft, (ao.trans de), rfl, z6, fj⟩
    obtain rfl := B0.zero bm dt
    rw [Fi] at dr
    refine AM (Aj (Aj ?_))
    refine Ax (AD (id := 1) ?_)
    obtain rfl := AL dr
    exact mi (kd kr) ⟨aj, ao, rfl, z4, ai⟩
   rintro e1 jl _ ⟨az, dg, rfl, dh, fk⟩
   refine AA _ dh (Aq (uv (A4 rfl rfl (B0.CE bj dp gr)) ?_))
   refine um (Aa ?_)
   exact le kr ⟨_, dv, bk, az, fq, (al.trans dg), rfl, z4, fk⟩
  obtain rfl := B0.zero bj dp
  rw [Fm] at dm
  refine AM (Aj (Aj ?_))
  refine Ax ?_
  obtain rfl := AL dm
  exact mi kr ⟨ar, al, rfl, z1, br⟩
 rintro e1 jm _ ⟨bh, gm, rfl, di, fl⟩
 refine AA _ di (AG (uv (Co isAgg123 0) ?_))
 refine ua (Aa ?_)
 refine kW (kd kr) (Aw (B7 results123 ?_))
 obtain rfl := AL fo
 exact ⟨_, _, _, _, rfl, rfl, fl.any⟩
set_option maxHeartbeats 1000000 in
theorem Kz {aa : Nat} {ad : LH} {s_ : List Int} {ab : Nat} (aj : AI ab 3 1 eI F E4 aa E3 s_ ad) {r : List Int} (hr : Gq s_ = some r) :
    SH.Spec Tryz.prog 124 #[sL E4 aa E3] F (ad ++ []) fun F' L' v => ∃ (rL : LH), v = .tuple #[] ∧ L' = rL ++ [] ∧ AI ab 3 1 eI F' E4 aa E3 r rL := by
 refine sp func124 ntmps124 fun K _ _ => ?_
 rw [Gq] at hr
 refine E5 (L' := ad ++ []) (by simp) ?_
 refine AG (um ?_)
 refine uv ((AJ underlying22 rfl).i (AI.FE aj)) ?_
 obtain ⟨g1, r2⟩ := AF hr
 refine uv (EU rfl rfl g1) ?_
 refine ua (ua (Aa ?_))
 refine As ?_
 refine A6 (fun ar e1 F1 L1 => ∃ (au : List Int) (i : Int) (j : Int) (ae : LH), CL ar au i j = some r ∧ F = F1 ∧ L1 = (ae ++ []) ∧ e1.sub [(0, sL E4 aa E3), (2, vI i), (3, vI j)] ∧ AI ab 3 1 eI F1 E4 aa E3 au ae) FU (m0 kr ⟨s_, 0, (s_.length : Int) - 1, ad, r2, rfl, rfl, z3, aj⟩) ?_
 rintro ar e1 _ _ ⟨au, i, j, ae, r7, rfl, rfl, br, ah⟩
 refine AA _ br ?_
 rcases ar with _ | ar
 ·rw [CL] at r7; cases r7
 rw [CL] at r7
 refine Au (AG (um (um ?_)))
 refine uv (AY rfl rfl) (Aa ?_)
 refine cQ (fun c9 => ?_) fun c9 => ?_
 ·have bu := A2 r7 c9
  refine Ar (Au ?_)
  refine As (BK [(.still, 0), (.still, 1), (.still, 2), (.still, 3), (.still, 4), (.still, 5), (.still, 6), (.still, 7), (.still, 8), (.still, 9), (.still, 10), (.still, 11), (.still, 12), (.seq, 13), (.still, 14), (.seq, 15)] (by kernel_rfl) (by kernel_rfl) (trivial) (by rfl) (by kernel_rfl) (mS [0] rfl (A9 rfl) (mS [2] rfl (A9 rfl) (mS [0] rfl (A9 rfl) (mS [3] rfl (A9 rfl) (mS [0] rfl (A9 rfl) (mS [3] rfl (A9 rfl) ?_)))))))
  obtain ⟨x, bm, av, bw⟩ := BG bu
  obtain ⟨dk, dm, dp, bx, aw, ax, bn, rfl, bz, ay⟩ := AI.at kI ah (L := ae ++ []) fP bm.1 av
  refine mS [18, 19] rfl (BZ underlying22 sizeOf3 rfl aw rfl (AI.idx ah bm)) (mL [20] (ae ++ []) rfl (s0 sr) (fun H F' L' az ba => AS isAgg3 rfl (ax.ext az ba) (ay 0 (by decide))) (mS [0] rfl (A9 rfl) (mS [2] rfl (A9 rfl) ?_)))
  obtain ⟨x2, ak, al, cb⟩ := BG bw
  obtain ⟨dq, dr, dt, cc, bb, bc, bo, rfl, cf, bd⟩ := AI.at kI ah (L := ae ++ []) fP ak.1 al
  refine mS [22, 23] rfl (BZ underlying22 sizeOf3 rfl bb rfl (AI.idx ah ak)) (mL [24] (ae ++ []) rfl (s0 sr) (fun H F' L' az ba => AS isAgg3 rfl (bc.ext az ba) (bd 0 (by decide))) ?_)
  obtain ⟨cg, cj, du, ck, ao, cn, bp, rfl, cp, cq⟩ := AI.at kI ah (L := ae ++ []) fP ak.1 al
  refine mS [14, 15] rfl (BZ underlying22 sizeOf3 rfl ao rfl (AI.idx ah ak)) ?_
  refine ⟨_, [(21, vI x), (26, .pointer (some ⟨cg, cj + (i : Int).toNat * 1, none⟩))], rfl, rfl, z2, by kernel_rfl, ?_⟩; intro H
  obtain ⟨l, cr, ct⟩ := BI cb
  refine Dq (u := x) sizeOf3 kI rfl ao rfl rfl (fun _ => .h) ah cr ak ?_; intro bg ai
  refine Aa ⟨undef, rfl, AQ.refl _, [3, 2], by kernel_rfl, .inl (.inr (fun d h => by cases h)), (fc sm (fc sm nm)), ?_⟩
  obtain ⟨x3, bh, bj, cu⟩ := BG ct
  obtain ⟨cv, cw, dv, cx, aq, cy, bq, rfl, cz, da⟩ := AI.at kI ai (L := bg ++ []) fP bh.1 bj
  refine mS [16, 17] rfl (BZ underlying22 sizeOf3 rfl aq rfl (AI.idx ai bh)) ?_
  refine ⟨_, [(25, vI x2), (27, .pointer (some ⟨cv, cw + (j : Int).toNat * 1, none⟩))], rfl, rfl, z2, by kernel_rfl, ?_⟩; intro H
  obtain ⟨l2, db, dd⟩ := BI cu
  refine Dq (u := x2) sizeOf3 kI rfl aq rfl rfl (fun _ => .h) ai db bh ?_; intro bk bl
  refine Aa ⟨undef, rfl, AQ.refl _, [], by kernel_rfl, .inl (.inl rfl), nm, ?_⟩
  refine Ce ?_
  refine AD (id := 1) (Aq (um ?_))
  obtain ⟨de, df⟩ := AF dd
  refine uv (A4 rfl rfl de) (um ?_)
  obtain ⟨dg, dh⟩ := AF df
  refine uv (EU rfl rfl dg) ?_
  refine ua (ua (Aa ?_))
  exact le kr ⟨l2, i + 1, j - 1, bk, dh, rfl, rfl, z3, bl⟩
 have di := A3 r7 c9
 refine AM (Aj (Aj ?_))
 refine Ax (QY (.inr rfl) results124 ?_)
 obtain rfl := AL di
 exact ⟨_, rfl, rfl, ah⟩
set_option maxHeartbeats 1000000 in
theorem Hz (aq : F Of = some (.cells #[vI Af, vI Ac, sL Am Ah.length Al, sL Ae Ab.length Ad, sL Ao Ak.length An] 119 Qd)) (ar : At 1 (CM 1 eJ) F Am Al Ah) (aa : At 1 eI F Ae Ad Ab) (au : At 3 (Br eI eP) F Ao An Ak) {r : List (List Int)} (hr : Fz Af Ac Ah Ab Ak = some r) :
    SH.Spec Tryz.prog 82 #[pO Of] F [] fun F' L' v => ∃ (ra : Option Addr) (rn : Nat) (rc : Nat) (rL : LH), v = sL ra rn rc ∧ L' = rL ++ [] ∧ AI 0 121 8 (J4 8 (cI .i64)) F' ra rn rc r rL := by
 refine sp func82 ntmps82 fun K _ _ => ?_
 rw [Fz] at hr
 refine AG (ua (BR (um ?_)))
 obtain ⟨l, h1, r2⟩ := Az hr
 refine c0 call123 (KF aq ar aa au h1) ?_; rintro _ F3 _ fe fp ⟨a7, aw, c8, ff, rfl, rfl, ab⟩
 replace aa := aa.m1 fe
 replace aq := fe _ _ aq
 replace ab := ab.new fun p hp => fp p (by simp [hp])
 refine AB (lp (ln rfl)) ?_
 refine ua (BR (um ?_))
 refine uv (BQ rfl) (uv (Ap GA rfl) (uv (Ap CB rfl) (uv (AS isAgg22 rfl (Has.frozen aq) rfl) ?_)))
 obtain ⟨l2, fq, ft⟩ := Az r2
 refine c0 call72 (CG aa fq) ?_; rintro _ ib _ cx cy ⟨cz, da, db, dd, rfl, rfl, ay⟩
 replace ab := ab.mono (BF (n := 8) (sz := 1) (DI .i64)) cx
 replace ay := ay.new fun p hp => cy p (by simp [hp])
 refine AB (lp (ln rfl)) ?_
 refine uv (BX (v := .agg #[vI 0, vI 0, sL none 0 0, sL cz da db, sL none 0 0]) rfl (by intro w; kernel_rfl)) ?_
 refine uv (BX (v := .agg #[vI 0, vI 0, sL none 0 0, sL cz da db, sL none 0 0]) rfl (by intro w; kernel_rfl)) ?_
 refine BB rfl rfl ?_; intro fv de
 refine ua (BR (um ?_))
 refine uv (BQ rfl) (uv (Ap GA rfl) (uv (Ap CB rfl) (uv (Co isAgg22 0) ?_)))
 obtain ⟨s_, fw, fx⟩ := Az ft
 refine MW (Lb := dd ++ []) (Lr := (fv, ce #[vI 0, vI 0, sL none 0 0, sL cz da db, sL none 0 0] 119) :: (ff ++ [])) rfl call124 rfl rfl rfl (pT ((fC fP).trans (pA pR)) (lp (ln rfl))) (Kz ay fw) ?_; rintro _ ic _ df fy ga ⟨gb, rfl, rfl, bh⟩
 replace ab := ab.mono (BF (n := 8) (sz := 1) (DI .i64)) df
 refine AB (lp (ln rfl)) (kO (kf (fS fO) kr) ?_)
 refine BR (um ?_)
 obtain rfl := (AI.A1 bh).1
 refine A5 (Nat.le_refl _) kI (fC fP) bh ?_; intro ie dg dh
 replace ab := ab.mono (BF (n := 8) (sz := 1) (DI .i64)) dg
 refine Bj 0 rfl de ?_; intro ig bj di
 refine AB rfl ?_
 replace dh := dh.m1 bj
 replace ab := ab.mono (BF (n := 8) (sz := 1) (DI .i64)) bj
 obtain ⟨l3, gg, gh⟩ := Az fx
 refine c0 call123 (KF di (At.nil _ _ _) dh (At.nil _ _ _) gg) ?_; rintro _ cn _ dk dm ⟨dp, dq, dr, ak, rfl, rfl, al⟩
 replace ab := ab.mono (BF (n := 8) (sz := 1) (DI .i64)) dk
 replace al := al.new fun p hp => dm p (by simp [hp])
 refine AB (lp (ln rfl)) ?_
 refine ua (Aa ?_)
 obtain ⟨there, gi, fg⟩ := Az gh
 refine AO (fun e1 F1 L1 => ∃ (az : LH), cn = F1 ∧ L1 = (az ++ []) ∧ e1.sub [(3, sL a7 aw c8)] ∧ AI K.w0.heap.size 121 8 (J4 8 (cI .i64)) F1 a7 aw c8 there az) ?_ ?_
 ·clear fg
  refine AG (um ?_)
  refine uv ((AJ underlying123 rfl).i (AI.FE ab)) ?_
  refine um (Aa ?_)
  refine As ?_
  obtain ⟨gj, gk⟩ := AF gi
  refine A6 (fun cp e1 F1 L1 => ∃ (k : Int), B0 0 (l.length : Int) k cp ∧ ∃ (ad : List (List Int)) (ao : LH), D4 l3 cp k ad = some there ∧ cn = F1 ∧ L1 = (ao ++ (ak ++ [])) ∧ e1.sub [(3, sL a7 aw c8), (5, sL dp dq dr), (28, vI (l.length : Int)), (29, vI k)] ∧ AI K.w0.heap.size 121 8 (J4 8 (cI .i64)) F1 a7 aw c8 ad ao) _ (m0 (kg (fS fP) kr) ⟨_, B0.start _ _, l, ff, gk, rfl, rfl, z4, ab⟩) ?_
  rintro cp e1 _ _ ⟨k, ba, ad, ao, cq, rfl, rfl, dt, bk⟩
  refine AA _ dt (AG (uv (AY rfl rfl) ?_))
  refine Aa (Au ?_)
  refine cQ (fun cr => ?_) fun cr => ?_
  ·obtain ⟨cp, rfl, du⟩ := B0.succ ba cr
   rw [D4] at cq
   refine Ar ?_
   obtain ⟨ae, gl, fh⟩ := Az cq
   refine AO (fun e1 F1 L1 => ∃ (av : LH), cn = F1 ∧ L1 = (av ++ (ak ++ [])) ∧ e1.sub [(3, sL a7 aw c8), (5, sL dp dq dr), (28, vI (l.length : Int)), (29, vI k)] ∧ AI K.w0.heap.size 121 8 (J4 8 (cI .i64)) F1 a7 aw c8 ae av) ?_ ?_
   ·clear fh
    refine As ?_
    refine AG (um (ua (BR (um (Aa ?_)))))
    refine As ?_
    obtain ⟨gm, gn⟩ := AF gl
    refine A6 (fun ct e1 F1 L1 => ∃ (k2 : Int), B0 0 8 k2 ct ∧ ∃ (ah : List (List Int)) (ai : LH), D0 l3 k ct k2 ah = some ae ∧ cn = F1 ∧ L1 = (ai ++ (ak ++ [])) ∧ e1.sub [(3, sL a7 aw c8), (5, sL dp dq dr), (6, vI k), (28, vI (l.length : Int)), (29, vI k), (32, vI k2)] ∧ AI K.w0.heap.size 121 8 (J4 8 (cI .i64)) F1 a7 aw c8 ah ai) _ (m0 kr ⟨_, B0.start _ _, ad, ao, gn, rfl, rfl, z6, bk⟩) ?_
    rintro ct e1 _ _ ⟨k2, bb, ah, ai, cu, rfl, rfl, dv, aj⟩
    refine AA _ dv (AG (uv (AY rfl rfl) ?_))
    refine Aa (Au ?_)
    refine cQ (fun cv => ?_) fun cv => ?_
    ·obtain ⟨ct, rfl, dw⟩ := B0.succ bb cv
     rw [D0] at cu
     refine Ar (Au ?_)
     refine As ?_
     refine AG (um (ua (Aa ?_)))
     refine BK [(.still, 0), (.still, 1), (.still, 2), (.still, 3), (.still, 4), (.still, 5), (.still, 6), (.still, 7), (.still, 8), (.still, 9), (.still, 10), (.still, 11), (.still, 12), (.still, 13), (.still, 14), (.still, 15), (.still, 16), (.still, 17), (.still, 18), (.seq, 19)] (by kernel_rfl) (by kernel_rfl) (trivial) (by rfl) (by kernel_rfl) (mS [3] rfl (A9 rfl) (mS [6] rfl (A9 rfl) (mS [7] rfl (A9 rfl) ?_)))
     obtain ⟨x, bl, bc, gp⟩ := BG cu
     obtain ⟨ij, ik, il, gq, dx, dy, bm, ⟨rfl, fi⟩, dz, eb⟩ := AI.at (BF (n := 8) (sz := 1) (DI .i64)) aj (L := ai ++ []) fP bl.1 bc
     refine mS [35, 36] rfl (BZ underlying123 sizeOf121 rfl dx rfl (AI.idx aj bl)) ?_
     obtain ⟨x2, cw, ec, gr⟩ := BG gp
     have ef := Qr (DI .i64) fi ec eb bm dz
     refine mS [37, 38] rfl (D1 underlying121 sizeOf3 rfl rfl (IT fi cw)) (mL [39] (ai ++ []) rfl (s0 (s4 (s3 sr))) (fun H F' L' bn bo => AS isAgg3 rfl (dy.ext bn bo) ((ef).2.2 0 (by decide))) (mS [5] rfl (A9 rfl) (mS [5] rfl (A9 rfl) (mS [42] rfl ((AJ underlying123 rfl).i (AI.FE al)) ?_))))
     obtain ⟨gu, eg⟩ := AF gr
     refine mS (v := vI ((l3.length : Int) - 1)) [43] rfl (EU rfl rfl gu) (mS [6] rfl (A9 rfl) ?_)
     obtain ⟨eh, ei⟩ := AF eg
     refine mS (v := vI (((l3.length : Int) - 1) - k)) [44, 45] rfl (EU rfl rfl eh) (mS [7] rfl (A9 rfl) ?_)
     obtain ⟨x3, bp, bq, ej⟩ := BG ei
     obtain ⟨gv, gw, gz, fj, br, bu, bd, ⟨rfl, bw⟩, bx, bz⟩ := AI.at (BF (n := 8) (sz := 1) (DI .i64)) al (L := ak ++ []) fP bp.1 bq
     refine mL [41, 46] ([]) rfl sm (fun H F' L' bn bo => BZ underlying123 sizeOf121 rfl br rfl (AI.idx al bp)) ?_
     obtain ⟨x4, en, cb, eo⟩ := BG ej
     have cc := Qr (DI .i64) bw cb bz bd bx
     refine mL [47, 48] ([]) rfl sm (fun H F' L' bn bo => D1 underlying121 sizeOf3 rfl rfl (IT bw en)) (mL [49] (ak ++ []) rfl (s0 (s3 (s4 sr))) (fun H F' L' bn bo => AS isAgg3 rfl (bu.ext bn bo) ((cc).2.2 0 (by decide))) ?_)
     obtain ⟨ep, er⟩ := AF eo
     refine mS (v := vI (x2 * x4)) [40, 50] rfl (SJ rfl rfl ep) ?_
     obtain ⟨et, eu, ia, fk, ax, fl, ew, ⟨rfl, bg⟩, fm, fo⟩ := AI.at (BF (n := 8) (sz := 1) (DI .i64)) aj (L := ai ++ []) fP bl.1 bc
     refine mS [35, 36] rfl (BZ underlying123 sizeOf121 rfl ax rfl (AI.idx aj bl)) (mS [37, 52] rfl (D1 underlying121 sizeOf3 rfl rfl (IT bg cw)) ?_)
     refine ⟨_, [(51, vI (x2 * x4)), (53, .pointer (some ⟨et, eu + (k : Int).toNat * 8 + (k2 : Int).toNat * 1, none⟩))], rfl, rfl, z2, by kernel_rfl, ?_⟩; intro H
     obtain ⟨l4, ey, ez⟩ := BI er
     refine JC (zs := l4) (off := (k2 : Int).toNat * 1) (x0 := x) (u := x.set (k2 : Int).toNat (x2 * x4)) sizeOf3 (BF (n := 8) (sz := 1) (DI .i64)) rfl ax rfl rfl (Pa (IT bg cw)) bc (fun vs h => NS (DI .i64) h (O1 (IT bg cw)) rfl) (fun _ => .h) aj ey bl ?_; intro cf cg
     refine Aa ⟨undef, rfl, AQ.refl _, [], by kernel_rfl, .inl (.inl rfl), nm, ?_⟩
     refine Ce ?_
     refine AD (id := 3) (Aq ?_)
     refine uv (A4 rfl rfl (B0.CE bb cv gm)) ?_
     refine um (Aa ?_)
     exact le kr ⟨_, dw, l4, cf, ez, rfl, rfl, z6, cg⟩
    obtain rfl := B0.zero bb cv
    rw [D0] at cu
    refine AM (Aj (Aj ?_))
    refine Ax (AD (id := 1) ?_)
    obtain rfl := AL cu
    exact mi kr ⟨ai, rfl, rfl, z4, aj⟩
   rintro e1 _ _ ⟨av, rfl, rfl, cj, fa⟩
   refine AA _ cj (Aq (uv (A4 rfl rfl (B0.CE ba cr gj)) ?_))
   refine um (Aa ?_)
   exact le kr ⟨_, du, ae, av, fh, rfl, rfl, z4, fa⟩
  obtain rfl := B0.zero ba cr
  rw [D4] at cq
  refine AM (Aj (Aj ?_))
  refine Ax ?_
  obtain rfl := AL cq
  exact mi (ka kn) ⟨ao, rfl, rfl, z1, bk⟩
 rintro e1 _ _ ⟨az, rfl, rfl, ck, fb⟩
 refine AA _ ck ?_
 refine AG (um (ua (Aa (Aw ?_))))
 refine B7 results82 ?_
 obtain rfl := AL fg
 exact ⟨_, _, _, _, rfl, rfl, fb.any⟩
set_option maxHeartbeats 1000000 in
theorem MK (ae : At 1 (CM 1 eJ) F Am Al Ah) (aa : At 1 eI F Ae Ad Ab) (ah : At 3 (Br eI eP) F Ao An Ak) {r r2 : Int} (hr : KV Af Ac Ah Ab Ak = some (r, r2)) :
    Bp Tryz.prog 27 #[.agg #[vI Af, vI Ac, sL Am Ah.length Al, sL Ae Ab.length Ad, sL Ao Ak.length An]] F (.tuple #[vI r, vI r2]) := by
 refine sp func27 ntmps27 fun K _ _ => ?_
 rw [KV] at hr
 refine AG ?_
 refine BB rfl rfl ?_; intro b1 dh
 refine ua (ua (BR ?_))
 refine uv (Cv isAgg26 sizeOf26 0) ?_
 obtain ⟨d, n, h2, r3⟩ := Ca hr
 refine c0 call81 (HF ae aa ah h2) ?_; rintro _ F4 _ di dk ⟨v8, rfl, rfl, bp⟩
 refine AB (ln rfl) ?_
 refine um (ox rfl rfl rfl (ox rfl rfl rfl (ua (ua (Aa (Au (AG (um ?_))))))))
 refine uv (BU rfl rfl) (Aa ?_)
 refine cQ (fun aw => ?_) fun aw => ?_
 ·have bq := A2 r3 aw
  refine AG (um (ua (ua (Aa ?_))))
  refine kW kn ?_
  refine Aw (Av ?_)
  refine BM results27 (AT rfl) (AT rfl) (sr) ?_
  obtain ⟨rfl, rfl⟩ := Cd bq
  exact rfl
 have br := A3 r3 aw
 refine Ar (AG (ua (Aa ?_)))
 obtain ⟨n2, bu, bm⟩ := Az br
 refine jF ([]) [(6, vI n2)] ?_ fun dm bw => ?_
 ·clear bm
  refine AG (um ?_)
  obtain ⟨AU, ad, ak, ab, al, bx, bz⟩ := Ez bu
  have bn := bp; rw [bx] at bn; obtain ⟨cb, dp, cc, ax, ao, ⟨_, _, rfl, rfl, ⟨_, _, rfl, rfl, ⟨_, _, rfl, ⟨cf, cg, rfl, cj⟩, ⟨_, _, rfl, ⟨ck, cn, rfl, cp⟩, ⟨cq, cr, rfl, ct⟩⟩⟩⟩⟩⟩ := bn; subst ax
  have ao : F4 cb = some (.cells #[vI AU, vI ad, sL cf ak.length cg, sL ck ab.length cn, sL cq al.length cr] 119 cc) := ao
  obtain ⟨l, cu, cv⟩ := Az bz
  refine c0 call82 (Hz ao cj cp ct cu) ?_; rintro _ cw _ ay az ⟨dq, dr, dt, ba, rfl, rfl, ai⟩
  replace ai := ai.new fun p hp => az p (by simp [hp])
  refine AB (lp (ln rfl)) (kO (kf (fS fO) kr) ?_)
  obtain ⟨x, bo, bb, cx⟩ := BG cv
  obtain ⟨du, dv, dw, cy, bc, bd, aj, ⟨rfl, cz⟩, bg, bh⟩ := AI.at (BF (n := 8) (sz := 1) (DI .i64)) ai (L := (b1, ce #[vI Af, vI Ac, sL Am Ah.length Al, sL Ae Ab.length Ad, sL Ao Ak.length An] 26) :: (ba ++ [])) (fC fP) bo.1 bb
  refine uv (C0 underlying123 sizeOf121 bc (AI.idx ai bo)) (uv (Bn isAgg121 sizeOf121 rfl bd aj (Bi aj bg bh)) ?_)
  refine um (Aa ?_)
  refine As (kW kn ?_)
  obtain ⟨da, db⟩ := AF cx
  refine A6 (fun ar e1 F1 L1 => ∃ (k : Int), B0 0 8 k ar ∧ ∃ (n3 : Int), HH x ar k n3 = some n2 ∧ cw = F1 ∧ L1 = [] ∧ e1.sub [(6, vI n3), (20, .agg (arr (cI .i64) x)), (21, vI k)]) _ (m0 kr ⟨_, B0.start _ _, 0, db, rfl, rfl, z3⟩) ?_
  rintro ar e1 _ _ ⟨k, aq, n3, au, rfl, rfl, bj⟩
  refine AA _ bj (AG (uv (AY rfl rfl) ?_))
  refine Aa (Au ?_)
  refine cQ (fun av => ?_) fun av => ?_
  ·obtain ⟨ar, rfl, bk⟩ := B0.succ aq av
   rw [HH] at au
   refine Ar (Au ?_)
   refine As (AG ?_)
   obtain ⟨x2, dd, bl, de⟩ := BG au
   refine uv (Qt (Qg cz dd bl) rfl rfl) ?_
   refine ua (Aa (Aq (um (um ?_))))
   obtain ⟨df, dg⟩ := AF de
   refine uv (A4 rfl rfl df) ?_
   refine ua (Aa (AD (id := 1) (Aq ?_)))
   refine uv (A4 rfl rfl (B0.CE aq av da)) ?_
   refine um (Aa ?_)
   exact le kr ⟨_, bk, n3 + x2, dg, rfl, rfl, z3⟩
  obtain rfl := B0.zero aq av
  rw [HH] at au
  refine AM (Aj (Aj ?_))
  refine Ax ?_
  obtain rfl := AL au
  exact mi kr ⟨ay, rfl, z1⟩
 refine AG (um (ua (ua (Aa (Aw ?_)))))
 refine BM results27 (AT rfl) (AT rfl) (sr) ?_
 obtain ⟨rfl, rfl⟩ := Cd bm
 exact rfl
set_option maxHeartbeats 1000000 in
theorem KZ (aq : At 1 (CM 1 eJ) F Am Al Ah) (ad : At 1 eI F Ae Ad Ab) (ar : At 3 (Br eI eP) F Ao An Ak) {r : List (List Int)} {r2 : Int} (hr : JI Af Ac Ah Ab Ak = some (r, r2)) :
    SH.Spec Tryz.prog 31 #[.agg #[vI Af, vI Ac, sL Am Ah.length Al, sL Ae Ab.length Ad, sL Ao Ak.length An]] F [] fun F' L' v => ∃ (ra : Option Addr) (rn : Nat) (rc : Nat) (rL : LH), v = .tuple #[sL ra rn rc, vI r2] ∧ L' = rL ++ [] ∧ AI 0 22 1 eJ F' ra rn rc r rL := by
 refine sp func31 ntmps31 fun K _ _ => ?_
 rw [JI] at hr
 refine AG ?_
 refine BB rfl rfl ?_; intro b1 iw
 refine ua (ua (BR ?_))
 refine uv (Cv isAgg26 sizeOf26 0) ?_
 obtain ⟨d, n, h2, r3⟩ := Ca hr
 refine c0 call81 (HF aq ad ar h2) ?_; rintro _ F4 _ iy iz ⟨v8, rfl, rfl, gb⟩
 refine AB (ln rfl) ?_
 refine um (ox rfl rfl rfl (ox rfl rfl rfl (ua (ua (Aa (Au (AG (um ?_))))))))
 refine uv (BU rfl rfl) (Aa ?_)
 refine cQ (fun dp => ?_) fun dp => ?_
 ·have gg := A2 r3 dp
  refine AG (um (ua (ua (Aa ?_))))
  refine kW kn ?_
  refine Aw (Av ?_)
  refine BM results31 (AT rfl) (AT rfl) (sr) ?_
  obtain ⟨rfl, rfl⟩ := Cd gg
  exact ⟨_, _, _, [], rfl, rfl, AI.nil _ _ _ _ _⟩
 have gh := A3 r3 dp
 refine Ar (AG (ua (Aa ?_)))
 refine AO (fun e1 F1 L1 => ∃ (out : List (List Int)) (dq : Option Addr) (dr : Nat) (dt : Nat) (bd : LH), Kw out = some (r, r2) ∧ AQ F4 F1 ∧ L1 = (bd ++ []) ∧ e1.sub [(6, sL dq dr dt)] ∧ AI K.w0.heap.size 22 1 eJ F1 dq dr dt out bd) ?_ ?_
 ·refine AG (um ?_)
  obtain ⟨AU, ai, bg, ah, bh, gi, gj⟩ := Ez gh
  have fp := gb; rw [gi] at fp; obtain ⟨gk, j0, gl, du, bj, ⟨_, _, rfl, rfl, ⟨_, _, rfl, rfl, ⟨_, _, rfl, ⟨gm, gn, rfl, gp⟩, ⟨_, _, rfl, ⟨gq, gr, rfl, gu⟩, ⟨gv, gw, rfl, gz⟩⟩⟩⟩⟩⟩ := fp; subst du
  have bj : F4 gk = some (.cells #[vI AU, vI ai, sL gm bg.length gn, sL gq ah.length gr, sL gv bh.length gw] 119 gl) := bj
  obtain ⟨l, ia, ib⟩ := Az gj
  refine c0 call82 (Hz bj gp gu gz ia) ?_; rintro _ ic _ dv dw ⟨db, dd, de, ae, rfl, rfl, aa⟩
  replace aa := aa.new fun p hp => dw p (by simp [hp])
  refine AB (lp (ln rfl)) (kO (kf (fS fO) kr) (uv ((AJ underlying123 rfl).i (AI.FE aa)) ?_))
  refine um (Aa ?_)
  refine As (kW (kd kr) ?_)
  refine A6 (fun fq e1 F1 L1 => LA l fq fun tl k => ∃ (aj : List (List Int)) (br : Option Addr) (bu : Nat) (bw : Nat) (ab : LH), GL tl aj = some (r, r2) ∧ AQ ic F1 ∧ L1 = (ab ++ (ae ++ [])) ∧ e1.sub [(6, sL br bu bw), (21, sL db dd de), (22, vI (l.length : Int)), (23, vI k)] ∧ AI K.w0.heap.size 22 1 eJ F1 br bu bw aj ab) _ (m0 (ke kr) ⟨_, _, rfl, Bq.start _, [], none, 0, 0, [], ib, AQ.refl _, rfl, z4, AI.nil _ _ _ _ _⟩) ?_
  rintro fq e1 dx _ ⟨tl, k, dy, bk, aj, br, bu, bw, ab, df, bl, rfl, dz, au⟩
  refine AA _ dz ?_
  replace aa := aa.mono (BF (n := 8) (sz := 1) (DI .i64)) bl
  refine AG (uv (AY rfl rfl) ?_)
  refine Aa (Au ?_)
  refine cQ (fun dg => ?_) fun dg => ?_
  ·obtain ⟨x, ie, rfl, eb, ft, ec⟩ := Bq.succ bk dg
   rw [GL] at df
   refine Ar ?_
   refine AO (fun e1 F1 L1 => ∃ (av : List (List Int)) (dh : Option Addr) (di : Nat) (dk : Nat) (aw : LH), KB (GL ie) av = some (r, r2) ∧ AQ dx F1 ∧ L1 = (aw ++ (ae ++ [])) ∧ e1.sub [(6, sL dh di dk), (21, sL db dd de), (22, vI (l.length : Int)), (23, vI k)] ∧ AI K.w0.heap.size 22 1 eJ F1 dh di dk av aw) ?_ ?_
   ·refine As (AG ?_)
    obtain ⟨j1, j2, j3, ig, ef, eg, az, ⟨rfl, eh⟩, ei, ej⟩ := AI.at (BF (n := 8) (sz := 1) (DI .i64)) aa (L := ab ++ (ae ++ [])) (fS fP) ft.1 eb
    refine uv (C0 underlying123 sizeOf121 ef (AI.idx aa ft)) (uv (Bn isAgg121 sizeOf121 rfl eg az (Bi az ei ej)) ?_)
    refine Bu rfl zeroValue121 ?_; intro fv ij
    refine AB (L' := (fv, ce (arr (cI .i64) (List.replicate 8 0)) 121) :: (ab ++ (ae ++ []))) rfl (GF (i := 0) sizeOf121 rfl rfl rfl (Gk (DI .i64) List.length_replicate) (Gk (DI .i64) eh) (LM (DI .i64)) (AB (L' := (fv, ce (arr (cI .i64) x) 121) :: (ab ++ (ae ++ []))) rfl ?_))
    refine BR (ua (Aa ?_))
    obtain ⟨own, ik, en⟩ := Az df
    refine AO (fun e1 F1 L1 => ∃ (bx : Option Addr) (cb : Nat) (bz : Nat) (bm : LH), dx = F1 ∧ L1 = (ab ++ (bm ++ (ae ++ []))) ∧ e1.sub [(6, sL br bu bw), (9, sL bx cb bz), (21, sL db dd de), (22, vI (l.length : Int)), (23, vI k)] ∧ AI K.w0.heap.size 3 1 eI F1 bx cb bz own bm) ?_ ?_
    ·clear en
     refine AG (uv (K9 isAgg121 sizeOf121 rfl (Has.own 0 rfl) (Gk (DI .i64) eh)) ?_)
     refine um (Aa ?_)
     refine As (kW (kd kr) ?_)
     obtain ⟨fw, il⟩ := AF ik
     refine A6 (fun dm e1 F1 L1 => ∃ (k2 : Int), B0 0 8 k2 dm ∧ ∃ (ak : List Int) (cc : Option Addr) (cf : Nat) (cg : Nat) (al : LH), GO x dm k2 ak = some own ∧ dx = F1 ∧ L1 = (ab ++ (al ++ (ae ++ []))) ∧ e1.sub [(6, sL br bu bw), (9, sL cc cf cg), (21, sL db dd de), (22, vI (l.length : Int)), (23, vI k), (27, .agg (arr (cI .i64) x)), (28, vI k2)] ∧ AI K.w0.heap.size 3 1 eI F1 cc cf cg ak al) _ (m0 (ka (ke kr)) ⟨_, B0.start _ _, [], none, 0, 0, [], il, rfl, rfl, z7, AI.nil _ _ _ _ _⟩) ?_
     rintro dm e1 _ _ ⟨k2, ax, ak, cc, cf, cg, al, ay, rfl, rfl, cj, bn⟩
     refine AA _ cj (AG (uv (AY rfl rfl) ?_))
     refine Aa (Au ?_)
     refine cQ (fun ao => ?_) fun ao => ?_
     ·obtain ⟨dm, rfl, ba⟩ := B0.succ ax ao
      rw [GO] at ay
      refine Ar (Au ?_)
      refine As ?_
      refine AG (um ?_)
      obtain ⟨x2, eo, ck, cn⟩ := BG ay
      refine uv (Qt (Qg eh eo ck) rfl rfl) ?_
      refine ua (ua (BR (um ?_)))
      refine uv (C2 rfl rfl) (Aa ?_)
      refine cQ (fun bo => ?_) fun bo => ?_
      ·have ep := A2 cn bo
       refine Aq (um (um ?_))
       refine bA (cs := #[vI k2]) Bm [vI k2] ?_; intro im fx
       obtain ⟨cp, er, et, eu⟩ := Ea ep
       refine CJ (xs := ak) (ys := [k2]) (zs := cp) rfl Bm rfl rfl (Nat.le_refl _) (fun _ => .c (.s .h)) bn (FL.box (vss := [[vI k2]]) (ys := [k2]) 0 rfl kI (.cons rfl .nil) rfl rfl) er et (by decide) ?_; intro ew ey ez cq cr
       refine kO (kd kr) ?_
       refine ua (Aa (AD (id := 3) (Aq ?_)))
       refine uv (A4 rfl rfl (B0.CE ax ao fw)) ?_
       refine um (Aa ?_)
       exact le kr ⟨_, ba, cp, ew, ey, ez, cq, eu, rfl, rfl, z7, cr⟩
      have fa := A3 cn bo
      refine Ar (AD (id := 3) (Aq ?_))
      refine uv (A4 rfl rfl (B0.CE ax ao fw)) ?_
      refine um (Aa ?_)
      exact le kr ⟨_, ba, ak, cc, cf, cg, al, fa, rfl, rfl, z7, bn⟩
     obtain rfl := B0.zero ax ao
     rw [GO] at ay
     refine AM (Aj (Aj ?_))
     refine Ax ?_
     obtain rfl := AL ay
     exact mi kr ⟨cc, cf, cg, al, rfl, rfl, z5, bn⟩
    rintro e1 _ _ ⟨bx, cb, bz, bm, rfl, rfl, ct, bp⟩
    refine AA _ ct ?_
    refine Au (AG (um ?_))
    refine uv ((AJ underlying22 rfl).i (AI.FE bp)) (uv (Bx rfl rfl) (Aa ?_))
    refine cQ (fun bq => ?_) fun bq => ?_
    ·have fb := A2 en bq
     refine AG (ua (ua (Aa ?_)))
     refine kW kn ?_
     refine Aw (Av (AH (Av (Av (AH (Av ?_))))))
     refine BM results31 (AT rfl) (AT rfl) (sr) ?_
     obtain ⟨rfl, rfl⟩ := Cd fb
     exact ⟨_, _, _, [], rfl, rfl, AI.nil _ _ _ _ _⟩
    have fe := A3 en bq
    refine Ar (Aq (um (um ?_)))
    refine bA (cs := #[sL bx cb bz]) FI [sL bx cb bz] ?_; intro iq fy
    obtain rfl := (AI.A1 bp).1
    refine A5 (Nat.le_refl _) kI (fC (fS fP)) bp ?_; intro ir bb ff
    replace au := au.m2 bb
    obtain ⟨cu, fg, fh, fi⟩ := Ea fe
    refine CJ (xs := aj) (ys := [own]) (zs := cu) rfl FI rfl rfl (Nat.le_refl _) (fun _ => .c .h) au (FL.box (vss := [[sL bx own.length bz]]) (ys := [own]) 0 rfl kJ (.cons ⟨_, _, rfl, ff⟩ .nil) rfl rfl) fg fh (by decide) ?_; intro fj fk fl cv cw
    refine kO (kd kr) ?_
    refine ua (Aa (AD (id := 1) ?_))
    exact mi kr ⟨cu, fj, fk, fl, cv, fi, bb, rfl, z4, cw⟩
   rintro e1 iu _ ⟨av, dh, di, dk, aw, cx, bc, rfl, cy, fm⟩
   refine AA _ cy ?_
   replace aa := aa.mono (BF (n := 8) (sz := 1) (DI .i64)) bc
   rw [KB] at cx
   refine Aq (uv (A4 rfl rfl (Bq.CE bk dg (AI.Po aa))) ?_)
   refine um (Aa ?_)
   subst dy; exact le kr ⟨_, _, rfl, ec, av, dh, di, dk, aw, cx, (bl.trans bc), rfl, z4, fm⟩
  obtain rfl := Bq.zero bk dg
  rw [GL] at df
  refine AM (Aj (Aj ?_))
  refine Ax ?_
  exact mi (ka kn) ⟨aj, br, bu, bw, ab, df, (dv.trans bl), rfl, z1, au⟩
 rintro e1 iv _ ⟨out, dq, dr, dt, bd, cz, ga, rfl, da, fo⟩
 refine AA _ da ?_
 rw [Kw] at cz
 refine AG (um (ua (ua (Aa (Aw ?_)))))
 refine BM results31 (AT rfl) (AT rfl) (sr) ?_
 obtain ⟨rfl, rfl⟩ := Cd cz
 exact ⟨_, _, _, _, rfl, rfl, fo.any⟩
set_option maxHeartbeats 1000000 in
theorem KY (ak : At 1 (CM 1 eJ) F Am Al Ah) (ad : At 1 eI F Ae Ad Ab) (al : At 3 (Br eI eP) F Ao An Ak) {r : List Int} {r2 : Int} (hr : JK Af Ac Ah Ab Ak = some (r, r2)) :
    SH.Spec Tryz.prog 30 #[.agg #[vI Af, vI Ac, sL Am Ah.length Al, sL Ae Ab.length Ad, sL Ao Ak.length An]] F [] fun F' L' v => ∃ (ra : Option Addr) (rn : Nat) (rc : Nat) (rL : LH), v = .tuple #[sL ra rn rc, vI r2] ∧ L' = rL ++ [] ∧ AI 0 3 1 eI F' ra rn rc r rL := by
 refine sp func30 ntmps30 fun K _ _ => ?_
 rw [JK] at hr
 refine AG ?_
 refine BB rfl rfl ?_; intro b1 fl
 refine ua (ua (BR ?_))
 refine uv (Cv isAgg26 sizeOf26 0) ?_
 obtain ⟨l, n, h2, r3⟩ := Ca hr
 refine c0 call31 (KZ ak ad al h2) ?_; rintro _ F4 _ fm ej ⟨a8, bg, c9, ae, rfl, rfl, ah⟩
 replace ah := ah.new fun p hp => ej p (by simp [hp])
 refine AB (lp (ln rfl)) (kO (kf (fS fO) kr) ?_)
 refine um (ox rfl rfl rfl (ox rfl rfl rfl (ua (ua (Aa (Au (AG (um ?_))))))))
 refine uv (BU rfl rfl) (Aa ?_)
 refine cQ (fun bp => ?_) fun bp => ?_
 ·have en := A2 r3 bp
  refine AG (um (ua (ua (Aa ?_))))
  refine kW kn ?_
  refine Aw (Av ?_)
  refine BM results30 (AT rfl) (AT rfl) (sr) ?_
  obtain ⟨rfl, rfl⟩ := Cd en
  exact ⟨_, _, _, [], rfl, rfl, AI.nil _ _ _ _ _⟩
 have eo := A3 r3 bp
 refine Ar (AG (ua (Aa ?_)))
 obtain ⟨out, ep, dp⟩ := Az eo
 refine AO (fun e1 F1 L1 => ∃ (bq : Option Addr) (br : Nat) (bu : Nat) (aq : LH), F4 = F1 ∧ L1 = (aq ++ []) ∧ e1.sub [(6, sL bq br bu)] ∧ AI K.w0.heap.size 3 1 eI F1 bq br bu out aq) ?_ ?_
 ·clear dp
  refine AG (um ?_)
  refine uv ((AJ underlying34 rfl).i (AI.FE ah)) ?_
  refine um (Aa ?_)
  refine As (kW (kd kr) ?_)
  refine A6 (fun dq e1 F1 L1 => LA l dq fun tl k => ∃ (ai : List Int) (ar : Option Addr) (au : Nat) (av : Nat) (aa : LH), HJ tl k ai = some out ∧ F4 = F1 ∧ L1 = (aa ++ (ae ++ [])) ∧ e1.sub [(6, sL ar au av), (19, sL a8 bg c9), (20, vI (l.length : Int)), (21, vI k)] ∧ AI K.w0.heap.size 3 1 eI F1 ar au av ai aa) _ (m0 (ke kr) ⟨_, _, rfl, Bq.start _, [], none, 0, 0, [], ep, rfl, rfl, z4, AI.nil _ _ _ _ _⟩) ?_
  rintro dq e1 _ _ ⟨tl, k, bw, aw, ai, ar, au, av, aa, bh, rfl, rfl, bx, aj⟩
  refine AA _ bx (AG (uv (AY rfl rfl) ?_))
  refine Aa (Au ?_)
  refine cQ (fun bj => ?_) fun bj => ?_
  ·obtain ⟨x, fo, rfl, bz, dr, cb⟩ := Bq.succ aw bj
   rw [HJ] at bh
   refine Ar ?_
   obtain ⟨ax, er, dt⟩ := Az bh
   refine AO (fun e1 F1 L1 => ∃ (bk : Option Addr) (bl : Nat) (bm : Nat) (ao : LH), F4 = F1 ∧ L1 = (ao ++ (ae ++ [])) ∧ e1.sub [(6, sL bk bl bm), (19, sL a8 bg c9), (20, vI (l.length : Int)), (21, vI k)] ∧ AI K.w0.heap.size 3 1 eI F1 bk bl bm ax ao) ?_ ?_
   ·clear dt
    refine As ?_
    refine AG (um ?_)
    obtain ⟨fp, fq, ft, et, cc, cf, du, ⟨dv, dw, rfl, dx⟩, eu, cg⟩ := AI.at kJ ah (L := aa ++ (ae ++ [])) (fS fP) dr.1 bz
    refine uv (C0 underlying34 sizeOf22 cc (AI.idx ah dr)) (uv (AS isAgg22 rfl cf (cg 0 (by decide))) ?_)
    refine ua (ua (BR (um ?_)))
    refine uv (AJ underlying22 rfl) ?_
    refine um (Aa ?_)
    refine As ?_
    refine A6 (fun dy e1 F1 L1 => LA x dy fun dz k2 => HI ai k dz = some ax ∧ F4 = F1 ∧ L1 = (aa ++ (ae ++ [])) ∧ e1.sub [(6, sL ar au av), (7, vI k), (19, sL a8 bg c9), (20, vI (l.length : Int)), (21, vI k), (26, sL dv x.length dw), (27, vI (x.length : Int)), (28, vI k2)]) _ (m0 kr ⟨_, _, rfl, Bq.start _, er, rfl, rfl, z8⟩) ?_
    rintro dy e1 _ _ ⟨dz, k2, cj, ay, bn, rfl, rfl, ck⟩
    refine AA _ ck (AG (uv (AY rfl rfl) ?_))
    refine Aa (Au ?_)
    refine cQ (fun bo => ?_) fun bo => ?_
    ·obtain ⟨x2, fv, rfl, cn, eb, cp⟩ := Bq.succ ay bo
     rw [HI] at bn
     refine Ar (Au ?_)
     refine As (AG ?_)
     obtain ⟨fw, fx, fy, ew, cq, cr, ec, rfl, ey, ct⟩ := At.ta kI dx eb.1 cn
     refine uv (C0 underlying22 sizeOf3 cq eb) (uv (AS isAgg3 rfl (cr _) (ct 0 (by decide))) ?_)
     refine ua (Aa ?_)
     obtain ⟨k3, ef, cu⟩ := Az bn
     refine jE ((aa ++ (ae ++ []))) [(6, sL ar au av), (7, vI k), (10, vI x2), (19, sL a8 bg c9), (20, vI (l.length : Int)), (21, vI k), (26, sL dv x.length dw), (27, vI (x.length : Int)), (28, vI k2), (42, .bool k3)] ?_ ?_
     ·clear cu
      refine Aq (um ?_)
      refine uv (Bx rfl rfl) (um ?_)
      by_cases ab : k = 0
      ·have ez := A2 ef ab
       refine fT ab (fT ab (fT ab (fT ab (fT ab (fT ab (fT ab ?_))))))
       refine uv (AK (Ba rfl ab) rfl) (Aa ?_)
       obtain rfl := AL ez
       exact mi kr ⟨rfl, rfl, (sc rfl (sc rfl z8))⟩
      have fa := A3 ef ab
      refine nF ab (um (nF ab (um (nF ab (um (nF ab ?_))))))
      obtain ⟨fb, fe⟩ := AF fa
      refine uv (EU rfl rfl fb) (nF ab ?_)
      obtain ⟨x3, eg, cv, ff⟩ := BG fe
      obtain ⟨ga, gb, gg, fg, cw, cx, eh, rfl, fh, cy⟩ := AI.at kI aj (L := aa ++ (ae ++ [])) fP eg.1 cv
      refine uv (C0 underlying22 sizeOf3 cw (AI.idx aj eg)) (nF ab (uv (AS isAgg3 rfl cx (cy 0 (by decide))) (nF ab ?_)))
      obtain ⟨ok, fi, fj⟩ := Az ff
      refine cV call78 (J6 fi) (uv (AE (AR rfl ab) rfl) (Aa ?_))
      obtain rfl := AL fj
      exact mi kr ⟨rfl, rfl, (sc rfl (sc rfl z8))⟩
     refine AV rfl (fun az => ?_) (fun az => ?_)
     ·have cz := bt cu az
      refine AG (um (um ?_))
      refine bA (cs := #[vI x2]) Bm [vI x2] ?_; intro fk ei
      obtain ⟨da, db, dd, de⟩ := Ea cz
      refine CJ (xs := ai) (ys := [x2]) (zs := da) rfl Bm rfl rfl (Nat.le_refl _) (fun _ => .c .h) aj (FL.box (vss := [[vI x2]]) (ys := [x2]) 0 rfl kI (.cons rfl .nil) rfl rfl) db dd (by decide) ?_; intro df dg dh ba bb
      refine kO (kd kr) ?_
      refine ua (Aa (AM ?_))
      refine Kv rfl ?_
      refine Aj (Aj ?_)
      refine Ax (AD (id := 1) ?_)
      obtain rfl := AL de
      exact mi kr ⟨df, dg, dh, ba, rfl, rfl, z4, bb⟩
     have di := bf cu az
     refine Ar (AD (id := 3) (Aq ?_))
     refine uv (A4 rfl rfl (Bq.CE ay bo (At.lt dx))) ?_
     refine um (Aa ?_)
     subst cj; exact le kr ⟨_, _, rfl, cp, di, rfl, rfl, z8⟩
    obtain rfl := Bq.zero ay bo
    rw [HI] at bn
    refine AM (Aj (Aj ?_))
    refine Ax (AD (id := 1) ?_)
    obtain rfl := AL bn
    exact mi kr ⟨ar, au, av, aa, rfl, rfl, z4, aj⟩
   rintro e1 _ _ ⟨bk, bl, bm, ao, rfl, rfl, bc, dk⟩
   refine AA _ bc (Aq (uv (A4 rfl rfl (Bq.CE aw bj (AI.Po ah))) ?_))
   refine um (Aa ?_)
   subst bw; exact le kr ⟨_, _, rfl, cb, ax, bk, bl, bm, ao, dt, rfl, rfl, z4, dk⟩
  obtain rfl := Bq.zero aw bj
  rw [HJ] at bh
  refine AM (Aj (Aj ?_))
  refine Ax ?_
  obtain rfl := AL bh
  exact mi (ka kn) ⟨ar, au, av, aa, rfl, rfl, z1, aj⟩
 rintro e1 _ _ ⟨bq, br, bu, aq, rfl, rfl, bd, dm⟩
 refine AA _ bd ?_
 refine AG (um (ua (ua (Aa (Aw ?_)))))
 refine BM results30 (AT rfl) (AT rfl) (sr) ?_
 obtain ⟨rfl, rfl⟩ := Cd dp
 exact ⟨_, _, _, _, rfl, rfl, dm.any⟩
set_option maxHeartbeats 1000000 in
theorem Ie {s1 s2 : List (List Int)} {Ol : FuncId} {eq_1 eq_2 : Array Value} {eq : ((List Int) × (List Int)) → Option Bool} (aa : At 1 eJ F IH IF s1) (ae : At 1 eJ F IU I0 s2) (ab : J2 Tryz.prog F Ol eq_1 eq_2 (Br eJ eJ) Value.bool eq) {r : Bool} (hr : Dm s1 s2 eq = some r) :
    Bp Tryz.prog 85 #[sL IH s1.length IF, sL IU s2.length I0, .func (.func Ol) eq_1 eq_2] F (.bool r) := by
 refine sp func85 ntmps85 fun K _ _ => ?_
 rw [Dm] at hr
 refine AG (ua (Aa (Au (AG (um ?_)))))
 refine uv (AJ underlying34 rfl) (um (uv (AJ underlying34 rfl) (uv (BU rfl rfl) (Aa ?_))))
 obtain ⟨g2, r3⟩ := AF hr
 refine B9 rfl (fun c4 => absurd c4 g2) (fun c4 => ?_)
 refine Ar ?_
 obtain ⟨h5, r6⟩ := IK r3
 refine jE ([]) [] ?_ ?_
 ·clear r6
  refine AG (um ?_)
  refine uv (AJ underlying34 rfl) ?_
  refine um (Aa ?_)
  refine As ?_
  refine A6 (fun ax e1 F1 L1 => LA s1 ax fun tl k => BY s2 eq tl k = some () ∧ F = F1 ∧ L1 = [] ∧ e1.sub [(1, sL IU s2.length I0), (2, .func (.func Ol) eq_1 eq_2), (15, sL IH s1.length IF), (16, vI (s1.length : Int)), (17, vI k)]) _ (m0 kr ⟨_, _, rfl, Bq.start _, h5, rfl, rfl, z5⟩) ?_
  rintro ax e1 _ _ ⟨tl, k, bd, ah, r9, rfl, rfl, ai⟩
  refine AA _ ai (AG (uv (AY rfl rfl) ?_))
  refine Aa (Au ?_)
  refine cQ (fun ad => ?_) fun ad => ?_
  ·obtain ⟨x, bu, rfl, aj, ay, ak⟩ := Bq.succ ah ad
   rw [BY] at r9
   refine Ar (Au ?_)
   refine As ?_
   refine AG (um ?_)
   obtain ⟨bw, bx, bz, bg, al, ao, az, ⟨cb, cc, rfl, bh⟩, bj, aq⟩ := At.ta kJ aa ay.1 aj
   refine uv (C0 underlying34 sizeOf22 al ay) (uv (AS isAgg22 rfl (ao _) (aq 0 (by decide))) ?_)
   refine ua (ua (BR (um (um ?_))))
   obtain ⟨x2, ba, ar, bk⟩ := BG r9
   obtain ⟨cf, cg, cj, bl, au, av, bb, ⟨ck, cn, rfl, bm⟩, bn, aw⟩ := At.ta kJ ae ba.1 ar
   refine uv (C0 underlying34 sizeOf22 au ba) (uv (AS isAgg22 rfl (av _) (aw 0 (by decide))) ?_)
   refine ua (BR (um (um (um ?_))))
   obtain ⟨ok, bo, bp⟩ := Az bk
   refine Gx rfl ab.1 rfl rfl rfl (ab.2 _ (AQ.refl _) _ _ _ ⟨_, _, rfl, ⟨_, _, rfl, bh⟩, ⟨_, _, rfl, bm⟩⟩ bo) (uv (Bo rfl) (Aa ?_))
   obtain ⟨bq, br⟩ := AF bp
   refine AV rfl (fun bc => absurd (bq.symm.trans bc) (by decide)) (fun bc => ?_)
   refine Ar (AD (id := 1) (Aq ?_))
   refine uv (A4 rfl rfl (Bq.CE ah ad (At.lt aa))) ?_
   refine um (Aa ?_)
   subst bd; exact le kr ⟨_, _, rfl, ak, br, rfl, rfl, z5⟩
  obtain rfl := Bq.zero ah ad
  rw [BY] at r9
  refine AM (Aj (Aj ?_))
  refine Ax ?_
  clear r9
  exact mi kr ⟨rfl, rfl, (sn _)⟩
 refine AG (ua (Aa (Aw ?_)))
 refine B7 results85 ?_
 obtain rfl := AL r6
 exact rfl
set_option maxHeartbeats 1000000 in
theorem Gt {a b : List (List Int)} (ab : At 1 eJ F P3 P9 a) (ad : At 1 eJ F PT P6 b) {r : Bool} (hr : C5 a b = some r) :
    Bp Tryz.prog 34 #[sL P3 a.length P9, sL PT b.length P6] F (.bool r) := by
 refine sp func34 ntmps34 fun K _ _ => ?_
 rw [C5] at hr
 refine AG (ua (BR (um (um ?_))))
 have ae : J2 Tryz.prog F 80 #[] #[] (Br eJ eJ) Value.bool (fun aa : (List Int) × (List Int) => D8 aa.1 aa.2) := ⟨call80, fun F2 h2 vs aa r ha hr => by obtain ⟨_, _, rfl, ⟨a1, c2, rfl, h3⟩, ⟨a4, c5, rfl, h6⟩⟩ := ha; exact It h3 h6 hr⟩
 obtain ⟨ok, h8, r9⟩ := Az hr
 refine cV call85 (Ie ab ad ae h8) ?_
 refine ua (Aa (Aw ?_))
 refine B7 results34 ?_
 obtain rfl := AL r9
 exact rfl
set_option maxHeartbeats 1000000 in
theorem KN (ah : F Of = some (.cells #[vI Af, vI Ac, sL Am Ah.length Al, sL Ae Ab.length Ad, sL Ao Ak.length An] 119 Qd)) (ab : At 1 (CM 1 eJ) F Am Al Ah) (_h_readings : At 1 eI F Ae Ad Ab) (aa : At 3 (Br eI eP) F Ao An Ak) (cz : g.length = 24) {r : List Bool} (hr : IB Af Ac Ah Ab Ak g hour FH = some r) :
    SH.Spec Tryz.prog 125 #[pO Of, .agg (arr cB g), vI hour, vI FH] F [] fun _ L' v => v = .agg (arr cB r) ∧ L' = [] ∧ r.length = 24 := by
 refine sp func125 ntmps125 fun K _ _ => ?_
 rw [IB] at hr
 refine AG ?_
 refine BB rfl rfl ?_; intro b1 eh
 refine Bu rfl zeroValue128 ?_; intro b2 ei
 refine AB rfl (Aa ?_)
 obtain ⟨g2, h4, r5⟩ := Az hr
 refine AO (fun e1 F1 L1 => F = F1 ∧ L1 = [(b2, ce (arr cB (List.replicate 24 false)) 128), (b1, ce (arr cB g2) 128)] ∧ e1.sub [(5, pO b1), (8, pO b2)] ∧ g2.length = 24) ?_ ?_
 ·clear r5
  refine AG (um ?_)
  refine uv (BQ rfl) (uv (Ap GA rfl) (uv (Ap Dv rfl) (uv (AS isAgg24 rfl (Has.frozen ah) rfl) (uv (AJ underlying24 rfl) ?_))))
  refine um (Aa ?_)
  refine As ?_
  refine A6 (fun cb e1 F1 L1 => LA Ak cb fun tl k => ∃ (g3 : List Bool), Fh Ah hour FH tl g3 = some g2 ∧ F = F1 ∧ L1 = [(b2, ce (arr cB (List.replicate 24 false)) 128), (b1, ce (arr cB g3) 128)] ∧ e1.sub [(0, pO Of), (2, vI hour), (3, vI FH), (5, pO b1), (8, pO b2), (17, sL Ao Ak.length An), (18, vI (Ak.length : Int)), (19, vI k)] ∧ g3.length = 24) _ (m0 kr ⟨_, _, rfl, Bq.start _, g, h4, rfl, rfl, z8, cz⟩) ?_
  rintro cb e1 _ _ ⟨tl, k, da, ao, g3, r9, rfl, rfl, aq, h6⟩
  refine AA _ aq (AG (uv (AY rfl rfl) ?_))
  refine Aa (Au ?_)
  refine cQ (fun ai => ?_) fun ai => ?_
  ·obtain ⟨x, ej, rfl, ar, cc, au⟩ := Bq.succ ao ai
   rw [Fh] at r9
   refine Ar ?_
   obtain ⟨g4, cf, cg⟩ := Az r9
   refine AO (fun e1 F1 L1 => F = F1 ∧ L1 = [(b2, ce (arr cB (List.replicate 24 false)) 128), (b1, ce (arr cB g4) 128)] ∧ e1.sub [(0, pO Of), (2, vI hour), (3, vI FH), (5, pO b1), (8, pO b2), (17, sL Ao Ak.length An), (18, vI (Ak.length : Int)), (19, vI k)] ∧ g4.length = 24) ?_ ?_
   ·clear cg
    refine As (AG ?_)
    obtain ⟨en, eo, ep, db, av, aw, ad, ⟨_, _, rfl, rfl, ⟨_, _, rfl, rfl, rfl⟩⟩, ax, ay⟩ := At.ta (Ai kI kP) aa cc.1 ar
    refine uv (C0 underlying24 sizeOf32 av cc) (uv (Bn isAgg32 sizeOf32 rfl (aw _) ad (Bi ad ax ay)) ?_)
    refine Bu rfl zeroValue32 ?_; intro az dd
    refine BD (i := 0) sizeOf32 rfl rfl rfl (by simp [Value.oneCell']) rfl (DD rfl) (AB rfl ?_)
    refine Aa (Au (AG ?_))
    refine uv (Ap O6 rfl) (uv (Co isAgg3 0) (um (uv (BU rfl rfl) (Aa ?_))))
    refine cQ (fun ba => ?_) fun ba => ?_
    ·have de := A2 cf ba
     refine AM (Aj ?_)
     refine Ax ?_
     obtain rfl := AL de
     exact mi (kd kr) ⟨rfl, rfl, z8, h6⟩
    have df := A3 cf ba
    refine Ar (dW (wm (wv (BQ rfl) (wv (Ap GA rfl) (wv (Ap CC rfl) (wv (AS isAgg23 rfl (Has.frozen ah) rfl) (wv (Ap OH rfl) ?_)))))))
    refine wv (Co isAgg3 0) ?_
    obtain ⟨x2, cj, bb, dg⟩ := BG df
    obtain ⟨er, et, eu, dh, bc, bd, ck, ⟨ew, ey, rfl, di⟩, dk, bg⟩ := At.ta (Ay kJ) ab cj.1 bb
    refine wv (C0 underlying23 sizeOf34 bc cj) (wv (AS isAgg34 rfl (bd _) (bg 0 (by decide))) (wm ?_))
    obtain ⟨x3, cn, bh, dm⟩ := BG dg
    obtain ⟨ez, fa, fb, dp, bj, bk, cp, ⟨dq, dr, rfl, cq⟩, dt, bl⟩ := At.ta kJ di cn.1 bh
    refine wv (C0 underlying34 sizeOf22 bj cn) (wv (AS isAgg22 rfl (bk _) (bl 0 (by decide))) (wv (AJ underlying22 rfl) ?_))
    refine wm (B6 ?_)
    refine As ?_
    refine A6 (fun cr e1 F1 L1 => LA x3 cr fun ct k2 => ∃ (g5 : List Bool), FB x ct g5 = some g4 ∧ F = F1 ∧ L1 = [(az, ce #[vI x.1, vI x.2.1, vI x.2.2] 32), (b2, ce (arr cB (List.replicate 24 false)) 128), (b1, ce (arr cB g5) 128)] ∧ e1.sub [(0, pO Of), (2, vI hour), (3, vI FH), (5, pO b1), (8, pO b2), (10, pO az), (17, sL Ao Ak.length An), (18, vI (Ak.length : Int)), (19, vI k), (38, sL dq x3.length dr), (39, vI (x3.length : Int)), (40, vI k2)] ∧ g5.length = 24) _ (m0 kr ⟨_, _, rfl, Bq.start _, g3, dm, rfl, rfl, (sc rfl (sc rfl (sc rfl (sc rfl z8)))), h6⟩) ?_
    rintro cr e1 _ _ ⟨ct, k2, bm, ae, g5, aj, rfl, rfl, bn, ak⟩
    refine AA _ bn (AG (uv (AY rfl rfl) ?_))
    refine Aa (Au ?_)
    refine cQ (fun al => ?_) fun al => ?_
    ·obtain ⟨x4, fe, rfl, bo, cu, bp⟩ := Bq.succ ae al
     rw [FB] at aj
     refine Ar (Au ?_)
     refine As (AG ?_)
     obtain ⟨ff, fg, fh, du, bq, br, cv, rfl, dv, bu⟩ := At.ta kI cq cu.1 bo
     refine uv (C0 underlying22 sizeOf3 bq cu) (uv (AS isAgg3 rfl (br _) (bu 0 (by decide))) ?_)
     refine ua (Aa ?_)
     refine BK [(.still, 0), (.still, 1), (.still, 2), (.still, 3), (.still, 4), (.seq, 5)] (by kernel_rfl) (by kernel_rfl) (trivial) (by rfl) (by kernel_rfl) (mS [12] rfl (A9 rfl) (mS [10] rfl (Ap OI rfl) (mK [45] isAgg3 0 rfl rfl rfl rfl ?_)))
     obtain ⟨cw, dw⟩ := AF aj
     refine mS [5, 44] rfl (D1 underlying128 sizeOf126 rfl rfl cw) ?_
     obtain ⟨cx, dx⟩ := AF dw
     obtain ⟨x5, dy, dz, eb⟩ := BG dx
     have bw : (x4 * 4 + x.2.2 : Int).toNat = (x4 : Int).toNat * 4 + (x.2.2 : Int).toNat := by have := cw; have := cx; omega
     refine mS [46, 47] rfl (D1 underlying126 sizeOf4 rfl rfl cx) ?_
     refine ⟨_, [(48, .pointer (some ⟨b1, 0 + (x4 : Int).toNat * 4 + (x.2.2 : Int).toNat * 1, none⟩))], rfl, rfl, z1, by kernel_rfl, ?_⟩; intro H
     obtain ⟨l, cy, ec⟩ := BI eb
     have ef : l.length = 24 := by rw [cy, List.length_set]; exact ak
     refine Pw (i := 2) sizeOf4 A8 rfl rfl rfl rfl bw (by have := dy; have := ak; omega) ak ?_
     refine AB (L' := [(az, ce #[vI x.1, vI x.2.1, vI x.2.2] 32), (b2, ce (arr cB (List.replicate 24 false)) 128), (b1, ce (arr cB l) 128)]) (by rw [cy]; rfl) ?_
     refine Aa ⟨undef, rfl, AQ.refl _, [], by kernel_rfl, .inl (.inl rfl), nm, ?_⟩
     refine Ce ?_
     refine AD (id := 3) (Aq ?_)
     refine uv (A4 rfl rfl (Bq.CE ae al (At.lt cq))) ?_
     refine um (Aa ?_)
     subst bm; exact le kr ⟨_, _, rfl, bp, l, ec, rfl, rfl, (sc rfl (sc rfl (sc rfl (sc rfl z8)))), ef⟩
    obtain rfl := Bq.zero ae al
    rw [FB] at aj
    refine AM (Aj (Aj ?_))
    refine Ax (AD (id := 1) ?_)
    obtain rfl := AL aj
    exact mi (kd kr) ⟨rfl, rfl, z8, ak⟩
   rintro e1 _ _ ⟨rfl, rfl, bx, eg⟩
   refine AA _ bx (Aq (uv (A4 rfl rfl (Bq.CE ao ai (At.lt aa))) ?_))
   refine um (Aa ?_)
   subst da; exact le kr ⟨_, _, rfl, au, g4, cg, rfl, rfl, z8, eg⟩
  obtain rfl := Bq.zero ao ai
  rw [Fh] at r9
  refine AM (Aj (Aj ?_))
  refine Ax ?_
  obtain rfl := AL r9
  exact mi kr ⟨rfl, rfl, z2, h6⟩
 rintro e1 _ _ ⟨rfl, rfl, bz, h3⟩
 refine AA _ bz (AG (uv (K9 isAgg128 sizeOf128 rfl (Has.own 1 rfl) (Gk A8 h3)) (GF (i := 0) sizeOf128 rfl rfl rfl (Gk A8 List.length_replicate) (Gk A8 h3) (LM A8) (AB rfl (Aa (kW (kc kn) (Aw ?_)))))))
 refine Mr results125 (GJ (cs := arr cB g2) isAgg128 sizeOf128 rfl (Has.own 0 rfl) (Je (FD (Hl A8 h3))) (Jg (Hl A8 h3) (FD (Hl A8 h3)))) (s1 sr) ?_
 obtain rfl := AL r5
 exact ⟨rfl, rfl, h3⟩
set_option maxHeartbeats 1000000 in
theorem Gv {s_ : List ((List Bool) × (List Int))} {f : ((List Bool) × (List Int)) → Option Bool} (ab : At 25 (Br (J4 24 cB) eJ) F E4 E3 s_) (ao : J2 Tryz.prog F L4 L8 LZ (PO (Br (J4 24 cB) eJ)) Value.bool f) {r : Int} (hr : Cu s_ f = some r) :
    Bp Tryz.prog 140 #[sL E4 s_.length E3, .func (.func L4) L8 LZ] F (vI r) := by
 refine sp func140 ntmps140 fun K _ _ => ?_
 rw [Cu] at hr
 refine AG (ua (Aa ?_))
 refine AO (fun e1 F1 L1 => Ch = some r ∧ F = F1 ∧ L1 = [] ∧ e1.sub []) ?_ ?_
 ·refine AG (um ?_)
  refine uv (AJ underlying131 rfl) ?_
  refine um (Aa ?_)
  refine As ?_
  refine A6 (fun aq e1 F1 L1 => LA s_ aq fun tl k => BE f tl k = some r ∧ F = F1 ∧ L1 = [] ∧ e1.sub [(0, sL E4 s_.length E3), (1, .func (.func L4) L8 LZ), (7, vI (s_.length : Int)), (8, vI k)]) _ (m0 kr ⟨_, _, rfl, Bq.start _, hr, rfl, rfl, z4⟩) ?_
  rintro aq e1 _ _ ⟨tl, k, av, ad, r3, rfl, rfl, aw⟩
  refine AA _ aw (AG (uv (AY rfl rfl) ?_))
  refine Aa (Au ?_)
  refine cQ (fun c6 => ?_) fun c6 => ?_
  ·obtain ⟨x, bh, rfl, ax, g9, ay⟩ := Bq.succ ad c6
   rw [BE] at r3
   refine Ar (Au ?_)
   refine As ?_
   refine AG (um (ua (BR (um (um (um ?_))))))
   obtain ⟨N4, bj, bk, az, ae, ah, aa, ⟨_, _, rfl, ⟨rfl, ba⟩, ⟨bl, bm, rfl, bb⟩⟩, ai, aj⟩ := At.ta (Ai (BF (n := 24) (sz := 1) A8) kJ) ab g9.1 ax
   refine uv (C0 underlying131 sizeOf135 ae g9) (uv (Bn isAgg135 sizeOf135 rfl (ah _) aa (Bi aa ai aj)) ?_)
   obtain ⟨ok, bc, ar⟩ := Az r3
   refine Gx rfl ao.1 rfl rfl rfl (ao.2 _ (AQ.refl _) _ _ _ ⟨_, rfl, ⟨_, _, rfl, ⟨rfl, ba⟩, ⟨_, _, rfl, bb⟩⟩⟩ bc) (Aa ?_)
   refine AV rfl (fun ak => ?_) (fun ak => ?_)
   ·have bd := bt ar ak
    refine AG (um (ua (Aa (Aw (AH (Av (Av (AH (Av ?_)))))))))
    refine B7 results140 ?_
    obtain rfl := AL bd
    exact rfl
   have bg := bf ar ak
   refine Ar (AD (id := 1) (Aq ?_))
   refine uv (A4 rfl rfl (Bq.CE ad c6 (At.lt ab))) ?_
   refine um (Aa ?_)
   subst av; exact le kr ⟨_, _, rfl, ay, bg, rfl, rfl, z4⟩
  obtain rfl := Bq.zero ad c6
  rw [BE] at r3
  refine AM (Aj (Aj ?_))
  refine Ax ?_
  exact mi kr ⟨r3, rfl, rfl, (sn _)⟩
 rintro e1 _ _ ⟨au, rfl, rfl, al⟩
 refine AA _ al ?_
 rw [Ch] at au
 refine AG (ua (Aa (Aw ?_)))
 refine B7 results140 ?_
 obtain rfl := AL au
 exact rfl
set_option maxHeartbeats 1000000 in
theorem FM {s_ : List ((List Bool) × (List Int))} {f : ((List Bool) × (List Int)) → Option Bool} (aa : At 25 (Br (J4 24 cB) eJ) F E4 E3 s_) (ab : J2 Tryz.prog F L4 L8 LZ (PO (Br (J4 24 cB) eJ)) Value.bool f) {r : Bool} (hr : Cg s_ f = some r) :
    Bp Tryz.prog 131 #[sL E4 s_.length E3, .func (.func L4) L8 LZ] F (.bool r) := by
 refine sp func131 ntmps131 fun K _ _ => ?_
 rw [Cg] at hr
 refine AG (ua (BR (um (um ?_))))
 obtain ⟨n, h1, r2⟩ := Az hr
 refine cV call140 (Gv aa ab h1) (uv (Hu rfl rfl) ?_)
 refine ua (Aa (Aw ?_))
 refine B7 results131 ?_
 obtain rfl := AL r2
 exact rfl
set_option maxHeartbeats 1000000 in
theorem IJ {aa : Int} {cu : FuncId} {cv cw : Array Value} {x : (Int × Int) → Option Bool} {bn : Nat} {bo : Nat × Nat} {bb ao : Nat} {ak : Array MapEntry} {aw : Nat} {x3 : List ((Int × (List Bool)) × Bool)} {bg : Nat × Nat} {ab : Nat} {ae : Option Addr} {ah ai : Nat} {aj : LH} {ax : List (Int × (List Bool) × (List Int))} (ar : Pe.length = 24) (al : At 1 eI F Bl Bk AW) (cj : F PR = some (.cells #[.func (.func cu) cv cw] 117 Pq)) (cx : J2 Tryz.prog F cu cv cw eP Value.bool x) (bc : F Q7 = some (.cells #[vI x2] 3 R0)) (ck : F Of = some (.cells #[pO bn] 114 Qd)) (bp : F bn = some (.cells #[vI Af, vI Ac, sL Am Ah.length Al, sL Ae Ab.length Ad, sL Ao Ak.length An] 119 bo)) (ay : At 1 (CM 1 eJ) F Am Al Ah) (av : At 1 eI F Ae Ad Ab) (az : At 3 (Br eI eP) F Ao An Ak) (aq : F bb = some (.cells #[.map (some ao)] 170 bg)) (ba : Jq HA (vA (cP (cI .i64) (cA cB))) Value.bool ak x3) (ad : AI 0 174 26 (Br eI (Br (J4 24 cB) eJ)) F ae ah ai ax aj) {r : List ((Int × (List Bool)) × Bool)} {r2 : List (Int × (List Bool) × (List Int))} (hr : FT FH Pe AW aa x x2 Af Ac Ah Ab Ak x3 ax = some (r, r2)) :
    SH.Spec Tryz.prog 129 #[.agg ((([vI FH] : List Value) ++ (Pe.flatMap cB ++ (([sL Bl AW.length Bk] : List Value)))).toArray), vI aa, pO PR, pO Q7, pO Of, pO bb, pO ab] F ((ao, .map ak aw) :: ((ab, ce #[sL ae ah ai] 169) :: (aj ++ []))) fun F' L' v => ∃ (bd : Array MapEntry) (bq : Nat) (cy : Option Addr) (cz : Nat) (da : Nat) (db : LH), v = .tuple #[] ∧ L' = (ao, .map bd bq) :: ((ab, ce #[sL cy cz da] 169) :: (db ++ [])) ∧ Jq HA (vA (cP (cI .i64) (cA cB))) Value.bool bd r ∧ AI 0 174 26 (Br eI (Br (J4 24 cB) eJ)) F' cy cz da r2 db := by
 refine sp func129 ntmps129 fun K _ _ => ?_
 rw [FT] at hr
 refine E5 (L' := (ao, .map ak aw) :: ((ab, ce #[sL ae ah ai] 169) :: (aj ++ []))) (by simp) (AG ?_)
 refine BB rfl rfl ?_; intro b1 fm
 refine Aa (Au (AG ?_))
 refine uv (AS isAgg117 rfl (Has.frozen cj) rfl) (uv (AS isAgg3 rfl (Has.frozen bc) rfl) (um ?_))
 obtain ⟨ok, h2, r3⟩ := Az hr
 refine Gx rfl cx.1 rfl rfl rfl (cx.2 _ (AQ.refl _) _ _ _ ⟨_, _, rfl, rfl, rfl⟩ h2) (uv (Bo rfl) (Aa ?_))
 refine AV rfl (fun c4 => ?_) (fun c4 => ?_)
 ·have r5 := bt r3 c4
  refine kW (kd kr) ?_
  refine Aw (Av ?_)
  refine QY (.inl rfl) results129 ?_
  obtain ⟨rfl, rfl⟩ := Cd r5
  exact ⟨_, _, _, _, _, _, rfl, rfl, ba, ad.any⟩
 have r6 := bf r3 c4
 refine Ar (AG (um ?_))
 refine uv (AS isAgg114 rfl (Has.frozen ck) rfl) (uv (Ap MD rfl) (uv (Ap NZ rfl) (uv (Bn isAgg128 sizeOf128 rfl (Has.own 0 rfl) (Je (Dl (A := ([vI FH] : List Value)) (k := 1) (o := 0) rfl (CD (B := ([sL Bl AW.length Bk] : List Value)) (Hl A8 ar)))) (Jg (Hl A8 ar) (Dl (A := ([vI FH] : List Value)) (k := 1) (o := 0) rfl (CD (B := ([sL Bl AW.length Bk] : List Value)) (Hl A8 ar))))) (uv (AS isAgg3 rfl (Has.frozen bc) rfl) (um ?_)))))
 obtain ⟨a, h7, r8⟩ := Az r6
 refine c0 call125 (KN bp ay av az ar h7) ?_; rintro _ F9 _ bh di ⟨rfl, rfl, au⟩
 replace al := al.m1 bh
 replace ad := ad.mono (Ai kI (Ai (BF (n := 24) (sz := 1) A8) kJ)) bh
 replace aq := bh _ _ aq
 refine AB (ln rfl) ?_
 refine uv (BX (v := .agg ((([vI aa] : List Value) ++ (a.flatMap cB)).toArray)) rfl (by intro w; obtain ⟨a0, a1, a2, a3, a4, a5, a6, a7, a8, a9, dk, dm, dp, dq, dr, dt, du, dv, dw, dx, dy, dz, eb, ec, rfl⟩ := LF au; kernel_rfl)) ?_
 refine Bu rfl zeroValue172 ?_; intro bm ef
 refine AB (L' := (bm, ce ((([vI 0] : List Value) ++ ((List.replicate 24 false).flatMap cB)).toArray) 172) :: ((b1, ce ((([vI FH] : List Value) ++ (Pe.flatMap cB ++ (([sL Bl AW.length Bk] : List Value)))).toArray) 174) :: ((ao, .map ak aw) :: ((ab, ce #[sL ae ah ai] 169) :: (aj ++ []))))) rfl (GF (i := 0) sizeOf172 rfl rfl rfl (lz (la rfl (Hl A8 List.length_replicate))) (lz (la rfl (Hl A8 au))) (Lz (by simp [Value.oneCell']) (Jc A8 _)) (AB (L' := (bm, ce ((([vI aa] : List Value) ++ (a.flatMap cB)).toArray) 172) :: ((b1, ce ((([vI FH] : List Value) ++ (Pe.flatMap cB ++ (([sL Bl AW.length Bk] : List Value)))).toArray) 174) :: ((ao, .map ak aw) :: ((ab, ce #[sL ae ah ai] 169) :: (aj ++ []))))) rfl (BR (uv (AS isAgg170 rfl (Has.frozen aq) rfl) (uv (Bn isAgg172 sizeOf172 rfl (Has.own 0 rfl) (Je (Kt rfl (CD (B := a.flatMap cB) rfl) (Dl (A := ([vI aa] : List Value)) (k := 1) (o := 0) rfl (FD (Hl A8 au))))) (Jg (la rfl (Hl A8 au)) (Kt rfl (CD (B := a.flatMap cB) rfl) (Dl (A := ([vI aa] : List Value)) (k := 1) (o := 0) rfl (FD (Hl A8 au)))))) ?_)))))
 obtain ⟨eg, dd⟩ := AF r8
 refine uv (Fb.eq (v' := .bool ((LU x3 (aa, a)).getD false)) (QO (k := (aa, a)) (z0 := false) rfl underlying170 Qs zeroValue4 rfl rfl (Og.own 2 rfl) (show Jq HA (vA (cP (cI .i64) (cA cB))) Value.bool ak (x3 : List ((Int × (List Bool)) × Bool)) from ba) ⟨eg, au⟩) rfl) (uv (Bo rfl) (Aa ?_))
 refine AV rfl (fun cn => ?_) (fun cn => ?_)
 ·have eh := bt dd cn
  refine AG (uv (AS isAgg170 rfl (Has.frozen aq) rfl) (uv (Bn isAgg172 sizeOf172 rfl (Has.own 0 rfl) (Je (Kt rfl (CD (B := a.flatMap cB) rfl) (Dl (A := ([vI aa] : List Value)) (k := 1) (o := 0) rfl (FD (Hl A8 au))))) (Jg (la rfl (Hl A8 au)) (Kt rfl (CD (B := a.flatMap cB) rfl) (Dl (A := ([vI aa] : List Value)) (k := 1) (o := 0) rfl (FD (Hl A8 au)))))) ?_))
  obtain ⟨ei, ej⟩ := AF eh
  refine OF (i := 2) (k := (aa, a)) (v := true) underlying170 Qs rfl rfl rfl rfl (show Jq HA (vA (cP (cI .i64) (cA cB))) Value.bool ak (x3 : List ((Int × (List Bool)) × Bool)) from ba) ⟨ei, au⟩ ?_; intro bj bk br
  obtain ⟨met, en, eo⟩ := BI ej
  rw [← en] at br
  refine AB (L' := (bm, ce ((([vI aa] : List Value) ++ (a.flatMap cB)).toArray) 172) :: ((b1, ce ((([vI FH] : List Value) ++ (Pe.flatMap cB ++ (([sL Bl AW.length Bk] : List Value)))).toArray) 174) :: ((ao, .map bj bk) :: ((ab, ce #[sL ae ah ai] 169) :: (aj ++ []))))) rfl (Aa (BK [(.still, 0), (.still, 1), (.still, 2), (.still, 3), (.still, 5), (.pre, 6), (.seq, 4), (.alloc (ce #[vI aa] 3) (fun b => sL (aD b) 1 1) [(35, vI aa)], 6), (.seq, 7), (.still, 8), (.seq, 9), (.seq, 10), (.seq, 11)] (by kernel_rfl) (by kernel_rfl) (⟨⟨_, _, rfl, rfl, rfl, rfl, rfl, JL rfl (DZ Bm [vI aa] rfl (by decide) (by simp [Value.cells]) (by decide))⟩, trivial⟩) (by rfl) (by kernel_rfl) (mK [6] isAgg169 3 rfl rfl rfl rfl (mL [9] ([(bm, ce ((([vI aa] : List Value) ++ (a.flatMap cB)).toArray) 172)]) rfl (s0 (s2 (s1 (s1 (s1 (s3 sr)))))) (fun H F' L' cc cf => Bn isAgg172 sizeOf172 rfl ((Has.own 0 rfl).ext cc cf) (Je (Kt rfl (CD (B := a.flatMap cB) rfl) (Dl (A := ([vI aa] : List Value)) (k := 1) (o := 0) rfl (FD (Hl A8 au))))) (Jg (la rfl (Hl A8 au)) (Kt rfl (CD (B := a.flatMap cB) rfl) (Dl (A := ([vI aa] : List Value)) (k := 1) (o := 0) rfl (FD (Hl A8 au)))))) (mS [7] rfl (Ap PI rfl) (mL [32] ([(b1, ce ((([vI FH] : List Value) ++ (Pe.flatMap cB ++ (([sL Bl AW.length Bk] : List Value)))).toArray) 174)]) rfl (s0 (s1 (s2 (s1 (s1 (s3 sr)))))) (fun H F' L' cc cf => AS isAgg22 rfl ((Has.own 0 rfl).ext cc cf) (NO (Dl (A := ([vI FH] : List Value)) (k := 1) (o := 24) rfl (Dl (A := Pe.flatMap cB) (k := 24) (o := 0) (Hl A8 ar) (FD rfl))))) (mS [1] rfl (A9 rfl) ?_)))))))
  refine ⟨⟨_, rfl, z1, by kernel_rfl⟩, ?_⟩
  refine ⟨_, [(33, sL Bl AW.length Bk)], rfl, rfl, z1, by kernel_rfl, ?_⟩; intro H
  obtain ⟨l, ep, er⟩ := Az eo
  refine c0 call72 (CG al ep) ?_; rintro _ fo _ bu cp ⟨et, eu, ew, cq, rfl, rfl, bl⟩
  replace ad := ad.mono (Ai kI (Ai (BF (n := 24) (sz := 1) A8) kJ)) bu
  replace bl := bl.new fun p hp => cp p (by simp [hp])
  refine AB (lp (ln rfl)) (kO (kf (fS fO) (kf (fS fO) (kf (fS fO) (kf (fS fO) kr)))) ?_)
  refine Aa ⟨_, rfl, bu, [5, 1, 0], by kernel_rfl, .inl (.inr (fun d h => by cases h; rfl)), (fc sm (fc (s0 (s2 (s1 (s1 (s1 (s3 (s3 sr))))))) (fc (s0 (s1 (s1 (s1 (s2 (s3 (s3 sr))))))) nm))), ?_⟩
  refine K7 rfl ?_; intro de ey
  refine HK (L' := (de, ce #[vI aa] 3) :: ((bm, ce ((([vI aa] : List Value) ++ (a.flatMap cB)).toArray) 172) :: ((b1, ce ((([vI FH] : List Value) ++ (Pe.flatMap cB ++ (([sL Bl AW.length Bk] : List Value)))).toArray) 174) :: ((ao, .map bj bk) :: ((ab, ce #[sL ae ah ai] 169) :: (cq ++ (aj ++ []))))))) rfl ?_
  refine ⟨_, [(34, sL et eu ew), (36, sL (aD de) 1 1)], rfl, rfl, z2, by kernel_rfl, ?_⟩; intro H
  obtain ⟨l2, ez, fa, fb⟩ := Ea er
  refine CJ (xs := l) (ys := [aa]) (zs := l2) rfl Bm rfl rfl (Nat.le_refl _) (fun _ => .c (.c (.c (.c (.c .h))))) bl (FL.box (vss := [[vI aa]]) (ys := [aa]) 0 rfl kI (.cons rfl .nil) rfl rfl) ez fa (by decide) ?_; intro bw cg bx fe bz
  refine kO (kd kr) ?_
  refine Aa ⟨_, rfl, AQ.refl _, [1, 0], by kernel_rfl, .inl (.inr (fun d h => by cases h; rfl)), (fc (s0 (s2 (s1 (s1 (s1 (s3 (s3 sr))))))) (fc (s0 (s1 (s1 (s1 (s2 (s3 (s3 sr))))))) nm)), ?_⟩
  refine mL [31, 37] ([]) rfl sm (fun H F' L' cc cf => BX (v := .agg ((([vI aa] : List Value) ++ (a.flatMap cB ++ (([sL bw cg bx] : List Value)))).toArray)) rfl (by intro w; obtain ⟨a0, a1, a2, a3, a4, a5, a6, a7, a8, a9, dk, dm, dp, dq, dr, dt, du, dv, dw, dx, dy, dz, eb, ec, rfl⟩ := LF au; kernel_rfl)) ?_
  refine ⟨_, [(38, .agg ((([vI aa] : List Value) ++ (a.flatMap cB ++ (([sL bw cg bx] : List Value)))).toArray))], rfl, rfl, z1, by kernel_rfl, ?_⟩; intro H
  refine Gy (cs := (([vI aa] : List Value) ++ (a.flatMap cB ++ (([sL bw cg bx] : List Value)))).toArray) rfl rfl (LB Qj (.agg (([vI aa] : List Value) ++ (a.flatMap cB ++ (([sL bw cg bx] : List Value)))).toArray) (lz (la rfl (la (Hl A8 au) rfl))) (by decide)) ?_; intro ff fg
  refine Aa ⟨_, rfl, AQ.refl _, [0], by kernel_rfl, .inl (.inr (fun d h => by cases h; rfl)), (fc (s0 (s1 (s1 (s1 (s1 (s2 (s3 (s3 sr)))))))) nm), ?_⟩
  refine ⟨_, [(30, sL ae ah ai), (39, sL (aD ff) 1 1)], rfl, rfl, z2, by kernel_rfl, ?_⟩; intro H
  obtain rfl := (AI.A1 bz).1
  refine A5 (Nat.le_refl _) kI (fC (fC (fC (fC (fC fP))))) bz ?_; intro fp cb fh
  replace ad := ad.mono (Ai kI (Ai (BF (n := 24) (sz := 1) A8) kJ)) cb
  obtain ⟨l3, fi, fj, fk⟩ := Ea fb
  refine CJ (xs := ax) (ys := [(aa, a, l2)]) (zs := l3) rfl Qj rfl rfl (Nat.zero_le _) (fun _ => .c (.c (.c (.c (.c .h))))) ad (FL.box (vss := [(([vI aa] : List Value) ++ (a.flatMap cB ++ (([sL bw l2.length bx] : List Value))))]) (ys := [(aa, a, l2)]) 0 rfl (Ai kI (Ai (BF (n := 24) (sz := 1) A8) kJ)) (.cons ⟨_, _, rfl, rfl, ⟨_, _, rfl, ⟨rfl, au⟩, ⟨_, _, rfl, fh⟩⟩⟩ .nil) (by simp) rfl) fi fj (by decide) ?_; intro df dg dh cr ct
  refine kO (kd kr) ?_
  refine Aa ⟨_, rfl, cb, [], by kernel_rfl, .inl (.inl rfl), nm, ?_⟩
  refine ⟨_, [(6, pO ab), (40, sL df dg dh)], rfl, rfl, z2, by kernel_rfl, ?_⟩; intro H
  refine BL (i := 3) sizeOf169 rfl rfl rfl rfl (DD rfl) (AB (L' := (bm, ce ((([vI aa] : List Value) ++ (a.flatMap cB)).toArray) 172) :: ((b1, ce ((([vI FH] : List Value) ++ (Pe.flatMap cB ++ (([sL Bl AW.length Bk] : List Value)))).toArray) 174) :: ((ao, .map bj bk) :: ((ab, ce #[sL df dg dh] 169) :: (cr ++ []))))) rfl ?_)
  refine Aa ⟨undef, rfl, AQ.refl _, [], by kernel_rfl, .inl (.inl rfl), nm, ?_⟩
  refine Ce (NQ (.inr rfl) results129 (s1 (s1 (s2 (s2 (s4 sr))))) ?_)
  obtain ⟨rfl, rfl⟩ := Cd fk
  exact ⟨_, _, _, _, _, _, rfl, rfl, br, ct.any⟩
 have fl := bf dd cn
 refine Ar (NQ (.inr rfl) results129 (s1 (s1 (s2 (s2 (s4 sr))))) ?_)
 obtain ⟨rfl, rfl⟩ := Cd fl
 exact ⟨_, _, _, _, _, _, rfl, rfl, ba, ad.any⟩
set_option maxHeartbeats 1000000 in
theorem Ln {ai : List Bool} {aa : Option Addr} {ab : Nat} {ad : List Int} (ah : Pe.length = 24) (_h_course : At 1 eI F Bl Bk AW) (aj : F PR = some (.cells ((([vI FH] : List Value) ++ (ai.flatMap cB ++ (([sL aa ad.length ab] : List Value)))).toArray) 174 Pq)) (ae : ai.length = 24) (_h_course2 : At 1 eI F aa ab ad) {r : Bool} (hr : FO Pe AW FH ai ad = some r) :
    Bp Tryz.prog 132 #[.agg ((Pe.flatMap cB ++ (([sL Bl AW.length Bk] : List Value))).toArray), pO PR] F (.bool r) := by
 refine sp func132 ntmps132 fun K _ _ => ?_
 rw [FO] at hr
 refine AG ?_
 refine BB rfl rfl ?_; intro b1 ak
 refine ua (BR ?_)
 refine uv (Ap Lv rfl) (uv (Bn isAgg128 sizeOf128 rfl (Has.own 0 rfl) (Je (CD (Hl A8 ah))) (Jg (Hl A8 ah) (CD (Hl A8 ah)))) (uv (Ap MD rfl) (uv (Ap NZ rfl) (uv (Bn isAgg128 sizeOf128 rfl (Has.frozen aj) (Je (Dl (k := 1) (o := 0) rfl (CD (Hl A8 ae)))) (Jg (Hl A8 ae) (Dl (k := 1) (o := 0) rfl (CD (Hl A8 ae))))) (uv (RR (RC _ _ _ _) (fun w => Pz (RJ Pe ai ah ae w)) rfl rfl) ?_)))))
 refine ua (Aa ?_)
 refine kW kn (Aw (B7 results132 ?_))
 obtain rfl := AL hr
 exact rfl
set_option maxHeartbeats 1000000 in
theorem Jp (ae : F Of = some (.cells #[vI Af, vI Ac, sL Am Ah.length Al, sL Ae Ab.length Ad, sL Ao Ak.length An] 119 Qd)) (ab : At 1 (CM 1 eJ) F Am Al Ah) (aa : At 1 eI F Ae Ad Ab) (ad : At 3 (Br eI eP) F Ao An Ak) {r : List ((List Bool) × (List Int))} (hr : GZ Af Ac Ah Ab Ak = some r) :
    SH.Spec Tryz.prog 106 #[pO Of] F [] fun F' L' v => ∃ (ra : Option Addr) (rn : Nat) (rc : Nat) (rL : LH), v = sL ra rn rc ∧ L' = rL ++ [] ∧ AI 0 135 25 (Br (J4 24 cB) eJ) F' ra rn rc r rL := by
 refine sp func106 ntmps106 fun K _ _ => ?_
 rw [GZ] at hr
 refine AG ?_
 refine BB rfl rfl ?_; intro b1 pn
 refine ua (BR (ua (Aa ?_)))
 obtain ⟨now, h8, r9⟩ := Az hr
 refine AO (fun e1 F1 L1 => ∃ (a2 : Option Addr) (n6 : Nat) (c3 : Nat) (gq : LH), AQ F F1 ∧ L1 = (gq ++ []) ∧ e1.sub [(3, sL a2 n6 c3)] ∧ AI 0 174 26 (Br eI (Br (J4 24 cB) eJ)) F1 a2 n6 c3 now gq) ?_ ?_
 ·clear r9
  refine AG (uv (Co isAgg114 0) (uv (BQ rfl) (uv (Ap GA rfl) (uv (Ap CB rfl) (uv (AS isAgg22 rfl (Has.frozen ae) rfl) (uv (AJ underlying22 rfl) ?_))))))
  refine um (Aa ?_)
  refine As ?_
  refine BN 0 rfl pn ?_; intro po du ah
  refine E5 (L' := []) rfl ?_
  replace ab := ab.mono (Ay kJ) du
  replace aa := aa.m1 du
  replace ad := ad.mono (Ai kI kP) du
  replace ae := du _ _ ae
  refine MP (fun oh e1 F1 L1 => LA Ab oh fun tl k => ∃ (ct : List (Int × (List Bool) × (List Int))) (ez : Option Addr) (fa : Nat) (fb : Nat) (ai : LH), D6 Af Ac Ah Ab Ak tl k ct = some now ∧ AQ po F1 ∧ L1 = (ai ++ []) ∧ e1.sub [(1, pO b1), (3, sL ez fa fb), (21, vI (Ab.length : Int)), (22, vI k)] ∧ AI 0 174 26 (Br eI (Br (J4 24 cB) eJ)) F1 ez fa fb ct ai) _ (m0 (ke kr) ⟨_, _, rfl, Bq.start _, [], none, 0, 0, [], h8, AQ.refl _, rfl, z4, AI.nil _ _ _ _ _⟩) ?_
  rintro oh e1 oi _ ⟨tl, k, mj, gr, ct, ez, fa, fb, ai, lv, cu, rfl, ml, ay⟩
  refine AA _ ml ?_
  replace ab := ab.mono (Ay kJ) cu
  replace aa := aa.m1 cu
  replace ad := ad.mono (Ai kI kP) cu
  replace ae := cu _ _ ae
  replace ah := cu _ _ ah
  refine AG (uv (AY rfl rfl) ?_)
  refine Aa (Au ?_)
  refine cQ (fun lx => ?_) fun lx => ?_
  ·obtain ⟨x, qy, rfl, pq, qz, mn⟩ := Bq.succ gr lx
   rw [D6] at lv
   refine Ar ?_
   obtain ⟨ij, pr, oj⟩ := Az lv
   refine AO (fun e1 F1 L1 => ∃ (ly : Option Addr) (ma : Nat) (mb : Nat) (fe : LH), AQ oi F1 ∧ L1 = (fe ++ []) ∧ e1.sub [(1, pO b1), (3, sL ly ma mb), (21, vI (Ab.length : Int)), (22, vI k)] ∧ AI 0 174 26 (Br eI (Br (J4 24 cB) eJ)) F1 ly ma mb ij fe) ?_ ?_
   ·clear oj
    refine As ?_
    refine AG (um ?_)
    refine Bu rfl zeroValue3 ?_; intro bj ik
    refine BL (i := 0) sizeOf3 rfl rfl rfl rfl (DD rfl) (AB rfl (BR ?_))
    refine QG rfl ?_; intro bd pt
    refine Bu rfl zeroValue170 ?_; intro bg il
    refine BL (i := 0) sizeOf170 rfl rfl rfl rfl (DD rfl) (AB rfl (BR ?_))
    refine Bu rfl zeroValue169 ?_; intro aj pv
    refine BR (uv (AS isAgg114 rfl (Has.frozen ah) rfl) (uv (BQ rfl) (uv (Ap GA rfl) (uv (Bn isAgg26 sizeOf26 rfl (Has.frozen ae) (DD rfl) rfl) (uv (CP rfl rfl) ?_)))))
    refine Bu rfl zeroValue117 ?_; intro bq im
    refine BL (i := 0) sizeOf117 rfl rfl rfl rfl (DD rfl) (AB rfl (BR (uv (CP rfl rfl) ?_)))
    refine Bu rfl zeroValue175 ?_; intro bh pw
    refine BL (i := 0) sizeOf175 rfl rfl rfl rfl (DD rfl) (AB rfl (Aa ?_))
    obtain ⟨cv, m, oo, oq⟩ := Ca pr
    refine LO (fun e1 F1 L1 => ∃ (mc : Option Addr) (me : Nat) (mg : Nat) (ff : LH) (fg : Array MapEntry) (gu : Nat), AQ oi F1 ∧ L1 = ((bh, ce (#[.func (.func 129) #[] #[pO bq, pO bj, pO b1, pO bg, pO aj]]) 175) :: ((aj, ce #[sL mc me mg] 169) :: ((bd, .map fg gu) :: (ai ++ (ff ++ []))))) ∧ e1.sub [(1, pO b1), (3, sL ez fa fb), (6, pO aj), (8, pO bh), (21, vI (Ab.length : Int)), (22, vI k)] ∧ AI 0 174 26 (Br eI (Br (J4 24 cB) eJ)) F1 mc me mg cv ff ∧ F1 bq = some (ce (#[.func (.func 77) #[.agg #[vI Af, vI Ac, sL Am Ah.length Al, sL Ae Ab.length Ad, sL Ao Ak.length An]] #[]]) 117) ∧ F1 bj = some (ce #[vI k] 3) ∧ Jq HA (vA (cP (cI .i64) (cA cB))) Value.bool fg m ∧ F1 bg = some (ce #[.map (some bd)] 170)) ?_ ?_
    ·clear oq
     refine AG (uv (Co isAgg3 5) (uv (Bx rfl rfl) (Aa ?_)))
     refine cQ (fun mo => ?_) fun mo => ?_
     ·have px := A2 oo mo
      refine AG (um (Aa ?_))
      refine As ?_
      refine BN 1 rfl im ?_; intro r0 dq br
      refine E5 (L' := (bh, ce (#[.func (.func 129) #[] #[pO bq, pO bj, pO b1, pO bg, pO aj]]) 175) :: ((aj, ce #[sL none 0 0] 169) :: ((bg, ce #[.map (some bd)] 170) :: ((bd, .map #[] 0) :: ((bj, ce #[vI k] 3) :: (ai ++ [])))))) rfl ?_
      replace ab := ab.mono (Ay kJ) dq
      replace aa := aa.m1 dq
      replace ad := ad.mono (Ai kI kP) dq
      replace ae := dq _ _ ae
      replace ah := dq _ _ ah
      refine BN 4 rfl ik ?_; intro rb cw dr
      refine E5 (L' := (bh, ce (#[.func (.func 129) #[] #[pO bq, pO bj, pO b1, pO bg, pO aj]]) 175) :: ((aj, ce #[sL none 0 0] 169) :: ((bg, ce #[.map (some bd)] 170) :: ((bd, .map #[] 0) :: (ai ++ []))))) rfl ?_
      replace ab := ab.mono (Ay kJ) cw
      replace aa := aa.m1 cw
      replace ad := ad.mono (Ai kI kP) cw
      replace ae := cw _ _ ae
      replace ah := cw _ _ ah
      replace br := cw _ _ br
      refine BN 2 rfl il ?_; intro py bu fh
      refine E5 (L' := (bh, ce (#[.func (.func 129) #[] #[pO bq, pO bj, pO b1, pO bg, pO aj]]) 175) :: ((aj, ce #[sL none 0 0] 169) :: ((bd, .map #[] 0) :: (ai ++ [])))) rfl ?_
      replace ab := ab.mono (Ay kJ) bu
      replace aa := aa.m1 bu
      replace ad := ad.mono (Ai kI kP) bu
      replace ae := bu _ _ ae
      replace ah := bu _ _ ah
      replace br := bu _ _ br
      replace dr := bu _ _ dr
      obtain ⟨mq, mr⟩ := AF px
      refine MP (fun mh e1 F1 L1 => ∃ (k2 : Int), B0 0 8 k2 mh ∧ ∃ (cx : List (Int × (List Bool) × (List Int))) (m2 : List ((Int × (List Bool)) × Bool)) (iq : Option Addr) (dv : Nat) (dw : Nat) (bw : LH) (bx : Array MapEntry) (df : Nat), D9 Af Ac Ah Ab Ak k mh k2 cx m2 = some (cv, m) ∧ AQ py F1 ∧ L1 = ((bh, ce (#[.func (.func 129) #[] #[pO bq, pO bj, pO b1, pO bg, pO aj]]) 175) :: ((aj, ce #[sL iq dv dw] 169) :: ((bd, .map bx df) :: (ai ++ (bw ++ []))))) ∧ e1.sub [(1, pO b1), (3, sL ez fa fb), (6, pO aj), (8, pO bh), (21, vI (Ab.length : Int)), (22, vI k), (34, vI k2)] ∧ AI 0 174 26 (Br eI (Br (J4 24 cB) eJ)) F1 iq dv dw cx bw ∧ Jq HA (vA (cP (cI .i64) (cA cB))) Value.bool bx m2) _ (m0 (kc (kc (kc (ka (ke kr))))) ⟨_, B0.start _ _, [], [], none, 0, 0, [], #[], 0, mr, AQ.refl _, rfl, z7, AI.nil _ _ _ _ _, Jq.nil⟩) ?_
      rintro mh e1 mu _ ⟨k2, dx, cx, m2, iq, dv, dw, bw, bx, df, fi, aq, rfl, ir, gb, gg⟩
      refine AA _ ir ?_
      replace ab := ab.mono (Ay kJ) aq
      replace aa := aa.m1 aq
      replace ad := ad.mono (Ai kI kP) aq
      replace ae := aq _ _ ae
      replace ah := aq _ _ ah
      replace br := aq _ _ br
      replace dr := aq _ _ dr
      replace fh := aq _ _ fh
      refine AG (uv (AY rfl rfl) ?_)
      refine Aa (Au ?_)
      refine cQ (fun fj => ?_) fun fj => ?_
      ·obtain ⟨mh, rfl, iu⟩ := B0.succ dx fj
       rw [D9] at fi
       refine Ar (Au ?_)
       refine As ?_
       refine AG (um (ua (Aa (Aq ?_))))
       refine uv (Co isAgg175 0) ?_
       refine uv (BX (v := .agg ((([vI 0] : List Value) ++ ((List.replicate 24 false).flatMap cB ++ (([sL none 0 0] : List Value)))).toArray)) rfl (by intro w; kernel_rfl)) ?_
       refine um ?_
       have iv : J2 Tryz.prog mu 77 #[.agg #[vI Af, vI Ac, sL Am Ah.length Al, sL Ae Ab.length Ad, sL Ao Ak.length An]] #[] eP Value.bool (fun dy : Int × Int => EC Af Ac Ah Ab Ak dy.1 dy.2) := ⟨call77, fun F2 h2 vs dy r ha hr => by obtain ⟨_, _, rfl, rfl, rfl⟩ := ha; exact HU (ab.mono (Ay kJ) h2) (aa.mono kI h2) (ad.mono (Ai kI kP) h2) hr⟩
       obtain ⟨x2, gv, mv, mw⟩ := Ca fi
       refine MW (Lb := (bd, .map bx df) :: ((aj, ce #[sL iq dv dw] 169) :: (bw ++ []))) (Lr := (bh, ce (#[.func (.func 129) #[] #[pO bq, pO bj, pO b1, pO bg, pO aj]]) 175) :: (ai ++ [])) rfl call129 rfl rfl rfl (pT ((fC (fC fO)).trans (pC ((fC fO).trans (pC ((fC (fS fP)).trans (pA pR)))))) (lb (lb (lp (ln rfl))))) (IJ List.length_replicate (At.nil _ _ _) br iv dr ah ae ab aa ad fh gg gb mv) ?_; rintro _ pz _ iw ot ou ⟨iy, iz, mx, na, nc, j0, rfl, rfl, j1, j2⟩
       refine AB (lb (lb (lp (ln rfl)))) (kO (kc (kc (kf (fS fO) kr))) ?_)
       refine Aa (AD (id := 3) (Aq ?_))
       refine uv (A4 rfl rfl (B0.CE dx fj mq)) ?_
       refine um (Aa ?_)
       refine lf ?_
       exact mf (kf (fC (fC fO)) (kf (fC fO) (kc (kg (fS fP) kr)))) ⟨_, iu, gv, x2, mx, na, nc, j0, iy, iz, mw, (aq.trans iw), rfl, z7, j2, j1⟩
      obtain rfl := B0.zero dx fj
      rw [D9] at fi
      refine AM (Aj (Aj ?_))
      refine Ax ?_
      obtain ⟨rfl, rfl⟩ := Cd fi
      exact mf kr ⟨iq, dv, dw, bw, bx, df, (((dq.trans cw).trans bu).trans aq), rfl, z6, gb, br, dr, gg, fh⟩
     have nf := A3 oo mo
     refine Ar ?_
     refine LD 1 rfl im ?_; intro q0 j3 bz
     refine PU (L' := (bh, ce (#[.func (.func 129) #[] #[pO bq, pO bj, pO b1, pO bg, pO aj]]) 175) :: ((aj, ce #[sL none 0 0] 169) :: ((bg, ce #[.map (some bd)] 170) :: ((bd, .map #[] 0) :: ((bj, ce #[vI k] 3) :: (ai ++ [])))))) rfl ?_
     refine LD 4 rfl ik ?_; intro qb gh dz
     refine PU (L' := (bh, ce (#[.func (.func 129) #[] #[pO bq, pO bj, pO b1, pO bg, pO aj]]) 175) :: ((aj, ce #[sL none 0 0] 169) :: ((bg, ce #[.map (some bd)] 170) :: ((bd, .map #[] 0) :: (ai ++ []))))) rfl ?_
     replace bz := gh _ _ bz
     refine LD 2 rfl il ?_; intro qc eb j4
     refine PU (L' := (bh, ce (#[.func (.func 129) #[] #[pO bq, pO bj, pO b1, pO bg, pO aj]]) 175) :: ((aj, ce #[sL none 0 0] 169) :: ((bd, .map #[] 0) :: (ai ++ [])))) rfl ?_
     replace bz := eb _ _ bz
     replace dz := eb _ _ dz
     obtain ⟨rfl, rfl⟩ := Cd nf
     exact mf (kc (kc (kc (ka (ke kr))))) ⟨none, 0, 0, [], #[], 0, ((j3.trans gh).trans eb), rfl, z6, AI.nil _ _ _ _ _, bz, dz, Jq.nil, j4⟩
    rintro e1 j5 _ ⟨mc, me, mg, ff, fg, gu, az, rfl, j6, ng, cy, cz, nh, da⟩
    refine AA _ j6 ?_
    replace ab := ab.mono (Ay kJ) az
    replace aa := aa.m1 az
    replace ad := ad.mono (Ai kI kP) az
    replace ay := ay.mono (Ai kI (Ai (BF (n := 24) (sz := 1) A8) kJ)) az
    replace ae := az _ _ ae
    replace ah := az _ _ ah
    obtain ⟨ec, ni, j7⟩ := Az oq
    refine AO (fun e1 F1 L1 => ∃ (fk : Option Addr) (fl : Nat) (fm : Nat) (dg : LH), AQ j5 F1 ∧ L1 = ((aj, ce #[sL fk fl fm] 169) :: (dg ++ [])) ∧ e1.sub [(1, pO b1), (6, pO aj), (21, vI (Ab.length : Int)), (22, vI k)] ∧ AI 0 174 26 (Br eI (Br (J4 24 cB) eJ)) F1 fk fl fm ec dg) ?_ ?_
    ·clear j7
     refine AG (um ?_)
     refine uv ((AJ underlying169 rfl).i (AI.FE ay)) ?_
     refine um (Aa ?_)
     refine As ?_
     refine A6 (fun ow e1 F1 L1 => LA ct ow fun oy k3 => ∃ (bl : List (Int × (List Bool) × (List Int))) (m3 : List ((Int × (List Bool)) × Bool)) (cb : Option Addr) (cc : Nat) (cf : Nat) (au : LH) (ba : Array MapEntry) (bk : Nat), D3 Af Ac Ah Ab Ak k oy bl m3 = some ec ∧ AQ j5 F1 ∧ L1 = ((bh, ce (#[.func (.func 129) #[] #[pO bq, pO bj, pO b1, pO bg, pO aj]]) 175) :: ((aj, ce #[sL cb cc cf] 169) :: ((bd, .map ba bk) :: (au ++ (ai ++ []))))) ∧ e1.sub [(1, pO b1), (6, pO aj), (8, pO bh), (21, vI (Ab.length : Int)), (22, vI k), (42, sL ez fa fb), (43, vI (ct.length : Int)), (44, vI k3)] ∧ AI 0 174 26 (Br eI (Br (J4 24 cB) eJ)) F1 cb cc cf bl au ∧ Jq HA (vA (cP (cI .i64) (cA cB))) Value.bool ba m3) _ (m0 (kc (kc (kc (kg (fS fP) kr)))) ⟨_, _, rfl, Bq.start _, cv, m, mc, me, mg, ff, fg, gu, ni, AQ.refl _, rfl, z8, ng, nh⟩) ?_
     rintro ow e1 nj _ ⟨oy, k3, j8, ef, bl, m3, cb, cc, cf, au, ba, bk, fo, ak, rfl, j9, dh, ja⟩
     refine AA _ j9 ?_
     replace ab := ab.mono (Ay kJ) ak
     replace aa := aa.m1 ak
     replace ad := ad.mono (Ai kI kP) ak
     replace ay := ay.mono (Ai kI (Ai (BF (n := 24) (sz := 1) A8) kJ)) ak
     replace ae := ak _ _ ae
     replace ah := ak _ _ ah
     replace cy := ak _ _ cy
     replace cz := ak _ _ cz
     replace da := ak _ _ da
     refine AG (uv (AY rfl rfl) ?_)
     refine Aa (Au ?_)
     refine cQ (fun fp => ?_) fun fp => ?_
     ·obtain ⟨x3, re, rfl, jb, jc, jd⟩ := Bq.succ ef fp
      rw [D3] at fo
      refine Ar ?_
      obtain ⟨db, m4, nk, je⟩ := Ca fo
      refine AO (fun e1 F1 L1 => ∃ (fq : Option Addr) (ft : Nat) (fv : Nat) (di : LH) (dk : Array MapEntry) (eg : Nat), AQ nj F1 ∧ L1 = ((bh, ce (#[.func (.func 129) #[] #[pO bq, pO bj, pO b1, pO bg, pO aj]]) 175) :: ((aj, ce #[sL fq ft fv] 169) :: ((bd, .map dk eg) :: (di ++ (ai ++ []))))) ∧ e1.sub [(1, pO b1), (6, pO aj), (8, pO bh), (21, vI (Ab.length : Int)), (22, vI k), (42, sL ez fa fb), (43, vI (ct.length : Int)), (44, vI k3)] ∧ AI 0 174 26 (Br eI (Br (J4 24 cB) eJ)) F1 fq ft fv db di ∧ Jq HA (vA (cP (cI .i64) (cA cB))) Value.bool dk m4) ?_ ?_
      ·clear je
       refine As (AG ?_)
       obtain ⟨qd, qe, qf, oz, jf, jg, eh, ⟨_, _, rfl, rfl, ⟨_, _, rfl, ⟨rfl, bm⟩, ⟨bn, bo, rfl, ei⟩⟩⟩, jh, ji⟩ := AI.at (Ai kI (Ai (BF (n := 24) (sz := 1) A8) kJ)) ay (L := (bh, ce (#[.func (.func 129) #[] #[pO bq, pO bj, pO b1, pO bg, pO aj]]) 175) :: ((aj, ce #[sL cb cc cf] 169) :: ((bd, .map ba bk) :: (au ++ (ai ++ []))))) (fC (fC (fC (fS fP)))) jc.1 jb
       refine uv (C0 underlying169 sizeOf174 jf (AI.idx ay jc)) (uv (Bn isAgg174 sizeOf174 rfl jg eh (Bi eh jh ji)) ?_)
       refine Bu rfl zeroValue174 ?_; intro dt p0
       refine AB (L' := (dt, ce ((([vI 0] : List Value) ++ ((List.replicate 24 false).flatMap cB ++ (([sL none 0 0] : List Value)))).toArray) 174) :: ((bh, ce (#[.func (.func 129) #[] #[pO bq, pO bj, pO b1, pO bg, pO aj]]) 175) :: ((aj, ce #[sL cb cc cf] 169) :: ((bd, .map ba bk) :: (au ++ (ai ++ [])))))) rfl (GF (i := 0) sizeOf174 rfl rfl rfl (lz (la rfl (la (Hl A8 List.length_replicate) rfl))) (lz (la rfl (la (Hl A8 bm) rfl))) (Lz (by simp [Value.oneCell']) (Lz (Jc A8 _) (by simp [Value.oneCell']))) (AB (L' := (dt, ce ((([vI x3.1] : List Value) ++ (x3.2.1.flatMap cB ++ (([sL bn x3.2.2.length bo] : List Value)))).toArray) 174) :: ((bh, ce (#[.func (.func 129) #[] #[pO bq, pO bj, pO b1, pO bg, pO aj]]) 175) :: ((aj, ce #[sL cb cc cf] 169) :: ((bd, .map ba bk) :: (au ++ (ai ++ [])))))) rfl (BR (uv (Ap MD rfl) (uv (Ap Q8 rfl) (uv (AS isAgg3 rfl (Has.own 0 rfl) (NO (CD (B := x3.2.1.flatMap cB ++ (([sL bn x3.2.2.length bo] : List Value))) rfl))) ?_))))))
       obtain ⟨y, np, nq⟩ := Az nk
       refine c0 call130 (Me np) ?_; rintro _ qg _ al p3 ⟨jj, rfl, rfl, gw⟩
       replace ab := ab.mono (Ay kJ) al
       replace aa := aa.m1 al
       replace ad := ad.mono (Ai kI kP) al
       replace ei := ei.m1 al
       replace dh := dh.mono (Ai kI (Ai (BF (n := 24) (sz := 1) A8) kJ)) al
       replace ae := al _ _ ae
       replace ah := al _ _ ah
       replace cy := al _ _ cy
       replace cz := al _ _ cz
       replace da := al _ _ da
       refine AB (ln rfl) (Aa (As ?_))
       refine LX (encs := (fun x : Int => #[vI x])) (xs := y) rfl call139 rfl (fun _ => rfl) gw (fun pre F1 L1 => ∃ (ig : List Int) (ao : List (Int × (List Bool) × (List Int))) (m5 : List ((Int × (List Bool)) × Bool)) (cg : Option Addr) (cj : Nat) (ck : Nat) (av : LH) (aw : Array MapEntry) (bb : Nat), y = pre ++ ig ∧ DW Af Ac Ah Ab Ak k x3 ig ao m5 = some (db, m4) ∧ L1 = ((dt, ce ((([vI x3.1] : List Value) ++ (x3.2.1.flatMap cB ++ (([sL bn x3.2.2.length bo] : List Value)))).toArray) 174) :: ((bh, ce (#[.func (.func 129) #[] #[pO bq, pO bj, pO b1, pO bg, pO aj]]) 175) :: ((aj, ce #[sL cg cj ck] 169) :: ((bd, .map aw bb) :: (av ++ (ai ++ [])))))) ∧ AI 0 174 26 (Br eI (Br (J4 24 cB) eJ)) F1 cg cj ck ao av ∧ Jq HA (vA (cP (cI .i64) (cA cB))) Value.bool aw m5) (fun _ _ _ => False) ?_ ?_ ?_ ?_ ?_ ?_
       ·rintro pre F1 F2 L1 ⟨ig, ao, m5, cg, cj, ck, av, aw, bb, cn, nr, rfl, cp, cq⟩ hx; exact ⟨ig, ao, m5, cg, cj, ck, av, aw, bb, cn, nr, rfl, cp.mono (Ai kI (Ai (BF (n := 24) (sz := 1) A8) kJ)) hx, cq⟩
       ·intro c F1 F2 L1 h hx; exact h
       ·exact ⟨_, bl, m3, cb, cc, cf, au, ba, bk, rfl, nq, rfl, dh, ja⟩
       ·rintro qh p4 p5 p6 p7 p8 ns p9 pre x4 rf ej nt _ ar ⟨ig, ao, m5, cg, cj, ck, av, aw, bb, cn, jk, rfl, cp, cq⟩
        obtain rfl := OD cn ej
        rw [DW] at jk
        replace ab := ab.mono (Ay kJ) ar
        replace aa := aa.m1 ar
        replace ad := ad.mono (Ai kI kP) ar
        replace ei := ei.m1 ar
        replace ae := ar _ _ ae
        replace ah := ar _ _ ah
        replace cy := ar _ _ cy
        replace cz := ar _ _ cz
        replace da := ar _ _ da
        refine AA [(1, pO b1), (6, pO aj), (8, pO bh), (11, pO dt), (21, vI (Ab.length : Int)), (22, vI k), (42, sL ez fa fb), (43, vI (ct.length : Int)), (44, vI k3), (51, .func (.func 139) #[] jj), (52, vI x4)] (by exact (sc rfl (sc rfl (sc rfl z8)))) ?_
        refine Aq (ua (Aa ?_))
        refine ⟨rfl, ?_⟩
        refine As (Aq (uv (Co isAgg175 1) (uv (Bn isAgg174 sizeOf174 rfl (Has.own 0 rfl) (Je (Kt rfl (CD (B := x3.2.1.flatMap cB ++ (([sL bn x3.2.2.length bo] : List Value))) rfl) (Kt (Hl A8 bm) (Dl (A := ([vI x3.1] : List Value)) (k := 1) (o := 0) rfl (CD (B := ([sL bn x3.2.2.length bo] : List Value)) (Hl A8 bm))) (Dl (A := ([vI x3.1] : List Value)) (k := 1) (o := 24) rfl (Dl (A := x3.2.1.flatMap cB) (k := 24) (o := 0) (Hl A8 bm) (FD rfl)))))) (Jg (la rfl (la (Hl A8 bm) rfl)) (Kt rfl (CD (B := x3.2.1.flatMap cB ++ (([sL bn x3.2.2.length bo] : List Value))) rfl) (Kt (Hl A8 bm) (Dl (A := ([vI x3.1] : List Value)) (k := 1) (o := 0) rfl (CD (B := ([sL bn x3.2.2.length bo] : List Value)) (Hl A8 bm))) (Dl (A := ([vI x3.1] : List Value)) (k := 1) (o := 24) rfl (Dl (A := x3.2.1.flatMap cB) (k := 24) (o := 0) (Hl A8 bm) (FD rfl))))))) (um ?_))))
        have jl : J2 Tryz.prog nt 77 #[.agg #[vI Af, vI Ac, sL Am Ah.length Al, sL Ae Ab.length Ad, sL Ao Ak.length An]] #[] eP Value.bool (fun dy : Int × Int => EC Af Ac Ah Ab Ak dy.1 dy.2) := ⟨call77, fun F2 h2 vs dy r ha hr => by obtain ⟨_, _, rfl, rfl, rfl⟩ := ha; exact HU (ab.mono (Ay kJ) h2) (aa.mono kI h2) (ad.mono (Ai kI kP) h2) hr⟩
        obtain ⟨x5, fw, nu, nv⟩ := Ca jk
        refine MW (Lb := (bd, .map aw bb) :: ((aj, ce #[sL cg cj ck] 169) :: (av ++ []))) (Lr := (dt, ce ((([vI x3.1] : List Value) ++ (x3.2.1.flatMap cB ++ (([sL bn x3.2.2.length bo] : List Value)))).toArray) 174) :: ((bh, ce (#[.func (.func 129) #[] #[pO bq, pO bj, pO b1, pO bg, pO aj]]) 175) :: (ai ++ []))) rfl call129 rfl rfl rfl (pT ((fC (fC (fC fO))).trans (pC ((fC (fC fO)).trans (pC ((fC (fC fP)).trans (pA pR)))))) (lb (lb (lp (ln rfl))))) (IJ bm ei cy jl cz ah ae ab aa ad da cq cp nu) ?_; rintro _ qi _ pa pb pd ⟨gi, gj, jm, jn, jo, gk, rfl, rfl, jq, jr⟩
        refine AB (lb (lb (lp (ln rfl)))) (kO (kc (kc (kf (fS fO) (kf (fS fO) kr)))) ?_)
        refine Aa (AD (id := 7) ?_)
        refine ⟨(dt, ce ((([vI x3.1] : List Value) ++ (x3.2.1.flatMap cB ++ (([sL bn x3.2.2.length bo] : List Value)))).toArray) 174) :: ((bh, ce (#[.func (.func 129) #[] #[pO bq, pO bj, pO b1, pO bg, pO aj]]) 175) :: ((aj, ce #[sL jm jn jo] 169) :: ((bd, .map gi gj) :: (gk ++ (ai ++ []))))), (show KL _ _ from kf (fC (fC fO)) (kf (fC (fC fO)) (kf (fC fO) kr))), ?_⟩; exact ⟨_, fw, x5, jm, jn, jo, gk, gi, gj, (by rw [ej]; simp), nv, rfl, jr, jq⟩
       ·rintro qj _ js ⟨ig, ao, m5, cg, cj, ck, av, aw, bb, cn, jt, rfl, cp, cq⟩
        obtain rfl := PH cn; rw [DW] at jt
        refine AD (id := 6) (AD (id := 5) ?_)
        obtain ⟨rfl, rfl⟩ := Cd jt
        exact mi (kd kr) ⟨cg, cj, ck, av, aw, bb, (al.trans js), rfl, z8, cp, cq⟩
       intro c F1 L1 hx h; exact h.elim
      rintro e1 qk _ ⟨fq, ft, fv, di, dk, eg, gl, rfl, ju, jv, jw⟩
      refine AA _ ju ?_
      replace ay := ay.mono (Ai kI (Ai (BF (n := 24) (sz := 1) A8) kJ)) gl
      refine Aq (uv (A4 rfl rfl (Bq.CE ef fp (AI.Po ay))) ?_)
      refine um (Aa ?_)
      subst j8; exact le kr ⟨_, _, rfl, jd, db, m4, fq, ft, fv, di, dk, eg, je, (ak.trans gl), rfl, z8, jv, jw⟩
     obtain rfl := Bq.zero ef fp
     rw [D3] at fo
     refine AM (Aj (Aj ?_))
     refine Ax ?_
     obtain rfl := AL fo
     exact mi (kd (kc (kd (ka kn)))) ⟨cb, cc, cf, au, ak, rfl, z4, dh⟩
    rintro e1 ql _ ⟨fk, fl, fm, dg, jx, rfl, jz, kb⟩
    refine AA _ jz (Aq (uv (Co isAgg169 0) ?_))
    refine ua (Aa (AD (id := 1) ?_))
    obtain rfl := AL j7
    exact mi (kd kr) ⟨fk, fl, fm, dg, (az.trans jx), rfl, z4, kb⟩
   rintro e1 qn _ ⟨ly, ma, mb, fe, gm, rfl, kh, nw⟩
   refine AA _ kh ?_
   replace aa := aa.m1 gm
   refine Aq (uv (A4 rfl rfl (Bq.CE gr lx (At.lt aa))) ?_)
   refine um (Aa ?_)
   subst mj; refine lf ?_
   exact mf kr ⟨_, _, rfl, mn, ij, ly, ma, mb, fe, oj, (cu.trans gm), rfl, z4, nw⟩
  obtain rfl := Bq.zero gr lx
  rw [D6] at lv
  refine AM (Aj (Aj ?_))
  refine Ax ?_
  obtain rfl := AL lv
  exact mi kr ⟨ez, fa, fb, ai, (du.trans cu), rfl, z1, ay⟩
 rintro e1 kj _ ⟨a2, n6, c3, gq, pe, rfl, kl, fx⟩
 refine AA _ kl ?_
 refine AG (ua (Aa ?_))
 obtain ⟨out, ny, km⟩ := Az r9
 refine AO (fun e1 F1 L1 => ∃ (gz : Option Addr) (ia : Nat) (ib : Nat) (en : LH), AQ kj F1 ∧ L1 = (en ++ []) ∧ e1.sub [(13, sL gz ia ib)] ∧ AI K.w0.heap.size 135 25 (Br (J4 24 cB) eJ) F1 gz ia ib out en) ?_ ?_
 ·clear km
  refine AG (um ?_)
  refine uv ((AJ underlying169 rfl).i (AI.FE fx)) ?_
  refine um (Aa ?_)
  refine As ?_
  refine A6 (fun pf e1 F1 L1 => LA now pf fun pg k4 => ∃ (eo : List ((List Bool) × (List Int))) (ep : Option Addr) (er : Nat) (et : Nat) (ax : LH), Dc pg eo = some out ∧ AQ kj F1 ∧ L1 = (ax ++ (gq ++ [])) ∧ e1.sub [(13, sL ep er et), (60, sL a2 n6 c3), (61, vI (now.length : Int)), (62, vI k4)] ∧ AI K.w0.heap.size 135 25 (Br (J4 24 cB) eJ) F1 ep er et eo ax) _ (m0 (ke kr) ⟨_, _, rfl, Bq.start _, [], none, 0, 0, [], ny, AQ.refl _, rfl, z4, AI.nil _ _ _ _ _⟩) ?_
  rintro pf e1 qo _ ⟨pg, k4, gn, dm, eo, ep, er, et, ax, fy, dp, rfl, ko, bc⟩
  refine AA _ ko ?_
  replace fx := fx.mono (Ai kI (Ai (BF (n := 24) (sz := 1) A8) kJ)) dp
  refine AG (uv (AY rfl rfl) ?_)
  refine Aa (Au ?_)
  refine cQ (fun eu => ?_) fun eu => ?_
  ·obtain ⟨x6, rh, rfl, kt, ku, gp⟩ := Bq.succ dm eu
   rw [Dc] at fy
   refine Ar (Au ?_)
   refine As (AG ?_)
   obtain ⟨qp, qq, qs, ph, kv, kz, ew, ⟨_, _, rfl, rfl, ⟨_, _, rfl, ⟨rfl, bp⟩, ⟨dd, de, rfl, ga⟩⟩⟩, l0, ld⟩ := AI.at (Ai kI (Ai (BF (n := 24) (sz := 1) A8) kJ)) fx (L := ax ++ (gq ++ [])) (fS fP) ku.1 kt
   refine uv (C0 underlying169 sizeOf174 kv (AI.idx fx ku)) (uv (Bn isAgg174 sizeOf174 rfl kz ew (Bi ew l0 ld)) ?_)
   refine Bu rfl zeroValue174 ?_; intro ic lg
   refine AB (L' := (ic, ce ((([vI 0] : List Value) ++ ((List.replicate 24 false).flatMap cB ++ (([sL none 0 0] : List Value)))).toArray) 174) :: (ax ++ (gq ++ []))) rfl (GF (i := 0) sizeOf174 rfl rfl rfl (lz (la rfl (la (Hl A8 List.length_replicate) rfl))) (lz (la rfl (la (Hl A8 bp) rfl))) (Lz (by simp [Value.oneCell']) (Lz (Jc A8 _) (by simp [Value.oneCell']))) (AB (L' := (ic, ce ((([vI x6.1] : List Value) ++ (x6.2.1.flatMap cB ++ (([sL dd x6.2.2.length de] : List Value)))).toArray) 174) :: (ax ++ (gq ++ []))) rfl ?_))
   refine BR (um ?_)
   refine uv (CP rfl rfl) ?_
   refine Bj 0 rfl lg ?_; intro nz cr ey
   refine AB rfl ?_
   replace ga := ga.m1 cr
   replace fx := fx.mono (Ai kI (Ai (BF (n := 24) (sz := 1) A8) kJ)) cr
   replace bc := bc.mono (Ai (BF (n := 24) (sz := 1) A8) kJ) cr
   have lh : J2 Tryz.prog nz 132 #[] #[pO ic] (PO (Br (J4 24 cB) eJ)) Value.bool (fun dy : ((List Bool) × (List Int)) => FO dy.1 dy.2 x6.1 x6.2.1 x6.2.2) := ⟨call132, fun F2 h2 vs dy r ha hr => by obtain ⟨_, rfl, ⟨_, _, rfl, ⟨rfl, o0⟩, ⟨qt, qu, rfl, o1⟩⟩⟩ := ha; exact Ln o0 o1 (h2 _ _ ey) bp (ga.mono kI h2) hr⟩
   obtain ⟨ok, o2, lj⟩ := Az fy
   refine Bh rfl call131 rfl rfl rfl (pT pR (lp (ln rfl))) (fun F2 h2 h3 => by rw [(AI.A1 bc).1]; exact FM (bc.row (Ai (BF (n := 24) (sz := 1) A8) kJ) h2 (aL h3)) (lh.mono h2) o2) ?_
   refine uv (Bo rfl) (Aa ?_)
   refine AV rfl (fun ie => ?_) (fun ie => ?_)
   ·have o3 := bt lj ie
    refine Aq (um ?_)
    refine uv (Ap MD rfl) (uv (Ap NZ rfl) (uv (Bn isAgg128 sizeOf128 rfl (Has.frozen ey) (Je (Dl (A := ([vI x6.1] : List Value)) (k := 1) (o := 0) rfl (CD (B := ([sL dd x6.2.2.length de] : List Value)) (Hl A8 bp)))) (Jg (Hl A8 bp) (Dl (A := ([vI x6.1] : List Value)) (k := 1) (o := 0) rfl (CD (B := ([sL dd x6.2.2.length de] : List Value)) (Hl A8 bp))))) (uv (Ap PI rfl) (uv (AS isAgg22 rfl (Has.frozen ey) (NO (Dl (A := ([vI x6.1] : List Value)) (k := 1) (o := 24) rfl (Dl (A := x6.2.1.flatMap cB) (k := 24) (o := 0) (Hl A8 bp) (FD rfl))))) ?_))))
    refine uv (BX (v := .agg ((x6.2.1.flatMap cB ++ (([sL dd x6.2.2.length de] : List Value))).toArray)) rfl (by intro w; have o4 := bp; revert o4; generalize x6.2.1 = zq_; intro o4; obtain ⟨a0, a1, a2, a3, a4, a5, a6, a7, a8, a9, ri, rj, rk, ez, rl, rm, rp, rq, rr, ru, ry, rz, s5, s6, rfl⟩ := LF o4; show _ = _; kernel_rfl)) ?_
    refine Gy (cs := (x6.2.1.flatMap cB ++ (([sL dd x6.2.2.length de] : List Value))).toArray) rfl rfl (LB OG (.agg (x6.2.1.flatMap cB ++ (([sL dd x6.2.2.length de] : List Value))).toArray) (lz (la (Hl A8 bp) rfl)) (by decide)) ?_; intro qw pj
    obtain ⟨lk, o7, o8, o9⟩ := Ea o3
    refine CJ (xs := eo) (ys := [(x6.2.1, x6.2.2)]) (zs := lk) rfl OG rfl rfl (Nat.le_refl _) (fun _ => .c .h) bc (FL.box (vss := [(x6.2.1.flatMap cB ++ (([sL dd x6.2.2.length de] : List Value)))]) (ys := [(x6.2.1, x6.2.2)]) 0 rfl (Ai (BF (n := 24) (sz := 1) A8) kJ) (.cons ⟨_, _, rfl, ⟨rfl, bp⟩, ⟨_, _, rfl, ga⟩⟩ .nil) (by simp) rfl) o7 o8 (by decide) ?_; intro oc od oe ll lq
    refine kO (kd kr) ?_
    refine ua (Aa (AD (id := 9) (Aq ?_)))
    refine uv (A4 rfl rfl (Bq.CE dm eu (AI.Po fx))) ?_
    refine um (Aa ?_)
    subst gn; exact le kr ⟨_, _, rfl, gp, lk, oc, od, oe, ll, o9, (dp.trans cr), rfl, z4, lq⟩
   have og := bf lj ie
   refine Ar (AD (id := 9) (Aq ?_))
   refine uv (A4 rfl rfl (Bq.CE dm eu (AI.Po fx))) ?_
   refine um (Aa ?_)
   subst gn; exact le kr ⟨_, _, rfl, gp, eo, ep, er, et, ax, og, (dp.trans cr), rfl, z4, bc⟩
  obtain rfl := Bq.zero dm eu
  rw [Dc] at fy
  refine AM (Aj (Aj ?_))
  refine Ax ?_
  obtain rfl := AL fy
  exact mi (ka kn) ⟨ep, er, et, ax, dp, rfl, z1, bc⟩
 rintro e1 qx _ ⟨gz, ia, ib, en, pk, rfl, lr, lu⟩
 refine AA _ lr ?_
 refine AG (um (ua (Aa (Aw ?_))))
 refine B7 results106 ?_
 obtain rfl := AL km
 exact ⟨_, _, _, _, rfl, rfl, lu.any⟩
set_option maxHeartbeats 1000000 in
theorem LK (ah : At 1 (CM 1 eJ) F Am Al Ah) (aa : At 1 eI F Ae Ad Ab) (ai : At 3 (Br eI eP) F Ao An Ak) {r : Option (Int × Int × (List (List (List Int))) × (List Int) × (List (Int × Int × Int)))} {r2 : List ((List Bool) × (List Int))} {r3 : Int} (hr : KJ Af Ac Ah Ab Ak = some (r, r2, r3)) :
    SH.Spec Tryz.prog 86 #[.agg #[vI Af, vI Ac, sL Am Ah.length Al, sL Ae Ab.length Ad, sL Ao Ak.length An]] F [] fun F' L' v => ∃ (rv : Value) (ba : Option Addr) (bb : Nat) (bc : Nat) (bd : LH), v = .tuple #[rv, sL ba bb bc, vI r3] ∧ L' = bd ++ [] ∧ Om 119 (Br eI (Br eI (Br (CM 1 (CM 1 eJ)) (Br eJ (CM 3 (Br eI eP)))))) F' rv r ∧ AI 0 135 25 (Br (J4 24 cB) eJ) F' ba bb bc r2 bd := by
 refine sp func86 ntmps86 fun K _ _ => ?_
 rw [KJ] at hr
 refine AG ?_
 refine BB rfl rfl ?_; intro b1 cg
 refine ua (ua (ua (BR ?_)))
 refine uv (Cv isAgg26 sizeOf26 0) ?_
 obtain ⟨d, n, h2, r4⟩ := Ca hr
 refine c0 call81 (HF ah aa ai h2) ?_; rintro _ F5 _ cj ck ⟨v9, rfl, rfl, av⟩
 refine AB (ln rfl) ?_
 refine um (ox rfl rfl rfl (ox rfl rfl rfl (ua (ua (Aa (Au (AG (um ?_))))))))
 refine uv (BU rfl rfl) (Aa ?_)
 refine cQ (fun aw => ?_) fun aw => ?_
 ·have bj := A2 r4 aw
  refine AG (um (ua (ua (ua (Aa ?_)))))
  refine kW kn ?_
  refine Aw (Av ?_)
  refine PY results86 (AT rfl) (AT rfl) (AT rfl) (sr) ?_
  obtain ⟨rfl, rfl, rfl⟩ := Na bj
  exact ⟨_, _, _, _, [], rfl, rfl, rfl, AI.nil _ _ _ _ _⟩
 have bk := A3 r4 aw
 refine Ar (AG (um ?_))
 obtain ⟨AU, ae, al, ab, ao, bl, bm⟩ := Ez bk
 have bg := av; rw [bl] at bg; obtain ⟨bn, cn, bo, ax, ad, ⟨_, _, rfl, rfl, ⟨_, _, rfl, rfl, ⟨_, _, rfl, ⟨bp, bq, rfl, aq⟩, ⟨_, _, rfl, ⟨br, bu, rfl, ar⟩, ⟨bw, bx, rfl, au⟩⟩⟩⟩⟩⟩ := bg; subst ax
 have ad : F5 bn = some (.cells #[vI AU, vI ae, sL bp al.length bq, sL br ab.length bu, sL bw ao.length bx] 119 bo) := ad
 obtain ⟨l, bz, bh⟩ := Az bm
 refine c0 call106 (Jp ad aq ar au bz) ?_; rintro _ cp _ aj ay ⟨cq, cr, ct, cb, rfl, rfl, ak⟩
 replace aq := aq.mono (Ay kJ) aj
 replace ar := ar.m1 aj
 replace au := au.mono (Ai kI kP) aj
 replace ad := aj _ _ ad
 replace ak := ak.new fun p hp => ay p (by simp [hp])
 refine AB (lp (ln rfl)) (kO (kf (fS fO) kr) ?_)
 refine ua (Aa (Au (AG (um ?_))))
 refine uv ((AJ underlying131 rfl).i (AI.FE ak)) (uv (Bx rfl rfl) (Aa ?_))
 refine cQ (fun az => ?_) fun az => ?_
 ·have cc := A2 bh az
  refine AG (ua (ua (ua (Aa ?_))))
  refine kW kn ?_
  refine Aw (Av ?_)
  refine PY results86 (AT rfl) (AT rfl) (AT rfl) (sr) ?_
  obtain ⟨rfl, rfl, rfl⟩ := Na cc
  exact ⟨_, _, _, _, [], rfl, rfl, rfl, AI.nil _ _ _ _ _⟩
 have cf := A3 bh az
 refine Ar (AG (um (um (ua (ua (ua (Aa ?_)))))))
 refine kW (kd kr) (Aw (PY results86 (AT rfl) (AT rfl) (AT rfl) (sr) ?_))
 obtain ⟨rfl, rfl, rfl⟩ := Na cf
 exact ⟨_, _, _, _, _, rfl, rfl, ⟨_, _, _, rfl, ad, ⟨_, _, rfl, rfl, ⟨_, _, rfl, rfl, ⟨_, _, rfl, ⟨_, _, rfl, aq⟩, ⟨_, _, rfl, ⟨_, _, rfl, ar⟩, ⟨_, _, rfl, au⟩⟩⟩⟩⟩⟩, ak.any⟩
set_option maxHeartbeats 1000000 in
theorem La (ar : At 1 (CM 1 eJ) F Am Al Ah) (ai : At 1 eI F Ae Ad Ab) (au : At 3 (Br eI eP) F Ao An Ak) {r : List (List Int)} {r2 : Int} (hr : I6 Af Ac Ah Ab Ak = some (r, r2)) :
    SH.Spec Tryz.prog 36 #[.agg #[vI Af, vI Ac, sL Am Ah.length Al, sL Ae Ab.length Ad, sL Ao Ak.length An]] F [] fun F' L' v => ∃ (ra : Option Addr) (rc : Nat), v = .tuple #[sL ra r.length rc, vI r2] ∧ L' = [] ∧ At 1 eJ F' ra rc r := by
 refine sp func36 ntmps36 fun K _ _ => ?_
 rw [I6] at hr
 refine AG ?_
 refine BB rfl rfl ?_; intro b1 je
 refine ua (ua (BR ?_))
 refine uv (Cv isAgg26 sizeOf26 0) ?_
 obtain ⟨d, l, n, h2, r3⟩ := N7 hr
 refine c0 call86 (LK ar ai au h2) ?_; rintro _ F4 _ jf gw ⟨v8, az, ba, bb, ab, rfl, rfl, jg, ae⟩
 replace ae := ae.new fun p hp => gw p (by simp [hp])
 refine AB (lp (ln rfl)) (kO (kf (fS fO) kr) ?_)
 refine um (ox rfl rfl rfl (ox rfl rfl rfl (ox rfl rfl rfl (ua (ua (ua (Aa (Au (AG ?_)))))))))
 refine um (uv (BU rfl rfl) (Aa ?_))
 refine cQ (fun dx => ?_) fun dx => ?_
 ·have gz := A2 r3 dx
  refine AG (um (ua (ua (Aa ?_))))
  refine kW kn ?_
  refine Aw (Av ?_)
  refine BM results36 (AT rfl) (AT rfl) (sr) ?_
  obtain ⟨rfl, rfl⟩ := Cd gz
  exact ⟨_, _, rfl, rfl, At.nil _ _ _⟩
 have ia := A3 r3 dx
 refine Ar (AG ?_)
 refine uv (Ap Js rfl) (uv (Co isAgg3 0) ?_)
 obtain ⟨ib, ic⟩ := AF ia
 obtain ⟨l2, ie, ig⟩ := BI ic
 refine Ft (R := LR) (z0 := (none, 0, 0)) (zs := List.replicate (Af : Int).toNat (none, 0, 0)) rfl Rn (by decide) DP (fun _ => rfl) rfl ib rfl (fun _ => .c .n) ?_; intro aj aa bu dy
 have bw : Ev K.w0.heap.size 77 78 1 eI F4 aj aa aa l2 bu := Ev.made dy ie
 refine ua (Aa ?_)
 obtain ⟨out, ij, fw⟩ := Az ig
 refine AO (fun e1 F1 L1 => ∃ (bk : LH), F4 = F1 ∧ L1 = (bk ++ []) ∧ e1.sub [(7, sL aj aa aa)] ∧ Ev K.w0.heap.size 77 78 1 eI F1 aj aa aa out bk) ?_ ?_
 ·clear fw
  refine AG (um ?_)
  refine uv ((AJ underlying74 rfl).i (Ev.FE bw)) ?_
  refine um (Aa ?_)
  refine As ?_
  obtain ⟨ik, il⟩ := AF ij
  refine A6 (fun dm e1 F1 L1 => ∃ (k : Int), B0 0 (l2.length : Int) k dm ∧ ∃ (av : List (List Int)) (al : LH), Gm Ac l dm k av = some out ∧ F4 = F1 ∧ L1 = ((b1, ce #[vI Af, vI Ac, sL Am Ah.length Al, sL Ae Ab.length Ad, sL Ao Ak.length An] 26) :: (ab ++ (al ++ []))) ∧ e1.sub [(1, pO b1), (5, sL az ba bb), (7, sL aj aa aa), (27, vI (l2.length : Int)), (28, vI k)] ∧ Ev K.w0.heap.size 77 78 1 eI F1 aj aa aa av al) _ (m0 (kc (kg (fS fP) kr)) ⟨_, B0.start _ _, l2, bu, il, rfl, rfl, z5, bw⟩) ?_
  rintro dm e1 _ _ ⟨k, bl, av, al, dp, rfl, rfl, dz, bx⟩
  refine AA _ dz (AG (uv (AY rfl rfl) ?_))
  refine Aa (Au ?_)
  refine cQ (fun dq => ?_) fun dq => ?_
  ·obtain ⟨dm, rfl, eb⟩ := B0.succ bl dq
   rw [Gm] at dp
   refine Ar ?_
   obtain ⟨bm, im, fx⟩ := Az dp
   refine AO (fun e1 F1 L1 => ∃ (aw : LH), F4 = F1 ∧ L1 = ((b1, ce #[vI Af, vI Ac, sL Am Ah.length Al, sL Ae Ab.length Ad, sL Ao Ak.length An] 26) :: (ab ++ (aw ++ []))) ∧ e1.sub [(1, pO b1), (5, sL az ba bb), (7, sL aj aa aa), (27, vI (l2.length : Int)), (28, vI k)] ∧ Ev K.w0.heap.size 77 78 1 eI F1 aj aa aa bm aw) ?_ ?_
   ·clear fx
    refine As ?_
    refine AG (um (ua (BR ?_)))
    refine uv (Ap Iy rfl) (uv (Co isAgg3 0) ?_)
    refine um (Aa ?_)
    refine As ?_
    obtain ⟨iq, ir⟩ := AF im
    refine A6 (fun dr e1 F1 L1 => ∃ (k2 : Int), B0 0 Ac k2 dr ∧ ∃ (bn : List (List Int)) (ad : LH), Ga l k dr k2 bn = some bm ∧ F4 = F1 ∧ L1 = ((b1, ce #[vI Af, vI Ac, sL Am Ah.length Al, sL Ae Ab.length Ad, sL Ao Ak.length An] 26) :: (ab ++ (ad ++ []))) ∧ e1.sub [(1, pO b1), (5, sL az ba bb), (7, sL aj aa aa), (8, vI k), (27, vI (l2.length : Int)), (28, vI k), (32, vI Ac), (33, vI k2)] ∧ Ev K.w0.heap.size 77 78 1 eI F1 aj aa aa bn ad) _ (m0 kr ⟨_, B0.start _ _, av, al, ir, rfl, rfl, z8, bx⟩) ?_
    rintro dr e1 _ _ ⟨k2, bo, bn, ad, dt, rfl, rfl, ec, bp⟩
    refine AA _ ec (AG (uv (AY rfl rfl) ?_))
    refine Aa (Au ?_)
    refine cQ (fun du => ?_) fun du => ?_
    ·obtain ⟨dr, rfl, ef⟩ := B0.succ bo du
     rw [Ga] at dt
     refine Ar ?_
     obtain ⟨bz, iu, fy⟩ := Az dt
     refine AO (fun e1 F1 L1 => ∃ (ax : LH), F4 = F1 ∧ L1 = ((b1, ce #[vI Af, vI Ac, sL Am Ah.length Al, sL Ae Ab.length Ad, sL Ao Ak.length An] 26) :: (ab ++ (ax ++ []))) ∧ e1.sub [(1, pO b1), (5, sL az ba bb), (7, sL aj aa aa), (8, vI k), (27, vI (l2.length : Int)), (28, vI k), (32, vI Ac), (33, vI k2)] ∧ Ev K.w0.heap.size 77 78 1 eI F1 aj aa aa bz ax) ?_ ?_
     ·clear fy
      refine As ?_
      refine AG (um (ua (BR (ua (Aa ?_)))))
      obtain ⟨many, iv, CE⟩ := Az iu
      refine jE (((b1, ce #[vI Af, vI Ac, sL Am Ah.length Al, sL Ae Ab.length Ad, sL Ao Ak.length An] 26) :: (ab ++ (ad ++ [])))) [(1, pO b1), (5, sL az ba bb), (7, sL aj aa aa), (8, vI k), (10, vI many), (27, vI (l2.length : Int)), (28, vI k), (32, vI Ac), (33, vI k2)] ?_ ?_
      ·clear CE
       refine AG (um ?_)
       refine uv ((AJ underlying131 rfl).i (AI.FE ae)) ?_
       refine um (Aa ?_)
       refine As ?_
       refine A6 (fun ga e1 F1 L1 => LA l ga fun tl k3 => ∃ (ah : Int), EG k k2 tl ah = some many ∧ F4 = F1 ∧ L1 = ((b1, ce #[vI Af, vI Ac, sL Am Ah.length Al, sL Ae Ab.length Ad, sL Ao Ak.length An] 26) :: (ab ++ (ad ++ []))) ∧ e1.sub [(1, pO b1), (5, sL az ba bb), (7, sL aj aa aa), (8, vI k), (9, vI k2), (10, vI ah), (27, vI (l2.length : Int)), (28, vI k), (32, vI Ac), (33, vI k2), (36, sL az ba bb), (37, vI (l.length : Int)), (38, vI k3)]) _ (m0 kr ⟨_, _, rfl, Bq.start _, 0, iv, rfl, rfl, (sc rfl (sc rfl (sc rfl (sc rfl (sc rfl z8)))))⟩) ?_
       rintro ga e1 _ _ ⟨tl, k3, cb, ay, ah, dv, rfl, rfl, eg⟩
       refine AA _ eg (AG (uv (AY rfl rfl) ?_))
       refine Aa (Au ?_)
       refine cQ (fun cc => ?_) fun cc => ?_
       ·obtain ⟨x, jh, rfl, eh, gb, cf⟩ := Bq.succ ay cc
        rw [EG] at dv
        refine Ar (Au ?_)
        refine As (AG ?_)
        obtain ⟨ji, jj, jk, iw, ei, ej, bc, ⟨_, _, rfl, ⟨rfl, dw⟩, ⟨en, eo, rfl, jl⟩⟩, ep, er⟩ := AI.at (Ai (BF (n := 24) (sz := 1) A8) kJ) ae (L := (b1, ce #[vI Af, vI Ac, sL Am Ah.length Al, sL Ae Ab.length Ad, sL Ao Ak.length An] 26) :: (ab ++ (ad ++ []))) (fC fP) gb.1 eh
        refine uv (C0 underlying131 sizeOf135 ei (AI.idx ae gb)) (uv (Bn isAgg135 sizeOf135 rfl ej bc (Bi bc ep er)) ?_)
        refine Bu rfl zeroValue135 ?_; intro gg iy
        refine AB (L' := (gg, ce (((List.replicate 24 false).flatMap cB ++ (([sL none 0 0] : List Value))).toArray) 135) :: ((b1, ce #[vI Af, vI Ac, sL Am Ah.length Al, sL Ae Ab.length Ad, sL Ao Ak.length An] 26) :: (ab ++ (ad ++ [])))) rfl (GF (i := 0) sizeOf135 rfl rfl rfl (lz (la (Hl A8 List.length_replicate) rfl)) (lz (la (Hl A8 dw) rfl)) (Lz (Jc A8 _) (by simp [Value.oneCell'])) (AB (L' := (gg, ce ((x.1.flatMap cB ++ (([sL en x.2.length eo] : List Value))).toArray) 135) :: ((b1, ce #[vI Af, vI Ac, sL Am Ah.length Al, sL Ae Ab.length Ad, sL Ao Ak.length An] 26) :: (ab ++ (ad ++ [])))) rfl ?_))
        refine BR (um (um ?_))
        refine uv (Ap Lv rfl) ?_
        obtain ⟨gh, iz⟩ := AF dv
        refine uv (D1 underlying128 sizeOf126 rfl rfl gh) ?_
        obtain ⟨gi, j0⟩ := AF iz
        obtain ⟨x2, jm, et, gj⟩ := BG j0
        have eu : (k * 4 + k2 : Int).toNat = (k : Int).toNat * 4 + (k2 : Int).toNat := by have := gh; have := gi; omega
        have ew := OJ A8 dw eu et (Oe (CD (B := ([sL en x.2.length eo] : List Value)) (Hl A8 dw))) (Je (CD (B := ([sL en x.2.length eo] : List Value)) (Hl A8 dw)))
        refine uv (D1 underlying126 sizeOf4 rfl rfl gi) (uv (AS isAgg4 rfl (Has.own 0 rfl) ((ew).2.2 0 (by decide))) (Aa ?_))
        refine AV rfl (fun ey => ?_) (fun ey => ?_)
        ·have j1 := bt gj ey
         refine Aq (um ?_)
         obtain ⟨j2, ez⟩ := AF j1
         refine uv (A4 rfl rfl j2) ?_
         refine ua (Aa (AD (id := 5) (Aq ?_)))
         refine uv (A4 rfl rfl (Bq.CE ay cc (AI.Po ae))) ?_
         refine um (Aa ?_)
         subst cb; exact le (kd kr) ⟨_, _, rfl, cf, ah + 1, ez, rfl, rfl, (sc rfl (sc rfl (sc rfl (sc rfl (sc rfl z8)))))⟩
        have fa := bf gj ey
        refine Ar (AD (id := 5) (Aq ?_))
        refine uv (A4 rfl rfl (Bq.CE ay cc (AI.Po ae))) ?_
        refine um (Aa ?_)
        subst cb; exact le (kd kr) ⟨_, _, rfl, cf, ah, fa, rfl, rfl, (sc rfl (sc rfl (sc rfl (sc rfl (sc rfl z8)))))⟩
       obtain rfl := Bq.zero ay cc
       rw [EG] at dv
       refine AM (Aj (Aj ?_))
       refine Ax ?_
       obtain rfl := AL dv
       exact mi kr ⟨rfl, rfl, (sc rfl z8)⟩
      refine AG (ua (Aa ?_))
      obtain ⟨v, cg, cj⟩ := Az CE
      refine jE (((b1, ce #[vI Af, vI Ac, sL Am Ah.length Al, sL Ae Ab.length Ad, sL Ao Ak.length An] 26) :: (ab ++ (ad ++ [])))) [(1, pO b1), (5, sL az ba bb), (7, sL aj aa aa), (8, vI k), (13, vI v), (27, vI (l2.length : Int)), (28, vI k), (32, vI Ac), (33, vI k2)] ?_ ?_
      ·clear cj
       refine AG (um (Aa ?_))
       refine As ?_
       refine AG (um ?_)
       refine uv ((AJ underlying131 rfl).i (AI.FE ae)) (uv (Bx rfl rfl) ?_)
       refine ua (Aa ?_)
       refine cQ (fun bq => ?_) fun bq => ?_
       ·have fb := A2 cg bq
        refine Aq (ua (Aa (AD (id := 6) ?_)))
        obtain rfl := AL fb
        exact mi kr ⟨rfl, rfl, (sc rfl z8)⟩
       have ck := A3 cg bq
       refine AG (uv (Bx rfl rfl) ?_)
       refine ua (Aa ?_)
       refine cQ (fun br => ?_) fun br => ?_
       ·have fe := A2 ck br
        refine Aq (ua (Aa (AD (id := 6) ?_)))
        obtain rfl := AL fe
        exact mi kr ⟨rfl, rfl, (sc rfl z8)⟩
       have ff := A3 ck br
       refine Ar (AD (id := 6) ?_)
       obtain rfl := AL ff
       exact mi kr ⟨rfl, rfl, (sc rfl z8)⟩
      refine Aq (um (um (um (um ?_))))
      obtain ⟨x3, ao, cn, fg⟩ := BG cj
      have aq := (Ev.A1 bp).1
      refine KK (fC (fS fP)) bp cn ?_; intro cp bd bg j3 j4 j5 cq bh ak cr ct
      refine kO (kf (fS (fS (fS fO))) kr) ?_
      obtain ⟨j6, j7, j8, gk, cu, cv, fh, rfl, gl, cw⟩ := AI.at DP ak (L := (b1, ce #[vI Af, vI Ac, sL Am Ah.length Al, sL Ae Ab.length Ad, sL Ao Ak.length An] 26) :: (bd ++ (cq ++ (bg ++ (ab ++ []))))) (fC fP) ao.1 bh
      refine uv (C0 underlying74 sizeOf77 cu (N6 aq ao)) (uv (AS isAgg77 rfl cv (cw 0 (by decide))) (um ?_))
      refine bA (cs := #[vI v]) OY [vI v] ?_; intro j9 gm
      obtain ⟨l3, fi, fj, fk⟩ := Ea fg
      refine CJ (xs := x3) (ys := [v]) (zs := l3) rfl OY rfl rfl (Nat.le_refl _) (fun _ => .c (.c (.s .h))) cr (FL.box (vss := [[vI v]]) (ys := [v]) 0 rfl kI (.cons rfl .nil) rfl rfl) fi fj (by decide) ?_; intro cx cy cz da db
      refine kO (kd kr) ?_
      obtain ⟨ja, jb, jc, gn, bj, gp, fl, rfl, gq, gr⟩ := AI.at DP ak (L := (b1, ce #[vI Af, vI Ac, sL Am Ah.length Al, sL Ae Ab.length Ad, sL Ao Ak.length An] 26) :: (bd ++ (da ++ (bg ++ (ab ++ []))))) (fC fP) ao.1 bh
      refine uv (C0 underlying74 sizeOf77 bj (N6 aq ao)) ?_
      refine Dq (zs := cp.set (k : Int).toNat (cx, cy, cz)) (u := (cx, cy, cz)) sizeOf77 DP rfl bj rfl rfl (fun _ => .c .h) ak rfl (RG aq ak ao) ?_; intro gu dd
      obtain ⟨fm, fo, fp⟩ := BI fk
      refine Ij (p := fun X => Ev K.w0.heap.size 77 78 1 eI F4 aj aa aa fm X) (Mz.back ct dd db fo) (pT ((fC fP).trans (pA ((fC fP).trans (pA ((fC fP).trans (pA pR)))))) (lp (lp (lp (ln rfl))))) ?_; intro de df
      refine kO (kf (fS fO) kr) ?_
      refine Aa (AD (id := 3) ?_)
      obtain rfl := AL fp
      exact mi (kc (kg (fS fP) kr)) ⟨de, rfl, rfl, z8, df⟩
     rintro e1 _ _ ⟨ax, rfl, rfl, dg, fq⟩
     refine AA _ dg (Aq (uv (A4 rfl rfl (B0.CE bo du iq)) ?_))
     refine um (Aa ?_)
     exact le kr ⟨_, ef, bz, ax, fy, rfl, rfl, z8, fq⟩
    obtain rfl := B0.zero bo du
    rw [Ga] at dt
    refine AM (Aj (Aj ?_))
    refine Ax (AD (id := 1) ?_)
    obtain rfl := AL dt
    exact mi kr ⟨ad, rfl, rfl, z5, bp⟩
   rintro e1 _ _ ⟨aw, rfl, rfl, dh, ft⟩
   refine AA _ dh (Aq (uv (A4 rfl rfl (B0.CE bl dq ik)) ?_))
   refine um (Aa ?_)
   exact le kr ⟨_, eb, bm, aw, fx, rfl, rfl, z5, ft⟩
  obtain rfl := B0.zero bl dq
  rw [Gm] at dp
  refine AM (Aj (Aj ?_))
  refine Ax ?_
  obtain rfl := AL dp
  exact mi (kd (kx kr)) ⟨al, rfl, rfl, z1, bx⟩
 rintro e1 _ _ ⟨bk, rfl, rfl, di, dk⟩
 refine AA _ di ?_
 refine AG (um (ua (ua (Aa ?_))))
 obtain rfl := (Ev.A1 dk).1
 refine Km (Nat.le_refl _) kI fP dk ?_; intro jd gv fv
 refine Aw (BM results36 (AT rfl) (AT rfl) (sr) ?_)
 obtain ⟨rfl, rfl⟩ := Cd fw
 exact ⟨_, _, rfl, rfl, fv⟩
set_option maxHeartbeats 1000000 in
theorem K3 (ab : At 1 (CM 1 eJ) F Am Al Ah) (aa : At 1 eI F Ae Ad Ab) (ad : At 3 (Br eI eP) F Ao An Ak) {r : Int} (hr : Hh CY AP heard Af Ac Ah Ab Ak = some r) :
    Bp Tryz.prog 126 #[.agg #[vI CY, vI AP, .bool heard], .agg #[vI Af, vI Ac, sL Am Ah.length Al, sL Ae Ab.length Ad, sL Ao Ak.length An]] F (vI r) := by
 refine sp func126 ntmps126 fun K _ _ => ?_
 rw [Hh] at hr
 refine AG ?_
 refine BB rfl rfl ?_; intro b1 al
 refine BB rfl rfl ?_; intro b2 ao
 refine ua (Aa (Au ?_))
 obtain ⟨k, h3, r4⟩ := Az hr
 refine jE ([]) [(16, .bool k)] ?_ ?_
 ·clear r4
  refine Aq (uv (Cv isAgg26 sizeOf26 0) (uv (Ap O2 rfl) (uv (Co isAgg3 1) ?_)))
  obtain ⟨ok, h5, r6⟩ := Az h3
  refine cV call111 (Kf ab aa ad h5) (uv (Bo rfl) (um ?_))
  rcases DX (!ok) with c7 | c7
  ·have r8 := bt r6 c7
   refine fB c7 (fB c7 (fB c7 (fB c7 (fB c7 ?_))))
   refine uv (AK (FK rfl c7) rfl) (Aa ?_)
   obtain rfl := AL r8
   exact mi kn ⟨rfl, rfl, z1⟩
  have r9 := bf r6 c7
  refine nB c7 (uv (Cv isAgg26 sizeOf26 0) (nB c7 (uv (Ap Qo rfl) (nB c7 (uv (Co isAgg3 1) (nB c7 ?_))))))
  obtain ⟨aq, ah, ai⟩ := Az r9
  refine cV call64 (H6 ab aa ad ah) (nB c7 (uv (Bo rfl) (uv (AE (FK rfl c7) rfl) (Aa ?_))))
  obtain rfl := AL ai
  exact mi kn ⟨rfl, rfl, z1⟩
 refine AV rfl (fun ae => ?_) (fun ae => ?_)
 ·have aj := bt r4 ae
  refine AG (ua (Aa (Aw (Av ?_))))
  refine B7 results126 ?_
  obtain rfl := AL aj
  exact rfl
 have ak := bf r4 ae
 refine Ar (AG (ua (Aa (Aw ?_))))
 refine B7 results126 ?_
 obtain rfl := AL ak
 exact rfl
set_option maxHeartbeats 1000000 in
theorem Kl {l : List (Int × Int × Bool)} (ab : At 1 (CM 1 eJ) F Am Al Ah) (aa : At 1 eI F Ae Ad Ab) (ad : At 3 (Br eI eP) F Ao An Ak) (az : At 3 (Br eI (Br eI bE)) F CV CX l) {r : Int} (hr : HW Af Ac Ah Ab Ak l = some r) :
    Bp Tryz.prog 87 #[.agg #[vI Af, vI Ac, sL Am Ah.length Al, sL Ae Ab.length Ad, sL Ao Ak.length An], sL CV l.length CX] F (vI r) := by
 refine sp func87 ntmps87 fun K _ _ => ?_
 rw [HW] at hr
 refine AG ?_
 refine BB rfl rfl ?_; intro b1 bm
 refine ua (Aa (Au (AG ?_)))
 refine uv (Cv isAgg26 sizeOf26 0) ?_
 obtain ⟨n, h2, r3⟩ := Az hr
 refine cV call12 (DU ab aa ad h2) ?_
 refine ua (BR (um ?_))
 refine uv (BU rfl rfl) (Aa ?_)
 refine cQ (fun c4 => ?_) fun c4 => ?_
 ·have r5 := A2 r3 c4
  refine AG (um (ua (Aa ?_)))
  refine kW kn ?_
  refine Aw (Av ?_)
  refine B7 results87 ?_
  obtain rfl := AL r5
  exact rfl
 have r6 := A3 r3 c4
 refine Ar (Au (AG (um ?_)))
 refine uv (AJ underlying30 rfl) (uv (C2 rfl rfl) (Aa ?_))
 refine cQ (fun c7 => ?_) fun c7 => ?_
 ·have r8 := A2 r6 c7
  refine AG (ua (Aa ?_))
  refine kW kn ?_
  refine Aw (Av ?_)
  refine B7 results87 ?_
  obtain rfl := AL r8
  exact rfl
 have r9 := A3 r6 c7
 refine Ar ?_
 refine AO (fun e1 F1 L1 => H2 = some r ∧ F = F1 ∧ L1 = [] ∧ e1.sub []) ?_ ?_
 ·refine AG (um ?_)
  refine uv (AJ underlying30 rfl) ?_
  refine um (Aa ?_)
  refine As ?_
  refine A6 (fun ba e1 F1 L1 => LA l ba fun tl k => EO Af Ac Ah Ab Ak tl = some r ∧ F = F1 ∧ L1 = [(b1, ce #[vI Af, vI Ac, sL Am Ah.length Al, sL Ae Ab.length Ad, sL Ao Ak.length An] 26)] ∧ e1.sub [(2, pO b1), (17, sL CV l.length CX), (18, vI (l.length : Int)), (19, vI k)]) _ (m0 kr ⟨_, _, rfl, Bq.start _, r9, rfl, rfl, z4⟩) ?_
  rintro ba e1 _ _ ⟨tl, k, ak, ah, ai, rfl, rfl, al⟩
  refine AA _ al (AG (uv (AY rfl rfl) ?_))
  refine Aa (Au ?_)
  refine cQ (fun aj => ?_) fun aj => ?_
  ·obtain ⟨x, bn, rfl, ao, bb, aq⟩ := Bq.succ ah aj
   rw [EO] at ai
   refine Ar (Au ?_)
   refine As (AG ?_)
   obtain ⟨bo, bp, bq, bg, ar, au, ae, ⟨_, _, rfl, rfl, ⟨_, _, rfl, rfl, rfl⟩⟩, av, aw⟩ := At.ta (Ai kI (Ai kI Be)) az bb.1 ao
   refine uv (C0 underlying30 sizeOf29 ar bb) (uv (Bn isAgg29 sizeOf29 rfl (au _) ae (Bi ae av aw)) ?_)
   refine Bu rfl zeroValue29 ?_; intro br bh
   refine BD (i := 0) sizeOf29 rfl rfl rfl (by simp [Value.oneCell']) rfl (DD rfl) (AB rfl (BR (uv (Cv isAgg29 sizeOf29 0) (uv (Cv isAgg26 sizeOf26 1) ?_))))
   obtain ⟨n2, bj, bc⟩ := Az ai
   refine cV call126 (K3 ab aa ad bj) ?_
   refine ua (BR (um ?_))
   refine uv (BU rfl rfl) (Aa ?_)
   refine cQ (fun ax => ?_) fun ax => ?_
   ·have bk := A2 bc ax
    refine AG (um (ua (Aa ?_)))
    refine kW kn ?_
    refine Aw (AH (Av (Av (AH (Av ?_)))))
    refine B7 results87 ?_
    obtain rfl := AL bk
    exact rfl
   have bl := A3 bc ax
   refine Ar (AD (id := 1) (Aq ?_))
   refine uv (A4 rfl rfl (Bq.CE ah aj (At.lt az))) ?_
   refine um (Aa ?_)
   subst ak; exact le (kd kr) ⟨_, _, rfl, aq, bl, rfl, rfl, z4⟩
  obtain rfl := Bq.zero ah aj
  rw [EO] at ai
  refine AM (Aj (Aj ?_))
  refine Ax ?_
  exact mi kn ⟨ai, rfl, rfl, (sn _)⟩
 rintro e1 _ _ ⟨bd, rfl, rfl, ay⟩
 refine AA _ ay ?_
 rw [H2] at bd
 refine AG (ua (Aa (Aw ?_)))
 refine B7 results87 ?_
 obtain rfl := AL bd
 exact rfl
set_option maxHeartbeats 1000000 in
theorem KX (ad : At 1 (CM 1 eJ) F Am Al Ah) (aa : At 1 eI F Ae Ad Ab) (ae : At 3 (Br eI eP) F Ao An Ak) (ab : At 3 (Br eI (Br eI bE)) F Bw By AN) {r : List ((List Bool) × (List Int))} {r2 : Int} (hr : JM Af Ac Ah Ab Ak AN = some (r, r2)) :
    SH.Spec Tryz.prog 91 #[.agg #[vI Af, vI Ac, sL Am Ah.length Al, sL Ae Ab.length Ad, sL Ao Ak.length An], sL Bw AN.length By] F [] fun F' L' v => ∃ (ra : Option Addr) (rn : Nat) (rc : Nat) (rL : LH), v = .tuple #[sL ra rn rc, vI r2] ∧ L' = rL ++ [] ∧ AI 0 135 25 (Br (J4 24 cB) eJ) F' ra rn rc r rL := by
 refine sp func91 ntmps91 fun K _ _ => ?_
 rw [JM] at hr
 refine AG ?_
 refine BB rfl rfl ?_; intro b1 ao
 refine ua (ua (Aa (Au (AG ?_))))
 refine uv (Cv isAgg26 sizeOf26 0) (um ?_)
 obtain ⟨n, h2, r3⟩ := Az hr
 refine cV call87 (Kl ad aa ae ab h2) ?_
 refine ua (BR (um ?_))
 refine uv (BU rfl rfl) (Aa ?_)
 refine cQ (fun c4 => ?_) fun c4 => ?_
 ·have r5 := A2 r3 c4
  refine AG (um (ua (ua (Aa ?_))))
  refine kW kn ?_
  refine Aw (Av ?_)
  refine BM results91 (AT rfl) (AT rfl) (sr) ?_
  obtain ⟨rfl, rfl⟩ := Cd r5
  exact ⟨_, _, _, [], rfl, rfl, AI.nil _ _ _ _ _⟩
 have r6 := A3 r3 c4
 refine Ar (AG ?_)
 refine uv (Cv isAgg26 sizeOf26 0) ?_
 obtain ⟨d, l, n2, h7, r8⟩ := N7 r6
 refine c0 call86 (LK ad aa ae h7) ?_; rintro _ F9 _ aj ai ⟨aq, ar, au, av, ak, rfl, rfl, al, ah⟩
 replace ah := ah.new fun p hp => ai p (by simp [hp])
 refine AB (lp (ln rfl)) (kO (kf (fS fO) kr) ?_)
 refine um (ox rfl rfl rfl (ox rfl rfl rfl (ox rfl rfl rfl (ua (ua (ua (BR (um (um ?_)))))))))
 refine ua (ua (Aa ?_))
 refine kW (kd kr) (Aw (BM results91 (AT rfl) (AT rfl) (sr) ?_))
 obtain ⟨rfl, rfl⟩ := Cd r8
 exact ⟨_, _, _, _, rfl, rfl, ah.any⟩
set_option maxHeartbeats 1000000 in
theorem Jo (aa : g.length = 24) {r : Bool} (hr : G4 CY AP heard g = some r) :
    Bp Tryz.prog 98 #[.agg #[vI CY, vI AP, .bool heard], .agg (arr cB g)] F (.bool r) := by
 refine sp func98 ntmps98 fun K _ _ => ?_
 rw [G4] at hr
 refine AG ?_
 refine BB rfl rfl ?_; intro b1 ah
 refine BB rfl rfl ?_; intro b2 ai
 refine ua (dN (wv (Ap O2 rfl) (wv (Co isAgg3 1) (wv (Ap Qo rfl) (wv (Co isAgg3 1) ?_)))))
 obtain ⟨g3, r4⟩ := AF hr
 refine wv (D1 underlying128 sizeOf126 rfl rfl g3) ?_
 obtain ⟨g5, r6⟩ := AF r4
 obtain ⟨x, g7, ae, r9⟩ := BG r6
 have ab : (CY * 4 + AP : Int).toNat = (CY : Int).toNat * 4 + (AP : Int).toNat := by have := g3; have := g5; omega
 have ad := OJ A8 aa ab ae (Oe (FD (Hl A8 aa))) (Je (FD (Hl A8 aa)))
 refine wv (D1 underlying126 sizeOf4 rfl rfl g5) (wv (AS isAgg4 rfl (Has.own 0 rfl) ((ad).2.2 0 (by decide))) (wv (Ap RK rfl) (wv (Co isAgg4 1) (wv (R9 underlying4 rfl rfl) ?_))))
 refine wa (B6 ?_)
 refine kW kn (Aw (B7 results98 ?_))
 obtain rfl := AL r9
 exact rfl
set_option maxHeartbeats 1000000 in
theorem Jz (aa : At 3 (Br eI (Br eI bE)) F Bw By AN) (bk : g.length = 24) {r : List Int} (hr : IP AN g = some r) :
    SH.Spec Tryz.prog 88 #[sL Bw AN.length By, .agg (arr cB g)] F [] fun F' L' v => ∃ (ra : Option Addr) (rn : Nat) (rc : Nat) (rL : LH), v = sL ra rn rc ∧ L' = rL ++ [] ∧ AI 0 3 1 eI F' ra rn rc r rL := by
 refine sp func88 ntmps88 fun K _ _ => ?_
 rw [IP] at hr
 refine AG ?_
 refine BB rfl rfl ?_; intro b1 ck
 refine ua (BR (ua (Aa ?_)))
 obtain ⟨out, h8, r9⟩ := Az hr
 refine AO (fun e1 F1 L1 => ∃ (a2 : Option Addr) (n6 : Nat) (c3 : Nat) (aw : LH), F = F1 ∧ L1 = (aw ++ []) ∧ e1.sub [(5, sL a2 n6 c3)] ∧ AI K.w0.heap.size 3 1 eI F1 a2 n6 c3 out aw) ?_ ?_
 ·clear r9
  refine AG (um ?_)
  refine uv (AJ underlying30 rfl) ?_
  refine um (Aa ?_)
  refine As ?_
  refine A6 (fun bl e1 F1 L1 => LA AN bl fun tl k => ∃ (ab : List Int) (aj : Option Addr) (ak : Nat) (al : Nat) (ad : LH), GK g tl k ab = some out ∧ F = F1 ∧ L1 = ((b1, ce (arr cB g) 128) :: (ad ++ [])) ∧ e1.sub [(3, pO b1), (5, sL aj ak al), (8, sL Bw AN.length By), (9, vI (AN.length : Int)), (10, vI k)] ∧ AI K.w0.heap.size 3 1 eI F1 aj ak al ab ad) _ (m0 (kc (ke kr)) ⟨_, _, rfl, Bq.start _, [], none, 0, 0, [], h8, rfl, rfl, z5, AI.nil _ _ _ _ _⟩) ?_
  rintro bl e1 _ _ ⟨tl, k, ao, ae, ab, aj, ak, al, ad, av, rfl, rfl, ax, ai⟩
  refine AA _ ax (AG (uv (AY rfl rfl) ?_))
  refine Aa (Au ?_)
  refine cQ (fun aq => ?_) fun aq => ?_
  ·obtain ⟨x, cn, rfl, ay, bm, ar⟩ := Bq.succ ae aq
   rw [GK] at av
   refine Ar (Au ?_)
   refine As ?_
   refine AG (um ?_)
   obtain ⟨cp, cq, cr, bo, az, ba, ah, ⟨_, _, rfl, rfl, ⟨_, _, rfl, rfl, rfl⟩⟩, bb, bc⟩ := At.ta (Ai kI (Ai kI Be)) aa bm.1 ay
   refine uv (C0 underlying30 sizeOf29 az bm) (uv (Bn isAgg29 sizeOf29 rfl (ba _) ah (Bi ah bb bc)) ?_)
   refine Bu rfl zeroValue29 ?_; intro ct bp
   refine ua (BD (i := 0) sizeOf29 rfl rfl rfl (by simp [Value.oneCell']) rfl (DD rfl) (AB rfl (BR (uv (Cv isAgg29 sizeOf29 0) (uv (K9 isAgg128 sizeOf128 rfl (Has.own 1 rfl) (Gk A8 bk)) ?_)))))
   obtain ⟨ok, bq, bn⟩ := Az av
   refine cV call98 (Jo bk bq) (uv (Bo rfl) (Aa ?_))
   refine AV rfl (fun bd => ?_) (fun bd => ?_)
   ·have br := bt bn bd
    refine Aq (um (um ?_))
    refine bA (cs := #[vI k]) Bm [vI k] ?_; intro cu bu
    obtain ⟨au, bw, bx, bz⟩ := Ea br
    refine CJ (xs := ab) (ys := [k]) (zs := au) rfl Bm rfl rfl (Nat.le_refl _) (fun _ => .c (.c (.c .h))) ai (FL.box (vss := [[vI k]]) (ys := [k]) 0 rfl kI (.cons rfl .nil) rfl rfl) bw bx (by decide) ?_; intro cb cc cf bg bh
    refine kO (kd kr) ?_
    refine ua (Aa (AD (id := 1) (Aq ?_)))
    refine uv (A4 rfl rfl (Bq.CE ae aq (At.lt aa))) ?_
    refine um (Aa ?_)
    subst ao; exact le (kd kr) ⟨_, _, rfl, ar, au, cb, cc, cf, bg, bz, rfl, rfl, z5, bh⟩
   have cg := bf bn bd
   refine Ar (AD (id := 1) (Aq ?_))
   refine uv (A4 rfl rfl (Bq.CE ae aq (At.lt aa))) ?_
   refine um (Aa ?_)
   subst ao; exact le (kd kr) ⟨_, _, rfl, ar, ab, aj, ak, al, ad, cg, rfl, rfl, z5, ai⟩
  obtain rfl := Bq.zero ae aq
  rw [GK] at av
  refine AM (Aj (Aj ?_))
  refine Ax ?_
  obtain rfl := AL av
  exact mi (kd kr) ⟨aj, ak, al, ad, rfl, rfl, z1, ai⟩
 rintro e1 _ _ ⟨a2, n6, c3, aw, rfl, rfl, bj, cj⟩
 refine AA _ bj ?_
 refine AG (um (ua (Aa (Aw ?_))))
 refine B7 results88 ?_
 obtain rfl := AL r9
 exact ⟨_, _, _, _, rfl, rfl, cj.any⟩
set_option maxHeartbeats 1000000 in
theorem I2 {aa : FuncId} {ab ad : Array Value} {met : (List Bool) → Option Bool} {l : List ((List Bool) × (List Int))} (ae : J2 Tryz.prog F aa ab ad (PO (J4 24 cB)) Value.bool met) (av : At 25 (Br (J4 24 cB) eJ) F CV CX l) {r : List Int} (hr : Hg met l = some r) :
    SH.Spec Tryz.prog 93 #[.agg #[.func (.func aa) ab ad], sL CV l.length CX] F [] fun F' L' v => ∃ (ra : Option Addr) (rc : Nat), v = sL ra r.length rc ∧ L' = [] ∧ At 1 eI F' ra rc r ∧ (ra = none ↔ r = []) := by
 refine sp func93 ntmps93 fun K _ _ => ?_
 rw [Hg] at hr
 refine AG ?_
 refine BB rfl rfl ?_; intro b1 bu
 refine ua (Aa ?_)
 refine AO (fun e1 F1 L1 => Iv = some r ∧ F = F1 ∧ L1 = [] ∧ e1.sub []) ?_ ?_
 ·refine AG (um ?_)
  refine uv (AJ underlying131 rfl) ?_
  refine um (Aa ?_)
  refine As ?_
  refine A6 (fun aw e1 F1 L1 => LA l aw fun tl k => Fl met tl = some r ∧ F = F1 ∧ L1 = [(b1, ce #[.func (.func aa) ab ad] 144)] ∧ e1.sub [(2, pO b1), (7, sL CV l.length CX), (8, vI (l.length : Int)), (9, vI k)]) _ (m0 kr ⟨_, _, rfl, Bq.start _, hr, rfl, rfl, z4⟩) ?_
  rintro aw e1 _ _ ⟨tl, k, bc, aj, r4, rfl, rfl, bd⟩
  refine AA _ bd (AG (uv (AY rfl rfl) ?_))
  refine Aa (Au ?_)
  refine cQ (fun c7 => ?_) fun c7 => ?_
  ·obtain ⟨x, bw, rfl, bg, ax, bh⟩ := Bq.succ aj c7
   rw [Fl] at r4
   refine Ar (Au ?_)
   refine As (AG ?_)
   obtain ⟨RS, bx, bz, bj, ak, al, ah, ⟨_, _, rfl, ⟨rfl, ai⟩, ⟨bk, bl, rfl, ay⟩⟩, ao, aq⟩ := At.ta (Ai (BF (n := 24) (sz := 1) A8) kJ) av ax.1 bg
   refine uv (C0 underlying131 sizeOf135 ak ax) (uv (Bn isAgg135 sizeOf135 rfl (al _) ah (Bi ah ao aq)) ?_)
   refine Bu rfl zeroValue135 ?_; intro az bm
   refine AB (L' := [(az, ce (((List.replicate 24 false).flatMap cB ++ (([sL none 0 0] : List Value))).toArray) 135), (b1, ce #[.func (.func aa) ab ad] 144)]) rfl (GF (i := 0) sizeOf135 rfl rfl rfl (lz (la (Hl A8 List.length_replicate) rfl)) (lz (la (Hl A8 ai) rfl)) (Lz (Jc A8 _) (by simp [Value.oneCell'])) (AB (L' := [(az, ce ((x.1.flatMap cB ++ (([sL bk x.2.length bl] : List Value))).toArray) 135), (b1, ce #[.func (.func aa) ab ad] 144)]) rfl (BR (uv (Ap Rk rfl) (uv (Co isAgg142 1) (uv (Ap Lv rfl) (uv (Bn isAgg128 sizeOf128 rfl (Has.own 0 rfl) (Je (CD (Hl A8 ai))) (Jg (Hl A8 ai) (CD (Hl A8 ai)))) ?_)))))))
   obtain ⟨ok, bn, ba⟩ := Az r4
   refine Gx rfl ae.1 rfl rfl rfl (ae.2 _ (AQ.refl _) _ _ _ ⟨_, rfl, ⟨rfl, ai⟩⟩ bn) (Aa ?_)
   refine AV rfl (fun ar => ?_) (fun ar => ?_)
   ·have bo := bt ba ar
    refine AG (uv (Ap Rm rfl) (uv (AS isAgg22 rfl (Has.own 0 rfl) (NO (Dl (k := 24) (o := 0) (Hl A8 ai) (FD rfl)))) ?_))
    refine ua (Aa ?_)
    obtain ⟨bp, bq⟩ := AF bo
    refine kW kn ?_
    refine Aw (AH (Av (Av (AH (Av ?_)))))
    refine B7 results93 ?_
    obtain rfl := AL bq
    exact ⟨_, _, rfl, rfl, ay, At.nn ay bp⟩
   have br := bf ba ar
   refine Ar (AD (id := 1) (Aq ?_))
   refine uv (A4 rfl rfl (Bq.CE aj c7 (At.lt av))) ?_
   refine um (Aa ?_)
   subst bc; exact le (kd kr) ⟨_, _, rfl, bh, br, rfl, rfl, z4⟩
  obtain rfl := Bq.zero aj c7
  rw [Fl] at r4
  refine AM (Aj (Aj ?_))
  refine Ax ?_
  exact mi kn ⟨r4, rfl, rfl, (sn _)⟩
 rintro e1 _ _ ⟨bb, rfl, rfl, au⟩
 refine AA _ au ?_
 rw [Iv] at bb
 refine AG (ua (Aa (Aw ?_)))
 refine B7 results93 ?_
 obtain rfl := AL bb
 exact ⟨_, _, rfl, rfl, At.nil _ _ _, NU⟩
set_option maxHeartbeats 1000000 in
theorem MU {aa : Nat} {ab : Nat × Nat} (ai : g.length = 24) (ad : F aa = some (.cells #[sL Bw AN.length By] 30 ab)) (ae : At 3 (Br eI (Br eI bE)) F Bw By AN) {r : Bool} (hr : HO g AN = some r) :
    Bp Tryz.prog 92 #[.agg (arr cB g), pO aa] F (.bool r) := by
 refine sp func92 ntmps92 fun K _ _ => ?_
 rw [HO] at hr
 refine AG ?_
 refine BB rfl rfl ?_; intro b1 al
 refine ua (BR ?_)
 refine uv (AS isAgg30 rfl (Has.frozen ad) rfl) (uv (K9 isAgg128 sizeOf128 rfl (Has.own 0 rfl) (Gk A8 ai)) ?_)
 obtain ⟨l, h2, r3⟩ := Az hr
 refine c0 call88 (Jz ae ai h2) ?_; rintro _ F4 _ ao aj ⟨a8, aq, c9, ak, rfl, rfl, ah⟩
 replace ah := ah.new fun p hp => aj p (by simp [hp])
 refine AB (lp (ln rfl)) (kO (kf (fS fO) kr) (uv ((AJ underlying22 rfl).i (AI.FE ah)) (uv (Bx rfl rfl) ?_)))
 refine ua (Aa ?_)
 refine kW kn (Aw (B7 results92 ?_))
 obtain rfl := AL r3
 exact rfl
set_option maxHeartbeats 1000000 in
theorem Lf (ae : At 1 (CM 1 eJ) F Am Al Ah) (ab : At 1 eI F Ae Ad Ab) (ah : At 3 (Br eI eP) F Ao An Ak) (aa : At 3 (Br eI (Br eI bE)) F Bw By AN) {r : List Int} {r2 : Int} (hr : I5 Af Ac Ah Ab Ak AN = some (r, r2)) :
    SH.Spec Tryz.prog 48 #[.agg #[vI Af, vI Ac, sL Am Ah.length Al, sL Ae Ab.length Ad, sL Ao Ak.length An], sL Bw AN.length By] F [] fun F' L' v => ∃ (ra : Option Addr) (rc : Nat), v = .tuple #[sL ra r.length rc, vI r2] ∧ L' = [] ∧ At 1 eI F' ra rc r := by
 refine sp func48 ntmps48 fun K _ _ => ?_
 rw [I5] at hr
 refine AG ?_
 refine BB rfl rfl ?_; intro b1 bo
 refine BB rfl rfl ?_; intro b2 aw
 refine ua (ua (BR ?_))
 refine uv (Cv isAgg26 sizeOf26 1) (uv (Co isAgg30 0) ?_)
 obtain ⟨l, n, h3, r4⟩ := Ca hr
 refine c0 call91 (KX ae ab ah aa h3) ?_; rintro _ F5 _ ax ay ⟨a9, bp, bq, az, rfl, rfl, ad⟩
 replace aa := aa.mono (Ai kI (Ai kI Be)) ax
 replace ad := ad.new fun p hp => ay p (by simp [hp])
 refine AB (lp (ln rfl)) (kO (kf (fS fO) (kf (fS fO) kr)) ?_)
 refine um (ox rfl rfl rfl (ox rfl rfl rfl (ua (ua (Aa (Au (AG (um ?_))))))))
 refine uv (BU rfl rfl) (Aa ?_)
 refine cQ (fun ak => ?_) fun ak => ?_
 ·have ba := A2 r4 ak
  refine AG (um (ua (ua (Aa ?_))))
  refine kW kn ?_
  refine Aw (Av ?_)
  refine BM results48 (AT rfl) (AT rfl) (sr) ?_
  obtain ⟨rfl, rfl⟩ := Cd ba
  exact ⟨_, _, rfl, rfl, At.nil _ _ _⟩
 have bb := A3 r4 ak
 refine Ar (AG ?_)
 refine uv (CP rfl rfl) ?_
 refine uv (BX (v := .agg (#[.func (.func 92) #[] #[pO b2]])) rfl (by intro w; kernel_rfl)) ?_
 refine um ?_
 refine Bj 0 rfl aw ?_; intro bc aj al
 refine AB rfl ?_
 replace aa := aa.mono (Ai kI (Ai kI Be)) aj
 replace ad := ad.mono (Ai (BF (n := 24) (sz := 1) A8) kJ) aj
 have ai : J2 Tryz.prog bc 92 #[] #[pO b2] (PO (J4 24 cB)) Value.bool (fun au : (List Bool) => HO au AN) := ⟨call92, fun F2 h2 vs au r ha hr => by obtain ⟨_, rfl, ⟨rfl, bd⟩⟩ := ha; exact MU bd (h2 _ _ al) (aa.mono (Ai kI (Ai kI Be)) h2) hr⟩
 obtain rfl := (AI.A1 ad).1
 refine A5 (Nat.le_refl _) (Ai (BF (n := 24) (sz := 1) A8) kJ) (fC fP) ad ?_; intro br ao bg
 replace ai := ai.mono ao
 obtain ⟨l2, bh, av⟩ := Az bb
 refine c0 call93 (I2 ai bg bh) ?_; rintro _ bu _ bj bk ⟨bw, bx, rfl, rfl, bl, aq⟩
 refine AB (ln rfl) ?_
 refine ua (Aa (Au (AG (um ?_))))
 refine uv ((Ly underlying22 rfl).b (MO aq)) (Aa ?_)
 refine cQ (fun ar => ?_) fun ar => ?_
 ·have bm := A2 av ar
  refine AG (ua (ua (Aa ?_)))
  refine kW kn ?_
  refine Aw (Av ?_)
  refine BM results48 (AT rfl) (AT rfl) (sr) ?_
  obtain ⟨rfl, rfl⟩ := Cd bm
  exact ⟨_, _, rfl, rfl, At.nil _ _ _⟩
 have bn := A3 av ar
 refine Ar (AG (um (ua (ua (Aa ?_)))))
 refine kW kn (Aw (BM results48 (AT rfl) (AT rfl) (sr) ?_))
 obtain ⟨rfl, rfl⟩ := Cd bn
 exact ⟨_, _, rfl, rfl, bl⟩
set_option maxHeartbeats 1000000 in
theorem J1 (ab : At 1 (CM 1 eJ) F Am Al Ah) (aa : At 1 eI F Ae Ad Ab) (ad : At 3 (Br eI eP) F Ao An Ak) {r : List Int} {r2 : Int} (hr : Iz Af Ac Ah Ab Ak CY AP heard = some (r, r2)) :
    SH.Spec Tryz.prog 44 #[.agg #[vI Af, vI Ac, sL Am Ah.length Al, sL Ae Ab.length Ad, sL Ao Ak.length An], .agg #[vI CY, vI AP, .bool heard]] F [] fun F' L' v => ∃ (ra : Option Addr) (rc : Nat), v = .tuple #[sL ra r.length rc, vI r2] ∧ L' = [] ∧ At 1 eI F' ra rc r := by
 refine sp func44 ntmps44 fun K _ _ => ?_
 rw [Iz] at hr
 refine AG ?_
 refine BB rfl rfl ?_; intro b1 ao
 refine BB rfl rfl ?_; intro b2 aq
 refine ua (ua (BR ?_))
 refine uv (Cv isAgg26 sizeOf26 1) (uv (Cv isAgg29 sizeOf29 0) ?_)
 refine bA (cs := #[vI CY, vI AP, .bool heard]) K8 [.agg #[vI CY, vI AP, .bool heard]] ?_; intro b3 ah
 refine Bj 0 rfl ah ?_; intro F4 ae ai
 refine AB rfl ?_
 replace ab := ab.mono (Ay kJ) ae
 replace aa := aa.m1 ae
 replace ad := ad.mono (Ai kI kP) ae
 have h7 : At 3 (Br eI (Br eI bE)) F4 (aD b3) 1 [(CY, AP, heard)] := At.Bd (Ai kI (Ai kI Be)) (vss := [[vI CY, vI AP, .bool heard]]) (xs := [(CY, AP, heard)]) ai (.cons ⟨_, _, rfl, rfl, ⟨_, _, rfl, rfl, rfl⟩⟩ .nil) rfl (by simp [maxLen])
 obtain ⟨l, n, h8, r9⟩ := Ca hr
 refine c0 call48 (Lf ab aa ad h7 h8) ?_; rintro _ ar _ aj ak ⟨au, av, rfl, rfl, al⟩
 refine AB (ln rfl) ?_
 refine ox rfl rfl rfl (ox rfl rfl rfl (ua (ua (Aa ?_))))
 refine kW kn (Aw (BM results44 (AT rfl) (AT rfl) (sr) ?_))
 obtain ⟨rfl, rfl⟩ := Cd r9
 exact ⟨_, _, rfl, rfl, al⟩
set_option maxHeartbeats 1000000 in
theorem LG (ab : At 1 (CM 1 eJ) F Am Al Ah) (aa : At 1 eI F Ae Ad Ab) (ad : At 3 (Br eI eP) F Ao An Ak) {r : Bool} {r2 : Int} (hr : Jy Af Ac Ah Ab Ak CY AP heard = some (r, r2)) :
    Bp Tryz.prog 43 #[.agg #[vI Af, vI Ac, sL Am Ah.length Al, sL Ae Ab.length Ad, sL Ao Ak.length An], .agg #[vI CY, vI AP, .bool heard]] F (.tuple #[.bool r, vI r2]) := by
 refine sp func43 ntmps43 fun K _ _ => ?_
 rw [Jy] at hr
 refine AG ?_
 refine BB rfl rfl ?_; intro b1 ao
 refine BB rfl rfl ?_; intro b2 aq
 refine ua (ua (BR ?_))
 refine uv (Cv isAgg26 sizeOf26 1) (uv (Cv isAgg29 sizeOf29 0) ?_)
 obtain ⟨l, n, h3, r4⟩ := Ca hr
 refine c0 call44 (J1 ab aa ad h3) ?_; rintro _ F5 _ ar au ⟨a9, av, rfl, rfl, aw⟩
 refine AB (ln rfl) ?_
 refine um (ox rfl rfl rfl (ox rfl rfl rfl (ua (ua (Aa (Au (AG (um (Aa ?_)))))))))
 refine As (AG (uv (Bx rfl rfl) ?_))
 refine ua (Aa ?_)
 refine cQ (fun ae => ?_) fun ae => ?_
 ·have aj := A2 r4 ae
  refine AG (ua (ua (Aa ?_)))
  refine kW kn ?_
  refine Aw (AH (Av ?_))
  refine BM results43 (AT rfl) (AT rfl) (sr) ?_
  obtain ⟨rfl, rfl⟩ := Cd aj
  exact rfl
 have ai := A3 r4 ae
 refine AG (uv (Bx rfl rfl) ?_)
 refine ua (Aa ?_)
 refine cQ (fun ah => ?_) fun ah => ?_
 ·have ak := A2 ai ah
  refine AG (ua (ua (Aa ?_)))
  refine kW kn ?_
  refine Aw (AH (Av ?_))
  refine BM results43 (AT rfl) (AT rfl) (sr) ?_
  obtain ⟨rfl, rfl⟩ := Cd ak
  exact rfl
 have al := A3 ai ah
 refine Ar (AD (id := 0) (AG (um (ua (ua (Aa ?_))))))
 refine kW kn (Aw (BM results43 (AT rfl) (AT rfl) (sr) ?_))
 obtain ⟨rfl, rfl⟩ := Cd al
 exact rfl
set_option maxHeartbeats 1000000 in
theorem Le {x : Int} {r : Bool} (hr : I4 x = some r) :
    Bp Tryz.prog 138 #[vI x] F (.bool r) := by
 refine sp func138 ntmps138 fun K _ _ => ?_
 rw [I4] at hr
 refine AG (ua (BR (um (um ?_))))
 refine uv (BU rfl rfl) ?_
 refine ua (Aa (Aw ?_))
 refine B7 results138 ?_
 obtain rfl := AL hr
 exact rfl
set_option maxHeartbeats 1000000 in
theorem MB {x y r : Int} (hr : Ji x y = some r) :
    Bp Tryz.prog 127 #[vI x, vI y] F (vI r) := by
 refine sp func127 ntmps127 fun K _ _ => ?_
 rw [Ji] at hr
 refine AG (ua (BR (um ?_)))
 obtain ⟨ok, h1, r2⟩ := Az hr
 refine cV call138 (Le h1) ?_
 refine ua (BR (um ?_))
 obtain ⟨ao, h3, r4⟩ := Az r2
 refine cV call138 (Le h3) ?_
 refine ua (Aa (Au (AG (um (Aa ?_)))))
 obtain ⟨g6, r7⟩ := AF r4
 refine AV rfl (fun c8 => absurd (g6.symm.trans c8) (by decide)) (fun c8 => ?_)
 refine Ar (Au (AG (um (Aa ?_))))
 obtain ⟨ai, ad⟩ := AF r7
 refine AV rfl (fun ae => absurd (ai.symm.trans ae) (by decide)) (fun ae => ?_)
 refine Ar (Au (AG (um (um ?_))))
 refine uv (AY rfl rfl) (Aa ?_)
 refine cQ (fun aa => ?_) fun aa => ?_
 ·have aj := A2 ad aa
  refine AG (ua (Aa (Aw (Av ?_))))
  refine B7 results127 ?_
  obtain rfl := AL aj
  exact rfl
 have ah := A3 ad aa
 refine Ar (Au (AG (um (um ?_))))
 refine uv (C2 rfl rfl) (Aa ?_)
 refine cQ (fun ab => ?_) fun ab => ?_
 ·have ak := A2 ah ab
  refine AG (ua (Aa (Aw (Av ?_))))
  refine B7 results127 ?_
  obtain rfl := AL ak
  exact rfl
 have al := A3 ah ab
 refine Ar (AG (ua (Aa (Aw ?_))))
 refine B7 results127 ?_
 obtain rfl := AL al
 exact rfl
set_option maxHeartbeats 1000000 in
theorem Kx {s1 s2 : List Int} (aa : At 1 eI F IH IF s1) (ab : At 1 eI F IU I0 s2) {r : Int} (hr : Gu s1 s2 = some r) :
    Bp Tryz.prog 94 #[sL IH s1.length IF, sL IU s2.length I0] F (vI r) := by
 refine sp func94 ntmps94 fun K _ _ => ?_
 rw [Gu] at hr
 refine AG (ua (Aa ?_))
 refine AO (fun e1 F1 L1 => E8 s1 s2 = some r ∧ F = F1 ∧ L1 = [] ∧ e1.sub [(0, sL IH s1.length IF), (1, sL IU s2.length I0)]) ?_ ?_
 ·refine AG (um ?_)
  refine uv (AJ underlying22 rfl) ?_
  refine um (Aa ?_)
  refine As ?_
  refine A6 (fun au e1 F1 L1 => LA s1 au fun tl k => CK s1 s2 tl k = some r ∧ F = F1 ∧ L1 = [] ∧ e1.sub [(0, sL IH s1.length IF), (1, sL IU s2.length I0), (9, sL IH s1.length IF), (10, vI (s1.length : Int)), (11, vI k)]) _ (m0 kr ⟨_, _, rfl, Bq.start _, hr, rfl, rfl, z5⟩) ?_
  rintro au e1 _ _ ⟨tl, k, bc, ad, r3, rfl, rfl, bd⟩
  refine AA _ bd (AG (uv (AY rfl rfl) ?_))
  refine Aa (Au ?_)
  refine cQ (fun c6 => ?_) fun c6 => ?_
  ·obtain ⟨x, bz, rfl, bg, g9, bh⟩ := Bq.succ ad c6
   rw [CK] at r3
   refine Ar (Au ?_)
   refine As ?_
   refine AG (um ?_)
   obtain ⟨N4, cb, cc, bj, ae, ah, av, rfl, bk, ai⟩ := At.ta kI aa g9.1 bg
   refine uv (C0 underlying22 sizeOf3 ae g9) (uv (AS isAgg3 rfl (ah _) (ai 0 (by decide))) ?_)
   refine ua (ua (Aa (Au (AG (um (um ?_))))))
   refine uv (AJ underlying22 rfl) (uv (Hu rfl rfl) (Aa ?_))
   obtain ⟨bl, bm⟩ := AF r3
   refine B9 rfl (fun aw => absurd aw bl) (fun aw => ?_)
   refine Ar (AG (um (um ?_)))
   obtain ⟨x2, ax, aj, bn⟩ := BG bm
   obtain ⟨cf, cg, cj, bo, ak, al, ay, rfl, bp, ao⟩ := At.ta kI ab ax.1 aj
   refine uv (C0 underlying22 sizeOf3 ak ax) (uv (AS isAgg3 rfl (al _) (ao 0 (by decide))) ?_)
   refine ua (BR (um (um ?_)))
   obtain ⟨n, bq, az⟩ := Az bn
   refine cV call127 (MB bq) ?_
   refine ua (BR (um ?_))
   refine uv (BU rfl rfl) (Aa ?_)
   refine cQ (fun aq => ?_) fun aq => ?_
   ·have br := A2 az aq
    refine AG (um (ua (Aa (Aw (AH (Av (Av (AH (Av ?_)))))))))
    refine B7 results94 ?_
    obtain rfl := AL br
    exact rfl
   have bu := A3 az aq
   refine Ar (AD (id := 1) (Aq ?_))
   refine uv (A4 rfl rfl (Bq.CE ad c6 (At.lt aa))) ?_
   refine um (Aa ?_)
   subst bc; exact le kr ⟨_, _, rfl, bh, bu, rfl, rfl, z5⟩
  obtain rfl := Bq.zero ad c6
  rw [CK] at r3
  refine AM (Aj (Aj ?_))
  refine Ax ?_
  exact mi kr ⟨r3, rfl, rfl, z2⟩
 rintro e1 _ _ ⟨ba, rfl, rfl, ar⟩
 refine AA _ ar ?_
 rw [E8] at ba
 refine Au (AG (um ?_))
 refine uv (AJ underlying22 rfl) (um (uv (AJ underlying22 rfl) (uv (AY rfl rfl) (Aa ?_))))
 obtain ⟨bw, bx⟩ := AF ba
 refine B9 rfl (fun bb => absurd bb bw) (fun bb => ?_)
 refine Ar (AG (ua (Aa (Aw ?_))))
 refine B7 results94 ?_
 obtain rfl := AL bx
 exact rfl
set_option maxHeartbeats 1000000 in
theorem Mb (au : At 1 (CM 1 eJ) F Am Al Ah) (ak : At 1 eI F Ae Ad Ab) (av : At 3 (Br eI eP) F Ao An Ak) (aa : At 3 (Br eI (Br eI bE)) F Bw By AN) {r : List Int} {r2 : Int} (hr : Kj Af Ac Ah Ab Ak AN = some (r, r2)) :
    SH.Spec Tryz.prog 49 #[.agg #[vI Af, vI Ac, sL Am Ah.length Al, sL Ae Ab.length Ad, sL Ao Ak.length An], sL Bw AN.length By] F [] fun F' L' v => ∃ (ra : Option Addr) (rn : Nat) (rc : Nat) (rL : LH), v = .tuple #[sL ra rn rc, vI r2] ∧ L' = rL ++ [] ∧ AI 0 3 1 eI F' ra rn rc r rL := by
 refine sp func49 ntmps49 fun K _ _ => ?_
 rw [Kj] at hr
 refine AG ?_
 refine BB rfl rfl ?_; intro b1 fm
 refine ua (ua (BR ?_))
 refine uv (Cv isAgg26 sizeOf26 0) (um ?_)
 obtain ⟨l, n, h2, r3⟩ := Ca hr
 refine c0 call91 (KX au ak av aa h2) ?_; rintro _ F4 _ eg eh ⟨a8, fo, c9, ck, rfl, rfl, al⟩
 replace aa := aa.mono (Ai kI (Ai kI Be)) eg
 replace al := al.new fun p hp => eh p (by simp [hp])
 refine AB (lp (ln rfl)) (kO (kf (fS fO) kr) ?_)
 refine um (ox rfl rfl rfl (ox rfl rfl rfl (ua (ua (Aa (Au (AG (um ?_))))))))
 refine uv (BU rfl rfl) (Aa ?_)
 refine cQ (fun cn => ?_) fun cn => ?_
 ·have ei := A2 r3 cn
  refine AG (um (ua (ua (Aa ?_))))
  refine kW kn ?_
  refine Aw (Av ?_)
  refine BM results49 (AT rfl) (AT rfl) (sr) ?_
  obtain ⟨rfl, rfl⟩ := Cd ei
  exact ⟨_, _, _, [], rfl, rfl, AI.nil _ _ _ _ _⟩
 have ej := A3 r3 cn
 refine Ar (AG (um (um ?_)))
 obtain ⟨x, dt, cp, en⟩ := BG ej
 obtain ⟨fp, fq, ft, eo, cq, cr, ao, ⟨_, _, rfl, ⟨rfl, bn⟩, ⟨fv, fw, rfl, fx⟩⟩, bb, bc⟩ := AI.at (Ai (BF (n := 24) (sz := 1) A8) kJ) al (L := (b1, ce #[vI Af, vI Ac, sL Am Ah.length Al, sL Ae Ab.length Ad, sL Ao Ak.length An] 26) :: (ck ++ [])) (fC fP) dt.1 cp
 refine uv (C0 underlying131 sizeOf135 cq (AI.idx al dt)) (uv (Ap Lv rfl) (uv (Bn isAgg128 sizeOf128 rfl cr (P1 bc ao bb (CD (Hl A8 bn))).2 (Bi (P1 bc ao bb (CD (Hl A8 bn))).2 (Hl A8 bn) (P1 bc ao bb (CD (Hl A8 bn))).1)) ?_))
 obtain ⟨l2, ep, er⟩ := Az en
 refine c0 call88 (Jz aa bn ep) ?_; rintro _ du _ bo ct ⟨et, eu, ew, cu, rfl, rfl, bd⟩
 replace aa := aa.mono (Ai kI (Ai kI Be)) bo
 replace al := al.mono (Ai (BF (n := 24) (sz := 1) A8) kJ) bo
 replace bd := bd.new fun p hp => ct p (by simp [hp])
 refine AB (lp (ln rfl)) (kO (kf (fS fO) kr) ?_)
 refine ua (Aa ?_)
 obtain ⟨bp, ey, dv⟩ := Az er
 refine AO (fun e1 F1 L1 => ∃ (cv : Option Addr) (cw : Nat) (cx : Nat) (bg : LH), AQ du F1 ∧ L1 = (bg ++ []) ∧ e1.sub [(8, sL cv cw cx)] ∧ AI K.w0.heap.size 3 1 eI F1 cv cw cx bp bg) ?_ ?_
 ·clear dv
  refine AG (um ?_)
  obtain ⟨ez, fa⟩ := AF ey
  obtain ⟨l3, fb, fe⟩ := BI fa
  refine N1 (l := 1) (h := (l.length : Int)) (zs := l3) rfl OG (Ai (BF (n := 24) (sz := 1) A8) kJ) rfl (.inr ⟨_, rfl, rfl⟩) (.inl ⟨rfl, rfl⟩) (fun _ => .c (.s .h)) al ez fb ?_; intro dw dx dy aq aw
  refine uv ((AJ underlying131 rfl).i (AI.FE aw)) ?_
  refine um (Aa ?_)
  refine As (kW (kd kr) ?_)
  refine A6 (fun dz e1 F1 L1 => LA l3 dz fun tl k => ∃ (ah : List Int) (bk : Option Addr) (bl : Nat) (bm : Nat) (ai : LH), Gf AN tl ah = some bp ∧ AQ du F1 ∧ L1 = (ai ++ (aq ++ [])) ∧ e1.sub [(1, sL Bw AN.length By), (8, sL bk bl bm), (28, sL dw dx dy), (29, vI (l3.length : Int)), (30, vI k)] ∧ AI K.w0.heap.size 3 1 eI F1 bk bl bm ah ai) _ (m0 kr ⟨_, _, rfl, Bq.start _, l2, et, eu, ew, cu, fe, AQ.refl _, rfl, z5, bd⟩) ?_
  rintro dz e1 fy _ ⟨tl, k, bq, ax, ah, bk, bl, bm, ai, cj, ar, rfl, cy, aj⟩
  refine AA _ cy ?_
  replace aa := aa.mono (Ai kI (Ai kI Be)) ar
  replace aw := aw.mono (Ai (BF (n := 24) (sz := 1) A8) kJ) ar
  refine AG (uv (AY rfl rfl) ?_)
  refine Aa (Au ?_)
  refine cQ (fun br => ?_) fun br => ?_
  ·obtain ⟨x2, ga, rfl, cz, eb, bu⟩ := Bq.succ ax br
   rw [Gf] at cj
   refine Ar (Au ?_)
   refine As (AG ?_)
   obtain ⟨gb, gg, gh, ff, da, db, az, ⟨_, _, rfl, ⟨rfl, bw⟩, ⟨fg, fh, rfl, gi⟩⟩, dd, de⟩ := AI.at (Ai (BF (n := 24) (sz := 1) A8) kJ) aw (L := ai ++ (aq ++ [])) (fS fP) eb.1 cz
   refine uv (C0 underlying131 sizeOf135 da (AI.idx aw eb)) (uv (Bn isAgg135 sizeOf135 rfl db az (Bi az dd de)) ?_)
   refine Bu rfl zeroValue135 ?_; intro ec fi
   refine AB (L' := (ec, ce (((List.replicate 24 false).flatMap cB ++ (([sL none 0 0] : List Value))).toArray) 135) :: (ai ++ (aq ++ []))) rfl (GF (i := 0) sizeOf135 rfl rfl rfl (lz (la (Hl A8 List.length_replicate) rfl)) (lz (la (Hl A8 bw) rfl)) (Lz (Jc A8 _) (by simp [Value.oneCell'])) (AB (L' := (ec, ce ((x2.1.flatMap cB ++ (([sL fg x2.2.length fh] : List Value))).toArray) 135) :: (ai ++ (aq ++ []))) rfl ?_))
   refine BR (um ?_)
   refine uv (Ap Lv rfl) (uv (Bn isAgg128 sizeOf128 rfl (Has.own 0 rfl) (Je (CD (Hl A8 bw))) (Jg (Hl A8 bw) (CD (Hl A8 bw)))) ?_)
   obtain ⟨l4, fj, fk⟩ := Az cj
   refine c0 call88 (Jz aa bw fj) ?_; rintro _ gj _ ay df ⟨bx, bz, cb, ba, rfl, rfl, ae⟩
   replace aw := aw.mono (Ai (BF (n := 24) (sz := 1) A8) kJ) ay
   replace aj := aj.m1 ay
   replace ae := ae.new fun p hp => df p (by simp [hp])
   refine AB (lp (ln rfl)) (kO (kf (fS fO) kr) ?_)
   refine ua (Aa ?_)
   obtain ⟨k2, cc, bh⟩ := Az fk
   refine jE ((ai ++ (ba ++ (aq ++ [])))) [(1, sL Bw AN.length By), (8, sL bk bl bm), (11, sL bx bz cb), (28, sL dw dx dy), (29, vI (l3.length : Int)), (30, vI k), (55, .bool k2)] ?_ ?_
   ·clear bh
    refine Aq (um ?_)
    refine uv ((AJ underlying22 rfl).i (AI.FE ae)) (um (uv ((AJ underlying22 rfl).i (AI.FE aj)) (uv (AY rfl rfl) (um ?_))))
    by_cases ab : (l4.length : Int) < (ah.length : Int)
    ·have dg := A2 cc ab
     refine fT ab (fT ab (fT ab (fT ab (fT ab (fT ab (fU (fU (fU (fU ?_)))))))))
     refine fT ab (uv (AK (Ba rfl ab) rfl) (Aa ?_))
     obtain rfl := AL dg
     exact mi (kd (kg (fS fP) kr)) ⟨rfl, rfl, z7⟩
    have cf := A3 cc ab
    refine nF ab (um (nF ab ?_))
    refine uv ((AJ underlying22 rfl).i (AI.FE ae)) ?_
    refine nF ab (um (nF ab ?_))
    refine uv ((AJ underlying22 rfl).i (AI.FE aj)) (nF ab (uv (Bx rfl rfl) ?_))
    refine nF ab (um ?_)
    by_cases ad : (l4.length : Int) = (ah.length : Int)
    ·have dh := A2 cf ad
     refine nT ad (um (nT ad (um (nT ad ?_))))
     obtain ⟨n2, di, dk⟩ := Az dh
     refine Bh rfl call94 rfl rfl rfl (pT ((fC fP).trans (pA ((fC fP).trans (pA pR)))) (lp (lp (ln rfl)))) (fun F2 h2 h3 => by rw [(AI.A1 ae).1]; rw [(AI.A1 aj).1]; exact Kx (ae.row kI h2 (aL h3)) (aj.row kI h2 (aL (aR h3))) di) ?_
     refine nT ad (uv (AY rfl rfl) (nF ab (uv (AK (Ba rfl ad) rfl) (uv (AE (AR rfl ab) rfl) (Aa ?_)))))
     obtain rfl := AL dk
     exact mi (kd (kg (fS fP) kr)) ⟨rfl, rfl, z7⟩
    have dm := A3 cf ad
    refine fF ad (fF ad (fF ad (fF ad (nF ab ?_))))
    refine uv (AE (AR rfl ad) rfl) (uv (AE (AR rfl ab) rfl) (Aa ?_))
    obtain rfl := AL dm
    exact mi (kd (kg (fS fP) kr)) ⟨rfl, rfl, z7⟩
   refine AV rfl (fun bj => ?_) (fun bj => ?_)
   ·have dp := bt bh bj
    refine Aq (um (ua (Aa (AD (id := 1) (Aq ?_)))))
    refine uv (A4 rfl rfl (Bq.CE ax br (AI.Po aw))) ?_
    refine um (Aa ?_)
    subst bq; exact le (kx kr) ⟨_, _, rfl, bu, l4, bx, bz, cb, ba, dp, (ar.trans ay), rfl, z5, ae⟩
   have dq := bf bh bj
   refine Ar (AD (id := 1) (Aq ?_))
   refine uv (A4 rfl rfl (Bq.CE ax br (AI.Po aw))) ?_
   refine um (Aa ?_)
   subst bq; exact le (ka (kx kr)) ⟨_, _, rfl, bu, ah, bk, bl, bm, ai, dq, (ar.trans ay), rfl, z5, aj⟩
  obtain rfl := Bq.zero ax br
  rw [Gf] at cj
  refine AM (Aj (Aj ?_))
  refine Ax ?_
  obtain rfl := AL cj
  exact mi (ka kn) ⟨bk, bl, bm, ai, ar, rfl, z1, aj⟩
 rintro e1 fl _ ⟨cv, cw, cx, bg, ef, rfl, cg, dr⟩
 refine AA _ cg ?_
 refine AG (um (ua (ua (Aa (Aw ?_)))))
 refine BM results49 (AT rfl) (AT rfl) (sr) ?_
 obtain ⟨rfl, rfl⟩ := Cd dv
 exact ⟨_, _, _, _, rfl, rfl, dr.any⟩
set_option maxHeartbeats 1000000 in
theorem Fk {s_ : List (Int × Int × Int)} (aa : At 3 (Br eI eP) F E4 E3 s_) {r : List (Int × Int × Int)} (hr : CH s_ = some r) :
    SH.Spec Tryz.prog 71 #[sL E4 s_.length E3] F [] fun F' L' v => ∃ (ra : Option Addr) (rn : Nat) (rc : Nat) (rL : LH), v = sL ra rn rc ∧ L' = rL ++ [] ∧ AI 0 32 3 (Br eI eP) F' ra rn rc r rL := by
 refine sp func71 ntmps71 fun K _ _ => ?_
 rw [CH] at hr
 refine AG (ua (Aa (Au (AG (um ?_)))))
 refine uv (Ly underlying24 rfl) (Aa ?_)
 refine AV rfl (fun c1 => ?_) (fun c1 => ?_)
 ·have r2 := Qf hr (At.isNone aa c1)
  refine AG (ua (Aa (Aw (Av ?_))))
  refine B7 results71 ?_
  obtain rfl := AL r2
  exact ⟨_, _, _, [], rfl, rfl, AI.nil _ _ _ _ _⟩
 have r3 := Qm hr
 refine Ar (AG ?_)
 refine Gy (cs := #[]) rfl rfl (HR H7) ?_; intro b4 ah
 refine um ?_
 have ae : AI K.w0.heap.size 32 3 (Br eI eP) F (aD b4) 0 0 ([] : List (Int × Int × Int)) [(b4, ce #[] 32)] := AI.Bd (vss := []) (Ai kI kP) ah .nil rfl rfl (by simp [maxLen])
 generalize ab : ([(b4, ce #[] 32)] : LH) = Lb5 at ae
 refine Bc (L' := Lb5 ++ []) (by rw [← ab]; exact fO) ?_
 obtain ⟨l, h8, g9, ai⟩ := Ea r3
 refine CJ (xs := ([] : List (Int × Int × Int))) (ys := s_) (zs := l) rfl H7 rfl rfl (Nat.le_refl _) (fun _ => .h) ae (At.src aa) h8 g9 (by decide) ?_; intro ak al ao aj ad
 refine ua (Aa (Aw ?_))
 refine B7 results71 ?_
 obtain rfl := AL ai
 exact ⟨_, _, _, _, rfl, rfl, ad.any⟩
set_option maxHeartbeats 1000000 in
theorem Ms {ah : Nat} {aa : Nat × Nat} {x : Int} (ab : F ah = some (.cells (arr cB g) 128 aa)) (ad : g.length = 24) (ae : F PR = some (.cells #[vI x] 3 Pq)) {r : Bool} (hr : Ho h g x = some r) :
    Bp Tryz.prog 105 #[vI h, pO ah, pO PR] F (.bool r) := by
 refine sp func105 ntmps105 fun K _ _ => ?_
 rw [Ho] at hr
 refine AG (ua ?_)
 refine dN (wm (wv (AS isAgg3 rfl (Has.frozen ae) rfl) ?_))
 obtain ⟨g1, r2⟩ := AF hr
 refine wv (D1 underlying128 sizeOf126 rfl rfl g1) ?_
 obtain ⟨g3, r4⟩ := AF r2
 obtain ⟨x2, g5, ai, r7⟩ := BG r4
 have aj : (h * 4 + x : Int).toNat = (h : Int).toNat * 4 + (x : Int).toNat := by have := g1; have := g3; omega
 have ak := OJ A8 ad aj ai (Oe (FD (Hl A8 ad))) (Je (FD (Hl A8 ad)))
 refine wv (D1 underlying126 sizeOf4 rfl rfl g3) (wv (AS isAgg4 rfl (Has.frozen ab) ((ak).2.2 0 (by decide))) ?_)
 refine wa (B6 (Aw ?_))
 refine B7 results105 ?_
 obtain rfl := AL r7
 exact rfl
set_option maxHeartbeats 1000000 in
theorem M8 {x : List Int} (ai : g.length = 24) (ab : F PR = some (.cells #[sL Qu x.length Qh] 22 Pq)) (ad : At 1 eI F Qu Qh x) (aa : F Q7 = some (.cells #[vI x2] 3 R0)) {r : Bool} (hr : Il g x x2 = some r) :
    Bp Tryz.prog 104 #[.agg (arr cB g), pO PR, pO Q7] F (.bool r) := by
 refine sp func104 ntmps104 fun K _ _ => ?_
 rw [Il] at hr
 refine AG ?_
 refine BB rfl rfl ?_; intro b1 aj
 refine ua (BR ?_)
 refine uv (AS isAgg22 rfl (Has.frozen ab) rfl) (uv (CP rfl rfl) ?_)
 refine Bj 0 rfl aj ?_; intro F2 ae ak
 refine AB rfl ?_
 replace ad := ad.m1 ae
 replace aa := ae _ _ aa
 have al : J2 Tryz.prog F2 105 #[] #[pO b1, pO Q7] eI Value.bool (fun ah : Int => Ho ah g x2) := ⟨call105, fun F2 h2 vs ah r ha hr => by obtain rfl := ha; exact Ms (h2 _ _ ak) ai (h2 _ _ aa) hr⟩
 obtain ⟨ok, h6, r7⟩ := Az hr
 refine cV call58 (GX ad al h6) (uv (Bo rfl) ?_)
 refine ua (Aa (Aw ?_))
 refine B7 results104 ?_
 obtain rfl := AL r7
 exact rfl
end Go.Proofs.YtdhookifhfkcpaaGreat
